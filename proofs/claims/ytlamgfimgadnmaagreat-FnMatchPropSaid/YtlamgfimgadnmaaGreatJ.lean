/-
  Contracts of the functions that the law reaches.
-/
import Derived.Test.YtlamgfimgadnmaaGreatC
import Derived.Test.YtlamgfimgadnmaaGreatFwd
set_option linter.unusedVariables false
set_option linter.unusedSimpArgs false
namespace Go.Proofs.YtlamgfimgadnmaaGreat
open Go Go.CL
set_option maxRecDepth 10000
structure GoodP (q : Pr) : Prop where
  name : q.name.size ≤ 7
  val : Tame q.val
def Cs (xs : List CV) : Prop := ∃ ps, xs = prs ps ∧ ∀ q ∈ ps, GoodP q
theorem Cs.nil : Cs [] := ⟨[], rfl, by simp⟩
theorem Cs.snoc {xs : List CV} {s : ByteArray} {k n : Int} {t : ByteArray} {l : List Val} (h : Cs xs) (hs : s.size ≤ 7) (hv : Tame (.mk k n t l)) : Cs (xs ++ [.agg [.sc (.string s), i64 k, i64 n, .sc (.string t), .vec (Val.cvs l)]]) := by
  obtain ⟨ps, rfl, hp⟩ := h
  refine ⟨ps ++ [⟨s, .mk k n t l⟩], by simp [prs, Pr.cv], fun q hq => ?_⟩
  rcases List.mem_append.1 hq with hq | hq
  · exact hp q hq
  · rw [List.mem_singleton.1 hq]; exact ⟨hs, hv⟩
inductive ESm : Exp → Prop
  | mk {k : Int} {v : Val} {s c : ByteArray} {ps : List Exp} (hs : s.size ≤ 7) (h : ∀ e ∈ ps, ESm e) : ESm (.mk k v s c ps)
theorem ESm.inv {k : Int} {v : Val} {s c : ByteArray} {ps : List Exp} (h : ESm (.mk k v s c ps)) : s.size ≤ 7 ∧ ∀ e ∈ ps, ESm e := by
  cases h with
  | mk h1 h2 => exact ⟨h1, h2⟩
def ListO (L : CV) (vl : List Val) : Prop := (L = .nil ∧ vl = []) ∨ L = .vec (Val.cvs vl)
theorem ListO.nil : ListO .nil [] := .inl ⟨rfl, rfl⟩
theorem ListO.vec {vl : List Val} : ListO (.vec (Val.cvs vl)) vl := .inr rfl
theorem zqq {σ σ' : Heap} {l0 : Nat} {bs : List CV} {p : Int} (h : Sub σ σ') : Sub (rd σ l0 bs p) (rd σ' l0 bs p) := by
  intro x ob hx
  unfold rd at hx ⊢
  by_cases e : x = l0
  · subst e; rw [za] at hx ⊢; exact hx
  · rw [zb _ _ e] at hx ⊢; exact h x ob hx
theorem ziq {σ : Heap} {l0 x : Nat} {bs : List CV} {p : Int} (h : x ≠ l0) : rd σ l0 bs p x = σ x := zb _ _ h
theorem zca {σ : Heap} {l0 x : Nat} {bs : List CV} {p : Int} (h : rd σ l0 bs p x = none) : x ≠ l0 := fun e => by subst e; unfold rd at h; rw [za] at h; cases h
theorem zf4 {σ : Heap} {l0 x : Nat} {bs : List CV} {p : Int} (h : rd σ l0 bs p x = none) : σ x = none := by rw [ziq (zca h)] at h; exact h
theorem zuk {σ : Heap} {l0 x : Nat} {bs : List CV} {p : Int} {A : Ob} (h : rd σ l0 bs p x = none) : upd (rd σ l0 bs p) x A = rd (upd σ x A) l0 bs p := by
  unfold rd; exact zie _ _ _ (Ne.symm (zca h))
theorem zbe {σ : Heap} {l0 x : Nat} {bs : List CV} {p : Int} {A : Ob} (h : x ≠ l0) : upd (rd σ l0 bs p) x A = rd (upd σ x A) l0 bs p := by
  unfold rd; exact zie _ _ _ (Ne.symm h)
theorem z6u {f : FuncId} {args : List CV} {post : COut → Prop} {σ : Heap} {l0 x : Nat} {bs : List CV} {p : Int} {A : Ob} (hn : rd σ l0 bs p x = none) (h : CRun Tryz.prog f args (rd (upd σ x A) l0 bs p) post) : CRun Tryz.prog f args (upd (rd σ l0 bs p) x A) post := by
  rw [zuk hn]; exact h
theorem z5o {σ : Heap} {l0 l1 : Nat} {bs : List CV} {p q : Int} {A : Ob} (h1 : rd σ l0 bs p l1 = none) : rd (upd σ l1 A) l0 bs q l1 = some A := by rw [ziq (zca h1)]; exact za _ _ _
theorem x8 {σ : Heap} {l0 l1 : Nat} {bs : List CV} {q : Int} {A : Ob} (h : σ l1 = some A) (h1 : l1 ≠ l0) : rd σ l0 bs q l1 = some A := by rw [ziq h1]; exact h
def zn7 (T sz : Nat) (good : List CV → Prop) (σ : Heap) (l0 : Nat) (bs : List CV) (p : Int) (N : Nat) (out : COut) : Prop := ∃ xs n l1 cap σ' p', good xs ∧ n = xs.length ∧ p ≤ p' ∧ p' ≤ p + N ∧ Sub σ σ' ∧ σ l1 = none ∧ l1 ≠ l0 ∧ σ' l1 = some (.arr T sz cap xs) ∧ out = .ret (.grow l1 n cap) (rd σ' l0 bs p')
def zqe (good : List CV → Prop) (σ : Heap) (l0 : Nat) (bs : List CV) (p : Int) (N : Nat) (out : COut) : Prop := ∃ xs p', good xs ∧ p ≤ p' ∧ p' ≤ p + N ∧ out = .ret (.vec xs) (rd σ l0 bs p')
theorem zb2 {f : FuncId} {args : List CV} {T sz : Nat} {good : List CV → Prop} {σ0 : Heap} {σ : Heap} {l0 : Nat} {bs : List CV} {p : Int} {N : Nat} (h : CRun Tryz.prog f args σ0 (zn7 T sz good σ l0 bs p N)) : CRun Tryz.prog f args σ0 (zqe good σ l0 bs p N) := by
  refine h.freeze fun out ⟨xs, n, l1, cap, σ', p', g, hn, q1, q2, hs, n1, n2, n3, e⟩ => ?_
  subst e; subst hn
  refine ⟨.ret (.vec xs) (rd σ l0 bs p'), ⟨zqq hs, [l1], .inl (.one ?_), fun x hx => by rw [List.mem_singleton.1 hx, ziq n2]; exact n1⟩, xs, p', g, q1, q2, rfl⟩
  have hg : rd σ' l0 bs p' l1 = some (.arr T sz cap xs) := by rw [ziq n2]; exact n3
  have := Frz.grow (σ := rd σ' l0 bs p') l1 xs.length cap _ _ _ hg (Nat.le_refl _)
  rwa [List.take_of_length_le (Nat.le_refl _)] at this
section
variable {T sz : Nat} {good : List CV → Prop} {σ σ' : Heap} {l0 lx n cap : Nat} {bs : List CV} {p p' : Int} {N : Nat} {xs : List CV}
theorem z5a (g : good xs) (hn : n = xs.length) (q1 : p ≤ p') (q2 : p' ≤ p + N) (hs : Sub σ σ') (n1 : σ lx = none) (n2 : lx ≠ l0) (n3 : σ' lx = some (.arr T sz cap xs)) : zn7 T sz good σ l0 bs p N (.ret (.grow lx n cap) (rd σ' l0 bs p')) :=
  ⟨xs, n, lx, cap, σ', p', g, hn, q1, q2, hs, n1, n2, n3, rfl⟩
theorem z49 (g : good xs) (hn : n = xs.length) (q1 : p ≤ p') (q2 : p' ≤ p + N) (hs : Sub σ σ') (n1 : σ lx = none) (n2 : lx ≠ l0) : zn7 T sz good σ l0 bs p N (.ret (.grow lx n cap) (upd (rd σ' l0 bs p') lx (.arr T sz cap xs))) := by
  rw [zbe n2]
  exact ⟨xs, n, lx, cap, _, p', g, hn, q1, q2, hs.upd n1, n1, n2, za _ _ _, rfl⟩
theorem x9 (hs : Sub σ σ') {q : Int} (h : rd σ' l0 bs q lx = none) : σ lx = none := by
  cases e : σ lx with
  | none => rfl
  | some ob => have := zf4 h; rw [hs _ _ e] at this; cases this
theorem z48 (g : good xs) (hn : n = xs.length) (q1 : p ≤ p') (q2 : p' ≤ p + N) (hs : Sub σ σ') (h : rd σ' l0 bs p' lx = none) : zn7 T sz good σ l0 bs p N (.ret (.grow lx n cap) (upd (rd σ' l0 bs p') lx (.arr T sz cap xs))) :=
  z49 g hn q1 q2 hs (x9 hs h) (zca h)
end
theorem yj {xs : List CV} {n : Nat} (h : n = xs.length) (ys : List CV) (m : Nat) : xs.take n ++ ys ++ xs.drop (n + m) = xs ++ ys := by
  subst h
  rw [List.take_of_length_le (Nat.le_refl _), List.drop_eq_nil_of_le (by omega), List.append_nil]
theorem yc {xs : List CV} {n : Nat} (h : n = xs.length) (ys : List CV) : xs.take n ++ ys = xs ++ ys := by
  subst h
  rw [List.take_of_length_le (Nat.le_refl _)]
structure LabG (xs : List CV) : Prop where
  h : ∃ ls, xs = wq ls ∧ ∀ s ∈ ls, s.size ≤ 7
  l : xs.length ≤ 4
theorem LabG.nil : LabG [] := ⟨⟨[], rfl, by simp⟩, by simp⟩
theorem LabG.snoc {xs : List CV} {s : ByteArray} (h : LabG xs) (hs : s.size ≤ 7) (hl : xs.length ≤ 3) : LabG (xs ++ [.sc (.string s)]) := by
  obtain ⟨⟨ls, rfl, h2⟩, _⟩ := h
  refine ⟨⟨ls ++ [s], by simp [wq], fun x hx => ?_⟩, by simp; omega⟩
  rcases List.mem_append.1 hx with hx | hx
  · exact h2 x hx
  · rw [List.mem_singleton.1 hx]; exact hs
set_option maxHeartbeats 1000000 in
theorem zq6 {l : Nat} {σ : Heap} {bs : List CV} (hb : BytesOk bs) (hl : bs.length ≤ 2000) {p : Int} (hp : 0 ≤ p) (hp' : p < 549755813888) : CRun Tryz.prog 93 [.ptr (.g l) 0] (rd σ l bs p) (zn7 9 1 (fun xs => LabG xs ∧ xs.length ≤ 2) σ l bs p 2) := by
  have gP : LabG [.sc (.string ⟨#[80]⟩)] := LabG.snoc .nil (by decide) (by simp)
  have gQ : LabG [.sc (.string ⟨#[81]⟩)] := LabG.snoc .nil (by decide) (by simp)
  have gPQ : LabG [.sc (.string ⟨#[80]⟩), .sc (.string ⟨#[81]⟩)] := LabG.snoc gP (by decide) (by simp)
  have s1 : ∀ {l1 : Nat} {A : Ob}, rd σ l bs p l1 = none → Sub σ (upd σ l1 A) := fun h => (Sub.refl σ).upd (zf4 h)
  refine ZG [4,10,16] Tryz.func93 Tryz.ntmps93 ?_
  conv => whnf
  repeat' (first | (refine CallN.many (yq hb hl (by omega) (by omega)) ?_; rintro _ ⟨k, hk1, hk2, rfl⟩) | ((refine CallN.many (z6u ‹_› (yq hb hl (by omega) (by omega))) ?_; rintro _ ⟨k, hk1, hk2, rfl⟩)) | (refine AllocN.go (fun l1 hl1 => ?_)) | ((have hl2' := hl2; refine AllocC.go (fun l3 cap3 hl3 hcap3 => ?_))) | (refine AllocC.go (fun l2 cap2 hl2 hcap2 => ?_)) | (refine GetN.go ?_ (h := z5o ‹_›)) | (refine Need.go ?_ (h := ⟨rfl, Nat.le_of_ble_eq_true rfl, Nat.le_of_ble_eq_true rfl, Nat.le_of_ble_eq_true rfl, ElsOk.one rfl rfl⟩)) | refine Zg ?_ | refine Zv (fun h => ?_) (fun h => ?_) | refine Zq ?_ | refine Zr ?_) <;> try (conv => whnf)
  all_goals first
    | exact z5a (xs := []) ⟨.nil, by simp⟩ rfl (by omega) (by omega) (s1 hl1) (zf4 hl1) (zca hl1) (za _ _ _)
    | exact z5a (xs := [.sc (.string ⟨#[80]⟩)]) ⟨gP, by simp⟩ rfl (by omega) (by omega) ((s1 hl1).upd (x9 (s1 hl1) hl2)) (x9 (s1 hl1) hl2) (zca hl2) (za _ _ _)
    | exact z48 (xs := [.sc (.string ⟨#[81]⟩)]) ⟨gQ, by simp⟩ rfl (by omega) (by omega) (s1 hl1) hl2
    | exact z49 (xs := [.sc (.string ⟨#[80]⟩), .sc (.string ⟨#[81]⟩)]) ⟨gPQ, by simp⟩ rfl (by omega) (by omega) ((s1 hl1).upd (x9 (s1 hl1) hl2)) (x9 (s1 hl1) hl2) (zca hl2)
    | exact z48 (xs := [.sc (.string ⟨#[80]⟩), .sc (.string ⟨#[81]⟩)]) ⟨gPQ, by simp⟩ rfl (by omega) (by omega) ((s1 hl1).upd (x9 (s1 hl1) hl2)) hl3
theorem zy2 {l : Nat} {σ : Heap} {bs : List CV} (hb : BytesOk bs) (hl : bs.length ≤ 2000) {p : Int} (hp : 0 ≤ p) (hp' : p < 549755813888) : CRun Tryz.prog 93 [.ptr (.g l) 0] (rd σ l bs p) (zqe (fun xs => LabG xs ∧ xs.length ≤ 2) σ l bs p 2) := zb2 (zq6 hb hl hp hp')
theorem zp8 {l : Nat} {σ : Heap} {bs : List CV} (hb : BytesOk bs) (hl : bs.length ≤ 2000) {p : Int} (hp : 0 ≤ p) (hp' : p < 274877906944) : CRun Tryz.prog 61 [.ptr (.g l) 0] (rd σ l bs p) (zn7 9 1 LabG σ l bs p 10) := by
  refine ZX Tryz.func61 Tryz.ntmps61 ?_
  conv => whnf
  repeat' (first | ((refine CallN.many (zq6 hb hl (by omega) (by omega)) ?_; rintro _ ⟨xs, n, l1, cap, σ', p', ⟨g, gl⟩, hn, q1, q2, hs, n1, n2, n3, rfl⟩)) | (refine CallN.many (yq hb hl (by omega) (by omega)) ?_; rintro _ ⟨k, hk1, hk2, rfl⟩) | (refine CallN.many (z3z (m := 7) hb hl (by omega) (by omega) ?_ (Nat.le_of_ble_eq_true rfl) (Nat.le_of_ble_eq_true rfl)) ?_; (repeat' (first | exact (trivial : True) | refine And.intro ?_ ?_ | refine ⟨_, rfl, ?_⟩ | omega | decide)); rintro _ ⟨t, ht, rfl⟩) | (refine AllocC.go (fun l2 cap2 hl2 hcap2 => ?_)) | (refine GetN.go ?_ (h := x8 ‹_› ‹_›)) | (refine Need.go ?_ (h := ⟨rfl, by omega, by simp only [List.length_cons, List.length_nil]; omega, by simp only [List.length_cons, List.length_nil]; omega, ElsOk.one rfl rfl⟩)) | refine Zg ?_ | refine Zv (fun h => ?_) (fun h => ?_) | refine Zq ?_ | refine Zr ?_) <;> try (conv => whnf)
  all_goals first
    | exact z5a g hn (by omega) (by omega) hs n1 n2 n3
    | exact z49 (by rw [yj hn]; exact g.snoc ht (by omega)) (by rw [yj hn, List.length_append]; simp only [List.length_cons, List.length_nil]; omega) (by omega) (by omega) hs n1 n2
    | exact z48 (by rw [yc hn]; exact g.snoc ht (by omega)) (by rw [yc hn, List.length_append]; simp only [List.length_cons, List.length_nil]; omega) (by omega) (by omega) hs hl2
theorem zgw {l : Nat} {σ : Heap} {bs : List CV} (hb : BytesOk bs) (hl : bs.length ≤ 2000) {p : Int} (hp : 0 ≤ p) (hp' : p < 274877906944) : CRun Tryz.prog 61 [.ptr (.g l) 0] (rd σ l bs p) (zqe LabG σ l bs p 10) := zb2 (zp8 hb hl hp hp')
structure PropG (xs : List CV) : Prop where
  h : Cs xs
  l : xs.length ≤ 6
structure LSt where
  i : Nat
  n : Nat
  xs : List CV
  s : Heap
  l : Nat
  cap : Nat
  q : Int
def z0v : List CV := [.sc (.string ⟨#[110]⟩), .sc (.string ⟨#[110, 97, 109, 101]⟩), .sc (.string ⟨#[120]⟩)]
set_option maxHeartbeats 1000000 in
theorem zun {l : Nat} {σ : Heap} {bs : List CV} (hb : BytesOk bs) (hl : bs.length ≤ 2000) {p : Int} (hp : 0 ≤ p) (hp' : p < 274877906944) : CRun Tryz.prog 94 [.ptr (.g l) 0] (rd σ l bs p) (zn7 115 5 (fun xs => PropG xs ∧ xs.length ≤ 3) σ l bs p 100) := by
  have c1 : cost 1 = 20 := rfl
  refine ZG [6,24] Tryz.func94 Tryz.ntmps94 ?_
  conv => whnf
  repeat' (first | (refine AllocN.go (fun l1 hl1 => ?_))) <;> try (conv => whnf)
  refine LoopN.rule (α := LSt) (fun a => ⟨26, [(0, .ptr (.g l) 0), (3, .grow a.l a.n a.cap), (4, .vec z0v), (5, i64 a.i)], []⟩)
    (fun a => rd a.s l bs a.q) (fun a => 3 - a.i) (fun a => a.i ≤ 3 ∧ a.n = a.xs.length ∧ a.n ≤ a.i ∧ Cs a.xs ∧ p ≤ a.q ∧ a.q ≤ p + a.i * 25 ∧ Sub σ a.s ∧ σ a.l = none ∧ a.l ≠ l ∧ a.s a.l = some (.arr 115 5 a.cap a.xs)) ?_
    ⟨0, 0, [], upd σ l1 (.arr 115 5 0 []), l1, 0, p⟩ ⟨Nat.zero_le _, rfl, Nat.le_refl _, .nil, Int.le_refl _, by show p ≤ p + ((0 : Nat) : Int) * 25; omega, (Sub.refl σ).upd (zf4 hl1), zf4 hl1, zca hl1, za _ _ _⟩ ?_
  · rintro ⟨i, n, xs, σ', l1, cap, q⟩ K ⟨i1, i2, i3, i4, i5, i6, i7, i8, i9, i10⟩ hK
    dsimp only at i1 i2 i3 i4 i5 i6 i7 i8 i9 i10 ⊢
    by_cases hi : i < 3
    · obtain ⟨t, hg, ht⟩ : ∃ t : ByteArray, z0v[(i : Int).toNat]? = some (.sc (.string t)) ∧ t.size ≤ 7 := by
        rcases (by omega : i = 0 ∨ i = 1 ∨ i = 2) with rfl | rfl | rfl <;> exact ⟨_, rfl, by decide⟩
      clear hl1
      conv => whnf
      repeat' (first | (refine CallN.many (yq hb hl (by omega) (by omega)) ?_; rintro _ ⟨k, hk1, hk2, rfl⟩) | (refine CallN.many (zd1 hb hl 1 (by omega) (by omega) (by omega) (by omega) (by omega)) ?_; rintro _ ⟨⟨vk, vn, vt, vl⟩, p', hv, hp1, hp2, rfl⟩) | (refine AllocC.go (fun l2 cap2 hl2 hcap2 => ?_)) | (refine GetN.go ?_ (h := x8 ‹_› ‹_›)) | (refine Need.go ?_ (h := ⟨rfl, by omega, by simp only [List.length_cons, List.length_nil]; omega, by simp only [List.length_cons, List.length_nil]; omega, ElsOk.one rfl rfl⟩)) | refine Zi ?_ | refine Za ?_ | refine Zg ?_ | refine Zv (fun h => ?_) (fun h => ?_) | refine Zm ?_ | refine Zn ?_ | refine Zo ?_ | refine Zq ?_) <;> try (conv => whnf)
      · refine hK ⟨i + 1, n + 1, xs.take n ++ [.agg [.sc (.string t), i64 vk, i64 vn, .sc (.string vt), .vec (Val.cvs vl)]] ++ xs.drop (n + 1), upd σ' l1 (.arr 115 5 cap (xs.take n ++ [.agg [.sc (.string t), i64 vk, i64 vn, .sc (.string vt), .vec (Val.cvs vl)]] ++ xs.drop (n + 1))), l1, cap, p'⟩ _ _
          ⟨by simp only; omega, by simp only; rw [yj i2, List.length_append]; simp only [List.length_cons, List.length_nil]; omega, by simp only; omega, by simp only; rw [yj i2]; exact i4.snoc ht hv, by simp only; omega, by simp only; omega, i7.upd i8, i8, i9, za _ _ _⟩ (by simp only; omega) ?_
        refine ⟨rfl, ?_, ?_, ?_⟩
        rotate_left
        rotate_left
        · show Sub (rd (upd σ' l1 _) l bs p') _; rw [← zbe i9]; exact Sub.refl _
        all_goals repeat' (first | exact EnvLe.nil | exact LocsLe.nil | refine EnvLe.cons _ _ _ ?_ ?_ | exact CVle.same _ rfl | exact CVle.vec _ _)
      · refine hK ⟨i + 1, n + 1, xs.take n ++ [.agg [.sc (.string t), i64 vk, i64 vn, .sc (.string vt), .vec (Val.cvs vl)]], upd σ' l2 (.arr 115 5 cap2 (xs.take n ++ [.agg [.sc (.string t), i64 vk, i64 vn, .sc (.string vt), .vec (Val.cvs vl)]])), l2, cap2, p'⟩ _ _
          ⟨by simp only; omega, by simp only; rw [yc i2, List.length_append]; simp only [List.length_cons, List.length_nil]; omega, by simp only; omega, by simp only; rw [yc i2]; exact i4.snoc ht hv, by simp only; omega, by simp only; omega, i7.upd (x9 i7 hl2), x9 i7 hl2, zca hl2, za _ _ _⟩ (by simp only; omega) ?_
        refine ⟨rfl, ?_, ?_, ?_⟩
        rotate_left
        rotate_left
        · show Sub (rd (upd σ' l2 _) l bs p') _; rw [← zuk hl2]; exact Sub.refl _
        all_goals repeat' (first | exact EnvLe.nil | exact LocsLe.nil | refine EnvLe.cons _ _ _ ?_ ?_ | exact CVle.same _ rfl | exact CVle.vec _ _)
      · refine hK ⟨i + 1, n, xs, σ', l1, cap, q + 1⟩ _ _ ⟨by simp only; omega, i2, by simp only; omega, i4, by simp only; omega, by simp only; omega, i7, i8, i9, i10⟩ (by simp only; omega) ?_
        exact ZW
    · conv => whnf
      repeat' (first | refine Zb ?_ | refine Zr ?_) <;> try (conv => whnf)
      exact z5a ⟨⟨i4, by omega⟩, by omega⟩ i2 i5 (by omega) i7 i8 i9 i10
  · refine ⟨rfl, ?_, ?_, ?_⟩
    rotate_left
    rotate_left
    · show Sub (rd (upd σ l1 (.arr 115 5 0 [])) l bs p) _
      rw [← zuk hl1]; exact Sub.refl _
    all_goals repeat' (first | exact EnvLe.nil | exact LocsLe.nil | refine EnvLe.cons _ _ _ ?_ ?_ | exact CVle.same _ rfl | exact CVle.vec _ _)
theorem zuo {l : Nat} {σ : Heap} {bs : List CV} (hb : BytesOk bs) (hl : bs.length ≤ 2000) {p : Int} (hp : 0 ≤ p) (hp' : p < 274877906944) : CRun Tryz.prog 94 [.ptr (.g l) 0] (rd σ l bs p) (zqe (fun xs => PropG xs ∧ xs.length ≤ 3) σ l bs p 100) := zb2 (zun hb hl hp hp')
theorem PropG.snoc {xs : List CV} {s : ByteArray} {k n : Int} {t : ByteArray} {l : List Val} (h : PropG xs) (hl : xs.length ≤ 5) (hs : s.size ≤ 7) (hv : Tame (.mk k n t l)) : PropG (xs ++ [.agg [.sc (.string s), i64 k, i64 n, .sc (.string t), .vec (Val.cvs l)]]) :=
  ⟨h.h.snoc hs hv, by simp; omega⟩
theorem PropG.snoc2 {xs : List CV} {s s' : ByteArray} {k n k' n' : Int} {t t' : ByteArray} {l l' : List Val} (h : PropG xs) (hl : xs.length ≤ 4) (hs : s.size ≤ 7) (hv : Tame (.mk k n t l)) (hs' : s'.size ≤ 7) (hv' : Tame (.mk k' n' t' l')) :
    PropG (xs ++ [.agg [.sc (.string s), i64 k, i64 n, .sc (.string t), .vec (Val.cvs l)], .agg [.sc (.string s'), i64 k', i64 n', .sc (.string t'), .vec (Val.cvs l')]]) := by
  have := (h.snoc (by omega) hs hv).snoc (by simp; omega) hs' hv'
  rwa [List.append_assoc] at this
set_option maxHeartbeats 1000000 in
theorem ztu {l : Nat} {σ : Heap} {bs : List CV} (hb : BytesOk bs) (hl : bs.length ≤ 2000) {p : Int} (hp : 0 ≤ p) (hp' : p < 137438953472) : CRun Tryz.prog 60 [.ptr (.g l) 0] (rd σ l bs p) (zn7 115 5 PropG σ l bs p 700) := by
  have c1 : cost 0 = 4 := rfl
  refine ZX Tryz.func60 Tryz.ntmps60 ?_
  conv => whnf
  repeat' (first | ((refine CallN.many (zun hb hl (by omega) (by omega)) ?_; rintro _ ⟨xs, n, l1, cap, σ', p', ⟨g, gl⟩, hn, q1, q2, hs, n1, n2, n3, rfl⟩)) | (refine CallN.many (yq hb hl (by omega) (by omega)) ?_; rintro _ ⟨k, hk1, hk2, rfl⟩) | (refine CallN.many (z3z (m := 7) hb hl (by omega) (by omega) ?_ (Nat.le_of_ble_eq_true rfl) (Nat.le_of_ble_eq_true rfl)) ?_; (repeat' (first | exact (trivial : True) | refine And.intro ?_ ?_ | refine ⟨_, rfl, ?_⟩ | omega | decide)); rintro _ ⟨t, ht, rfl⟩) | (refine CallN.many (z59 hb hl (by omega) (by omega)) ?_; rintro _ ⟨⟨vk, vn, vt, vl⟩, p2, hv, hp1, hp2, rfl⟩) | ((have hv' := hv; refine CallN.many (zd1 hb hl 0 (by omega) (by omega) (by omega) (by omega) (by omega)) ?_; rintro _ ⟨⟨wk, wn, wt, wl⟩, p3, hw, hp3, hp4, rfl⟩)) | (refine CallN.many (zd1 hb hl 0 (by omega) (by omega) (by omega) (by omega) (by omega)) ?_; rintro _ ⟨⟨vk, vn, vt, vl⟩, p2, hv, hp1, hp2, rfl⟩) | (refine AllocC.go (fun l2 cap2 hl2 hcap2 => ?_)) | (refine GetN.go ?_ (h := x8 ‹_› ‹_›)) | (refine Need.go ?_ (h := ⟨rfl, by omega, by simp only [List.length_cons, List.length_nil]; omega, by simp only [List.length_cons, List.length_nil]; omega, ElsOk.one rfl rfl⟩)) | (refine Need.go ?_ (h := ⟨rfl, by omega, by simp only [List.length_cons, List.length_nil]; omega, by simp only [List.length_cons, List.length_nil]; omega, ElsOk.cons rfl rfl (ElsOk.one rfl rfl)⟩)) | refine Zg ?_ | refine Zv (fun h => ?_) (fun h => ?_) | refine Zq ?_ | refine Zr ?_) <;> try (conv => whnf)
  all_goals first
    | exact z5a g hn (by omega) (by omega) hs n1 n2 n3
    | exact z49 (by rw [yj hn]; exact g.snoc (by omega) ht hv) (by rw [yj hn, List.length_append]; simp only [List.length_cons, List.length_nil]; omega) (by omega) (by omega) hs n1 n2
    | exact z49 (by rw [yj hn]; exact g.snoc2 (by omega) (by decide) hv (by decide) hw) (by rw [yj hn, List.length_append]; simp only [List.length_cons, List.length_nil]; omega) (by omega) (by omega) hs n1 n2
    | exact z48 (by rw [yc hn]; exact g.snoc (by omega) ht hv) (by rw [yc hn, List.length_append]; simp only [List.length_cons, List.length_nil]; omega) (by omega) (by omega) hs hl2
    | exact z48 (by rw [yc hn]; exact g.snoc2 (by omega) (by decide) hv (by decide) hw) (by rw [yc hn, List.length_append]; simp only [List.length_cons, List.length_nil]; omega) (by omega) (by omega) hs hl2
theorem zia {l : Nat} {σ : Heap} {bs : List CV} (hb : BytesOk bs) (hl : bs.length ≤ 2000) {p : Int} (hp : 0 ≤ p) (hp' : p < 137438953472) : CRun Tryz.prog 60 [.ptr (.g l) 0] (rd σ l bs p) (zqe PropG σ l bs p 700) := zb2 (ztu hb hl hp hp')
theorem zyg {ps : List Pr} {i : Nat} {q : Pr} (h : ps[i]? = some q) : prs (ps.take (i + 1)) = prs (ps.take i) ++ [q.cv] := by
  unfold prs
  rw [List.take_add_one, h]; simp
theorem znb {σ : Heap} {ps : List Pr} (hlen : ps.length ≤ 1000) (ht : ∀ q ∈ ps, Tame q.val) : CRun Tryz.prog 91 [.vec (prs ps)] σ (· = .ret (.vec (prs ps)) σ) := by
  have e3 := vw ps
  refine ZX Tryz.func91 Tryz.ntmps91 ?_
  conv => whnf
  repeat' (first | refine Zh ?_ | refine Za ?_ | refine Zb ?_ | refine Zc ?_ | refine Zd ?_ | refine Ze ?_ | refine Zg ?_ | refine Zv (fun h => ?_) (fun h => ?_) | refine Zj ?_ | refine Zk ?_ | refine Zl ?_ | refine Zm ?_ | refine Zn ?_ | refine Zo ?_ | refine Zp ?_ | refine Zq ?_ | refine Zu (fun l hl => ?_) | refine Zr ?_) <;> try (conv => whnf)
  refine LoopN.rule (α := Nat) (fun i => ⟨28, [(0, .vec (prs ps)), (3, .avec 5 (prs (ps.take i))), (4, i64 i)], [(5, .tok 115 5 (prs (ps.take i)).length)]⟩)
    (fun _ => σ) (fun i => ps.length - i) (fun i => i ≤ ps.length) ?_ 0 (by omega) ?_
  · intro i K hi0 hK
    try dsimp only at hi0 ⊢
    by_cases hi : i < ps.length
    · obtain ⟨s, vk, vn, vt, vl, hm, hg', hg⟩ := zcd hi
      have e4 : (prs (ps.take i)).length = i := by rw [vw, List.length_take]; omega
      have c1 := z07 (σ := σ) (ht _ hm)
      dsimp only at c1
      have hK := hK (i + 1)
      try dsimp only at hK
      rw [zyg hg', List.length_append] at hK
      conv => whnf
      repeat' (first | (refine ZC c1 ?_) | refine Zh ?_ | refine Za ?_ | refine Zg ?_ | refine Zk ?_ | refine Zm ?_ | refine Zn ?_ | refine Zo ?_ | refine Zp ?_) <;> try (conv => whnf)
      refine hK _ _ (by omega) (by omega) ?_
      exact ZW
    · have e5 : ps.take i = ps := List.take_of_length_le (by omega)
      rw [e5]
      conv => whnf
      repeat' (first | refine Zb ?_ | refine Zr ?_) <;> try (conv => whnf)
      all_goals rfl
  · exact ZW
end Go.Proofs.YtlamgfimgadnmaaGreat
