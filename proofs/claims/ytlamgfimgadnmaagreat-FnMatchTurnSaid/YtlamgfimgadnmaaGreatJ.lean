/-
  Contracts of the functions that the law reaches.
-/
import Derived.Test.YtlamgfimgadnmaaGreatC
import Derived.Test.YtlamgfimgadnmaaGreatFwd
set_option linter.unusedVariables false
set_option linter.unusedSimpArgs false
namespace Go.Proofs.YtlamgfimgadnmaaGreat
open Go Go.CL
set_option maxRecDepth 10000
structure GoodP (q : Pr) : Prop where
  name : q.name.size ≤ 7
  val : Tame q.val
def Cs (xs : List CV) : Prop := ∃ ps, xs = prs ps ∧ ∀ q ∈ ps, GoodP q
theorem Cs.nil : Cs [] := ⟨[], rfl, by simp⟩
theorem Cs.snoc {xs : List CV} {s : ByteArray} {k n : Int} {t : ByteArray} {l : List Val} (h : Cs xs) (hs : s.size ≤ 7) (hv : Tame (.mk k n t l)) : Cs (xs ++ [.agg [.sc (.string s), i64 k, i64 n, .sc (.string t), .vec (Val.cvs l)]]) := by
  obtain ⟨ps, rfl, hp⟩ := h
  refine ⟨ps ++ [⟨s, .mk k n t l⟩], by simp [prs, Pr.cv], fun q hq => ?_⟩
  rcases List.mem_append.1 hq with hq | hq
  · exact hp q hq
  · rw [List.mem_singleton.1 hq]; exact ⟨hs, hv⟩
inductive ESm : Exp → Prop
  | mk {k : Int} {v : Val} {s c : ByteArray} {ps : List Exp} (hs : s.size ≤ 7) (h : ∀ e ∈ ps, ESm e) : ESm (.mk k v s c ps)
theorem ESm.inv {k : Int} {v : Val} {s c : ByteArray} {ps : List Exp} (h : ESm (.mk k v s c ps)) : s.size ≤ 7 ∧ ∀ e ∈ ps, ESm e := by
  cases h with
  | mk h1 h2 => exact ⟨h1, h2⟩
def ListO (L : CV) (vl : List Val) : Prop := (L = .nil ∧ vl = []) ∨ L = .vec (Val.cvs vl)
theorem ListO.nil : ListO .nil [] := .inl ⟨rfl, rfl⟩
theorem ListO.vec {vl : List Val} : ListO (.vec (Val.cvs vl)) vl := .inr rfl
theorem rd_sub {σ σ' : Heap} {l0 : Nat} {bs : List CV} {p : Int} (h : Sub σ σ') : Sub (rd σ l0 bs p) (rd σ' l0 bs p) := by
  intro x ob hx
  unfold rd at hx ⊢
  by_cases e : x = l0
  · subst e; rw [upd_same] at hx ⊢; exact hx
  · rw [upd_ne _ _ e] at hx ⊢; exact h x ob hx
theorem rd_ne {σ : Heap} {l0 x : Nat} {bs : List CV} {p : Int} (h : x ≠ l0) : rd σ l0 bs p x = σ x := upd_ne _ _ h
theorem ne_rd {σ : Heap} {l0 x : Nat} {bs : List CV} {p : Int} (h : rd σ l0 bs p x = none) : x ≠ l0 := fun e => by subst e; unfold rd at h; rw [upd_same] at h; cases h
theorem no_rd {σ : Heap} {l0 x : Nat} {bs : List CV} {p : Int} (h : rd σ l0 bs p x = none) : σ x = none := by rw [rd_ne (ne_rd h)] at h; exact h
theorem rd_upd {σ : Heap} {l0 x : Nat} {bs : List CV} {p : Int} {A : Ob} (h : rd σ l0 bs p x = none) : upd (rd σ l0 bs p) x A = rd (upd σ x A) l0 bs p := by
  unfold rd; exact upd_comm _ _ _ (Ne.symm (ne_rd h))
theorem rd_upd' {σ : Heap} {l0 x : Nat} {bs : List CV} {p : Int} {A : Ob} (h : x ≠ l0) : upd (rd σ l0 bs p) x A = rd (upd σ x A) l0 bs p := by
  unfold rd; exact upd_comm _ _ _ (Ne.symm h)
theorem to_rd {f : FuncId} {args : List CV} {post : COut → Prop} {σ : Heap} {l0 x : Nat} {bs : List CV} {p : Int} {A : Ob} (hn : rd σ l0 bs p x = none) (h : CRun Tryz.prog f args (rd (upd σ x A) l0 bs p) post) : CRun Tryz.prog f args (upd (rd σ l0 bs p) x A) post := by
  rw [rd_upd hn]; exact h
theorem get_rd {σ : Heap} {l0 l1 : Nat} {bs : List CV} {p q : Int} {A : Ob} (h1 : rd σ l0 bs p l1 = none) : rd (upd σ l1 A) l0 bs q l1 = some A := by rw [rd_ne (ne_rd h1)]; exact upd_same _ _ _
theorem get_rd2 {σ : Heap} {l0 l1 : Nat} {bs : List CV} {q : Int} {A : Ob} (h : σ l1 = some A) (h1 : l1 ≠ l0) : rd σ l0 bs q l1 = some A := by rw [rd_ne h1]; exact h
def LOpen (T sz : Nat) (good : List CV → Prop) (σ : Heap) (l0 : Nat) (bs : List CV) (p : Int) (N : Nat) (out : COut) : Prop := ∃ xs n l1 cap σ' p', good xs ∧ n = xs.length ∧ p ≤ p' ∧ p' ≤ p + N ∧ Sub σ σ' ∧ σ l1 = none ∧ l1 ≠ l0 ∧ σ' l1 = some (.arr T sz cap xs) ∧ out = .ret (.grow l1 n cap) (rd σ' l0 bs p')
def LDraw (good : List CV → Prop) (σ : Heap) (l0 : Nat) (bs : List CV) (p : Int) (N : Nat) (out : COut) : Prop := ∃ xs p', good xs ∧ p ≤ p' ∧ p' ≤ p + N ∧ out = .ret (.vec xs) (rd σ l0 bs p')
theorem lopen_draw {f : FuncId} {args : List CV} {T sz : Nat} {good : List CV → Prop} {σ0 : Heap} {σ : Heap} {l0 : Nat} {bs : List CV} {p : Int} {N : Nat} (h : CRun Tryz.prog f args σ0 (LOpen T sz good σ l0 bs p N)) : CRun Tryz.prog f args σ0 (LDraw good σ l0 bs p N) := by
  refine h.freeze fun out ⟨xs, n, l1, cap, σ', p', g, hn, q1, q2, hs, n1, n2, n3, e⟩ => ?_
  subst e; subst hn
  refine ⟨.ret (.vec xs) (rd σ l0 bs p'), ⟨rd_sub hs, [l1], .inl (.one ?_), fun x hx => by rw [List.mem_singleton.1 hx, rd_ne n2]; exact n1⟩, xs, p', g, q1, q2, rfl⟩
  have hg : rd σ' l0 bs p' l1 = some (.arr T sz cap xs) := by rw [rd_ne n2]; exact n3
  have := Frz.grow (σ := rd σ' l0 bs p') l1 xs.length cap _ _ _ hg (Nat.le_refl _)
  rwa [List.take_of_length_le (Nat.le_refl _)] at this
section
variable {T sz : Nat} {good : List CV → Prop} {σ σ' : Heap} {l0 lx n cap : Nat} {bs : List CV} {p p' : Int} {N : Nat} {xs : List CV}
theorem lo_a (g : good xs) (hn : n = xs.length) (q1 : p ≤ p') (q2 : p' ≤ p + N) (hs : Sub σ σ') (n1 : σ lx = none) (n2 : lx ≠ l0) (n3 : σ' lx = some (.arr T sz cap xs)) : LOpen T sz good σ l0 bs p N (.ret (.grow lx n cap) (rd σ' l0 bs p')) :=
  ⟨xs, n, lx, cap, σ', p', g, hn, q1, q2, hs, n1, n2, n3, rfl⟩
theorem lo_b (g : good xs) (hn : n = xs.length) (q1 : p ≤ p') (q2 : p' ≤ p + N) (hs : Sub σ σ') (n1 : σ lx = none) (n2 : lx ≠ l0) : LOpen T sz good σ l0 bs p N (.ret (.grow lx n cap) (upd (rd σ' l0 bs p') lx (.arr T sz cap xs))) := by
  rw [rd_upd' n2]
  exact ⟨xs, n, lx, cap, _, p', g, hn, q1, q2, hs.upd n1, n1, n2, upd_same _ _ _, rfl⟩
theorem fresh_sub (hs : Sub σ σ') {q : Int} (h : rd σ' l0 bs q lx = none) : σ lx = none := by
  cases e : σ lx with
  | none => rfl
  | some ob => have := no_rd h; rw [hs _ _ e] at this; cases this
theorem lo_c (g : good xs) (hn : n = xs.length) (q1 : p ≤ p') (q2 : p' ≤ p + N) (hs : Sub σ σ') (h : rd σ' l0 bs p' lx = none) : LOpen T sz good σ l0 bs p N (.ret (.grow lx n cap) (upd (rd σ' l0 bs p') lx (.arr T sz cap xs))) :=
  lo_b g hn q1 q2 hs (fresh_sub hs h) (ne_rd h)
end
theorem grow_in {xs : List CV} {n : Nat} (h : n = xs.length) (ys : List CV) (m : Nat) : xs.take n ++ ys ++ xs.drop (n + m) = xs ++ ys := by
  subst h
  rw [List.take_of_length_le (Nat.le_refl _), List.drop_eq_nil_of_le (by omega), List.append_nil]
theorem grow_new {xs : List CV} {n : Nat} (h : n = xs.length) (ys : List CV) : xs.take n ++ ys = xs ++ ys := by
  subst h
  rw [List.take_of_length_le (Nat.le_refl _)]
structure LabG (xs : List CV) : Prop where
  h : ∃ ls, xs = strs ls ∧ ∀ s ∈ ls, s.size ≤ 7
  l : xs.length ≤ 4
theorem LabG.nil : LabG [] := ⟨⟨[], rfl, by simp⟩, by simp⟩
theorem LabG.snoc {xs : List CV} {s : ByteArray} (h : LabG xs) (hs : s.size ≤ 7) (hl : xs.length ≤ 3) : LabG (xs ++ [.sc (.string s)]) := by
  obtain ⟨⟨ls, rfl, h2⟩, _⟩ := h
  refine ⟨⟨ls ++ [s], by simp [strs], fun x hx => ?_⟩, by simp; omega⟩
  rcases List.mem_append.1 hx with hx | hx
  · exact h2 x hx
  · rw [List.mem_singleton.1 hx]; exact hs
set_option maxHeartbeats 1000000 in
theorem labels_o {l : Nat} {σ : Heap} {bs : List CV} (hb : BytesOk bs) (hl : bs.length ≤ 2000) {p : Int} (hp : 0 ≤ p) (hp' : p < 549755813888) : CRun Tryz.prog 93 [.ptr (.g l) 0] (rd σ l bs p) (LOpen 9 1 (fun xs => LabG xs ∧ xs.length ≤ 2) σ l bs p 2) := by
  have gP : LabG [.sc (.string ⟨#[80]⟩)] := LabG.snoc .nil (by decide) (by simp)
  have gQ : LabG [.sc (.string ⟨#[81]⟩)] := LabG.snoc .nil (by decide) (by simp)
  have gPQ : LabG [.sc (.string ⟨#[80]⟩), .sc (.string ⟨#[81]⟩)] := LabG.snoc gP (by decide) (by simp)
  have s1 : ∀ {l1 : Nat} {A : Ob}, rd σ l bs p l1 = none → Sub σ (upd σ l1 A) := fun h => (Sub.refl σ).upd (no_rd h)
  refine crun_of (X := G [4,10,16]) (G_ok _) (G_sat _) (body := bodyOf Tryz.f93) Tryz.func93 rfl (by kernel_rfl) (by kernel_rfl) ?_
  rw [Tryz.ntmps93]
  conv => whnf
  repeat' (first | (refine CallN.many (pick_n hb hl (by omega) (by omega)) ?_; rintro _ ⟨k, hk1, hk2, rfl⟩) | ((refine CallN.many (to_rd ‹_› (pick_n hb hl (by omega) (by omega))) ?_; rintro _ ⟨k, hk1, hk2, rfl⟩)) | (refine AllocN.go (fun l1 hl1 => ?_)) | ((have hl2' := hl2; refine AllocC.go (fun l3 cap3 hl3 hcap3 => ?_))) | (refine AllocC.go (fun l2 cap2 hl2 hcap2 => ?_)) | (refine GetN.go ?_ (h := get_rd ‹_›)) | (refine Need.go ?_ (h := ⟨rfl, Nat.le_of_ble_eq_true rfl, Nat.le_of_ble_eq_true rfl, Nat.le_of_ble_eq_true rfl, ElsOk.one rfl rfl⟩)) | refine Fork.nb ?_ | refine Fork.dp (fun h => ?_) (fun h => ?_) | refine ExtN.wr ?_ | refine finGo ?_) <;> try (conv => whnf)
  all_goals first
    | exact lo_a (xs := []) ⟨.nil, by simp⟩ rfl (by omega) (by omega) (s1 hl1) (no_rd hl1) (ne_rd hl1) (upd_same _ _ _)
    | exact lo_a (xs := [.sc (.string ⟨#[80]⟩)]) ⟨gP, by simp⟩ rfl (by omega) (by omega) ((s1 hl1).upd (fresh_sub (s1 hl1) hl2)) (fresh_sub (s1 hl1) hl2) (ne_rd hl2) (upd_same _ _ _)
    | exact lo_c (xs := [.sc (.string ⟨#[81]⟩)]) ⟨gQ, by simp⟩ rfl (by omega) (by omega) (s1 hl1) hl2
    | exact lo_b (xs := [.sc (.string ⟨#[80]⟩), .sc (.string ⟨#[81]⟩)]) ⟨gPQ, by simp⟩ rfl (by omega) (by omega) ((s1 hl1).upd (fresh_sub (s1 hl1) hl2)) (fresh_sub (s1 hl1) hl2) (ne_rd hl2)
    | exact lo_c (xs := [.sc (.string ⟨#[80]⟩), .sc (.string ⟨#[81]⟩)]) ⟨gPQ, by simp⟩ rfl (by omega) (by omega) ((s1 hl1).upd (fresh_sub (s1 hl1) hl2)) hl3
theorem labels_d {l : Nat} {σ : Heap} {bs : List CV} (hb : BytesOk bs) (hl : bs.length ≤ 2000) {p : Int} (hp : 0 ≤ p) (hp' : p < 549755813888) : CRun Tryz.prog 93 [.ptr (.g l) 0] (rd σ l bs p) (LDraw (fun xs => LabG xs ∧ xs.length ≤ 2) σ l bs p 2) := lopen_draw (labels_o hb hl hp hp')
theorem anyLabels_o {l : Nat} {σ : Heap} {bs : List CV} (hb : BytesOk bs) (hl : bs.length ≤ 2000) {p : Int} (hp : 0 ≤ p) (hp' : p < 274877906944) : CRun Tryz.prog 61 [.ptr (.g l) 0] (rd σ l bs p) (LOpen 9 1 LabG σ l bs p 10) := by
  refine crun_of (X := X) X_ok X_sat (body := bodyOf Tryz.f61) Tryz.func61 rfl (by kernel_rfl) (by kernel_rfl) ?_
  rw [Tryz.ntmps61]
  conv => whnf
  repeat' (first | ((refine CallN.many (labels_o hb hl (by omega) (by omega)) ?_; rintro _ ⟨xs, n, l1, cap, σ', p', ⟨g, gl⟩, hn, q1, q2, hs, n1, n2, n3, rfl⟩)) | (refine CallN.many (pick_n hb hl (by omega) (by omega)) ?_; rintro _ ⟨k, hk1, hk2, rfl⟩) | (refine CallN.many (of_c (m := 7) hb hl (by omega) (by omega) ?_ (Nat.le_of_ble_eq_true rfl) (Nat.le_of_ble_eq_true rfl)) ?_; (repeat' (first | exact (trivial : True) | refine And.intro ?_ ?_ | refine ⟨_, rfl, ?_⟩ | omega | decide)); rintro _ ⟨t, ht, rfl⟩) | (refine AllocC.go (fun l2 cap2 hl2 hcap2 => ?_)) | (refine GetN.go ?_ (h := get_rd2 ‹_› ‹_›)) | (refine Need.go ?_ (h := ⟨rfl, by omega, by simp only [List.length_cons, List.length_nil]; omega, by simp only [List.length_cons, List.length_nil]; omega, ElsOk.one rfl rfl⟩)) | refine Fork.nb ?_ | refine Fork.dp (fun h => ?_) (fun h => ?_) | refine ExtN.wr ?_ | refine finGo ?_) <;> try (conv => whnf)
  all_goals first
    | exact lo_a g hn (by omega) (by omega) hs n1 n2 n3
    | exact lo_b (by rw [grow_in hn]; exact g.snoc ht (by omega)) (by rw [grow_in hn, List.length_append]; simp only [List.length_cons, List.length_nil]; omega) (by omega) (by omega) hs n1 n2
    | exact lo_c (by rw [grow_new hn]; exact g.snoc ht (by omega)) (by rw [grow_new hn, List.length_append]; simp only [List.length_cons, List.length_nil]; omega) (by omega) (by omega) hs hl2
theorem anyLabels_d {l : Nat} {σ : Heap} {bs : List CV} (hb : BytesOk bs) (hl : bs.length ≤ 2000) {p : Int} (hp : 0 ≤ p) (hp' : p < 274877906944) : CRun Tryz.prog 61 [.ptr (.g l) 0] (rd σ l bs p) (LDraw LabG σ l bs p 10) := lopen_draw (anyLabels_o hb hl hp hp')
structure PropG (xs : List CV) : Prop where
  h : Cs xs
  l : xs.length ≤ 6
structure LSt where
  i : Nat
  n : Nat
  xs : List CV
  s : Heap
  l : Nat
  cap : Nat
  q : Int
def names3 : List CV := [.sc (.string ⟨#[110]⟩), .sc (.string ⟨#[110, 97, 109, 101]⟩), .sc (.string ⟨#[120]⟩)]
set_option maxHeartbeats 1000000 in
theorem props_o {l : Nat} {σ : Heap} {bs : List CV} (hb : BytesOk bs) (hl : bs.length ≤ 2000) {p : Int} (hp : 0 ≤ p) (hp' : p < 274877906944) : CRun Tryz.prog 94 [.ptr (.g l) 0] (rd σ l bs p) (LOpen 115 5 (fun xs => PropG xs ∧ xs.length ≤ 3) σ l bs p 100) := by
  have c1 : cost 1 = 20 := rfl
  refine crun_of (X := G [6,24]) (G_ok _) (G_sat _) (body := bodyOf Tryz.f94) Tryz.func94 rfl (by kernel_rfl) (by kernel_rfl) ?_
  rw [Tryz.ntmps94]
  conv => whnf
  repeat' (first | (refine AllocN.go (fun l1 hl1 => ?_))) <;> try (conv => whnf)
  refine LoopN.rule (α := LSt) (fun a => ⟨26, [(0, .ptr (.g l) 0), (3, .grow a.l a.n a.cap), (4, .vec names3), (5, i64 a.i)], []⟩)
    (fun a => rd a.s l bs a.q) (fun a => 3 - a.i) (fun a => a.i ≤ 3 ∧ a.n = a.xs.length ∧ a.n ≤ a.i ∧ Cs a.xs ∧ p ≤ a.q ∧ a.q ≤ p + a.i * 25 ∧ Sub σ a.s ∧ σ a.l = none ∧ a.l ≠ l ∧ a.s a.l = some (.arr 115 5 a.cap a.xs)) ?_
    ⟨0, 0, [], upd σ l1 (.arr 115 5 0 []), l1, 0, p⟩ ⟨Nat.zero_le _, rfl, Nat.le_refl _, .nil, Int.le_refl _, by show p ≤ p + ((0 : Nat) : Int) * 25; omega, (Sub.refl σ).upd (no_rd hl1), no_rd hl1, ne_rd hl1, upd_same _ _ _⟩ ?_
  · rintro ⟨i, n, xs, σ', l1, cap, q⟩ K ⟨i1, i2, i3, i4, i5, i6, i7, i8, i9, i10⟩ hK
    dsimp only at i1 i2 i3 i4 i5 i6 i7 i8 i9 i10 ⊢
    by_cases hi : i < 3
    · obtain ⟨t, hg, ht⟩ : ∃ t : ByteArray, names3[(i : Int).toNat]? = some (.sc (.string t)) ∧ t.size ≤ 7 := by
        rcases (by omega : i = 0 ∨ i = 1 ∨ i = 2) with rfl | rfl | rfl <;> exact ⟨_, rfl, by decide⟩
      clear hl1
      conv => whnf
      repeat' (first | (refine CallN.many (pick_n hb hl (by omega) (by omega)) ?_; rintro _ ⟨k, hk1, hk2, rfl⟩) | (refine CallN.many (plain_c hb hl 1 (by omega) (by omega) (by omega) (by omega) (by omega)) ?_; rintro _ ⟨⟨vk, vn, vt, vl⟩, p', hv, hp1, hp2, rfl⟩) | (refine AllocC.go (fun l2 cap2 hl2 hcap2 => ?_)) | (refine GetN.go ?_ (h := get_rd2 ‹_› ‹_›)) | (refine Need.go ?_ (h := ⟨rfl, by omega, by simp only [List.length_cons, List.length_nil]; omega, by simp only [List.length_cons, List.length_nil]; omega, ElsOk.one rfl rfl⟩)) | refine OrdN.go ?_ | refine Fork.yp ?_ | refine Fork.nb ?_ | refine Fork.dp (fun h => ?_) (fun h => ?_) | refine Need.go ?_ | refine Need.draw ?_ | refine ElemN.go ?_ | refine ExtN.wr ?_) <;> try (conv => whnf)
      · refine hK ⟨i + 1, n + 1, xs.take n ++ [.agg [.sc (.string t), i64 vk, i64 vn, .sc (.string vt), .vec (Val.cvs vl)]] ++ xs.drop (n + 1), upd σ' l1 (.arr 115 5 cap (xs.take n ++ [.agg [.sc (.string t), i64 vk, i64 vn, .sc (.string vt), .vec (Val.cvs vl)]] ++ xs.drop (n + 1))), l1, cap, p'⟩ _ _
          ⟨by simp only; omega, by simp only; rw [grow_in i2, List.length_append]; simp only [List.length_cons, List.length_nil]; omega, by simp only; omega, by simp only; rw [grow_in i2]; exact i4.snoc ht hv, by simp only; omega, by simp only; omega, i7.upd i8, i8, i9, upd_same _ _ _⟩ (by simp only; omega) ?_
        refine ⟨rfl, ?_, ?_, ?_⟩
        rotate_left
        rotate_left
        · show Sub (rd (upd σ' l1 _) l bs p') _; rw [← rd_upd' i9]; exact Sub.refl _
        all_goals repeat' (first | exact EnvLe.nil | exact LocsLe.nil | refine EnvLe.cons _ _ _ ?_ ?_ | exact CVle.same _ rfl | exact CVle.vec _ _)
      · refine hK ⟨i + 1, n + 1, xs.take n ++ [.agg [.sc (.string t), i64 vk, i64 vn, .sc (.string vt), .vec (Val.cvs vl)]], upd σ' l2 (.arr 115 5 cap2 (xs.take n ++ [.agg [.sc (.string t), i64 vk, i64 vn, .sc (.string vt), .vec (Val.cvs vl)]])), l2, cap2, p'⟩ _ _
          ⟨by simp only; omega, by simp only; rw [grow_new i2, List.length_append]; simp only [List.length_cons, List.length_nil]; omega, by simp only; omega, by simp only; rw [grow_new i2]; exact i4.snoc ht hv, by simp only; omega, by simp only; omega, i7.upd (fresh_sub i7 hl2), fresh_sub i7 hl2, ne_rd hl2, upd_same _ _ _⟩ (by simp only; omega) ?_
        refine ⟨rfl, ?_, ?_, ?_⟩
        rotate_left
        rotate_left
        · show Sub (rd (upd σ' l2 _) l bs p') _; rw [← rd_upd hl2]; exact Sub.refl _
        all_goals repeat' (first | exact EnvLe.nil | exact LocsLe.nil | refine EnvLe.cons _ _ _ ?_ ?_ | exact CVle.same _ rfl | exact CVle.vec _ _)
      · refine hK ⟨i + 1, n, xs, σ', l1, cap, q + 1⟩ _ _ ⟨by simp only; omega, i2, by simp only; omega, i4, by simp only; omega, by simp only; omega, i7, i8, i9, i10⟩ (by simp only; omega) ?_
        (refine ⟨rfl, ?_, ?_, Sub.refl _⟩ <;> repeat' (first | exact EnvLe.nil | exact LocsLe.nil | refine EnvLe.cons _ _ _ ?_ ?_ | refine LocsLe.cons _ _ _ ?_ ?_ | exact CVle.same _ rfl | exact CVle.vec _ _ | exact CVle.nil | exact CVle.tok _ _ _ rfl rfl | exact ObLe.tok _ _ rfl | exact CVles.nil | refine CVles.cons ?_ ?_ | exact ObLe.same _ rfl rfl | refine ObLe.cells rfl ?_))
    · conv => whnf
      repeat' (first | refine Fork.np ?_ | refine finGo ?_) <;> try (conv => whnf)
      exact lo_a ⟨⟨i4, by omega⟩, by omega⟩ i2 i5 (by omega) i7 i8 i9 i10
  · refine ⟨rfl, ?_, ?_, ?_⟩
    rotate_left
    rotate_left
    · show Sub (rd (upd σ l1 (.arr 115 5 0 [])) l bs p) _
      rw [← rd_upd hl1]; exact Sub.refl _
    all_goals repeat' (first | exact EnvLe.nil | exact LocsLe.nil | refine EnvLe.cons _ _ _ ?_ ?_ | exact CVle.same _ rfl | exact CVle.vec _ _)
theorem props_d {l : Nat} {σ : Heap} {bs : List CV} (hb : BytesOk bs) (hl : bs.length ≤ 2000) {p : Int} (hp : 0 ≤ p) (hp' : p < 274877906944) : CRun Tryz.prog 94 [.ptr (.g l) 0] (rd σ l bs p) (LDraw (fun xs => PropG xs ∧ xs.length ≤ 3) σ l bs p 100) := lopen_draw (props_o hb hl hp hp')
theorem PropG.snoc {xs : List CV} {s : ByteArray} {k n : Int} {t : ByteArray} {l : List Val} (h : PropG xs) (hl : xs.length ≤ 5) (hs : s.size ≤ 7) (hv : Tame (.mk k n t l)) : PropG (xs ++ [.agg [.sc (.string s), i64 k, i64 n, .sc (.string t), .vec (Val.cvs l)]]) :=
  ⟨h.h.snoc hs hv, by simp; omega⟩
theorem PropG.snoc2 {xs : List CV} {s s' : ByteArray} {k n k' n' : Int} {t t' : ByteArray} {l l' : List Val} (h : PropG xs) (hl : xs.length ≤ 4) (hs : s.size ≤ 7) (hv : Tame (.mk k n t l)) (hs' : s'.size ≤ 7) (hv' : Tame (.mk k' n' t' l')) :
    PropG (xs ++ [.agg [.sc (.string s), i64 k, i64 n, .sc (.string t), .vec (Val.cvs l)], .agg [.sc (.string s'), i64 k', i64 n', .sc (.string t'), .vec (Val.cvs l')]]) := by
  have := (h.snoc (by omega) hs hv).snoc (by simp; omega) hs' hv'
  rwa [List.append_assoc] at this
set_option maxHeartbeats 1000000 in
theorem anyProps_o {l : Nat} {σ : Heap} {bs : List CV} (hb : BytesOk bs) (hl : bs.length ≤ 2000) {p : Int} (hp : 0 ≤ p) (hp' : p < 137438953472) : CRun Tryz.prog 60 [.ptr (.g l) 0] (rd σ l bs p) (LOpen 115 5 PropG σ l bs p 700) := by
  have c1 : cost 0 = 4 := rfl
  refine crun_of (X := X) X_ok X_sat (body := bodyOf Tryz.f60) Tryz.func60 rfl (by kernel_rfl) (by kernel_rfl) ?_
  rw [Tryz.ntmps60]
  conv => whnf
  repeat' (first | ((refine CallN.many (props_o hb hl (by omega) (by omega)) ?_; rintro _ ⟨xs, n, l1, cap, σ', p', ⟨g, gl⟩, hn, q1, q2, hs, n1, n2, n3, rfl⟩)) | (refine CallN.many (pick_n hb hl (by omega) (by omega)) ?_; rintro _ ⟨k, hk1, hk2, rfl⟩) | (refine CallN.many (of_c (m := 7) hb hl (by omega) (by omega) ?_ (Nat.le_of_ble_eq_true rfl) (Nat.le_of_ble_eq_true rfl)) ?_; (repeat' (first | exact (trivial : True) | refine And.intro ?_ ?_ | refine ⟨_, rfl, ?_⟩ | omega | decide)); rintro _ ⟨t, ht, rfl⟩) | (refine CallN.many (any_c hb hl (by omega) (by omega)) ?_; rintro _ ⟨⟨vk, vn, vt, vl⟩, p2, hv, hp1, hp2, rfl⟩) | ((have hv' := hv; refine CallN.many (plain_c hb hl 0 (by omega) (by omega) (by omega) (by omega) (by omega)) ?_; rintro _ ⟨⟨wk, wn, wt, wl⟩, p3, hw, hp3, hp4, rfl⟩)) | (refine CallN.many (plain_c hb hl 0 (by omega) (by omega) (by omega) (by omega) (by omega)) ?_; rintro _ ⟨⟨vk, vn, vt, vl⟩, p2, hv, hp1, hp2, rfl⟩) | (refine AllocC.go (fun l2 cap2 hl2 hcap2 => ?_)) | (refine GetN.go ?_ (h := get_rd2 ‹_› ‹_›)) | (refine Need.go ?_ (h := ⟨rfl, by omega, by simp only [List.length_cons, List.length_nil]; omega, by simp only [List.length_cons, List.length_nil]; omega, ElsOk.one rfl rfl⟩)) | (refine Need.go ?_ (h := ⟨rfl, by omega, by simp only [List.length_cons, List.length_nil]; omega, by simp only [List.length_cons, List.length_nil]; omega, ElsOk.cons rfl rfl (ElsOk.one rfl rfl)⟩)) | refine Fork.nb ?_ | refine Fork.dp (fun h => ?_) (fun h => ?_) | refine ExtN.wr ?_ | refine finGo ?_) <;> try (conv => whnf)
  all_goals first
    | exact lo_a g hn (by omega) (by omega) hs n1 n2 n3
    | exact lo_b (by rw [grow_in hn]; exact g.snoc (by omega) ht hv) (by rw [grow_in hn, List.length_append]; simp only [List.length_cons, List.length_nil]; omega) (by omega) (by omega) hs n1 n2
    | exact lo_b (by rw [grow_in hn]; exact g.snoc2 (by omega) (by decide) hv (by decide) hw) (by rw [grow_in hn, List.length_append]; simp only [List.length_cons, List.length_nil]; omega) (by omega) (by omega) hs n1 n2
    | exact lo_c (by rw [grow_new hn]; exact g.snoc (by omega) ht hv) (by rw [grow_new hn, List.length_append]; simp only [List.length_cons, List.length_nil]; omega) (by omega) (by omega) hs hl2
    | exact lo_c (by rw [grow_new hn]; exact g.snoc2 (by omega) (by decide) hv (by decide) hw) (by rw [grow_new hn, List.length_append]; simp only [List.length_cons, List.length_nil]; omega) (by omega) (by omega) hs hl2
theorem anyProps_d {l : Nat} {σ : Heap} {bs : List CV} (hb : BytesOk bs) (hl : bs.length ≤ 2000) {p : Int} (hp : 0 ≤ p) (hp' : p < 137438953472) : CRun Tryz.prog 60 [.ptr (.g l) 0] (rd σ l bs p) (LDraw PropG σ l bs p 700) := lopen_draw (anyProps_o hb hl hp hp')
theorem prs_take {ps : List Pr} {i : Nat} {q : Pr} (h : ps[i]? = some q) : prs (ps.take (i + 1)) = prs (ps.take i) ++ [q.cv] := by
  unfold prs
  rw [List.take_add_one, h]; simp
theorem l2Ps_c {σ : Heap} {ps : List Pr} (hlen : ps.length ≤ 1000) (ht : ∀ q ∈ ps, Tame q.val) : CRun Tryz.prog 91 [.vec (prs ps)] σ (· = .ret (.vec (prs ps)) σ) := by
  have e3 := prs_len ps
  refine crun_of (X := X) X_ok X_sat (body := bodyOf Tryz.f91) Tryz.func91 rfl (by kernel_rfl) (by kernel_rfl) ?_
  rw [Tryz.ntmps91]
  conv => whnf
  repeat' (first | refine OrdN.one ?_ | refine Fork.yp ?_ | refine Fork.np ?_ | refine Fork.ny ?_ | refine Fork.nn ?_ | refine Fork.yb ?_ | refine Fork.nb ?_ | refine Fork.dp (fun h => ?_) (fun h => ?_) | refine Fork.dn (fun h => ?_) (fun h => ?_) | (refine Fork.mk (fun h => ?_) (fun h => ?_) <;> simp only [decide_eq_true_eq, decide_eq_false_iff_not, Bool.not_eq_true', Bool.not_eq_false', Bool.or_eq_true, Bool.or_eq_false_iff] at h) | refine GetN.go ?_ | refine Need.ap1 ?_ | refine Need.ap0 ?_ | refine Need.go ?_ | refine Need.draw ?_ | refine ElemN.go ?_ | refine ExtN.ext ?_ | refine ExtN.wr ?_ | refine AllocN.go (fun l hl => ?_) | refine finGo ?_) <;> try (conv => whnf)
  refine LoopN.rule (α := Nat) (fun i => ⟨28, [(0, .vec (prs ps)), (3, .avec 5 (prs (ps.take i))), (4, i64 i)], [(5, .tok 115 5 (prs (ps.take i)).length)]⟩)
    (fun _ => σ) (fun i => ps.length - i) (fun i => i ≤ ps.length) ?_ 0 (by omega) ?_
  · intro i K hi0 hK
    try dsimp only at hi0 ⊢
    by_cases hi : i < ps.length
    · obtain ⟨s, vk, vn, vt, vl, hm, hg', hg⟩ := prs_at hi
      have e4 : (prs (ps.take i)).length = i := by rw [prs_len, List.length_take]; omega
      have c1 := copy_c (σ := σ) (ht _ hm)
      dsimp only at c1
      have hK := hK (i + 1)
      try dsimp only at hK
      rw [prs_take hg', List.length_append] at hK
      conv => whnf
      repeat' (first | (refine CallN.one c1 ?_) | refine OrdN.one ?_ | refine Fork.yp ?_ | refine Fork.nb ?_ | refine Need.ap1 ?_ | refine Need.go ?_ | refine Need.draw ?_ | refine ElemN.go ?_ | refine ExtN.ext ?_) <;> try (conv => whnf)
      refine hK _ _ (by omega) (by omega) ?_
      (refine ⟨rfl, ?_, ?_, Sub.refl _⟩ <;> repeat' (first | exact EnvLe.nil | exact LocsLe.nil | refine EnvLe.cons _ _ _ ?_ ?_ | refine LocsLe.cons _ _ _ ?_ ?_ | exact CVle.same _ rfl | exact CVle.vec _ _ | exact CVle.nil | exact CVle.tok _ _ _ rfl rfl | exact ObLe.tok _ _ rfl | exact CVles.nil | refine CVles.cons ?_ ?_ | exact ObLe.same _ rfl rfl | refine ObLe.cells rfl ?_))
    · have e5 : ps.take i = ps := List.take_of_length_le (by omega)
      rw [e5]
      conv => whnf
      repeat' (first | refine Fork.np ?_ | refine finGo ?_) <;> try (conv => whnf)
      all_goals rfl
  · (refine ⟨rfl, ?_, ?_, Sub.refl _⟩ <;> repeat' (first | exact EnvLe.nil | exact LocsLe.nil | refine EnvLe.cons _ _ _ ?_ ?_ | refine LocsLe.cons _ _ _ ?_ ?_ | exact CVle.same _ rfl | exact CVle.vec _ _ | exact CVle.nil | exact CVle.tok _ _ _ rfl rfl | exact ObLe.tok _ _ rfl | exact CVles.nil | refine CVles.cons ?_ ?_ | exact ObLe.same _ rfl rfl | refine ObLe.cells rfl ?_))
end Go.Proofs.YtlamgfimgadnmaaGreat
