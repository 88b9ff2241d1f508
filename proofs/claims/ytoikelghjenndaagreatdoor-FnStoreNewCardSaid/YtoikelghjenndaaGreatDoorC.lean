/-
  Contracts of the functions that the law reaches.
-/
import Derived.Test.YtoikelghjenndaaGreatDoorB
import Derived.Test.YtoikelghjenndaaGreatDoorA
import Derived.Test.YtoikelghjenndaaGreatDoorFwb
set_option linter.unusedVariables false
set_option linter.unusedSimpArgs false
namespace Go.Proofs.YtoikelghjenndaaGreatDoor
open Go Go.CL
set_option maxRecDepth 10000
inductive T3 where
  | no | unk | yes
def T3.of : Bool → T3
  | true => .yes
  | false => .no
def T3.v : T3 → Val
  | .no => .mk 1 0 ⟨#[]⟩ []
  | .unk => .mk 0 0 ⟨#[]⟩ []
  | .yes => .mk 1 1 ⟨#[]⟩ []
def t3 : Val → Option T3
  | .mk k n _ _ => if k = 0 then some .unk else if k = 1 then some (if n = 0 then .no else .yes) else none
inductive Exp where
  | mk (k : Int) (v : Val) (name key : ByteArray) (parts : List Exp)
mutual
def Exp.cv : Exp → CV
  | .mk k (.mk vk vn vt vl) s c ps => .agg [i64 k, i64 vk, i64 vn, .sc (.string vt), .vec (Val.cvs vl), .sc (.string s), .sc (.string c), .vec (Exp.cvs ps)]
def Exp.cvs : List Exp → List CV
  | [] => []
  | e :: r => e.cv :: Exp.cvs r
end
def Named (k : Int) : Prop := k = 2 ∨ k = 3 ∨ k = 4
instance (k : Int) : Decidable (Named k) := by unfold Named; infer_instance
structure GoodP (q : Pr) : Prop where
  name : q.name.size ≤ 7
  val : Tame q.val
def Cs (xs : List CV) : Prop := ∃ ps, xs = prs ps ∧ ∀ q ∈ ps, GoodP q
theorem Cs.nil : Cs [] := ⟨[], rfl, by simp⟩
theorem Cs.snoc {xs : List CV} {s : ByteArray} {k n : Int} {t : ByteArray} {l : List Val} (h : Cs xs) (hs : s.size ≤ 7) (hv : Tame (.mk k n t l)) : Cs (xs ++ [.agg [.sc (.string s), i64 k, i64 n, .sc (.string t), .vec (Val.cvs l)]]) := by
  obtain ⟨ps, rfl, hp⟩ := h
  refine ⟨ps ++ [⟨s, .mk k n t l⟩], by simp [prs, Pr.cv], fun q hq => ?_⟩
  rcases List.mem_append.1 hq with hq | hq
  · exact hp q hq
  · rw [List.mem_singleton.1 hq]; exact ⟨hs, hv⟩
def ListO (L : CV) (vl : List Val) : Prop := (L = .nil ∧ vl = []) ∨ L = .vec (Val.cvs vl)
theorem ListO.nil : ListO .nil [] := .inl ⟨rfl, rfl⟩
theorem ListO.vec {vl : List Val} : ListO (.vec (Val.cvs vl)) vl := .inr rfl
theorem rd_sub {σ σ' : Heap} {l0 : Nat} {bs : List CV} {p : Int} (h : Sub σ σ') : Sub (rd σ l0 bs p) (rd σ' l0 bs p) := by
  intro x ob hx
  unfold rd at hx ⊢
  by_cases e : x = l0
  · subst e; rw [upd_same] at hx ⊢; exact hx
  · rw [upd_ne _ _ e] at hx ⊢; exact h x ob hx
theorem rd_ne {σ : Heap} {l0 x : Nat} {bs : List CV} {p : Int} (h : x ≠ l0) : rd σ l0 bs p x = σ x := upd_ne _ _ h
theorem ne_rd {σ : Heap} {l0 x : Nat} {bs : List CV} {p : Int} (h : rd σ l0 bs p x = none) : x ≠ l0 := fun e => by subst e; unfold rd at h; rw [upd_same] at h; cases h
theorem no_rd {σ : Heap} {l0 x : Nat} {bs : List CV} {p : Int} (h : rd σ l0 bs p x = none) : σ x = none := by rw [rd_ne (ne_rd h)] at h; exact h
theorem rd_upd {σ : Heap} {l0 x : Nat} {bs : List CV} {p : Int} {A : Ob} (h : rd σ l0 bs p x = none) : upd (rd σ l0 bs p) x A = rd (upd σ x A) l0 bs p := by
  unfold rd; exact upd_comm _ _ _ (Ne.symm (ne_rd h))
theorem rd_upd' {σ : Heap} {l0 x : Nat} {bs : List CV} {p : Int} {A : Ob} (h : x ≠ l0) : upd (rd σ l0 bs p) x A = rd (upd σ x A) l0 bs p := by
  unfold rd; exact upd_comm _ _ _ (Ne.symm h)
theorem to_rd {f : FuncId} {args : List CV} {post : COut → Prop} {σ : Heap} {l0 x : Nat} {bs : List CV} {p : Int} {A : Ob} (hn : rd σ l0 bs p x = none) (h : CRun Tryz.prog f args (rd (upd σ x A) l0 bs p) post) : CRun Tryz.prog f args (upd (rd σ l0 bs p) x A) post := by
  rw [rd_upd hn]; exact h
theorem get_rd {σ : Heap} {l0 l1 : Nat} {bs : List CV} {p q : Int} {A : Ob} (h1 : rd σ l0 bs p l1 = none) : rd (upd σ l1 A) l0 bs q l1 = some A := by rw [rd_ne (ne_rd h1)]; exact upd_same _ _ _
theorem get_rd2 {σ : Heap} {l0 l1 : Nat} {bs : List CV} {q : Int} {A : Ob} (h : σ l1 = some A) (h1 : l1 ≠ l0) : rd σ l0 bs q l1 = some A := by rw [rd_ne h1]; exact h
def LOpen (T sz : Nat) (good : List CV → Prop) (σ : Heap) (l0 : Nat) (bs : List CV) (p : Int) (N : Nat) (out : COut) : Prop := ∃ xs n l1 cap σ' p', good xs ∧ n = xs.length ∧ p ≤ p' ∧ p' ≤ p + N ∧ Sub σ σ' ∧ σ l1 = none ∧ l1 ≠ l0 ∧ σ' l1 = some (.arr T sz cap xs) ∧ out = .ret (.grow l1 n cap) (rd σ' l0 bs p')
def LDraw (good : List CV → Prop) (σ : Heap) (l0 : Nat) (bs : List CV) (p : Int) (N : Nat) (out : COut) : Prop := ∃ xs p', good xs ∧ p ≤ p' ∧ p' ≤ p + N ∧ out = .ret (.vec xs) (rd σ l0 bs p')
theorem lopen_draw {f : FuncId} {args : List CV} {T sz : Nat} {good : List CV → Prop} {σ0 : Heap} {σ : Heap} {l0 : Nat} {bs : List CV} {p : Int} {N : Nat} (h : CRun Tryz.prog f args σ0 (LOpen T sz good σ l0 bs p N)) : CRun Tryz.prog f args σ0 (LDraw good σ l0 bs p N) := by
  refine h.freeze fun out ⟨xs, n, l1, cap, σ', p', g, hn, q1, q2, hs, n1, n2, n3, e⟩ => ?_
  subst e; subst hn
  refine ⟨.ret (.vec xs) (rd σ l0 bs p'), ⟨rd_sub hs, [l1], .inl (.one ?_), fun x hx => by rw [List.mem_singleton.1 hx, rd_ne n2]; exact n1⟩, xs, p', g, q1, q2, rfl⟩
  have hg : rd σ' l0 bs p' l1 = some (.arr T sz cap xs) := by rw [rd_ne n2]; exact n3
  have := Frz.grow (σ := rd σ' l0 bs p') l1 xs.length cap _ _ _ hg (Nat.le_refl _)
  rwa [List.take_of_length_le (Nat.le_refl _)] at this
section
variable {T sz : Nat} {good : List CV → Prop} {σ σ' : Heap} {l0 lx n cap : Nat} {bs : List CV} {p p' : Int} {N : Nat} {xs : List CV}
theorem lo_a (g : good xs) (hn : n = xs.length) (q1 : p ≤ p') (q2 : p' ≤ p + N) (hs : Sub σ σ') (n1 : σ lx = none) (n2 : lx ≠ l0) (n3 : σ' lx = some (.arr T sz cap xs)) : LOpen T sz good σ l0 bs p N (.ret (.grow lx n cap) (rd σ' l0 bs p')) :=
  ⟨xs, n, lx, cap, σ', p', g, hn, q1, q2, hs, n1, n2, n3, rfl⟩
theorem lo_b (g : good xs) (hn : n = xs.length) (q1 : p ≤ p') (q2 : p' ≤ p + N) (hs : Sub σ σ') (n1 : σ lx = none) (n2 : lx ≠ l0) : LOpen T sz good σ l0 bs p N (.ret (.grow lx n cap) (upd (rd σ' l0 bs p') lx (.arr T sz cap xs))) := by
  rw [rd_upd' n2]
  exact ⟨xs, n, lx, cap, _, p', g, hn, q1, q2, hs.upd n1, n1, n2, upd_same _ _ _, rfl⟩
theorem fresh_sub (hs : Sub σ σ') {q : Int} (h : rd σ' l0 bs q lx = none) : σ lx = none := by
  cases e : σ lx with
  | none => rfl
  | some ob => have := no_rd h; rw [hs _ _ e] at this; cases this
theorem lo_c (g : good xs) (hn : n = xs.length) (q1 : p ≤ p') (q2 : p' ≤ p + N) (hs : Sub σ σ') (h : rd σ' l0 bs p' lx = none) : LOpen T sz good σ l0 bs p N (.ret (.grow lx n cap) (upd (rd σ' l0 bs p') lx (.arr T sz cap xs))) :=
  lo_b g hn q1 q2 hs (fresh_sub hs h) (ne_rd h)
end
theorem grow_in {xs : List CV} {n : Nat} (h : n = xs.length) (ys : List CV) (m : Nat) : xs.take n ++ ys ++ xs.drop (n + m) = xs ++ ys := by
  subst h
  rw [List.take_of_length_le (Nat.le_refl _), List.drop_eq_nil_of_le (by omega), List.append_nil]
theorem grow_new {xs : List CV} {n : Nat} (h : n = xs.length) (ys : List CV) : xs.take n ++ ys = xs ++ ys := by
  subst h
  rw [List.take_of_length_le (Nat.le_refl _)]
structure LabG (xs : List CV) : Prop where
  h : ∃ ls, xs = strs ls ∧ ∀ s ∈ ls, s.size ≤ 7
  l : xs.length ≤ 4
theorem LabG.nil : LabG [] := ⟨⟨[], rfl, by simp⟩, by simp⟩
theorem LabG.snoc {xs : List CV} {s : ByteArray} (h : LabG xs) (hs : s.size ≤ 7) (hl : xs.length ≤ 3) : LabG (xs ++ [.sc (.string s)]) := by
  obtain ⟨⟨ls, rfl, h2⟩, _⟩ := h
  refine ⟨⟨ls ++ [s], by simp [strs], fun x hx => ?_⟩, by simp; omega⟩
  rcases List.mem_append.1 hx with hx | hx
  · exact h2 x hx
  · rw [List.mem_singleton.1 hx]; exact hs
structure RlSm (r : Rl) : Prop where
  l : r.label.size ≤ 7
  n : r.name.size ≤ 7
structure RulG (m : Nat) (xs : List CV) : Prop where
  h : ∃ rl, xs = rls rl ∧ ∀ r ∈ rl, RlSm r
  l : xs.length ≤ m
theorem RulG.nil : RulG 0 [] := ⟨⟨[], rfl, by simp⟩, by simp⟩
theorem RulG.snoc {m : Nat} {xs : List CV} {a b : ByteArray} (h : RulG m xs) (ha : a.size ≤ 7) (hb : b.size ≤ 7) : RulG (m + 1) (xs ++ [.agg [.sc (.string a), .sc (.string b)]]) := by
  obtain ⟨⟨rl, rfl, h2⟩, hl⟩ := h
  refine ⟨⟨rl ++ [⟨a, b⟩], by simp [rls, Rl.cv], fun x hx => ?_⟩, by simp; omega⟩
  rcases List.mem_append.1 hx with hx | hx
  · exact h2 x hx
  · rw [List.mem_singleton.1 hx]; exact ⟨ha, hb⟩
theorem RulG.mono {m n : Nat} {xs : List CV} (h : RulG m xs) (hm : m ≤ n) : RulG n xs := ⟨h.h, Nat.le_trans h.l hm⟩
theorem RulG.three {m : Nat} {xs : List CV} {a b c d e f : ByteArray} (h : RulG m xs) (ha : a.size ≤ 7) (hb : b.size ≤ 7) (hc : c.size ≤ 7) (hd : d.size ≤ 7) (he : e.size ≤ 7) (hf : f.size ≤ 7) :
    RulG (m + 3) (xs ++ [.agg [.sc (.string a), .sc (.string b)], .agg [.sc (.string c), .sc (.string d)], .agg [.sc (.string e), .sc (.string f)]]) := by
  have := ((h.snoc ha hb).snoc hc hd).snoc he hf
  rw [List.append_assoc, List.append_assoc] at this
  exact this
set_option maxHeartbeats 1000000 in
theorem rules_o {l : Nat} {σ : Heap} {bs : List CV} (hb : BytesOk bs) (hl : bs.length ≤ 2000) {p : Int} (hp : 0 ≤ p) (hp' : p < 549755813888) : CRun Tryz.prog 18 [.ptr (.g l) 0] (rd σ l bs p) (LOpen 46 2 (RulG 2) σ l bs p 2) := by
  have gP : RulG 2 [.agg [.sc (.string ⟨#[80]⟩), .sc (.string ⟨#[110, 97, 109, 101]⟩)]] := (RulG.snoc .nil (by decide) (by decide)).mono (by omega)
  have gQ : RulG 2 [.agg [.sc (.string ⟨#[81]⟩), .sc (.string ⟨#[110]⟩)]] := (RulG.snoc .nil (by decide) (by decide)).mono (by omega)
  have gPQ : RulG 2 [.agg [.sc (.string ⟨#[80]⟩), .sc (.string ⟨#[110, 97, 109, 101]⟩)], .agg [.sc (.string ⟨#[81]⟩), .sc (.string ⟨#[110]⟩)]] := RulG.snoc (RulG.snoc .nil (by decide) (by decide)) (by decide) (by decide)
  have s1 : ∀ {l1 : Nat} {A : Ob}, rd σ l bs p l1 = none → Sub σ (upd σ l1 A) := fun h => (Sub.refl σ).upd (no_rd h)
  refine crun_of (X := G [4,11,18]) (G_ok _) (G_sat _) (body := bodyOf Tryz.f18) Tryz.func18 rfl (by kernel_rfl) (by kernel_rfl) ?_
  rw [Tryz.ntmps18]
  conv => whnf
  repeat' (first | (refine CallN.many (pick_n hb hl (by omega) (by omega)) ?_; rintro _ ⟨k, hk1, hk2, rfl⟩) | ((refine CallN.many (to_rd ‹_› (pick_n hb hl (by omega) (by omega))) ?_; rintro _ ⟨k, hk1, hk2, rfl⟩)) | (refine AllocN.go (fun l1 hl1 => ?_)) | ((have hl2' := hl2; refine AllocC.go (fun l3 cap3 hl3 hcap3 => ?_))) | (refine AllocC.go (fun l2 cap2 hl2 hcap2 => ?_)) | (refine GetN.go ?_ (h := get_rd ‹_›)) | (refine Need.go ?_ (h := ⟨rfl, Nat.le_of_ble_eq_true rfl, Nat.le_of_ble_eq_true rfl, Nat.le_of_ble_eq_true rfl, ElsOk.one rfl rfl⟩)) | refine OrdN.go ?_ | refine Fork.yp ?_ | refine Fork.np ?_ | refine Fork.ny ?_ | refine Fork.nn ?_ | refine Fork.yb ?_ | refine Fork.nb ?_ | refine Fork.dp (fun h => ?_) (fun h => ?_) | refine Fork.dn (fun h => ?_) (fun h => ?_) | (refine Fork.mk (fun h => ?_) (fun h => ?_) <;> simp only [decide_eq_true_eq, decide_eq_false_iff_not, Bool.not_eq_true', Bool.not_eq_false', Bool.or_eq_true, Bool.or_eq_false_iff] at h) | refine GetN.go ?_ | refine Need.ap1 ?_ | refine Need.ap0 ?_ | refine Need.go ?_ | refine Need.draw ?_ | refine ElemN.go ?_ | refine ExtN.ext ?_ | refine ExtN.wr ?_ | refine AllocN.go (fun l hl => ?_) | refine finGo ?_) <;> try (conv => whnf)
  all_goals first
    | exact lo_a (xs := []) (RulG.nil.mono (by omega)) rfl (by omega) (by omega) (s1 hl1) (no_rd hl1) (ne_rd hl1) (upd_same _ _ _)
    | exact lo_a (xs := [.agg [.sc (.string ⟨#[80]⟩), .sc (.string ⟨#[110, 97, 109, 101]⟩)]]) gP rfl (by omega) (by omega) ((s1 hl1).upd (fresh_sub (s1 hl1) hl2)) (fresh_sub (s1 hl1) hl2) (ne_rd hl2) (upd_same _ _ _)
    | exact lo_c (xs := [.agg [.sc (.string ⟨#[81]⟩), .sc (.string ⟨#[110]⟩)]]) gQ rfl (by omega) (by omega) (s1 hl1) hl2
    | exact lo_b (xs := [.agg [.sc (.string ⟨#[80]⟩), .sc (.string ⟨#[110, 97, 109, 101]⟩)], .agg [.sc (.string ⟨#[81]⟩), .sc (.string ⟨#[110]⟩)]]) gPQ rfl (by omega) (by omega) ((s1 hl1).upd (fresh_sub (s1 hl1) hl2)) (fresh_sub (s1 hl1) hl2) (ne_rd hl2)
    | exact lo_c (xs := [.agg [.sc (.string ⟨#[80]⟩), .sc (.string ⟨#[110, 97, 109, 101]⟩)], .agg [.sc (.string ⟨#[81]⟩), .sc (.string ⟨#[110]⟩)]]) gPQ rfl (by omega) (by omega) ((s1 hl1).upd (fresh_sub (s1 hl1) hl2)) hl3
set_option maxHeartbeats 1000000 in
theorem anyRules_o {l : Nat} {σ : Heap} {bs : List CV} (hb : BytesOk bs) (hl : bs.length ≤ 2000) {p : Int} (hp : 0 ≤ p) (hp' : p < 274877906944) : CRun Tryz.prog 9 [.ptr (.g l) 0] (rd σ l bs p) (LOpen 46 2 (RulG 5) σ l bs p 10) := by
  refine crun_of (X := X) X_ok X_sat (body := bodyOf Tryz.f9) Tryz.func9 rfl (by kernel_rfl) (by kernel_rfl) ?_
  rw [Tryz.ntmps9]
  conv => whnf
  repeat' (first | ((refine CallN.many (rules_o hb hl (by omega) (by omega)) ?_; rintro _ ⟨xs, n, l1, cap, σ', p', g, hn, q1, q2, hs, n1, n2, n3, rfl⟩)) | (refine CallN.many (pick_n hb hl (by omega) (by omega)) ?_; rintro _ ⟨k, hk1, hk2, rfl⟩) | ((have ht' := ht; refine CallN.many (of_c (m := 7) hb hl (by omega) (by omega) ?_ (Nat.le_of_ble_eq_true rfl) (Nat.le_of_ble_eq_true rfl)) ?_; (repeat' (first | exact (trivial : True) | refine And.intro ?_ ?_ | refine ⟨_, rfl, ?_⟩ | omega | decide)); rintro _ ⟨t2, ht2, rfl⟩)) | (refine CallN.many (of_c (m := 7) hb hl (by omega) (by omega) ?_ (Nat.le_of_ble_eq_true rfl) (Nat.le_of_ble_eq_true rfl)) ?_; (repeat' (first | exact (trivial : True) | refine And.intro ?_ ?_ | refine ⟨_, rfl, ?_⟩ | omega | decide)); rintro _ ⟨t, ht, rfl⟩) | (refine AllocC.go (fun l2 cap2 hl2 hcap2 => ?_)) | (refine GetN.go ?_ (h := get_rd2 ‹_› ‹_›)) | (refine Need.go ?_ (h := ⟨rfl, by omega, by have := g.l; simp only [List.length_cons, List.length_nil]; omega, by have := g.l; simp only [List.length_cons, List.length_nil]; omega, ElsOk.one rfl rfl⟩)) | (refine Need.go ?_ (h := ⟨rfl, by omega, by have := g.l; simp only [List.length_cons, List.length_nil]; omega, by have := g.l; simp only [List.length_cons, List.length_nil]; omega, ElsOk.cons rfl rfl (ElsOk.cons rfl rfl (ElsOk.one rfl rfl))⟩)) | refine OrdN.go ?_ | refine Fork.yp ?_ | refine Fork.np ?_ | refine Fork.ny ?_ | refine Fork.nn ?_ | refine Fork.yb ?_ | refine Fork.nb ?_ | refine Fork.dp (fun h => ?_) (fun h => ?_) | refine Fork.dn (fun h => ?_) (fun h => ?_) | (refine Fork.mk (fun h => ?_) (fun h => ?_) <;> simp only [decide_eq_true_eq, decide_eq_false_iff_not, Bool.not_eq_true', Bool.not_eq_false', Bool.or_eq_true, Bool.or_eq_false_iff] at h) | refine GetN.go ?_ | refine Need.ap1 ?_ | refine Need.ap0 ?_ | refine Need.go ?_ | refine Need.draw ?_ | refine ElemN.go ?_ | refine ExtN.ext ?_ | refine ExtN.wr ?_ | refine AllocN.go (fun l hl => ?_) | refine finGo ?_) <;> try (conv => whnf)
  all_goals first
    | exact lo_a (g.mono (by omega)) hn (by omega) (by omega) hs n1 n2 n3
    | exact lo_b (by rw [grow_in hn]; exact (g.snoc (by assumption) (by assumption)).mono (by omega)) (by rw [grow_in hn, List.length_append]; simp only [List.length_cons, List.length_nil]; omega) (by omega) (by omega) hs n1 n2
    | exact lo_c (by rw [grow_new hn]; exact (g.snoc (by assumption) (by assumption)).mono (by omega)) (by rw [grow_new hn, List.length_append]; simp only [List.length_cons, List.length_nil]; omega) (by omega) (by omega) hs hl2
    | exact lo_b (by rw [grow_in hn]; exact (g.three (by decide) (by decide) (by decide) (by decide) (by decide) (by decide)).mono (by omega)) (by rw [grow_in hn, List.length_append]; simp only [List.length_cons, List.length_nil]; omega) (by omega) (by omega) hs n1 n2
    | exact lo_c (by rw [grow_new hn]; exact (g.three (by decide) (by decide) (by decide) (by decide) (by decide) (by decide)).mono (by omega)) (by rw [grow_new hn, List.length_append]; simp only [List.length_cons, List.length_nil]; omega) (by omega) (by omega) hs hl2
theorem drawStoreNew_c {σ : Heap} {bs : List CV} (hb : BytesOk bs) (h2 : bs.length ≤ 1048576) : CRun Tryz.prog 4 [.vec bs] σ (fun out => ∃ rl τ, (∀ r ∈ rl, RlSm r) ∧ rl.length ≤ 5 ∧ out = .ret (.vec (rls rl)) τ) := by
  refine crun_of (X := X) X_ok X_sat (body := bodyOf Tryz.f4) Tryz.func4 rfl (by kernel_rfl) (by kernel_rfl) ?_
  rw [Tryz.ntmps4]
  conv => whnf
  repeat' (first | (refine CallN.many (open_c hb h2) ?_; rintro _ ⟨l, bs', hb', hl', rfl⟩) | (refine CallN.many (lopen_draw (anyRules_o hb' hl' (by omega) (by omega))) ?_; rintro _ ⟨_, p', ⟨⟨rl, rfl, hr⟩, hlen⟩, q1, q2, rfl⟩) | refine OrdN.go ?_ | refine Fork.yp ?_ | refine Fork.np ?_ | refine Fork.ny ?_ | refine Fork.nn ?_ | refine Fork.yb ?_ | refine Fork.nb ?_ | refine Fork.dp (fun h => ?_) (fun h => ?_) | refine Fork.dn (fun h => ?_) (fun h => ?_) | (refine Fork.mk (fun h => ?_) (fun h => ?_) <;> simp only [decide_eq_true_eq, decide_eq_false_iff_not, Bool.not_eq_true', Bool.not_eq_false', Bool.or_eq_true, Bool.or_eq_false_iff] at h) | refine GetN.go ?_ | refine Need.ap1 ?_ | refine Need.ap0 ?_ | refine Need.go ?_ | refine Need.draw ?_ | refine ElemN.go ?_ | refine ExtN.ext ?_ | refine ExtN.wr ?_ | refine AllocN.go (fun l hl => ?_) | refine finGo ?_) <;> try (conv => whnf)
  all_goals exact ⟨rl, _, hr, by rw [← rls_len]; exact hlen, rfl⟩
theorem asGraph0_c {σ : Heap} : CRun Tryz.prog 14 [g0, g0] σ (· = .ret (.sc (.bool true)) σ) := by
  refine crun_of (X := X) X_ok X_sat (body := bodyOf Tryz.f14) Tryz.func14 rfl (by kernel_rfl) (by kernel_rfl) ?_
  rw [Tryz.ntmps14]
  conv => whnf
  repeat' (first | (refine LoopN.once (by rfl) (by repeat' (first | exact LocsLe.nil | refine LocsLe.cons _ _ _ ?_ ?_ | exact ObLe.same _ rfl rfl)) ?_) | refine OrdN.one ?_ | refine Fork.yp ?_ | refine Fork.np ?_ | refine Fork.ny ?_ | refine Fork.nn ?_ | refine Fork.yb ?_ | refine Fork.nb ?_ | refine Fork.dp (fun h => ?_) (fun h => ?_) | refine Fork.dn (fun h => ?_) (fun h => ?_) | (refine Fork.mk (fun h => ?_) (fun h => ?_) <;> simp only [decide_eq_true_eq, decide_eq_false_iff_not, Bool.not_eq_true', Bool.not_eq_false', Bool.or_eq_true, Bool.or_eq_false_iff] at h) | refine GetN.go ?_ | refine Need.ap1 ?_ | refine Need.ap0 ?_ | refine Need.go ?_ | refine Need.draw ?_ | refine ElemN.go ?_ | refine ExtN.ext ?_ | refine ExtN.wr ?_ | refine AllocN.go (fun l hl => ?_) | refine finGo ?_) <;> try (conv => whnf)
  all_goals rfl
theorem asAsks0_c {σ : Heap} : CRun Tryz.prog 15 [.vec [], .vec []] σ (· = .ret (.sc (.bool true)) σ) := by
  refine crun_of (X := X) X_ok X_sat (body := bodyOf Tryz.f15) Tryz.func15 rfl (by kernel_rfl) (by kernel_rfl) ?_
  rw [Tryz.ntmps15]
  conv => whnf
  repeat' (first | (refine LoopN.once (by rfl) (by repeat' (first | exact LocsLe.nil | refine LocsLe.cons _ _ _ ?_ ?_ | exact ObLe.same _ rfl rfl)) ?_) | refine OrdN.one ?_ | refine Fork.yp ?_ | refine Fork.np ?_ | refine Fork.ny ?_ | refine Fork.nn ?_ | refine Fork.yb ?_ | refine Fork.nb ?_ | refine Fork.dp (fun h => ?_) (fun h => ?_) | refine Fork.dn (fun h => ?_) (fun h => ?_) | (refine Fork.mk (fun h => ?_) (fun h => ?_) <;> simp only [decide_eq_true_eq, decide_eq_false_iff_not, Bool.not_eq_true', Bool.not_eq_false', Bool.or_eq_true, Bool.or_eq_false_iff] at h) | refine GetN.go ?_ | refine Need.ap1 ?_ | refine Need.ap0 ?_ | refine Need.go ?_ | refine Need.draw ?_ | refine ElemN.go ?_ | refine ExtN.ext ?_ | refine ExtN.wr ?_ | refine AllocN.go (fun l hl => ?_) | refine finGo ?_) <;> try (conv => whnf)
  all_goals rfl
theorem asStore_c {σ : Heap} {l : List Rl} (hl : l.length ≤ 100) : CRun Tryz.prog 7 [stCV l, stCV l] σ (· = .ret (.sc (.bool true)) σ) := by
  have e3 := rls_len l
  unfold stCV
  refine crun_of (X := X) X_ok X_sat (body := bodyOf Tryz.f7) Tryz.func7 rfl (by kernel_rfl) (by kernel_rfl) ?_
  rw [Tryz.ntmps7]
  conv => whnf
  repeat' (first | (refine CallN.one asGraph0_c ?_) | (refine CallN.one asAsks0_c ?_) | refine OrdN.one ?_ | refine Fork.yp ?_ | refine Fork.np ?_ | refine Fork.ny ?_ | refine Fork.nn ?_ | refine Fork.yb ?_ | refine Fork.nb ?_ | refine Fork.dp (fun h => ?_) (fun h => ?_) | refine Fork.dn (fun h => ?_) (fun h => ?_) | (refine Fork.mk (fun h => ?_) (fun h => ?_) <;> simp only [decide_eq_true_eq, decide_eq_false_iff_not, Bool.not_eq_true', Bool.not_eq_false', Bool.or_eq_true, Bool.or_eq_false_iff] at h) | refine GetN.go ?_ | refine Need.ap1 ?_ | refine Need.ap0 ?_ | refine Need.go ?_ | refine Need.draw ?_ | refine ElemN.go ?_ | refine ExtN.ext ?_ | refine ExtN.wr ?_ | refine AllocN.go (fun l hl => ?_) | refine finGo ?_) <;> try (conv => whnf)
  refine LoopN.rule (α := Nat) (fun i => ⟨138, [(2, .ptr (.f 2) 0), (3, .ptr (.f 3) 0), (4, .sc (.bool false)), (5, i64 i)], [(2, .cells [.vec [], .vec [], i64 0, i64 0, .vec (rls l), i64 0, .vec [], .vec [], i64 0]), (3, .cells [.vec [], .vec [], i64 0, i64 0, .vec (rls l), i64 0, .vec [], .vec [], i64 0])]⟩)
    (fun _ => σ) (fun i => l.length - i) (fun i => i ≤ l.length) ?_ 0 (by omega) ?_
  rotate_left
  · (refine ⟨rfl, ?_, ?_, Sub.refl _⟩ <;> repeat' (first | exact EnvLe.nil | exact LocsLe.nil | refine EnvLe.cons _ _ _ ?_ ?_ | refine LocsLe.cons _ _ _ ?_ ?_ | exact CVle.same _ rfl | exact CVle.vec _ _ | exact CVle.nil | exact CVle.tok _ _ _ rfl rfl | exact ObLe.tok _ _ rfl | exact CVles.nil | refine CVles.cons ?_ ?_ | exact ObLe.same _ rfl rfl | refine ObLe.cells rfl ?_))
  rintro i K i1 hK
  by_cases hi : i < l.length
  · obtain ⟨c, d, hg, hm, hx⟩ := rls_get hi
    conv => whnf
    repeat' (first | (refine ElemN.go ?_ (h := hx)) | (refine Need.go ?_ (h := two_rl)) | refine OrdN.one ?_ | refine Fork.yp ?_ | refine Fork.np ?_ | refine Fork.ny ?_ | refine Fork.nn ?_ | refine Fork.yb ?_ | refine Fork.nb ?_ | refine Fork.dp (fun h => ?_) (fun h => ?_) | refine Fork.dn (fun h => ?_) (fun h => ?_) | (refine Fork.mk (fun h => ?_) (fun h => ?_) <;> simp only [decide_eq_true_eq, decide_eq_false_iff_not, Bool.not_eq_true', Bool.not_eq_false', Bool.or_eq_true, Bool.or_eq_false_iff] at h) | refine GetN.go ?_ | refine Need.ap1 ?_ | refine Need.ap0 ?_ | refine Need.go ?_ | refine Need.draw ?_ | refine ElemN.go ?_ | refine ExtN.ext ?_ | refine ExtN.wr ?_ | refine AllocN.go (fun l hl => ?_) | refine finGo ?_) <;> try (conv => whnf)
    all_goals first
      | (refine hK (i + 1) _ _ (by omega) (by omega) ?_; (refine ⟨rfl, ?_, ?_, Sub.refl _⟩ <;> repeat' (first | exact EnvLe.nil | exact LocsLe.nil | refine EnvLe.cons _ _ _ ?_ ?_ | refine LocsLe.cons _ _ _ ?_ ?_ | exact CVle.same _ rfl | exact CVle.vec _ _ | exact CVle.nil | exact CVle.tok _ _ _ rfl rfl | exact ObLe.tok _ _ rfl | exact CVles.nil | refine CVles.cons ?_ ?_ | exact ObLe.same _ rfl rfl | refine ObLe.cells rfl ?_)))
      | (exfalso; exact ‹¬ c = c› rfl)
      | (exfalso; exact ‹¬ d = d› rfl)
  · conv => whnf
    repeat' (first | (refine LoopN.once (by rfl) (by repeat' (first | exact LocsLe.nil | refine LocsLe.cons _ _ _ ?_ ?_ | exact ObLe.same _ rfl rfl)) ?_) | refine OrdN.one ?_ | refine Fork.yp ?_ | refine Fork.np ?_ | refine Fork.ny ?_ | refine Fork.nn ?_ | refine Fork.yb ?_ | refine Fork.nb ?_ | refine Fork.dp (fun h => ?_) (fun h => ?_) | refine Fork.dn (fun h => ?_) (fun h => ?_) | (refine Fork.mk (fun h => ?_) (fun h => ?_) <;> simp only [decide_eq_true_eq, decide_eq_false_iff_not, Bool.not_eq_true', Bool.not_eq_false', Bool.or_eq_true, Bool.or_eq_false_iff] at h) | refine GetN.go ?_ | refine Need.ap1 ?_ | refine Need.ap0 ?_ | refine Need.go ?_ | refine Need.draw ?_ | refine ElemN.go ?_ | refine ExtN.ext ?_ | refine ExtN.wr ?_ | refine AllocN.go (fun l hl => ?_) | refine finGo ?_) <;> try (conv => whnf)
    all_goals rfl
theorem lawStoreNew {σ : Heap} {bs : List CV} (hb : BytesOk bs) : CRun Tryz.prog 3 [.vec bs] σ (fun out => ∃ τ, out = .ret (.sc (.bool true)) τ) := by
  by_cases h2 : bs.length ≤ 1048576
  case neg =>
    refine crun_of (X := X) X_ok X_sat (body := bodyOf Tryz.f3) Tryz.func3 rfl (by kernel_rfl) (by kernel_rfl) ?_
    rw [Tryz.ntmps3]
    conv => whnf
    repeat' (first | refine OrdN.one ?_ | refine Fork.yp ?_ | refine Fork.np ?_ | refine Fork.ny ?_ | refine Fork.nn ?_ | refine Fork.yb ?_ | refine Fork.nb ?_ | refine Fork.dp (fun h => ?_) (fun h => ?_) | refine Fork.dn (fun h => ?_) (fun h => ?_) | (refine Fork.mk (fun h => ?_) (fun h => ?_) <;> simp only [decide_eq_true_eq, decide_eq_false_iff_not, Bool.not_eq_true', Bool.not_eq_false', Bool.or_eq_true, Bool.or_eq_false_iff] at h) | refine GetN.go ?_ | refine Need.ap1 ?_ | refine Need.ap0 ?_ | refine Need.go ?_ | refine Need.draw ?_ | refine ElemN.go ?_ | refine ExtN.ext ?_ | refine ExtN.wr ?_ | refine AllocN.go (fun l hl => ?_) | refine finGo ?_) <;> try (conv => whnf)
    all_goals exact ⟨_, rfl⟩
  have key : ∀ (rl : List Rl) (τ : Heap), (∀ r ∈ rl, RlSm r) → rl.length ≤ 5 → ∀ r ∈ rl, RlT r := fun rl τ h _ r hr => ⟨by have := (h r hr).l; omega, by have := (h r hr).n; omega⟩
  have d := drawStoreNew_c (σ := σ) hb h2
  refine crun_of (X := X) X_ok X_sat (body := bodyOf Tryz.f3) Tryz.func3 rfl (by kernel_rfl) (by kernel_rfl) ?_
  rw [Tryz.ntmps3]
  conv => whnf
  repeat' (first | (refine CallN.many d ?_; rintro _ ⟨rl, τ, hr, hlen, rfl⟩) | refine OrdN.go ?_ | refine Fork.yp ?_ | refine Fork.np ?_ | refine Fork.ny ?_ | refine Fork.nn ?_ | refine Fork.yb ?_ | refine Fork.nb ?_ | refine Fork.dp (fun h => ?_) (fun h => ?_) | refine Fork.dn (fun h => ?_) (fun h => ?_) | (refine Fork.mk (fun h => ?_) (fun h => ?_) <;> simp only [decide_eq_true_eq, decide_eq_false_iff_not, Bool.not_eq_true', Bool.not_eq_false', Bool.or_eq_true, Bool.or_eq_false_iff] at h) | refine GetN.go ?_ | refine Need.ap1 ?_ | refine Need.ap0 ?_ | refine Need.go ?_ | refine Need.draw ?_ | refine ElemN.go ?_ | refine ExtN.ext ?_ | refine ExtN.wr ?_ | refine AllocN.go (fun l hl => ?_) | refine finGo ?_) <;> try (conv => whnf)
  have hl : rl.length ≤ 100 := by omega
  have ht := key rl τ hr hlen
  cases hk : rulesOk rl
  · conv => whnf
    repeat' (first | (refine CallN.one (iStoreNo_c hl ht hk) ?_) | (refine CallN.one (sStoreNo_c hl ht hk) ?_) | (refine CallN.one (asStore_c (l := []) (by simp)) ?_) | refine OrdN.go ?_ | refine Fork.yp ?_ | refine Fork.np ?_ | refine Fork.ny ?_ | refine Fork.nn ?_ | refine Fork.yb ?_ | refine Fork.nb ?_ | refine Fork.dp (fun h => ?_) (fun h => ?_) | refine Fork.dn (fun h => ?_) (fun h => ?_) | (refine Fork.mk (fun h => ?_) (fun h => ?_) <;> simp only [decide_eq_true_eq, decide_eq_false_iff_not, Bool.not_eq_true', Bool.not_eq_false', Bool.or_eq_true, Bool.or_eq_false_iff] at h) | refine GetN.go ?_ | refine Need.ap1 ?_ | refine Need.ap0 ?_ | refine Need.go ?_ | refine Need.draw ?_ | refine ElemN.go ?_ | refine ExtN.ext ?_ | refine ExtN.wr ?_ | refine AllocN.go (fun l hl => ?_) | refine finGo ?_) <;> try (conv => whnf)
    all_goals exact ⟨_, rfl⟩
  · conv => whnf
    repeat' (first | (refine CallN.one (iStoreNew_c hl ht hk) ?_) | (refine CallN.one (sStoreNew_c hl ht hk) ?_) | (refine CallN.one (asStore_c hl) ?_) | (refine CallN.one (storeOk0_c hl ht hk) ?_) | (refine Need.go ?_ (h := by simp [inR]; done)) | refine OrdN.go ?_ | refine Fork.yp ?_ | refine Fork.np ?_ | refine Fork.ny ?_ | refine Fork.nn ?_ | refine Fork.yb ?_ | refine Fork.nb ?_ | refine Fork.dp (fun h => ?_) (fun h => ?_) | refine Fork.dn (fun h => ?_) (fun h => ?_) | (refine Fork.mk (fun h => ?_) (fun h => ?_) <;> simp only [decide_eq_true_eq, decide_eq_false_iff_not, Bool.not_eq_true', Bool.not_eq_false', Bool.or_eq_true, Bool.or_eq_false_iff] at h) | refine GetN.go ?_ | refine Need.ap1 ?_ | refine Need.ap0 ?_ | refine Need.go ?_ | refine Need.draw ?_ | refine ElemN.go ?_ | refine ExtN.ext ?_ | refine ExtN.wr ?_ | refine AllocN.go (fun l hl => ?_) | refine finGo ?_) <;> try (conv => whnf)
    all_goals exact ⟨_, rfl⟩
end Go.Proofs.YtoikelghjenndaaGreatDoor
