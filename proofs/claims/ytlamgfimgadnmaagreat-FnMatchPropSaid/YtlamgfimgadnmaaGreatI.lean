/-
  Contracts of the functions that the law reaches.
-/
import Derived.Test.YtlamgfimgadnmaaGreatB
set_option linter.unusedVariables false
set_option linter.unusedSimpArgs false
namespace Go.Proofs.YtlamgfimgadnmaaGreat
open Go Go.CL
set_option maxRecDepth 10000
def atE (d : Int) (e : Ed) : Bool := decide (e.src = d) || decide (e.dst = d)
def zp7 (es : List Ed) (d : Int) (i : Nat) : Bool := match es[i]? with
  | some e => atE d e
  | none => false
def zdp (es : List Ed) (d : Int) (m : Nat) : List Nat := (List.range m).filter (zp7 es d)
def zgu (es : List Ed) (d : Int) : List Nat := zdp es d es.length
theorem zkz {es : List Ed} {d : Int} {m : Nat} (h : zp7 es d m = true) : zdp es d (m + 1) = zdp es d m ++ [m] := by
  unfold zdp; rw [List.range_succ, List.filter_append]; simp [h]
theorem zxe {es : List Ed} {d : Int} {m : Nat} (h : zp7 es d m = false) : zdp es d (m + 1) = zdp es d m := by
  unfold zdp; rw [List.range_succ, List.filter_append]; simp [h]
theorem zp6 {es : List Ed} {d : Int} {m : Nat} : (zdp es d m).length ≤ m := by
  unfold zdp; exact Nat.le_trans (List.length_filter_le _ _) (by simp)
theorem z3g {es : List Ed} {d : Int} {i : Nat} (h : i ∈ zgu es d) : i < es.length := by
  unfold zgu zdp at h; exact List.mem_range.1 (List.mem_filter.1 h).1
def slV (l n cap : Nat) : Value := .slice (some ⟨l, 0, none⟩) n cap
def qy (l : List Nat) : List CV := l.map fun (i : Nat) => i64 (i : Int)
theorem jv (l : List Nat) : (qy l).length = l.length := by simp [qy]
theorem zht (l : List Nat) (i : Nat) : qy (l ++ [i]) = qy l ++ [i64 i] := by simp [qy]
theorem zdv {σ τ : Heap} {l : Nat} (h : Sub σ τ) (hl : τ l = none) : σ l = none := by
  cases e : σ l with
  | none => rfl
  | some ob => rw [h _ _ e] at hl; cases hl
theorem zbi {k q : MK} {v : Value} (h : ¬ k = q) : ∀ {ms : List (MK × Value)} {j : Nat}, ze k (ms ++ [(q, v)]) j = ze k ms j
  | [], j => by simp [ze, h]
  | (a, b) :: r, j => by
    rw [List.cons_append]
    unfold ze
    split
    · rfl
    · exact zbi h
theorem zcm {q : MK} {v : Value} : ∀ {ms : List (MK × Value)} {j : Nat}, ze q ms j = none → ze q (ms ++ [(q, v)]) j = some (j + ms.length, v)
  | [], j, _ => by simp [ze]
  | (a, b) :: r, j, h => by
    rw [List.cons_append]
    unfold ze at h ⊢
    split
    · rename_i e; rw [if_pos e] at h; cases h
    · rename_i e
      rw [if_neg e] at h
      rw [zcm h, List.length_cons]
      exact congrArg some (congrArg (·, v) (by omega))
theorem zve {k : MK} : ∀ {ms : List (MK × Value)} {j i : Nat} {v : Value}, ze k ms j = some (i, v) → j ≤ i
  | [], _, _, _, h => by cases h
  | (q, u) :: r, j, i, v, h => by
    unfold ze at h
    split at h
    · cases h; exact Nat.le_refl _
    · have := zve h; omega
theorem kv {q : MK} {v : Value} : ∀ {ms : List (MK × Value)} {j i : Nat} {u : Value}, ze q ms j = some (i, u) → ze q (ms.set (i - j) (q, v)) j = some (i, v)
  | [], _, _, _, h => by cases h
  | (a, b) :: r, j, i, u, h => by
    have hge := zve h
    unfold ze at h
    split at h
    · cases h
      rw [Nat.sub_self, List.set_cons_zero]
      simp [ze]
    · rename_i e
      have hg2 := zve h
      rw [show i - j = (i - (j + 1)) + 1 by omega, List.set_cons_succ]
      unfold ze
      rw [if_neg e]
      exact kv h
theorem jx {q k : MK} {v : Value} (hk : ¬ k = q) : ∀ {ms : List (MK × Value)} {j i : Nat} {u : Value}, ze q ms j = some (i, u) → ze k (ms.set (i - j) (q, v)) j = ze k ms j
  | [], _, _, _, h => by cases h
  | (a, b) :: r, j, i, u, h => by
    have hge := zve h
    unfold ze at h
    split at h
    · rename_i e
      cases h
      rw [Nat.sub_self, List.set_cons_zero]
      unfold ze
      rw [if_neg hk, if_neg (fun e2 => hk (e2.trans e.symm))]
    · rename_i e
      have hg2 := zve h
      rw [show i - j = (i - (j + 1)) + 1 by omega, List.set_cons_succ]
      unfold ze
      split
      · rfl
      · exact jx hk h
def z70 (σ τ : Heap) (lm : Nat) (F : Int → List Nat) (ms : List (MK × Value)) (d : Int) : Prop := (ze (.i d) ms 0 = none ∧ F d = []) ∨
  ∃ j l n cap, ze (.i d) ms 0 = some (j, slV l n cap) ∧ n = (F d).length ∧ F d ≠ [] ∧ σ l = none ∧ l ≠ lm ∧ τ l = some (.arr 3 1 cap (qy (F d)))
structure BesI (σ : Heap) (lm : Nat) (F : Int → List Nat) (τ : Heap) (ms : List (MK × Value)) : Prop where
  sub : Sub σ τ
  fr : σ lm = none
  at_ : τ lm = some (.mp false ms)
  ent : ∀ d, z70 σ τ lm F ms d
  dis : ∀ d d' j j' l n c n' c', ze (.i d) ms 0 = some (j, slV l n c) → ze (.i d') ms 0 = some (j', slV l n' c') → d = d'
def zgz (F : Int → List Nat) (d : Int) (i : Nat) : Int → List Nat := fun x => if x = d then F x ++ [i] else F x
theorem zft {l n c l' n' c' : Nat} (h : slV l n c = slV l' n' c') : l = l' ∧ n = n' ∧ c = c' := by
  unfold slV at h
  simp only [Value.slice.injEq, Option.some.injEq, Addr.mk.injEq] at h
  exact ⟨h.1.1, h.2.1, h.2.2⟩
theorem zsx {d d' : Int} (h : ¬ d = d') : ¬ (MK.i d) = MK.i d' := fun e => h (by cases e; rfl)
theorem zk0 {σ τ τ' : Heap} {lm l2 n cap : Nat} {F : Int → List Nat} {ms ms' : List (MK × Value)} {d : Int} {i : Nat} (h : BesI σ lm F τ ms) (hs : σ l2 = none) (hne : l2 ≠ lm)
    (hn : n = (F d).length + 1)
    (hnew : ∀ d' j l n c, ¬ d' = d → ze (.i d') ms 0 = some (j, slV l n c) → l ≠ l2)
    (hm : ∃ j, ze (.i d) ms' 0 = some (j, slV l2 n cap)) (ho : ∀ d', ¬ d' = d → ze (.i d') ms' 0 = ze (.i d') ms 0)
    (e : τ' = upd (upd τ l2 (.arr 3 1 cap (qy (F d ++ [i])))) lm (.mp false ms')) : BesI σ lm (zgz F d i) τ' ms' := by
  subst e
  refine ⟨(h.sub.upd hs).upd h.fr, h.fr, za _ _ _, fun d' => ?_, fun a b j j' l n1 c1 n2 c2 h1 h2 => ?_⟩
  · by_cases hd : d' = d
    · subst hd
      obtain ⟨j, hm⟩ := hm
      refine .inr ⟨j, l2, n, cap, hm, ?_, ?_, hs, hne, ?_⟩
      · simp [zgz, hn]
      · simp [zgz]
      · rw [zb _ _ hne, za]; simp [zgz]
    · have hF : zgz F d i d' = F d' := by simp [zgz, hd]
      unfold z70
      rw [hF, ho d' hd]
      rcases h.ent d' with ⟨h1, h2⟩ | ⟨j, l, n', c', h1, h2, h3, h4, h5, h6⟩
      · exact .inl ⟨h1, h2⟩
      · refine .inr ⟨j, l, n', c', h1, h2, h3, h4, h5, ?_⟩
        rw [zb _ _ h5, zb _ _ (hnew d' j l n' c' hd h1)]; exact h6
  · obtain ⟨j0, hm⟩ := hm
    by_cases ha : a = d <;> by_cases hb : b = d
    · rw [ha, hb]
    · subst ha
      rw [hm] at h1
      rw [ho b hb] at h2
      obtain ⟨e1, -, -⟩ := zft (Prod.mk.inj (Option.some.inj h1)).2
      exact (hnew b _ _ _ _ hb h2 e1.symm).elim
    · subst hb
      rw [hm] at h2
      rw [ho a ha] at h1
      obtain ⟨e1, -, -⟩ := zft (Prod.mk.inj (Option.some.inj h2)).2
      exact (hnew a _ _ _ _ ha h1 e1.symm).elim
    · rw [ho a ha] at h1
      rw [ho b hb] at h2
      exact h.dis _ _ _ _ _ _ _ _ _ h1 h2
theorem zdq {σ τ : Heap} {lm l2 cap : Nat} {F : Int → List Nat} {ms : List (MK × Value)} {d : Int} {i : Nat} (h : BesI σ lm F τ ms) (hf : ze (.i d) ms 0 = none) (hF : F d = []) (hl : τ l2 = none) :
    BesI σ lm (zgz F d i) (upd (upd τ l2 (.arr 3 1 cap [i64 i])) lm (.mp false (ms ++ [(.i d, slV l2 1 cap)]))) (ms ++ [(.i d, slV l2 1 cap)]) := by
  have hne : l2 ≠ lm := fun e => by subst e; rw [h.at_] at hl; cases hl
  refine zk0 h (zdv h.sub hl) hne (by rw [hF]; rfl) (fun d' j l n c _ h1 e => ?_) ⟨_, zcm hf⟩ (fun d' hd => zbi (zsx hd)) (by rw [hF]; rfl)
  subst e
  rcases h.ent d' with ⟨h2, _⟩ | ⟨j2, l3, n3, c3, h2, _, _, _, _, h6⟩
  · rw [h2] at h1; cases h1
  · rw [h2] at h1
    obtain ⟨e1, -, -⟩ := zft (Prod.mk.inj (Option.some.inj h1)).2
    subst e1
    rw [h6] at hl; cases hl
theorem zbu {σ τ : Heap} {lm l2 cap j l n c : Nat} {F : Int → List Nat} {ms : List (MK × Value)} {d : Int} {i : Nat} (h : BesI σ lm F τ ms) (hf : ze (.i d) ms 0 = some (j, slV l n c)) (hn : n = (F d).length) (hl : τ l2 = none) {xs : List CV} (hx : xs = qy (F d)) :
    BesI σ lm (zgz F d i) (upd (upd τ l2 (.arr 3 1 cap (xs.take n ++ [i64 i]))) lm (.mp false (ms.set j (.i d, slV l2 (n + 1) cap)))) (ms.set j (.i d, slV l2 (n + 1) cap)) := by
  have hne : l2 ≠ lm := fun e => by subst e; rw [h.at_] at hl; cases hl
  refine zk0 h (zdv h.sub hl) hne (show n + 1 = (F d).length + 1 by rw [hn]) (fun d' j l n c _ h1 e => ?_) ⟨_, by have := kv (v := slV l2 (n + 1) cap) hf; rwa [Nat.sub_zero] at this⟩ (fun d' hd => by have := jx (v := slV l2 (n + 1) cap) (zsx hd) hf; rwa [Nat.sub_zero] at this) ?_
  · subst e
    rcases h.ent d' with ⟨h2, _⟩ | ⟨j2, l3, n3, c3, h2, _, _, _, _, h6⟩
    · rw [h2] at h1; cases h1
    · rw [h2] at h1
      obtain ⟨e1, -, -⟩ := zft (Prod.mk.inj (Option.some.inj h1)).2
      subst e1
      rw [h6] at hl; cases hl
  · rw [zht, hx, List.take_of_length_le (by rw [jv, hn]; exact Nat.le_refl _)]
theorem zgt {σ τ : Heap} {lm j l n c : Nat} {F : Int → List Nat} {ms : List (MK × Value)} {d : Int} {i : Nat} (h : BesI σ lm F τ ms) (hf : ze (.i d) ms 0 = some (j, slV l n c)) (hn : n = (F d).length) (hs : σ l = none) (hne : l ≠ lm) {xs : List CV} (hx : xs = qy (F d)) :
    BesI σ lm (zgz F d i) (upd (upd τ l (.arr 3 1 c (xs.take n ++ [i64 i] ++ xs.drop (n + 1)))) lm (.mp false (ms.set j (.i d, slV l (n + 1) c)))) (ms.set j (.i d, slV l (n + 1) c)) := by
  refine zk0 h hs hne (show n + 1 = (F d).length + 1 by rw [hn]) (fun d' j' l' n' c' hd h1 e => ?_) ⟨_, by have := kv (v := slV l (n + 1) c) hf; rwa [Nat.sub_zero] at this⟩ (fun d' hd => by have := jx (v := slV l (n + 1) c) (zsx hd) hf; rwa [Nat.sub_zero] at this) ?_
  · subst e
    exact hd (h.dis _ _ _ _ _ _ _ _ _ h1 hf)
  · rw [zht, hx, List.take_of_length_le (by rw [jv, hn]; exact Nat.le_refl _), List.drop_eq_nil_of_le (by rw [jv, hn]; omega), List.append_nil]
structure BSt where
  i : Nat
  t : Heap
  ms : List (MK × Value)
theorem zt2 {es : List Ed} {i : Nat} {e : Ed} (he : es[i]? = some e) (hq : e.src = e.dst) : zgz (fun d => zdp es d i) e.src i = fun d => zdp es d (i + 1) := by
  funext d
  have hb : zp7 es d i = atE d e := by unfold zp7; rw [he]
  unfold zgz
  by_cases hd : d = e.src
  · rw [if_pos hd, zkz (by rw [hb]; simp [atE, hd])]
  · rw [if_neg hd, zxe (by rw [hb]; simp [atE, Ne.symm hd]; rw [← hq]; exact Ne.symm hd)]
theorem zx4 {es : List Ed} {i : Nat} {e : Ed} (he : es[i]? = some e) (hq : ¬ e.dst = e.src) : zgz (zgz (fun d => zdp es d i) e.src i) e.dst i = fun d => zdp es d (i + 1) := by
  funext d
  have hb : zp7 es d i = atE d e := by unfold zp7; rw [he]
  unfold zgz
  by_cases hd : d = e.src
  · rw [if_neg (fun e2 => hq (e2.symm.trans hd)), if_pos hd, zkz (by rw [hb]; simp [atE, hd])]
  · by_cases hd2 : d = e.dst
    · rw [if_pos hd2, if_neg hd, zkz (by rw [hb]; simp [atE, hd2])]
    · rw [if_neg hd2, if_neg hd, zxe (by rw [hb]; simp [atE, Ne.symm hd, Ne.symm hd2])]
theorem zrf {σ : Heap} {lo l2 : Nat} {Z Y : Ob} (h : σ lo = some Z) (hl : σ l2 = none) : upd σ l2 Y lo = some Z := by
  rw [zb _ _ (fun e => by subst e; rw [h] at hl; cases hl)]; exact h
theorem zre {σ : Heap} {lo l2 : Nat} {Z Y : Ob} (hne : l2 ≠ lo) (h : σ lo = some Z) : upd σ l2 Y lo = some Z := by
  rw [zb _ _ (Ne.symm hne)]; exact h
set_option maxHeartbeats 1000000 in
theorem zz1 {σ : Heap} {ns : List CV} {es : List Ed} {a b : Int} (hl : es.length ≤ 1000) : CRun Tryz.prog 74 [.agg [.vec ns, .vec (eds es), i64 a, i64 b]] σ (fun out => ∃ lm τ ms, BesI σ lm (zgu es) τ ms ∧ out = .ret (.map lm) τ) := by
  have e3 := ye es
  refine ZG [24,39] Tryz.func74 Tryz.ntmps74 ?_
  conv => whnf
  repeat' (first | (refine AllocN.go (fun l hlm => ?_)) | refine Zi ?_ | refine Za ?_ | refine Zb ?_ | refine Zc ?_ | refine Zd ?_ | refine Ze ?_ | refine Zg ?_ | refine Zv (fun h => ?_) (fun h => ?_) | refine Zj ?_ | refine Zk ?_ | refine Zl ?_ | refine Zm ?_ | refine Zn ?_ | refine Zo ?_ | refine Zp ?_ | refine Zq ?_ | refine Zu (fun l hl => ?_) | refine Zr ?_) <;> try (conv => whnf)
  have hz : BesI σ l (fun d => zdp es d 0) (upd σ l (.mp false [])) [] := ⟨(Sub.refl σ).upd hlm, hlm, za _ _ _, fun d => .inl ⟨rfl, rfl⟩, fun _ _ _ _ _ _ _ _ _ h => by cases h⟩
  refine LoopN.rule (α := BSt) (fun s => ⟨42, [(1, .ptr (.f 1) 0), (3, .map l), (8, .vec (eds es)), (9, i64 (eds es).length), (10, i64 s.i)], [(1, .cells [.vec ns, .vec (eds es), i64 a, i64 b])]⟩)
    (fun s => s.t) (fun s => es.length - s.i) (fun s => s.i ≤ es.length ∧ BesI σ l (fun d => zdp es d s.i) s.t s.ms) ?_ ⟨0, _, []⟩ ⟨by dsimp only; omega, hz⟩ ?_
  rotate_left
  · exact ZW
  rintro ⟨i, τ, ms⟩ K ⟨i1, hB⟩ hK
  dsimp only at i1 hB ⊢
  by_cases hi : i < es.length
  · obtain ⟨d, k, a', b', ps, hm, hg, hx, -⟩ := qp hi
    have hlen0 : (zdp es a' i).length ≤ i := zp6
    by_cases hq : b' = a'
    · have hF2 := zt2 (es := es) (i := i) hg hq.symm
      dsimp only at hF2
      rcases hB.ent a' with ⟨hf, hF⟩ | ⟨j, l1, n, cap, hf, hn, hF, h4, h5, h6⟩
      · conv => whnf
        repeat' (first | (refine MapN.go ?_ hf) | (refine ElemN.go ?_ (h := hx)) | (refine AllocC.go (fun l2 cap2 hl2 hcap2 => ?_)) | (refine GetN.go ?_ (h := hB.at_)) | (refine GetN.go ?_ (h := zrf hB.at_ ‹_›)) | (refine Need.go ?_ (h := ⟨Nat.le_of_ble_eq_true rfl, Nat.le_of_ble_eq_true rfl, ElsOk.one rfl rfl⟩)) | refine Zi ?_ | refine Za ?_ | refine Zb ?_ | refine Zc ?_ | refine Zd ?_ | refine Ze ?_ | refine Zg ?_ | refine Zv (fun h => ?_) (fun h => ?_) | refine Zj ?_ | refine Zk ?_ | refine Zl ?_ | refine Zm ?_ | refine Zn ?_ | refine Zo ?_ | refine Zp ?_ | refine Zq ?_ | refine Zu (fun l hl => ?_) | refine Zr ?_) <;> try (conv => whnf)
        all_goals
          have hB2 := zdq (i := i) (cap := cap2) hB hf hF hl2
          rw [hF2] at hB2
          refine hK ⟨i + 1, _, _⟩ _ _ ⟨by dsimp only; omega, hB2⟩ (by dsimp only; omega) ?_
          exact ZW
      · have hxl : (qy (zdp es a' i)).length = n := by rw [jv]; exact hn.symm
        have hn' : n = (zdp es a' i).length := hn
        conv => whnf
        repeat' (first | (refine MapN.go ?_ hf) | (refine ElemN.go ?_ (h := hx)) | (refine AllocC.go (fun l2 cap2 hl2 hcap2 => ?_)) | (refine GetN.go ?_ (h := hB.at_)) | (refine GetN.go ?_ (h := h6)) | (refine GetN.go ?_ (h := zrf hB.at_ ‹_›)) | (refine GetN.go ?_ (h := zre h5 hB.at_)) | (refine Need.go ?_ (h := ⟨rfl, Nat.le_of_eq hxl.symm, by simp only [List.length_cons, List.length_nil]; omega, by simp only [List.length_cons, List.length_nil]; omega, ElsOk.one rfl rfl⟩)) | refine Zi ?_ | refine Za ?_ | refine Zb ?_ | refine Zc ?_ | refine Zd ?_ | refine Ze ?_ | refine Zg ?_ | refine Zv (fun h => ?_) (fun h => ?_) | refine Zj ?_ | refine Zk ?_ | refine Zl ?_ | refine Zm ?_ | refine Zn ?_ | refine Zo ?_ | refine Zp ?_ | refine Zq ?_ | refine Zu (fun l hl => ?_) | refine Zr ?_) <;> try (conv => whnf)
        all_goals first
          | (refine hK ⟨i + 1, _, _⟩ _ _ ⟨by dsimp only; omega, hF2 ▸ zbu (i := i) (cap := cap2) hB hf hn hl2 rfl⟩ (by dsimp only; omega) ?_; exact ZW)
          | (refine hK ⟨i + 1, _, _⟩ _ _ ⟨by dsimp only; omega, hF2 ▸ zgt (i := i) hB hf hn h4 h5 rfl⟩ (by dsimp only; omega) ?_; exact ZW)
    · have hF2 := zx4 (es := es) (i := i) hg hq
      dsimp only at hF2
      have hlen1 : (zdp es b' i).length ≤ i := zp6
      have hlen2 : (zgz (fun d => zdp es d i) a' i b').length ≤ i + 1 := by unfold zgz; split <;> simp <;> omega
      rcases hB.ent a' with ⟨hf, hF⟩ | ⟨j, l1, n, cap, hf, hn, hF, h4, h5, h6⟩
      · conv => whnf
        repeat' (first | (refine MapN.go ?_ hf) | (refine ElemN.go ?_ (h := hx)) | (refine AllocC.go (fun l2 cap2 hl2 hcap2 => ?_)) | (refine GetN.go ?_ (h := hB.at_)) | (refine GetN.go ?_ (h := zrf hB.at_ ‹_›)) | (refine Need.go ?_ (h := ⟨Nat.le_of_ble_eq_true rfl, Nat.le_of_ble_eq_true rfl, ElsOk.one rfl rfl⟩)) | refine Zi ?_ | refine Za ?_ | refine Zb ?_ | refine Zc ?_ | refine Zd ?_ | refine Ze ?_ | refine Zg ?_ | refine Zv (fun h => ?_) (fun h => ?_) | refine Zj ?_ | refine Zk ?_ | refine Zl ?_ | refine Zm ?_ | refine Zn ?_ | refine Zo ?_ | refine Zp ?_ | refine Zq ?_ | refine Zu (fun l hl => ?_) | refine Zr ?_) <;> try (conv => whnf)
        have hB2 := zdq (i := i) (cap := cap2) hB hf hF hl2
        rcases hB2.ent b' with ⟨gf, gF⟩ | ⟨j2, l3, n2, cp, gf, gn, gF, g4, g5, g6⟩
        · conv => whnf
          repeat' (first | (refine MapN.go ?_ gf) | (refine AllocC.go (fun l4 cap4 hl4 hcap4 => ?_)) | (refine GetN.go ?_ (h := hB2.at_)) | (refine GetN.go ?_ (h := zrf hB2.at_ ‹_›)) | (refine Need.go ?_ (h := ⟨Nat.le_of_ble_eq_true rfl, Nat.le_of_ble_eq_true rfl, ElsOk.one rfl rfl⟩)) | refine Zi ?_ | refine Za ?_ | refine Zb ?_ | refine Zc ?_ | refine Zd ?_ | refine Ze ?_ | refine Zg ?_ | refine Zv (fun h => ?_) (fun h => ?_) | refine Zj ?_ | refine Zk ?_ | refine Zl ?_ | refine Zm ?_ | refine Zn ?_ | refine Zo ?_ | refine Zp ?_ | refine Zq ?_ | refine Zu (fun l hl => ?_) | refine Zr ?_) <;> try (conv => whnf)
          all_goals (refine hK ⟨i + 1, _, _⟩ _ _ ⟨by dsimp only; omega, hF2 ▸ zdq (i := i) (cap := cap4) hB2 gf gF hl4⟩ (by dsimp only; omega) ?_; exact ZW)
        · have gxl : (qy (zgz (fun d => zdp es d i) a' i b')).length = n2 := by rw [jv]; exact gn.symm
          have gn' : n2 = (zgz (fun d => zdp es d i) a' i b').length := gn
          conv => whnf
          repeat' (first | (refine MapN.go ?_ gf) | (refine AllocC.go (fun l4 cap4 hl4 hcap4 => ?_)) | (refine GetN.go ?_ (h := hB2.at_)) | (refine GetN.go ?_ (h := g6)) | (refine GetN.go ?_ (h := zrf hB2.at_ ‹_›)) | (refine GetN.go ?_ (h := zre g5 hB2.at_)) | (refine Need.go ?_ (h := ⟨rfl, Nat.le_of_eq gxl.symm, by simp only [List.length_cons, List.length_nil]; omega, by simp only [List.length_cons, List.length_nil]; omega, ElsOk.one rfl rfl⟩)) | refine Zi ?_ | refine Za ?_ | refine Zb ?_ | refine Zc ?_ | refine Zd ?_ | refine Ze ?_ | refine Zg ?_ | refine Zv (fun h => ?_) (fun h => ?_) | refine Zj ?_ | refine Zk ?_ | refine Zl ?_ | refine Zm ?_ | refine Zn ?_ | refine Zo ?_ | refine Zp ?_ | refine Zq ?_ | refine Zu (fun l hl => ?_) | refine Zr ?_) <;> try (conv => whnf)
          all_goals first
            | (refine hK ⟨i + 1, _, _⟩ _ _ ⟨by dsimp only; omega, hF2 ▸ zbu (i := i) (cap := cap4) hB2 gf gn hl4 rfl⟩ (by dsimp only; omega) ?_; exact ZW)
            | (refine hK ⟨i + 1, _, _⟩ _ _ ⟨by dsimp only; omega, hF2 ▸ zgt (i := i) hB2 gf gn g4 g5 rfl⟩ (by dsimp only; omega) ?_; exact ZW)
      · have hxl : (qy (zdp es a' i)).length = n := by rw [jv]; exact hn.symm
        have hn' : n = (zdp es a' i).length := hn
        by_cases hroom : n + 1 ≤ cap
        · conv => whnf
          repeat' (first | (refine MapN.go ?_ hf) | (refine ElemN.go ?_ (h := hx)) | (refine AllocC.go (fun l2 cap2 hl2 hcap2 => ?_)) | (refine GetN.go ?_ (h := hB.at_)) | (refine GetN.go ?_ (h := h6)) | (refine GetN.go ?_ (h := zrf hB.at_ ‹_›)) | (refine GetN.go ?_ (h := zre h5 hB.at_)) | (refine Need.go ?_ (h := ⟨rfl, Nat.le_of_eq hxl.symm, by simp only [List.length_cons, List.length_nil]; omega, by simp only [List.length_cons, List.length_nil]; omega, ElsOk.one rfl rfl⟩)) | refine Zi ?_ | refine Za ?_ | refine Zb ?_ | refine Zc ?_ | refine Zd ?_ | refine Ze ?_ | refine Zg ?_ | refine Zv (fun h => ?_) (fun h => ?_) | refine Zj ?_ | refine Zk ?_ | refine Zl ?_ | refine Zm ?_ | refine Zn ?_ | refine Zo ?_ | refine Zp ?_ | refine Zq ?_ | refine Zu (fun l hl => ?_) | refine Zr ?_) <;> try (conv => whnf)
          have hB2 := zgt (i := i) hB hf hn h4 h5 rfl
          rcases hB2.ent b' with ⟨gf, gF⟩ | ⟨j2, l3, n2, cp, gf, gn, gF, g4, g5, g6⟩
          · conv => whnf
            repeat' (first | (refine MapN.go ?_ gf) | (refine AllocC.go (fun l4 cap4 hl4 hcap4 => ?_)) | (refine GetN.go ?_ (h := hB2.at_)) | (refine GetN.go ?_ (h := zrf hB2.at_ ‹_›)) | (refine Need.go ?_ (h := ⟨Nat.le_of_ble_eq_true rfl, Nat.le_of_ble_eq_true rfl, ElsOk.one rfl rfl⟩)) | refine Zi ?_ | refine Za ?_ | refine Zb ?_ | refine Zc ?_ | refine Zd ?_ | refine Ze ?_ | refine Zg ?_ | refine Zv (fun h => ?_) (fun h => ?_) | refine Zj ?_ | refine Zk ?_ | refine Zl ?_ | refine Zm ?_ | refine Zn ?_ | refine Zo ?_ | refine Zp ?_ | refine Zq ?_ | refine Zu (fun l hl => ?_) | refine Zr ?_) <;> try (conv => whnf)
            all_goals (refine hK ⟨i + 1, _, _⟩ _ _ ⟨by dsimp only; omega, hF2 ▸ zdq (i := i) (cap := cap4) hB2 gf gF hl4⟩ (by dsimp only; omega) ?_; exact ZW)
          · have gxl : (qy (zgz (fun d => zdp es d i) a' i b')).length = n2 := by rw [jv]; exact gn.symm
            have gn' : n2 = (zgz (fun d => zdp es d i) a' i b').length := gn
            conv => whnf
            repeat' (first | (refine MapN.go ?_ gf) | (refine AllocC.go (fun l4 cap4 hl4 hcap4 => ?_)) | (refine GetN.go ?_ (h := hB2.at_)) | (refine GetN.go ?_ (h := g6)) | (refine GetN.go ?_ (h := zrf hB2.at_ ‹_›)) | (refine GetN.go ?_ (h := zre g5 hB2.at_)) | (refine Need.go ?_ (h := ⟨rfl, Nat.le_of_eq gxl.symm, by simp only [List.length_cons, List.length_nil]; omega, by simp only [List.length_cons, List.length_nil]; omega, ElsOk.one rfl rfl⟩)) | refine Zi ?_ | refine Za ?_ | refine Zb ?_ | refine Zc ?_ | refine Zd ?_ | refine Ze ?_ | refine Zg ?_ | refine Zv (fun h => ?_) (fun h => ?_) | refine Zj ?_ | refine Zk ?_ | refine Zl ?_ | refine Zm ?_ | refine Zn ?_ | refine Zo ?_ | refine Zp ?_ | refine Zq ?_ | refine Zu (fun l hl => ?_) | refine Zr ?_) <;> try (conv => whnf)
            all_goals first
              | (refine hK ⟨i + 1, _, _⟩ _ _ ⟨by dsimp only; omega, hF2 ▸ zbu (i := i) (cap := cap4) hB2 gf gn hl4 rfl⟩ (by dsimp only; omega) ?_; exact ZW)
              | (refine hK ⟨i + 1, _, _⟩ _ _ ⟨by dsimp only; omega, hF2 ▸ zgt (i := i) hB2 gf gn g4 g5 rfl⟩ (by dsimp only; omega) ?_; exact ZW)
        · conv => whnf
          repeat' (first | (refine MapN.go ?_ hf) | (refine ElemN.go ?_ (h := hx)) | (refine AllocC.go (fun l2 cap2 hl2 hcap2 => ?_)) | (refine GetN.go ?_ (h := hB.at_)) | (refine GetN.go ?_ (h := h6)) | (refine GetN.go ?_ (h := zrf hB.at_ ‹_›)) | (refine GetN.go ?_ (h := zre h5 hB.at_)) | (refine Need.go ?_ (h := ⟨rfl, Nat.le_of_eq hxl.symm, by simp only [List.length_cons, List.length_nil]; omega, by simp only [List.length_cons, List.length_nil]; omega, ElsOk.one rfl rfl⟩)) | refine Zi ?_ | refine Za ?_ | refine Zb ?_ | refine Zc ?_ | refine Zd ?_ | refine Ze ?_ | refine Zg ?_ | refine Zv (fun h => ?_) (fun h => ?_) | refine Zj ?_ | refine Zk ?_ | refine Zl ?_ | refine Zm ?_ | refine Zn ?_ | refine Zo ?_ | refine Zp ?_ | refine Zq ?_ | refine Zu (fun l hl => ?_) | refine Zr ?_) <;> try (conv => whnf)
          have hB2 := zbu (i := i) (cap := cap2) hB hf hn hl2 rfl
          rcases hB2.ent b' with ⟨gf, gF⟩ | ⟨j2, l3, n2, cp, gf, gn, gF, g4, g5, g6⟩
          · conv => whnf
            repeat' (first | (refine MapN.go ?_ gf) | (refine AllocC.go (fun l4 cap4 hl4 hcap4 => ?_)) | (refine GetN.go ?_ (h := hB2.at_)) | (refine GetN.go ?_ (h := zrf hB2.at_ ‹_›)) | (refine Need.go ?_ (h := ⟨Nat.le_of_ble_eq_true rfl, Nat.le_of_ble_eq_true rfl, ElsOk.one rfl rfl⟩)) | refine Zi ?_ | refine Za ?_ | refine Zb ?_ | refine Zc ?_ | refine Zd ?_ | refine Ze ?_ | refine Zg ?_ | refine Zv (fun h => ?_) (fun h => ?_) | refine Zj ?_ | refine Zk ?_ | refine Zl ?_ | refine Zm ?_ | refine Zn ?_ | refine Zo ?_ | refine Zp ?_ | refine Zq ?_ | refine Zu (fun l hl => ?_) | refine Zr ?_) <;> try (conv => whnf)
            all_goals (refine hK ⟨i + 1, _, _⟩ _ _ ⟨by dsimp only; omega, hF2 ▸ zdq (i := i) (cap := cap4) hB2 gf gF hl4⟩ (by dsimp only; omega) ?_; exact ZW)
          · have gxl : (qy (zgz (fun d => zdp es d i) a' i b')).length = n2 := by rw [jv]; exact gn.symm
            have gn' : n2 = (zgz (fun d => zdp es d i) a' i b').length := gn
            conv => whnf
            repeat' (first | (refine MapN.go ?_ gf) | (refine AllocC.go (fun l4 cap4 hl4 hcap4 => ?_)) | (refine GetN.go ?_ (h := hB2.at_)) | (refine GetN.go ?_ (h := g6)) | (refine GetN.go ?_ (h := zrf hB2.at_ ‹_›)) | (refine GetN.go ?_ (h := zre g5 hB2.at_)) | (refine Need.go ?_ (h := ⟨rfl, Nat.le_of_eq gxl.symm, by simp only [List.length_cons, List.length_nil]; omega, by simp only [List.length_cons, List.length_nil]; omega, ElsOk.one rfl rfl⟩)) | refine Zi ?_ | refine Za ?_ | refine Zb ?_ | refine Zc ?_ | refine Zd ?_ | refine Ze ?_ | refine Zg ?_ | refine Zv (fun h => ?_) (fun h => ?_) | refine Zj ?_ | refine Zk ?_ | refine Zl ?_ | refine Zm ?_ | refine Zn ?_ | refine Zo ?_ | refine Zp ?_ | refine Zq ?_ | refine Zu (fun l hl => ?_) | refine Zr ?_) <;> try (conv => whnf)
            all_goals first
              | (refine hK ⟨i + 1, _, _⟩ _ _ ⟨by dsimp only; omega, hF2 ▸ zbu (i := i) (cap := cap4) hB2 gf gn hl4 rfl⟩ (by dsimp only; omega) ?_; exact ZW)
              | (refine hK ⟨i + 1, _, _⟩ _ _ ⟨by dsimp only; omega, hF2 ▸ zgt (i := i) hB2 gf gn g4 g5 rfl⟩ (by dsimp only; omega) ?_; exact ZW)
  · have he : i = es.length := by omega
    subst he
    conv => whnf
    repeat' (first | refine Zi ?_ | refine Za ?_ | refine Zb ?_ | refine Zc ?_ | refine Zd ?_ | refine Ze ?_ | refine Zg ?_ | refine Zv (fun h => ?_) (fun h => ?_) | refine Zj ?_ | refine Zk ?_ | refine Zl ?_ | refine Zm ?_ | refine Zn ?_ | refine Zo ?_ | refine Zp ?_ | refine Zq ?_ | refine Zu (fun l hl => ?_) | refine Zr ?_) <;> try (conv => whnf)
    all_goals exact ⟨l, τ, ms, hB, rfl⟩
end Go.Proofs.YtlamgfimgadnmaaGreat
