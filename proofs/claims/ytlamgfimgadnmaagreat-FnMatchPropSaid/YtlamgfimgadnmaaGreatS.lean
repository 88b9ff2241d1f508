/-
  Contracts of the functions that the law reaches.
-/
import Derived.Test.YtlamgfimgadnmaaGreatR
set_option linter.unusedVariables false
set_option linter.unusedSimpArgs false
namespace Go.Proofs.YtlamgfimgadnmaaGreat
open Go Go.CL
set_option maxRecDepth 10000
theorem UsedI.add {us : List Int} {m : List (MK × Value)} {d : Int} (h : UsedI us m) (hf : ze (.i d) m 0 = none) : UsedI (d :: us) (m ++ [(.i d, .int .i64 1)]) := by
  intro x
  by_cases hx : x = d
  · subst hx
    exact .inr (.inl ⟨_, zcm hf, by simp⟩)
  · rw [zbi (zsx hx)]
    simpa [hx] using h x
theorem UsedI.set1 {us : List Int} {m : List (MK × Value)} {d : Int} {j : Nat} {v : Value} (h : UsedI us m) (hf : ze (.i d) m 0 = some (j, v)) : UsedI (d :: us) (m.set j (.i d, .int .i64 1)) := by
  intro x
  by_cases hx : x = d
  · subst hx
    have := kv (v := .int .i64 1) hf
    rw [Nat.sub_zero] at this
    exact .inr (.inl ⟨_, this, by simp⟩)
  · have := jx (v := .int .i64 1) (zsx hx) hf
    rw [Nat.sub_zero] at this
    rw [this]
    simpa [hx] using h x
theorem UsedI.set0 {us : List Int} {m : List (MK × Value)} {d : Int} {j : Nat} {v : Value} (h : UsedI (d :: us) m) (hn : ¬ d ∈ us) (hf : ze (.i d) m 0 = some (j, v)) : UsedI us (m.set j (.i d, .int .i64 0)) := by
  intro x
  by_cases hx : x = d
  · subst hx
    have := kv (v := .int .i64 0) hf
    rw [Nat.sub_zero] at this
    exact .inr (.inr ⟨_, this, hn⟩)
  · have := jx (v := .int .i64 0) (zsx hx) hf
    rw [Nat.sub_zero] at this
    rw [this]
    simpa [hx] using h x
theorem UsedI.has {us : List Int} {m : List (MK × Value)} {d : Int} (h : UsedI (d :: us) m) : ∃ j, ze (.i d) m 0 = some (j, .int .i64 1) := by
  rcases h d with ⟨_, h2⟩ | ⟨j, h1, _⟩ | ⟨j, _, h2⟩
  · exact (h2 (by simp)).elim
  · exact ⟨j, h1⟩
  · exact (h2 (by simp)).elim
theorem zqw {d : Int} : ∀ (l : List Int) (k : Nat), zq l d k = -1 ∨ ∃ i : Nat, l[i]? = some d ∧ zq l d k = (k : Int) + i
  | [], k => .inl rfl
  | x :: r, k => by
    unfold zq
    by_cases hx : x = d
    · rw [if_pos hx]; exact .inr ⟨0, by simp [hx], by simp⟩
    · rw [if_neg hx]
      rcases zqw r (k + 1) with h | ⟨i, h1, h2⟩
      · exact .inl h
      · exact .inr ⟨i + 1, by simpa using h1, by rw [h2]; omega⟩
theorem zu6 {ns : List Nd} {d : Int} (h : 0 ≤ zq (ve ns) d 0) : ∃ (i : Nat) (n : Nd), zq (ve ns) d 0 = i ∧ ns[i]? = some n ∧ n.id = d := by
  rcases zqw (d := d) (ve ns) 0 with h1 | ⟨i, h1, h2⟩
  · omega
  · unfold ve at h1
    rw [List.getElem?_map] at h1
    cases hn : ns[i]? with
    | none => rw [hn] at h1; cases h1
    | some n =>
      rw [hn] at h1
      exact ⟨i, n, by rw [h2]; simp, hn, by simpa using h1⟩
theorem zwz {g : Gr} (h : zn g = true) {e : Ed} (he : e ∈ g.edges) : 0 ≤ zq (ve g.nodes) e.src 0 ∧ 0 ≤ zq (ve g.nodes) e.dst 0 := by
  unfold zn at h
  simp only [Bool.and_eq_true, decide_eq_true_eq] at h
  obtain ⟨_, _, _, _, h6⟩ := h
  have := List.all_eq_true.1 h6 e he
  unfold yo at this
  simp only [Bool.and_eq_true, decide_eq_true_eq] at this
  exact ⟨this.2.2.1, this.2.2.2⟩
theorem z03 {g : Gr} (h : zn g = true) {e : Ed} (he : e ∈ g.edges) (d : Int) : ∃ (i : Nat) (n : Nd), zq (ve g.nodes) (zoc e d) 0 = i ∧ g.nodes[i]? = some n ∧ n.id = zoc e d := by
  obtain ⟨h1, h2⟩ := zwz h he
  refine zu6 ?_
  unfold zoc
  split
  · exact h2
  · exact h1
theorem WStat.arr {g : Gr} {given : List Pr} {S : List Stp} {lx ln lu : Nat} {ms : List (MK × Value)} {τ : Heap} (h : WStat g given S lx ln lu ms τ) {d : Int} {j l n cap : Nat} (hf : ze (.i d) ms 0 = some (j, slV l n cap)) : τ l = some (.arr 3 1 cap (qy (zgu g.edges d))) := by
  rcases h.e d with ⟨h1, _⟩ | ⟨j', l', n', cap', h1, _, _, _, h5⟩
  · rw [h1] at hf; cases hf
  · rw [h1] at hf
    obtain ⟨e1, -, e3⟩ := zft (Prod.mk.inj (Option.some.inj hf)).2
    subst e1; subst e3
    exact h5
theorem zyt {l : List Nat} {k i : Nat} (h : l[k]? = some i) : (qy l)[k]? = some (i64 i) := by unfold qy; rw [List.getElem?_map, h]; rfl
section
variable {g : Gr} {given : List Pr} {S : List Stp} {lx ln lu : Nat} {ms : List (MK × Value)} {l : Nat} {all : List (List Pr)} {J : List (List Pr) → Heap → Prop} {KP : Heap → Prop}
theorem z68 (s1 s2 : ByteArray) (row : List Pr) (v w : Val) : (yg (yg row s1 v) s2 w).length ≤ row.length + 2 := by
  have h1 := jz (row := row) (s := s1) (v := v)
  have h2 := jz (row := yg row s1 v) (s := s2) (v := w)
  omega
end
end Go.Proofs.YtlamgfimgadnmaaGreat
