/-
  A symbolic run of the model, its soundness, and steps by which it is used.
-/
import Derived.Test.YtlamgfimgadnmaaGreatFwb
import Derived.KernelRfl
import Derived.ProofKit
import Derived.OpenShut
import Derived.Deep.DeepHandedRow
import Derived.ChangeSlices
import Derived.Defers
import Derived.Recover
import Derived.RangeFuncNested
import Derived.LoopNIn
import Derived.RangeFuncLeaves
import Derived.RangeFuncRecord
set_option linter.unusedVariables false
set_option linter.unusedSimpArgs false
namespace Go.CL
open Go
theorem LoopN.rule {α : Type} {body : Fr → Heap → (Xt → Fr → Heap → Prop) → Prop} {Q : Xt → Fr → Heap → Prop} (I : α → Fr) (H : α → Heap) (m : α → Nat) (ok : α → Prop)
    (step : ∀ (a : α) (K : Fr → Heap → Prop), ok a → (∀ a' fr σ, ok a' → m a' < m a → Wk fr σ (I a') (H a') → K fr σ) → body (I a) (H a) (fun e fr σ => match e with
      | .normal => K fr σ
      | e => Q e fr σ)) {fr : Fr} {σ : Heap} (a : α) (ha : ok a) (hw : Wk fr σ (I a) (H a)) : LoopN body Q fr σ := by
  have key : ∀ (n : Nat) (a : α), ok a → m a < n → ∀ fr σ, Wk fr σ (I a) (H a) → zvj body Q n fr σ := by
    intro n
    induction n with
    | zero => intro a _ h; omega
    | succ n ih =>
      intro a ha hn fr σ hw
      exact ⟨I a, H a, hw, step a _ ha fun a' fr σ ha' hm hw => ih a' ha' (by omega) fr σ hw⟩
  exact ⟨⟨m a + 1, key _ a ha (by omega) fr σ hw⟩⟩
theorem EnvLe.of {l l' : List (Nat × Ob)} {env : List (Nat × CV)} : ∀ (env' : List (Nat × CV)), (∀ p ∈ env', CVle l l' (look env p.1) p.2) → EnvLe l l' env env'
  | [], _ => .nil
  | p :: r, h => .cons p.1 p.2 r (h p (by simp)) (EnvLe.of r fun q hq => h q (by simp [hq]))
def Each (P : CV → Prop) : List CV → Prop
  | [] => True
  | x :: r => P x ∧ Each P r
theorem Each.all {P : CV → Prop} : ∀ {l : List CV}, Each P l → ∀ x ∈ l, P x
  | [], _, x, h => by simp at h
  | y :: r, h, x, hx => by
    rcases List.mem_cons.1 hx with rfl | hx
    · exact h.1
    · exact Each.all h.2 x hx
theorem ElsOk.nil {n : Nat} : ElsOk n [] := fun x h => by simp at h
theorem ElsOk.cons {n : Nat} {x : CV} {r : List CV} (h1 : x.cells.length = n) (h2 : x.cells.all CV.one = true) (h : ElsOk n r) : ElsOk n (x :: r) := fun y hy => by
  rcases List.mem_cons.1 hy with rfl | hy
  · exact ⟨h1, h2⟩
  · exact h y hy
theorem ElsOk.one {n : Nat} {x : CV} (h1 : x.cells.length = n) (h2 : x.cells.all CV.one = true) : ElsOk n [x] := .cons h1 h2 .nil
theorem ElemN.any {P : CV → Prop} {xs : List CV} {i : Nat} {k : CV → Prop} (H : ∀ x ∈ xs, P x) (hi : i < xs.length) (h : ∀ x, P x → k x) : ElemN xs i k :=
  ⟨⟨xs[i], List.getElem?_eq_getElem hi, h _ (H _ (List.getElem_mem hi))⟩⟩
theorem CRun.mono {P : Program} {f : FuncId} {args : List CV} {σ : Heap} {p q : COut → Prop} (h : CRun P f args σ p) (hi : ∀ out, p out → q out) : CRun P f args σ q :=
  ⟨h.1, fun M own w vals h1 h2 h3 => (h.2 M own w vals h1 h2 h3).mono fun _ _ ⟨out, M', own', hp, hr⟩ => ⟨out, M', own', hi out hp, hr⟩⟩
theorem xe (σ : Heap) (l : Nat) (a b : Ob) : upd (upd σ l a) l b = upd σ l b := by
  funext x; simp only [upd]; split <;> rfl
theorem zie (σ : Heap) {l k : Nat} (a b : Ob) (h : l ≠ k) : upd (upd σ l a) k b = upd (upd σ k b) l a := by
  funext x; simp only [upd]; split <;> split <;> simp_all
theorem Need.go {c T : Prop} (t : T) (h : c := by first | (simp only [inR]; omega) | omega | (simp; done) | (simp; omega) | assumption | exact rfl | exact ⟨by omega, by omega, by omega, .inl rfl⟩) : Need c T := ⟨h, t⟩
theorem Need.draw {ops : Array Oper} {ord : List Nat} {ds : List Did} {n m k : Nat} {T : Prop} (t : T) (h : yh ops ord ds n = true := by kernel_rfl) (h' : m = k := by kernel_rfl) :
    Need (yh ops ord ds n = true ∧ m = k) T := ⟨⟨h, h'⟩, t⟩
theorem Need.ap0 {y : CV} {te : TI} {T : Prop} (t : T) (h : z6h te.size y := by exact ⟨rfl, rfl⟩) (h1 : te.bytes ≤ 140737488355328 := by exact Nat.le_of_ble_eq_true rfl) : Need (1 ≤ [y].length ∧ [y].length * te.bytes ≤ 140737488355328 ∧ [y].length ≤ 9223372036854775807 ∧ ElsOk te.size [y]) T :=
  ⟨⟨Nat.le_refl _, by simpa using h1, by simp, ElsOk.one h.1 h.2⟩, t⟩
theorem Need.ap1 {n : Nat} {xs : List CV} {y : CV} {te : TI} {T : Prop} (t : T) (h : z6h te.size y := by exact ⟨rfl, rfl⟩) (h1 : (xs.length + 1) * te.bytes ≤ 140737488355328 ∧ xs.length + 1 ≤ 9223372036854775807 := by simp only []; omega) (h2 : n = xs.length := by rfl) :
    Need (n = xs.length ∧ 1 ≤ [y].length ∧ (xs.length + [y].length) * te.bytes ≤ 140737488355328 ∧ xs.length + [y].length ≤ 9223372036854775807 ∧ ElsOk te.size [y]) T :=
  ⟨⟨h2, Nat.le_refl _, h1.1, h1.2, ElsOk.one h.1 h.2⟩, t⟩
theorem Need.ap2 {n : Nat} {xs ys : List CV} {te : TI} {T : Prop} (t : T) (h : ElsOk te.size ys := by assumption) (h1 : (xs.length + ys.length) * te.bytes ≤ 140737488355328 ∧ xs.length + ys.length ≤ 9223372036854775807 := by simp only []; omega) (h3 : 1 ≤ ys.length := by omega) (h2 : n = xs.length := by rfl) :
    Need (n = xs.length ∧ 1 ≤ ys.length ∧ (xs.length + ys.length) * te.bytes ≤ 140737488355328 ∧ xs.length + ys.length ≤ 9223372036854775807 ∧ ElsOk te.size ys) T :=
  ⟨⟨h2, h3, h1.1, h1.2, h⟩, t⟩
theorem Fork.yp {p : Prop} [Decidable p] {T E : Prop} (t : T) (h : p := by first | omega | assumption) : Fork (decide p) T E := .yes (decide_eq_true h) t
theorem Fork.np {p : Prop} [Decidable p] {T E : Prop} (e : E) (h : ¬ p := by first | omega | assumption) : Fork (decide p) T E := .no (decide_eq_false h) e
theorem Fork.ny {p : Prop} [Decidable p] {T E : Prop} (t : T) (h : ¬ p := by first | omega | assumption) : Fork (!decide p) T E := .yes (by rw [decide_eq_false h]; rfl) t
theorem Fork.nn {p : Prop} [Decidable p] {T E : Prop} (e : E) (h : p := by first | omega | assumption) : Fork (!decide p) T E := .no (by rw [decide_eq_true h]; rfl) e
theorem Fork.yb {b : Bool} {T E : Prop} (t : T) (h : b = true := by first | assumption | exact rfl) : Fork b T E := .yes h t
theorem Fork.nb {b : Bool} {T E : Prop} (e : E) (h : b = false := by first | assumption | exact rfl) : Fork b T E := .no h e
theorem GetN.go {σ : Heap} {l : Nat} {k : Ob → Prop} {ob : Ob} (hk : k ob) (h : σ l = some ob := by first | assumption | exact za _ _ _) : GetN σ l k := .of h hk
theorem ElemN.go {xs : List CV} {i : Nat} {k : CV → Prop} {x : CV} (hk : k x) (h : xs[i]? = some x := by first | assumption | exact rfl) : ElemN xs i k := .of h hk
theorem MapN.go {e e' : Option (Nat × Value)} {k : Option (Nat × Value) → Prop} (hk : k e') (h : e = e' := by first | assumption | exact rfl) : MapN e k := ⟨by rw [h]; exact hk⟩
theorem OrdN.go {ops : Array Oper} {ord : List Nat} {n m : Nat} {ds : List Did} {A B : Prop} (h : A) (h1 : zaj ops ord n = true := by kernel_rfl) (h2 : yh ops ord ds m = true := by kernel_rfl) :
    OrdN (zaj ops ord n = true ∧ yh ops ord ds m = true) A B := .many ⟨h1, h2⟩ h
theorem z7d {raw : List CV} {v : CV} {σ : Heap} {post : COut → Prop} (h : post (.ret v σ)) : Fin raw v σ post := .ret σ (Sub.refl _) h
theorem fin0 {raw vs : List CV} {v : CV} {σ : Heap} {post : COut → Prop} (h : post (.ret (zez vs) σ)) (hs : CV.strips0 raw = some vs := by rfl) : Fin raw v σ post := .ret0 σ vs hs (Sub.refl _) h
theorem AllocN.go {σ : Heap} {k : Nat → Prop} (h : ∀ l, σ l = none → k l) : AllocN false σ k := ⟨rfl, h⟩
theorem ZC {det : Bool} {P : Program} {f : FuncId} {raw args : List CV} {σ : Heap} {k : COut → Prop} {out : COut} (h : CRun P f args σ (· = out)) (hk : k out) : CallN det P f raw args σ k := .one h hk
theorem Za {p : Prop} [Decidable p] {T E : Prop} (t : T) (h : p := by first | omega | assumption) : Fork (decide p) T E := .yp t h
theorem Zb {p : Prop} [Decidable p] {T E : Prop} (e : E) (h : ¬ p := by first | omega | assumption) : Fork (decide p) T E := .np e h
theorem Zc {p : Prop} [Decidable p] {T E : Prop} (t : T) (h : ¬ p := by first | omega | assumption) : Fork (!decide p) T E := .ny t h
theorem Zd {p : Prop} [Decidable p] {T E : Prop} (e : E) (h : p := by first | omega | assumption) : Fork (!decide p) T E := .nn e h
theorem Ze {b : Bool} {T E : Prop} (t : T) (h : b = true := by first | assumption | exact rfl) : Fork b T E := .yb t h
theorem Zg {b : Bool} {T E : Prop} (e : E) (h : b = false := by first | assumption | exact rfl) : Fork b T E := .nb e h
theorem Zh {c A B : Prop} (h : B) : OrdN c A B := .one h
theorem Zi {ops : Array Oper} {ord : List Nat} {n m : Nat} {ds : List Did} {A B : Prop} (h : A) (h1 : zaj ops ord n = true := by kernel_rfl) (h2 : yh ops ord ds m = true := by kernel_rfl) : OrdN (zaj ops ord n = true ∧ yh ops ord ds m = true) A B := .go h h1 h2
theorem Zj {σ : Heap} {l : Nat} {k : Ob → Prop} {ob : Ob} (hk : k ob) (h : σ l = some ob := by first | assumption | exact za _ _ _) : GetN σ l k := .of h hk
theorem Zk {n : Nat} {xs : List CV} {y : CV} {te : TI} {T : Prop} (t : T) (h : z6h te.size y := by exact ⟨rfl, rfl⟩) (h1 : (xs.length + 1) * te.bytes ≤ 140737488355328 ∧ xs.length + 1 ≤ 9223372036854775807 := by simp only []; omega) (h2 : n = xs.length := by rfl) :
    Need (n = xs.length ∧ 1 ≤ [y].length ∧ (xs.length + [y].length) * te.bytes ≤ 140737488355328 ∧ xs.length + [y].length ≤ 9223372036854775807 ∧ ElsOk te.size [y]) T := .ap1 t h h1 h2
theorem Zl {y : CV} {te : TI} {T : Prop} (t : T) (h : z6h te.size y := by exact ⟨rfl, rfl⟩) (h1 : te.bytes ≤ 140737488355328 := by exact Nat.le_of_ble_eq_true rfl) : Need (1 ≤ [y].length ∧ [y].length * te.bytes ≤ 140737488355328 ∧ [y].length ≤ 9223372036854775807 ∧ ElsOk te.size [y]) T := .ap0 t h h1
theorem Zm {c T : Prop} (t : T) (h : c := by first | (simp only [inR]; omega) | omega | (simp; done) | (simp; omega) | assumption | exact rfl | exact ⟨by omega, by omega, by omega, .inl rfl⟩) : Need c T := ⟨h, t⟩
theorem Zn {ops : Array Oper} {ord : List Nat} {ds : List Did} {n m k : Nat} {T : Prop} (t : T) (h : yh ops ord ds n = true := by kernel_rfl) (h' : m = k := by kernel_rfl) : Need (yh ops ord ds n = true ∧ m = k) T := ⟨⟨h, h'⟩, t⟩
theorem Zo {xs : List CV} {i : Nat} {k : CV → Prop} {x : CV} (hk : k x) (h : xs[i]? = some x := by first | assumption | exact rfl) : ElemN xs i k := .of h hk
theorem Zp {σ τ : Heap} {K : HE → Prop} (h : K (.ext τ)) (hs : Sub σ τ := by first | exact Sub.refl _ | assumption) : ExtN σ τ K := .ext h hs
theorem Zq {σ τ : Heap} {K : HE → Prop} (h : K (.wr τ)) : ExtN σ τ K := .wr h
theorem Zr {raw : List CV} {v : CV} {σ : Heap} {post : COut → Prop} (h : post (.ret v σ)) : Fin raw v σ post := z7d h
theorem Zu {σ : Heap} {k : Nat → Prop} (h : ∀ l, σ l = none → k l) : AllocN false σ k := ⟨rfl, h⟩
theorem Zv {b : Bool} {p q T E : Prop} (t : p → T) (e : q → E) (hp : (b = true) = p := by first | (simp only [decide_eq_true_eq, decide_eq_false_iff_not, Bool.not_eq_true', Bool.not_eq_false', Bool.or_eq_true, Bool.or_eq_false_iff]; rfl) | rfl)
    (hq : (b = false) = q := by first | (simp only [decide_eq_true_eq, decide_eq_false_iff_not, Bool.not_eq_true', Bool.not_eq_false', Bool.or_eq_true, Bool.or_eq_false_iff]; rfl) | rfl) : Fork b T E := ⟨fun h => t (hp ▸ h), fun h => e (hq ▸ h)⟩
theorem ZW {fr fr' : Fr} {σ σ' : Heap} (h : Wk fr σ fr' σ' := by
  (refine ⟨rfl, ?_, ?_, Sub.refl _⟩ <;> repeat' (first | exact EnvLe.nil | exact LocsLe.nil | refine EnvLe.cons _ _ _ ?_ ?_ | refine LocsLe.cons _ _ _ ?_ ?_ | exact CVle.same _ rfl | exact CVle.vec _ _ | exact CVle.nil | exact CVle.tok _ _ _ rfl rfl | exact ObLe.tok _ _ rfl | exact CVles.nil | refine CVles.cons ?_ ?_ | exact ObLe.same _ rfl rfl | refine ObLe.cells rfl ?_)); all_goals fail) : Wk fr σ fr' σ' := h
end Go.CL
namespace Go.CL
open Go Go.ChangeShapes Go.WideShapes Go.ChangeAt Go.RowKit
def zqx (W : World) : Mem := fun b o => W.cell? ⟨b, o, none⟩
def z4u : Owns := fun _ => none
theorem z7p (W : World) : Rg (zqx W) z4u (fun _ => none) W := ⟨fun _ _ _ h => h, fun l ob h => (by cases h), fun _ _ => rfl⟩
structure Old (W W' : World) : Prop where
  heap : ∀ b, b < W.heap.size → W'.heap[b]? = W.heap[b]?
  os : W'.os = W.os
  output : W'.output = W.output
theorem KExt.old {W W' : World} {M : Mem} {own : Owns} (h : KExt (zqx W) z4u W M own W') : Old W W' := ⟨fun b hb => (h.keep b hb rfl).1, h.os, h.output⟩
theorem Old.kept {W W' : World} (h : Old W W') (may : MemPlace → Prop) : W.keptBut W' may := by
  refine ⟨h.os, h.output, fun i hi => ?_⟩
  rw [h.heap i hi]
  cases e : W.heap[i]? with
  | none => rfl
  | some o =>
    cases o with
    | cells c t fr => exact ⟨rfl, rfl, rfl, fun _ _ => rfl⟩
    | map es clock => exact .inr ⟨rfl, rfl⟩
    | _ => rfl
theorem Old.frozen {W W' : World} (h : Old W W') {a : Addr} (ha : a.block < W.heap.size) : W'.frozen? a = W.frozen? a := by
  unfold World.frozen?; rw [h.heap _ ha]
theorem Old.sameAt {W W' : World} (h : Old W W') {p : MemPlace} (hp : p.block < W.heap.size) : W.sameAt W' p := by
  cases p with
  | cell b off => show World.cell? _ _ = World.cell? _ _; unfold World.cell?; rw [h.heap b hp]
  | map b => exact h.heap b hp
section
variable {H : Type} {enc : TypeId × Value → H} {P : Program}
def zqu (P : Program) (S : List TypeId) (t : TypeId) : Bool := match P.underlying t with
  | some .bool => true
  | some (.int _) => true
  | some .string => true
  | some (.slice e) => S.contains e && Nat.ble 1 (P.cellsOf e)
  | some (.struct fs) => fs.toList.all fun f => S.contains f.type
  | _ => false
theorem zr9 {W W' : World} {S : List TypeId} {held : Bool} (hS : S.all (zqu P S) = true) (hW : Old W W') {sp : Nat → Bool} : ∀ (n : Nat) (t : TypeId) (cs : List Value) (x : DataW H × List MemPlace), t ∈ S →
    DataW.trod enc P W 0 (fun _ => true) held n t cs = some x → (∀ p ∈ x.2, sp p.block = true) → DataW.trod enc P W' 0 sp held n t cs = some x := by
  intro n
  induction n with
  | zero => intro t cs x _ h; simp [DataW.trod] at h
  | succ n ih =>
    intro t cs x ht h hs
    have hlt := DataW.trod_lt _ _ _ _ h
    have hpl := List.all_eq_true.1 hS t ht
    unfold zqu at hpl
    rw [DataW.trod_step] at h ⊢
    unfold DataW.trodStep at h ⊢
    split at h
    case h_1 => exact h
    case h_2 => exact h
    case h_3 => exact h
    case h_4 => exact h
    case h_7 => exact h
    case h_8 e a len cap hu =>
      rw [hu] at hpl
      simp only [Bool.and_eq_true, List.contains_iff_mem] at hpl
      have h1 : 1 ≤ P.cellsOf e := Nat.le_of_ble_eq_true hpl.2
      simp only at h ⊢
      split at h
      · rename_i hc
        rw [if_pos hc]
        simp only [if_true, Option.map_eq_some_iff, Option.bind_eq_some_iff] at h ⊢
        obtain ⟨elems, he, rest, hrest, rfl⟩ := h
        have hlen : elems.length = len := by simpa using mapM_some_length he
        have hrl : rest.length = cap - len := by simpa using mapM_some_length hrest
        have one : ∀ (i : Nat) (y : DataW H × List MemPlace), i < elems.length + rest.length → y ∈ elems ++ rest →
            (W.cells? 0 (a.add (i * P.cellsOf e)) (P.cellsOf e)).bind (DataW.trod enc P W 0 (fun _ => true) held n e) = some y → (W'.cells? 0 (a.add (i * P.cellsOf e)) (P.cellsOf e)).bind (DataW.trod enc P W' 0 sp held n e) = some y := by
          intro i y hi hy hv
          simp only [Option.bind_eq_some_iff] at hv ⊢
          obtain ⟨cs', hc', hy'⟩ := hv
          have hin : ∀ p ∈ y.2, p ∈ (elems ++ rest).flatMap (·.2) := fun p hp => List.mem_flatMap.2 ⟨y, hy, hp⟩
          refine ⟨cs', World.cells?_carry hc' (fun p hp => hW.sameAt (hlt p ?_)), ih e cs' y hpl.1 hy' (fun p hp => hs p (List.mem_append_right _ (hin p hp)))⟩
          obtain ⟨j, hj, rfl⟩ := MemPlace.mem_row.1 hp
          refine List.mem_append_left _ (MemPlace.mem_row.2 ⟨i * P.cellsOf e + j, ?_, ?_⟩)
          · have := Nat.mul_le_mul_right (P.cellsOf e) hi
            have : (i + 1) * P.cellsOf e = i * P.cellsOf e + P.cellsOf e := by rw [Nat.add_mul, Nat.one_mul]
            have : (i + 1) * P.cellsOf e ≤ (elems.length + rest.length) * P.cellsOf e := Nat.mul_le_mul_right _ hi
            omega
          · unfold Addr.add
            split
            · rename_i h0
              simp [h0]
            · simp [Nat.add_assoc]
        refine ⟨elems, mapM_carry he (fun i y hi hy => one i y (by have : i < len := (by simpa using hi); omega) (by simp [hy])), rest, ?_, rfl⟩
        by_cases hsp : sp a.block = true
        · rw [if_pos hsp]
          exact mapM_carry hrest (fun j y hj hy => one (len + j) y (by have : j < cap - len := (by simpa using hj); omega) (by simp [hy]))
        · rw [if_neg hsp]
          have h0 : rest.length = 0 := by
            refine Decidable.byContradiction fun hne => hsp ?_
            refine hs (.cell a.block (a.off + 0)) (List.mem_append_left _ (MemPlace.mem_row.2 ⟨0, ?_, rfl⟩))
            exact Nat.mul_pos (by omega) h1
          rw [List.length_eq_zero_iff.1 h0]
      · cases h
    case h_9 fs hu =>
      rw [hu] at hpl
      split at h
      · rename_i hc
        rw [if_pos hc]
        simp only [Option.map_eq_some_iff] at h ⊢
        obtain ⟨xs, hx, rfl⟩ := h
        exact ⟨xs, mapM_carry hx (fun f y hf hy hv => ih _ _ _ (by have := List.all_eq_true.1 hpl f hf; simpa using this) hv (fun p hp => hs p (List.mem_flatMap.2 ⟨y, hy, hp⟩))), rfl⟩
      · cases h
    case h_21 => cases h
    all_goals first
      | (rename_i hu; rw [hu] at hpl; cases hpl; done)
      | (rename_i hu _; rw [hu] at hpl; cases hpl; done)
theorem zcw {W W' : World} {S : List TypeId} {held : Bool} (hS : S.all (zqu P S) = true) (hW : Old W W') {sp : Nat → Bool} : ∀ {ts : List TypeId} {vs : List Value} {ds : List (DataW H)} {ps : List MemPlace},
    (∀ t ∈ ts, t ∈ S) → DataW.TrodAll enc P W 0 (fun _ => true) held ts vs ds ps → (∀ p ∈ ps, sp p.block = true) → DataW.TrodAll enc P W' 0 sp held ts vs ds ps
  | [], vs, ds, ps, _, h, _ => by
    obtain ⟨rfl, rfl, rfl⟩ := trodAll_nil h
    rfl
  | t :: ts, vs, ds, ps, ht, h, hs => by
    obtain ⟨v, vs', d, ds', p, q, rfl, rfl, rfl, ⟨n, h1⟩, h2⟩ := trodAll_cons h
    exact ⟨p, q, ⟨n, zr9 hS hW n t _ _ (ht t (by simp)) h1 (fun x hx => hs x (by simp [hx]))⟩, zcw hS hW (fun x hx => ht x (by simp [hx])) h2 (fun x hx => hs x (by simp [hx])), rfl⟩
theorem z6p {f : Func} {s : ChangeSpec} {apart fresh handsOn again : Bool} {W W' : World} {args : Array Value} {ds gs : List (DataW H)} {before : List MemPlace} {S : List TypeId} {b : TypeId}
    (hS : S.all (zqu P S) = true) (hp : (f.params.toList.all fun t => S.contains t) = true) (hv : s.vars = []) (hr : f.resultTypes = #[b]) (hb : P.underlying b = some .bool)
    (hfn : (s.fn H (ds ++ gs)).results = [.lit (.bool true)] ∧ (gs = [] → (s.fn H (ds ++ gs)).args = ds) ∧ (s.fn H (ds ++ gs)).vars = [])
    (hW : DataW.Whole enc P f.params.toList s.vars apart W args.toList ds gs before) (hO : Old W W') : s.post enc P f apart fresh handsOn again W args (.bool true) W' := by
  have hlt := hW.lt
  have hW' := hW
  obtain ⟨p, q, hA, hV, rfl, hz, hn⟩ := hW
  rw [hv] at hV
  obtain ⟨rfl, rfl⟩ := trodVars_none hV
  rw [List.append_nil] at hW' hfn hz hn hlt
  have hargs : ∀ sp : Nat → Bool, (∀ x ∈ p, sp x.block = true) → DataW.TrodAll enc P W' 0 sp true f.params.toList args.toList ds p := fun sp hs =>
    zcw hS hO (fun t ht => by have := List.all_eq_true.1 hp t ht; simpa using this) hA hs
  have hres : ∀ (b : Nat) (sp : Nat → Bool) (hd : Bool), DataW.TrodAll enc P W' b sp hd f.resultTypes.toList ((Value.bool true).resultList f.resultTypes.size) [.lit (.bool true)] [] := fun b' sp hd => by
    rw [hr]
    exact trodAll_mk1 (shut_bool hb true)
  have hold : ∀ x ∈ p, (fun b => decide (b < W.heap.size)) x.block = true := fun x hx => by simpa using hlt x hx
  have e1 : (s.fn H (ds ++ [])).results = [.lit (.bool true)] := by rw [List.append_nil]; exact hfn.1
  have e2 : (s.fn H (ds ++ [])).args = ds := by rw [List.append_nil]; exact hfn.2.1 rfl
  have e3 : (s.fn H (ds ++ [])).vars = [] := by rw [List.append_nil]; exact hfn.2.2
  refine ⟨ds, [], p, [], p, [], hW', ?_, ?_, ?_, hO.kept _, fun _ => ⟨ok_one hr rfl (okWide_bool_mk hb true), ?_⟩⟩
  · rw [e1]; exact hres _ _ _
  · rw [e2]; exact hargs _ hold
  · rw [e3, hv]; rfl
  · refine ⟨_, _, ([] ++ p) ++ [], ⟨[] ++ p, [], trodAll_append (hargs _ (fun _ _ => rfl)) (hres _ _ _), (show DataW.TrodVars enc P W' (fun _ => true) s.vars [] [] by rw [hv]; rfl), rfl, ?_, ?_⟩, ?_⟩
    · intro b' off hp'
      rw [hO.frozen (hlt _ (by simpa using hp'))]
      exact hz b' off (by simpa using hp')
    · intro ha
      simpa using hn ha
    · intro x hx _
      simpa using hx
theorem z4l {W : World} {base : Nat} {t e : TypeId} {v : Value} {d : DataW H} {ps : List MemPlace} (ht : P.underlying t = some (.slice e)) (he : P.underlying e = some (.int .u8)) (hc : P.cellsOf e = 1)
    (hk : Value.okWide P W .any base t v) (h : DataW.Trod enc P W 0 (fun _ => true) true t v d ps) : ∃ bs : List CV, (∀ x ∈ bs, ∃ b, x = .sc (.int .u8 b) ∧ 0 ≤ b ∧ b ≤ 255) ∧ Rep (zqx W) FM.no v (.vec bs) := by
  obtain ⟨fuel, hf⟩ := h
  obtain ⟨av, nv, cv, rfl⟩ := okWide_slice ht hk
  rcases open_ints ht he hc hf with ⟨hcs, _⟩ | ⟨a, len, cap, zs, hcs, _, hl, hm, hz, _, hcell, hwz⟩
  · simp [Value.cells] at hcs
    obtain ⟨rfl, rfl, rfl⟩ := hcs
    exact ⟨[], by simp, .nilvec⟩
  · simp [Value.cells] at hcs
    obtain ⟨rfl, rfl, rfl⟩ := hcs
    simp only [if_true] at hz
    refine ⟨(zs.take nv).map fun z => .sc (.int .u8 z), ?_, ?_⟩
    · intro x hx
      obtain ⟨z, hz', rfl⟩ := List.mem_map.1 hx
      have := hwz z (List.mem_of_mem_take hz')
      refine ⟨z, rfl, ?_⟩
      simp [Lit.wf, IntKind.min, IntKind.max, IntKind.bits, IntKind.signed] at this
      exact this
    · · have hspot : a.spot = none := by
          simp only [Value.okWide, ht, Cell.okWide, Cell.ok] at hk
          exact hk.2.2.2.1
        obtain ⟨ab, ao, spot⟩ := a
        simp only at hspot
        subst hspot
        refine .vec 1 ab ao nv cv _ (fun i _ => .int .u8 (zs.getD i 0)) (by simp; omega) hl ?_ ?_ ?_
        · intro i x hx
          rw [List.getElem?_map] at hx
          cases hg : (zs.take nv)[i]? with
          | none => rw [hg] at hx; cases hx
          | some z => rw [hg] at hx; cases hx; rfl
        · intro i x j c hx hj
          rw [List.getElem?_map] at hx
          cases hg : (zs.take nv)[i]? with
          | none => rw [hg] at hx; cases hx
          | some z =>
            rw [hg] at hx; cases hx
            have hi : i < zs.length := by
              have := (List.getElem?_eq_some_iff.1 hg).1
              simp at this; omega
            simp only [CV.cells] at hj
            have hj0 : j = 0 := by
              cases j with
              | zero => rfl
              | succ j => simp at hj
            subst hj0
            have := hcell i hi
            simp only [zqx, Nat.mul_one, Nat.add_zero]
            rw [← this, qs]
        · intro i x j c hx hj
          rw [List.getElem?_map] at hx
          cases hg : (zs.take nv)[i]? with
          | none => rw [hg] at hx; cases hx
          | some z =>
            rw [hg] at hx; cases hx
            simp only [CV.cells] at hj
            cases j with
            | succ j => simp at hj
            | zero =>
              simp at hj; subst hj
              have hi : (zs.take nv)[i]? = some z := hg
              have : zs[i]? = some z := by
                have hlt := (List.getElem?_eq_some_iff.1 hg).1
                simp at hlt
                rwa [List.getElem?_take_of_lt (by omega)] at hg
              rw [List.getD_eq_getElem?_getD, this]; exact .sc _
end
end Go.CL
namespace Go.CL
open Go
theorem AllocC.go {σ : Heap} {n : Nat} {k : Nat → Nat → Prop} (h : ∀ l cap, σ l = none → n ≤ cap → k l cap) : AllocC false σ n k := ⟨rfl, h⟩
inductive Frz (σ : Heap) : List Nat → CV → CV → Prop
  | same (c : CV) : Frz σ [] c c
  | grow (l n cap : Nat) (e : TypeId) (sz : Nat) (xs : List CV) (h : σ l = some (.arr e sz cap xs)) (hn : n ≤ xs.length) : Frz σ [l] (.grow l n cap) (.vec (xs.take n))
inductive Frzs (σ : Heap) : List Nat → List CV → List CV → Prop
  | nil : Frzs σ [] [] []
  | cons {ls ms : List Nat} {c c' : CV} {r r' : List CV} (h : Frz σ ls c c') (hr : Frzs σ ms r r') : Frzs σ (ls ++ ms) (c :: r) (c' :: r')
inductive FrzR (σ : Heap) : List Nat → CV → CV → Prop
  | one {ls : List Nat} {c c' : CV} (h : Frz σ ls c c') : FrzR σ ls c c'
  | agg {ls : List Nat} {cs cs' : List CV} (h : Frzs σ ls cs cs') : FrzR σ ls (.agg cs) (.agg cs')
inductive FrzT (σ : Heap) : List Nat → List CV → List CV → Prop
  | nil : FrzT σ [] [] []
  | cons {ls ms : List Nat} {c c' : CV} {r r' : List CV} (h : FrzR σ ls c c') (hr : FrzT σ ms r r') : FrzT σ (ls ++ ms) (c :: r) (c' :: r')
def zob (M : Mem) (w : World) (ls : List Nat) : Mem := fun b o => if b ∈ ls then w.cell? ⟨b, o, none⟩ else M b o
def zzh (own : Owns) (ls : List Nat) : Owns := fun b => if b ∈ ls then none else own b
section
variable {M : Mem} {own : Owns} {σ τ : Heap} {w : World}
theorem zng (hR : Rg M own σ w) (ls : List Nat) : Mem.le M (zob M w ls) := fun b o v h => by
  unfold zob
  split
  · exact hR.mem b o v h
  · exact h
theorem zue (hR : Rg M own σ w) {ls : List Nat} (hτ : Sub τ σ) (hl : ∀ l ∈ ls, τ l = none) : Rg (zob M w ls) (zzh own ls) τ w := by
  refine ⟨fun b o v h => ?_, fun l ob h => ?_, fun b hb => ?_⟩
  · unfold zob at h
    split at h
    · exact h
    · exact hR.mem b o v h
  · have hn : l ∉ ls := fun h' => by rw [hl l h'] at h; cases h
    obtain ⟨h1, fo, h2, h3⟩ := hR.glob l ob (hτ l ob h)
    refine ⟨by simp [zzh, hn, h1], fo, h2.keep (zng hR ls) (FM.le.refl _) fun b hb _ => ⟨rfl, fun o => ?_⟩, h3⟩
    rw [h3] at hb; cases hb
    simp [zob, hn]
  · unfold zzh
    split
    · rfl
    · exact hR.fresh b hb
theorem zwg (hR : Rg M own σ w) {ls : List Nat} {c c' : CV} (h : Frz σ ls c c') {ms : List Nat} (hs : ∀ l ∈ ls, l ∈ ms) {v : Value} (hr : Rep M FM.no v c) : Rep (zob M w ms) FM.no v c' := by
  cases h with
  | same => exact hr.mono (zng hR ms) (FM.le.refl _)
  | grow l n cap e sz xs hl hn =>
    cases hr
    obtain ⟨vs, hb, hvs, hnc, hlens, hrr, _⟩ := zay hR hl
    have hm : l ∈ ms := hs l (by simp)
    have hlt : ∀ (i : Nat) (x : CV) (j : Nat) c, (xs.take n)[i]? = some x → x.cells[j]? = some c → i * sz + j < vs.size ∧ xs[i]? = some x := by
      intro i x j c hx hc
      have hi : i < n := by have := (List.getElem?_eq_some_iff.1 hx).1; simp at this; omega
      rw [List.getElem?_take_of_lt hi] at hx
      have hj : j < sz := by rw [← hlens i x hx]; exact (List.getElem?_eq_some_iff.1 hc).1
      have hix := (List.getElem?_eq_some_iff.1 hx).1
      refine ⟨?_, hx⟩
      rw [hvs]
      calc i * sz + j < i * sz + sz := by omega
        _ = (i + 1) * sz := by rw [Nat.add_mul]; omega
        _ ≤ cap * sz := Nat.mul_le_mul_right _ (by omega)
    refine .vec sz l 0 n cap (xs.take n) (fun i j => vs.getD (i * sz + j) undef) (by simp; omega) (by omega) (fun i x hx => ?_) (fun i x j c hx hc => ?_) (fun i x j c hx hc => ?_)
    · have hi : i < n := by have := (List.getElem?_eq_some_iff.1 hx).1; simp at this; omega
      rw [List.getElem?_take_of_lt hi] at hx
      exact hlens i x hx
    · obtain ⟨h1, _⟩ := hlt i x j c hx hc
      simp [zob, hm, World.cell?, hb, Array.getD_eq_getD_getElem?, h1]
    · obtain ⟨_, h2⟩ := hlt i x j c hx hc
      exact (hrr i x j c h2 hc).mono (zng hR ms) (FM.le.refl _)
theorem zzg (hR : Rg M own σ w) {ls : List Nat} {cs cs' : List CV} (h : Frzs σ ls cs cs') : ∀ {ms : List Nat}, (∀ l ∈ ls, l ∈ ms) → cs.length = cs'.length ∧ ∀ {vs : Nat → Value}, (∀ (i : Nat) c, cs[i]? = some c → Rep M FM.no (vs i) c) →
    ∀ (i : Nat) c, cs'[i]? = some c → Rep (zob M w ms) FM.no (vs i) c := by
  induction h with
  | nil => intro ms _; exact ⟨rfl, fun _ i c hc => by simp at hc⟩
  | @cons ls ks c c' r r' h _ ih =>
    intro ms hs
    obtain ⟨k1, k2⟩ := ih (ms := ms) (fun l hl => hs l (by simp [hl]))
    refine ⟨by simp [k1], fun {vs} hv i x hx => ?_⟩
    cases i with
    | zero => simp at hx; subst hx; exact zwg hR h (fun l hl => hs l (by simp [hl])) (hv 0 c rfl)
    | succ i => exact k2 (vs := fun j => vs (j + 1)) (fun j y hy => hv (j + 1) y (by simpa using hy)) i x (by simpa using hx)
theorem zrk (hR : Rg M own σ w) {ls : List Nat} {c c' : CV} (h : FrzR σ ls c c') {ms : List Nat} (hs : ∀ l ∈ ls, l ∈ ms) {v : Value} (hr : Rep M FM.no v c) : Rep (zob M w ms) FM.no v c' := by
  cases h with
  | one h => exact zwg hR h hs hr
  | agg h =>
    cases hr with
    | agg vs _ hsz hv =>
      obtain ⟨k1, k2⟩ := zzg hR h hs
      exact .agg vs _ (hsz.trans k1) (k2 hv)
theorem zri (hR : Rg M own σ w) {ls : List Nat} {cs cs' : List CV} (h : FrzT σ ls cs cs') : ∀ {ms : List Nat}, (∀ l ∈ ls, l ∈ ms) → cs.length = cs'.length ∧ ∀ {vs : Nat → Value}, (∀ (i : Nat) c, cs[i]? = some c → Rep M FM.no (vs i) c) →
    ∀ (i : Nat) c, cs'[i]? = some c → Rep (zob M w ms) FM.no (vs i) c := by
  induction h with
  | nil => intro ms _; exact ⟨rfl, fun _ i c hc => by simp at hc⟩
  | @cons ls ks c c' r r' h _ ih =>
    intro ms hs
    obtain ⟨k1, k2⟩ := ih (ms := ms) (fun l hl => hs l (by simp [hl]))
    refine ⟨by simp [k1], fun {vs} hv i x hx => ?_⟩
    cases i with
    | zero => simp at hx; subst hx; exact zrk hR h (fun l hl => hs l (by simp [hl])) (hv 0 c rfl)
    | succ i => exact k2 (vs := fun j => vs (j + 1)) (fun j y hy => hv (j + 1) y (by simpa using hy)) i x (by simpa using hx)
end
def FrzOut (out out' : COut) : Prop := match out, out' with
  | .ret v σ, .ret v' σ' => Sub σ' σ ∧ ∃ ls, (FrzR σ ls v v' ∨ ∃ cs cs', v = .tup cs ∧ v' = .tup cs' ∧ FrzT σ ls cs cs') ∧ ∀ l ∈ ls, σ' l = none
  | .pan v σ, .pan v' σ' => v = v' ∧ Sub σ' σ
  | _, _ => False
theorem Rg.sub {M : Mem} {own : Owns} {σ τ : Heap} {w : World} (hR : Rg M own σ w) (h : Sub τ σ) : Rg M own τ w := ⟨hR.mem, fun l ob hl => hR.glob l ob (h l ob hl), hR.fresh⟩
theorem KExt.frz {M own w M' own' w'} (h : KExt M own w M' own' w') {σ : Heap} (hR : Rg M' own' σ w') {ls : List Nat} (hl : ∀ l ∈ ls, ∃ ob, σ l = some ob) : KExt M own w (zob M' w' ls) (zzh own' ls) w' :=
  ⟨h.mem.trans (zng hR ls), h.size, h.os, h.tape, h.output, fun b hb ho => by
    obtain ⟨k1, k2, k3⟩ := h.keep b hb ho
    have hn : b ∉ ls := fun hb' => by
      obtain ⟨ob, he⟩ := hl b hb'
      have := (hR.glob b ob he).1
      rw [k2] at this; cases this
    exact ⟨k1, by simp [zzh, hn, k2], fun o => by simp [zob, hn, k3]⟩⟩
theorem zrl {σ : Heap} {ls : List Nat} {c c' : CV} (h : FrzR σ ls c c') : ∀ l ∈ ls, ∃ ob, σ l = some ob := by
  have one : ∀ {ls : List Nat} {c c' : CV}, Frz σ ls c c' → ∀ l ∈ ls, ∃ ob, σ l = some ob := by
    intro ls c c' h l hl
    cases h with
    | same => simp at hl
    | grow l' n cap e sz xs h1 _ => simp at hl; subst hl; exact ⟨_, h1⟩
  have many : ∀ {ls : List Nat} {cs cs' : List CV}, Frzs σ ls cs cs' → ∀ l ∈ ls, ∃ ob, σ l = some ob := by
    intro ls cs cs' h
    induction h with
    | nil => intro l hl; simp at hl
    | cons h _ ih =>
      intro l hl
      rcases List.mem_append.1 hl with hl | hl
      · exact one h l hl
      · exact ih l hl
  cases h with
  | one h => exact one h
  | agg h => exact many h
theorem zrj {σ : Heap} {ls : List Nat} {cs cs' : List CV} (h : FrzT σ ls cs cs') : ∀ l ∈ ls, ∃ ob, σ l = some ob := by
  induction h with
  | nil => intro l hl; simp at hl
  | cons h _ ih =>
    intro l hl
    rcases List.mem_append.1 hl with hl | hl
    · exact zrl h l hl
    · exact ih l hl
theorem CRun.freeze {P : Program} {f : FuncId} {args : List CV} {σ : Heap} {p q : COut → Prop} (h : CRun P f args σ p) (hi : ∀ out, p out → ∃ out', FrzOut out out' ∧ q out') : CRun P f args σ q := by
  refine ⟨h.1, fun M own w vals h1 h2 h3 => (h.2 M own w vals h1 h2 h3).mono fun e w' ⟨out, M', own', hp, hk, hm⟩ => ?_⟩
  obtain ⟨out', hf, hq⟩ := hi out hp
  cases out with
  | ret v τ =>
    cases out' with
    | pan _ _ => exact hf.elim
    | ret v' τ' =>
      cases e with
      | returned u =>
        obtain ⟨hr, hg⟩ := hm
        obtain ⟨hsub, ls, hfr, hno⟩ := hf
        rcases hfr with hfr | ⟨cs, cs', rfl, rfl, hfr⟩
        · exact ⟨.ret v' τ', zob M' w' ls, zzh own' ls, hq, hk.frz hg (zrl hfr), zrk hg hfr (fun _ hl => hl) hr, zue hg hsub hno⟩
        · refine ⟨.ret (.tup cs') τ', zob M' w' ls, zzh own' ls, hq, hk.frz hg (zrj hfr), ?_, zue hg hsub hno⟩
          cases hr with
          | tup vs _ hsz hv =>
            obtain ⟨k1, k2⟩ := zri hg hfr (ms := ls) (fun _ hl => hl)
            exact .tup vs _ (hsz.trans k1) (k2 hv)
      | _ => exact hm.elim
  | pan v τ =>
    cases out' with
    | ret _ _ => exact hf.elim
    | pan v' τ' =>
      obtain ⟨rfl, hsub⟩ := hf
      refine ⟨.pan v τ', M', own', hq, hk, ?_⟩
      split at hm
      · rename_i h' _; cases h'
      · rename_i h' _
        cases h'
        exact ⟨hm.1, hm.2.1, hm.2.2.1, hm.2.2.2.sub hsub⟩
      · exact hm.elim
theorem CRun.frozen {P : Program} {f : FuncId} {args args' : List CV} {σ σ' : Heap} {p : COut → Prop} {ls : List Nat} (hf : FrzT σ ls args args') (hs : Sub σ' σ) (hl : ∀ l ∈ ls, σ' l = none) (h : CRun P f args' σ' p) : CRun P f args σ p := by
  refine ⟨h.1, fun M own w vals h1 h2 h3 => ?_⟩
  obtain ⟨k1, k2⟩ := zri h1 hf (ms := ls) (fun _ hl => hl)
  refine (h.2 (zob M w ls) (zzh own ls) w vals (zue h1 hs hl) (h2.trans k1) (k2 (vs := fun i => vals.getD i undef) h3)).mono fun e w' ⟨out, M', own', hp, hk, hm⟩ => ⟨out, M', own', hp, ?_, hm⟩
  refine ⟨(zng h1 ls).trans hk.mem, hk.size, hk.os, hk.tape, hk.output, fun b hb ho => ?_⟩
  have hn : b ∉ ls := fun hb' => by
    obtain ⟨ob, he⟩ := zrj hf b hb'
    have := (h1.glob b ob he).1
    rw [ho] at this; cases this
  obtain ⟨k1, k2, k3⟩ := hk.keep b hb (by simp [zzh, hn, ho])
  exact ⟨k1, k2, fun o => by rw [k3]; simp [zob, hn]⟩
theorem CRun.opq {P : Program} {f : FuncId} {args : List CV} {σ : Heap} {p q : COut → Prop} (h : CRun P f args σ p) (hi : ∀ out, p out → ∃ v τ, out = .ret v τ ∧ v.one = true ∧ q (.ret (.opq v) τ)) : CRun P f args σ q := by
  refine ⟨h.1, fun M own w vals h1 h2 h3 => (h.2 M own w vals h1 h2 h3).mono fun e w' ⟨out, M', own', hp, hk, hm⟩ => ?_⟩
  obtain ⟨v, τ, rfl, h1, hq⟩ := hi out hp
  cases e with
  | returned u => exact ⟨_, M', own', hq, hk, .opq _ _ h1 hm.1, hm.2⟩
  | _ => exact hm.elim
theorem CRun.less {P : Program} {f : FuncId} {args : List CV} {σ σ' : Heap} {p : COut → Prop} (hs : Sub σ' σ) (h : CRun P f args σ' p) : CRun P f args σ p :=
  ⟨h.1, fun M own w vals h1 h2 h3 => h.2 M own w vals (h1.sub hs) h2 h3⟩
def zxq (M : Mem) : Option CV → FrameMode → Prop
  | none, u => u = .returning
  | some c, u => ∃ p : PanicEntry, u = .panicking [p] ∧ p.recovered = false ∧ p.goexit = false ∧ Rep M FM.no p.v c
def z6s (P : Program) (c : CV) (σ : Heap) (u : Option CV) (rec : Bool) (post : Heap → Prop) : Prop :=
  ∃ id first caps, c = .fn (.func id) first caps ∧ Callable P id ∧ ∀ (M : Mem) (own : Owns) (w : World) (vs us : Array Value) (mode : FrameMode), Rg M own σ w →
    vs.size = first.length → (∀ (i : Nat) c, first[i]? = some c → Rep M FM.no (vs.getD i undef) c) → us.size = caps.length → (∀ (i : Nat) c, caps[i]? = some c → Rep M FM.no (us.getD i undef) c) → zxq M u mode →
    CallsD P id (vs ++ us) mode w fun e u' w' => ∃ v M' own' σ', e = .returned v ∧ settle u' = (match rec with | true => .returning | false => mode) ∧ post σ' ∧ KExt M own w M' own' w' ∧ Rg M' own' σ' w'
structure DeferN (P : Program) (c : CV) (σ : Heap) (u : Option CV) (k : Bool → Heap → Prop) : Prop where
  h : ∃ rec post, z6s P c σ u rec post ∧ ∀ τ, post τ → k rec τ
noncomputable def zdk (X : Ctx) (fr : Fr) (σ : Heap) (l : List ResultVar) : (List CV → Prop) → Prop :=
  List.rec (motive := fun _ => (List CV → Prop) → Prop) (fun K => K []) (fun v _ ih K => match v with
    | .tmp _ => False
    | .cell a t => match lkT X.tt t with
      | some ti => match look fr.env a with
        | .ptr (.g l) off => GetN σ l fun ob => match ob with
          | .cells cs => ze0 ti cs off fun v => ih fun vs => K (v :: vs)
          | _ => False
        | _ => False
      | none => False) l
theorem zpx (X : Ctx) (fr : Fr) (σ : Heap) (a : Tmp) (t : TypeId) (r : List ResultVar) (K : List CV → Prop) : zdk X fr σ (.cell a t :: r) K = match lkT X.tt t with
      | some ti => match look fr.env a with
        | .ptr (.g l) off => GetN σ l fun ob => match ob with
          | .cells cs => ze0 ti cs off fun v => zdk X fr σ r fun vs => K (v :: vs)
          | _ => False
        | _ => False
      | none => False := rfl
def znk (σ : Heap) (post : COut → Prop) (vs : List CV) : Prop := match vs with
  | [v] => Fin vs v σ post
  | vs => Fin vs (.tup vs) σ post
noncomputable def z5w (X : Ctx) (fn : Func) (post : COut → Prop) (c : CV) (e : Xt) (fr : Fr) (σ : Heap) : Prop :=
  match e with
  | .normal => DeferN X.P c σ none fun _ τ => zdk X fr τ fn.results.toList fun vs => vh true vs fun vs => znk τ post vs
  | .ret => DeferN X.P c σ none fun _ τ => zdk X fr τ fn.results.toList fun vs => vh true vs fun vs => znk τ post vs
  | .pan v => DeferN X.P c σ (some v) fun rec τ => match rec with
    | true => zdk X fr τ fn.results.toList fun vs => vh true vs fun vs => znk τ post vs
    | false => FinP v τ post
  | .exit _ => False
def zzq (ops : Array Oper) : Option (List Oper × Operand) := match ops.toList.reverse with
  | o :: r => match o.op, o.guard, o.dst with
    | .defer c, none, none => match c.callee, c.args.toList with
      | .value f, [] => some (r.reverse, f)
      | _, _ => none
    | _, _, _ => none
  | [] => none
noncomputable def ExD (X : Ctx) (c : Code) : Fr → Heap → (Xt → Fr → Heap → Prop) → (CV → Xt → Fr → Heap → Prop) → Prop :=
  Code.rec (motive := fun _ => Fr → Heap → (Xt → Fr → Heap → Prop) → (CV → Xt → Fr → Heap → Prop) → Prop)
    (fun fr σ Q _ => Q .normal fr σ)
    (fun id ops draw fr σ Q QD => match draw with
      | true => Ex X (.region id ops true) fr σ Q
      | false => match zzq ops with
        | some (l, f) => zni l fun l => ze1 X false ops l [] fr σ fun _ e fr σ => match e with
          | .normal => match zk fr f with
            | .fn g p q => match CV.strip true (.fn g p q) with
              | some c => QD c .normal fr σ
              | none => False
            | _ => False
          | e => Q e fr σ
        | none => Ex X (.region id ops false) fr σ Q)
    (fun _ b iha ihb fr σ Q QD => iha fr σ (fun e fr σ => match e with
      | .normal => ihb fr σ Q QD
      | e => Q e fr σ) (fun c e fr σ => match e with
      | .normal => Ex X b fr σ (QD c)
      | e => QD c e fr σ))
    (fun c t e _ _ fr σ Q _ => Ex X (.cond c t e) fr σ Q)
    (fun id b _ fr σ Q _ => Ex X (.block id b) fr σ Q)
    (fun b _ fr σ Q _ => Ex X (.loop b) fr σ Q)
    (fun _ _ _ _ _ _ _ _ _ _ => False)
    (fun id fr σ Q _ => Q (.exit id) fr σ)
    (fun _ _ _ _ _ _ => False)
    (fun _ _ _ _ _ => False)
    (fun _ _ _ _ _ => False)
    (fun fr σ Q _ => Q .ret fr σ)
    (fun _ _ _ _ _ => False) c
section
variable {X : Ctx} {fr : Fr} {σ : Heap}
variable {M : Mem} {F : FM} {own : Owns} {a : Act} {w : World} {M0 : Mem} {own0 : Owns} {w0 : World}
def z3v (M0 : Mem) (own0 : Owns) (w0 : World) (Q : Xt → Fr → Heap → Prop) (QD : CV → Xt → Fr → Heap → Prop) (e : Exit) (a : Act) (w : World) : Prop :=
  ztw [] M0 own0 w0 Q e a w ∨ ∃ (c : CV) (g : Fn) (vs us : Array Value) (M1 : Mem), Rep M1 FM.no (.func g vs us) c ∧ ∃ x M F own fr σ, z7m M e x ∧ QD c x fr σ ∧ RX x M F own fr σ a w ∧ KD [{ target := .fn g us, args := vs }] a M0 own0 w0 M own w ∧ Mem.le M1 M
theorem Oper.wp_both' {P : Program} {o : Oper} {a : Act} {K K' : Act → World → Prop} {Q Q' : Exit → Act → World → Prop} (h : ∀ a w, K a w → K' a w) (hq : ∀ e a w, Q e a w → Q' e a w) {r : Result Next}
    (hh : o.upon P a K Q r) : o.upon P a K' Q' r := by
  cases r with
  | ok n w' =>
    cases n <;> simp only [Oper.upon] at hh ⊢ <;>
      first
        | exact h _ _ hh
        | exact Calls.mono hh (fun e w'' he => by
            cases e with
            | returned v => exact h _ _ he
            | panicked c => exact hq _ _ _ he
            | outgrown => obtain ⟨a, w, he⟩ := he; exact ⟨a, w, hq _ _ _ he⟩)
        | exact Rows.mono hh (fun _ _ he => h _ _ he)
  | halt x w' => cases x <;> simp only [Oper.upon] at hh ⊢ <;> first | exact hh | exact hq _ _ _ hh
theorem Oper.wp_both {P : Program} {o : Oper} {a : Act} {w : World} {K K' : Act → World → Prop} {Q Q' : Exit → Act → World → Prop} (h : ∀ a w, K a w → K' a w) (hq : ∀ e a w, e ≠ .normal → Q e a w → Q' e a w)
    (hh : o.wp P a w K Q) : o.wp P a w K' Q' := by
  unfold Oper.wp at *
  generalize (execOp a.eval o).run P w = r at *
  cases r with
  | ok n w' =>
    cases n <;> simp only [Oper.upon] at hh ⊢ <;>
      first
        | exact h _ _ hh
        | exact Calls.mono hh (fun e w'' he => by
            cases e with
            | returned v => exact h _ _ he
            | panicked c => exact hq _ _ _ (by simp) he
            | outgrown => obtain ⟨a, w, he⟩ := he; exact ⟨a, w, hq _ _ _ (by simp) he⟩)
        | exact Rows.mono hh (fun _ _ he => h _ _ he)
  | halt x w' => cases x <;> simp only [Oper.upon] at hh ⊢ <;> first | exact hh | exact hq _ _ _ (by simp) hh
theorem zhb {P : Program} {ops : Array Oper} {Q Q' : Exit → Act → World → Prop} {m : List Oper} (hn : ∀ a w, Q .normal a w → wpList P ops Q' m a w) (hq : ∀ e a w, e ≠ .normal → Q e a w → Q' e a w) :
    ∀ (l : List Oper) {a : Act} {w : World}, wpList P ops Q l a w → wpList P ops Q' (l ++ m) a w
  | [], a, w, h => hn a w h
  | o :: l, a, w, h => by
    have ih := fun {a w} => @zhb P ops Q Q' m hn hq l a w
    rw [List.cons_append]
    unfold wpList at h ⊢
    split
    · rename_i hw
      rw [if_pos hw] at h
      rcases h with h | ⟨h1, a', w', h2⟩
      · exact .inl (Oper.wp_both (fun _ _ => ih) hq h)
      · exact .inr ⟨h1, a', w', hq _ _ _ (by simp) h2⟩
    · rename_i hw
      rw [if_neg hw] at h
      exact ih h
theorem ztq {ops : Array Oper} {l : List Oper} {f : Operand} (h : zzq ops = some (l, f)) : ∃ o c, ops.toList = l ++ [o] ∧ o.op = .defer c ∧ o.guard = none ∧ o.dst = none ∧ c.callee = .value f ∧ c.args = #[] := by
  unfold zzq at h
  split at h
  · rename_i o r hr
    split at h
    · rename_i c ho hg hd
      split at h
      · rename_i f' hc ha
        simp only [Option.some.injEq, Prod.mk.injEq] at h
        obtain ⟨rfl, rfl⟩ := h
        refine ⟨o, c, ?_, ho, hg, hd, hc, by rw [← Array.toArray_toList (xs := c.args), ha]⟩
        have := congrArg List.reverse hr
        simpa using this
      · cases h
    · cases h
  · cases h
theorem z3w {x y : Code} {Q : Xt → Fr → Heap → Prop} {QD : CV → Xt → Fr → Heap → Prop} : ExD X (.seq x y) fr σ Q QD = ExD X x fr σ (fun e fr σ => match e with
      | .normal => ExD X y fr σ Q QD
      | e => Q e fr σ) (fun c e fr σ => match e with
      | .normal => Ex X y fr σ (QD c)
      | e => QD c e fr σ) := rfl
theorem z3x (hX : X.ok) (hD : ji X) : ∀ (c : Code) {fr : Fr} {σ : Heap} {Q : Xt → Fr → Heap → Prop} {QD : CV → Xt → Fr → Heap → Prop}, ExD X c fr σ Q QD →
    ∀ {M : Mem} {F : FM} {own : Owns} {a : Act} {w : World} {M0 : Mem} {own0 : Owns} {w0 : World}, R M F own fr σ a w → KD [] a M0 own0 w0 M own w → c.wp X.P (z3v M0 own0 w0 Q QD) a w := by
  intro c
  have plain : ∀ {c : Code} {fr : Fr} {σ : Heap} {Q : Xt → Fr → Heap → Prop} {QD : CV → Xt → Fr → Heap → Prop} {M : Mem} {F : FM} {own : Owns} {a : Act} {w : World} {M0 : Mem} {own0 : Owns} {w0 : World}, Ex X c fr σ Q → R M F own fr σ a w → KD [] a M0 own0 w0 M own w → c.wp X.P (z3v M0 own0 w0 Q QD) a w :=
    fun h hR hk => Code.wp_mono (fun _ _ _ h => .inl h) (zr7 hX hD _ h hR hk)
  induction c with
  | skip => intro fr σ Q QD h M F own a w M0 own0 w0 hR hk; exact wp_skip (.inl ⟨.normal, M, F, own, fr, σ, trivial, h, hR, hk⟩)
  | region id ops draw =>
    intro fr σ Q QD h M F own a w M0 own0 w0 hR hk
    cases draw with
    | true => exact plain h hR hk
    | false =>
      change (match zzq ops with
        | some (l, f) => zni l fun l => ze1 X false ops l [] fr σ fun _ e fr σ => match e with
          | .normal => match zk fr f with
            | .fn g p q => match CV.strip true (.fn g p q) with
              | some c => QD c .normal fr σ
              | none => False
            | _ => False
          | e => Q e fr σ
        | none => Ex X (.region id ops false) fr σ Q) at h
      split at h
      · rename_i l f hd
        rw [znh] at h
        obtain ⟨o, c, e1, e2, e3, e6, e4, e5⟩ := ztq hd
        refine wp_region_list ?_
        rw [e1]
        refine zhb (fun a' w' hl => ?_) (fun e a' w' hne hl => ?_) l (zbn hX l [] h hR hk)
        · obtain ⟨x', M', F', own', fr', σ', hx, ⟨_, hq⟩, hR', hk'⟩ := hl
          cases x' with
          | normal =>
            have hR'' : R M' F' own' fr' σ' a' w' := hR'
            simp only at hq
            split at hq
            · rename_i g p q hcf
              split at hq
              · rename_i cc hcc
                have hr := zd hR'' f
                rw [hcf] at hr
                have hrf := xi hr hcc
                unfold wpList
                rw [if_pos (by simp [Region.wanted, e3])]
                refine .inl ?_
                unfold Oper.wp
                generalize hv : a'.eval f = vf at hr hrf
                cases hr with
                | fn _ vs us _ _ h1 h2 h3 h4 =>
                  have : (execOp a'.eval o).run X.P w' = .ok (.defer { target := .fn g us, args := vs }) w' := by
                    simp [execOp, e2, resolve, e4, e5, hv, Deferred.ofValue]
                  rw [this, Oper.upon_defer, e6]
                  show z3v M0 own0 w0 Q QD .normal _ w'
                  refine .inr ⟨cc, g, vs, us, M', hrf, .normal, M', F', own', fr', σ', trivial, hq, ⟨hR''.toRg, hR''.size, hR''.env, hR''.locs, hR''.dom⟩, ⟨hk'.k, ?_⟩, Mem.le.refl _⟩
                  show _ :: a'.defers = _
                  rw [hk'.d]
              · exact hq.elim
            · exact hq.elim
          | _ => exact hx.elim
        · obtain ⟨x', M', F', own', fr', σ', hx, ⟨_, hq⟩, hR', hk'⟩ := hl
          cases x' with
          | normal => cases e <;> first | exact absurd rfl hne | exact hx.elim | (rename_i ch; rcases ch with _ | ⟨p, _ | ⟨q, r⟩⟩ <;> exact hx.elim)
          | _ => exact .inl ⟨_, M', F', own', fr', σ', hx, hq, hR', hk'⟩
      · exact plain h hR hk
  | seq x y ihx ihy =>
    intro fr σ Q QD h M F own a w M0 own0 w0 hR hk
    rw [z3w] at h
    refine wp_seq (Code.wp_mono ?_ (ihx h hR hk))
    rintro e a' w' (⟨x', M', F', own', fr', σ', hx, hq, hR', hk'⟩ | ⟨c, g, vs, us, M1, hc, x', M', F', own', fr', σ', hx, hq, hR', hk', hle⟩)
    · cases e with
      | normal =>
        cases x' with
        | normal => exact ihy hq hR' hk'
        | _ => exact hx.elim
      | exit i =>
        cases x' with
        | exit j => exact .inl ⟨.exit j, M', F', own', fr', σ', hx, hq, hR', hk'⟩
        | _ => exact hx.elim
      | ret =>
        cases x' with
        | ret => exact .inl ⟨.ret, M', F', own', fr', σ', hx, hq, hR', hk'⟩
        | _ => exact hx.elim
      | panic ch =>
        cases x' with
        | pan c => exact .inl ⟨.pan c, M', F', own', fr', σ', hx, hq, hR', hk'⟩
        | _ => rcases ch with _ | ⟨p, _ | ⟨q, r⟩⟩ <;> exact hx.elim
      | goto l => exact hx.elim
      | outgrown => exact hx.elim
    · cases e with
      | normal =>
        cases x' with
        | normal =>
          have hR'' : R M' F' own' fr' σ' a' w' := hR'
          refine Code.wp_mono ?_ (zr7 hX hD y hq hR'' (D := [{ target := .fn g us, args := vs }]) ⟨KExt.refl M' own' w', hk'.d⟩)
          rintro e a'' w'' ⟨x'', M'', F'', own'', fr'', σ'', hx2, hq2, hR2, hk2⟩
          exact .inr ⟨c, g, vs, us, M1, hc, x'', M'', F'', own'', fr'', σ'', hx2, hq2, hR2, ⟨hk'.k.trans hk2.k, hk2.d⟩, hle.trans hk2.k.mem⟩
        | _ => exact hx.elim
      | exit i =>
        cases x' with
        | exit j => exact .inr ⟨c, g, vs, us, M1, hc, .exit j, M', F', own', fr', σ', hx, hq, hR', hk', hle⟩
        | _ => exact hx.elim
      | ret =>
        cases x' with
        | ret => exact .inr ⟨c, g, vs, us, M1, hc, .ret, M', F', own', fr', σ', hx, hq, hR', hk', hle⟩
        | _ => exact hx.elim
      | panic ch =>
        cases x' with
        | pan v => exact .inr ⟨c, g, vs, us, M1, hc, .pan v, M', F', own', fr', σ', hx, hq, hR', hk', hle⟩
        | _ => rcases ch with _ | ⟨p, _ | ⟨q, r⟩⟩ <;> exact hx.elim
      | goto l => exact hx.elim
      | outgrown => exact hx.elim
  | cond c t e _ _ => intro fr σ Q QD h M F own a w M0 own0 w0 hR hk; exact plain h hR hk
  | block id c _ => intro fr σ Q QD h M F own a w M0 own0 w0 hR hk; exact plain h hR hk
  | loop c _ => intro fr σ Q QD h M F own a w M0 own0 w0 hR hk; exact plain h hR hk
  | exit id => intro fr σ Q QD h M F own a w M0 own0 w0 hR hk; exact wp_exit (.inl ⟨.exit id, M, F, own, fr, σ, rfl, h, hR, hk⟩)
  | ret => intro fr σ Q QD h M F own a w M0 own0 w0 hR hk; exact wp_ret (.inl ⟨.ret, M, F, own, fr, σ, trivial, h, hR, hk⟩)
  | _ => intro fr σ Q QD h; exact h.elim
theorem zh5 (hX : X.ok) (hR : Rg M own σ w) {tm : Array Value} (he : ∀ t c, CV.strip true (look fr.env t) = some c → Rep M FM.no (tm.getD t undef) c) : ∀ (l : List ResultVar) {K : List CV → Prop}, zdk X fr σ l K →
    ∃ vs us, K vs ∧ (l.mapM (zll tm)).run X.P w = .ok us w ∧ us.length = vs.length ∧ ∀ (i : Nat) c, vs[i]? = some c → Rep M FM.no (us.getD i undef) c
  | [], K, h => ⟨[], [], h, by simp, rfl, by simp⟩
  | .tmp t :: r, K, h => h.elim
  | .cell p t :: r, K, h => by
    rw [zpx] at h
    split at h
    · rename_i ti ht
      split at h
      · rename_i l off hl
        obtain ⟨ob, ho, h⟩ := h.h
        split at h
        · rename_i cs
          obtain ⟨c, hc, hsub⟩ := zgh h
          obtain ⟨vs, us, h1, h2, h3, h4⟩ := zh5 hX hR he r hc
          have hp := he p (.ptr (.g l) off) (by rw [hl]; rfl)
          obtain ⟨k1, fo, k2, k3⟩ := hR.glob l _ ho
          obtain ⟨v, e3, e4⟩ := hsub (hX t ti ht) (b := l) (base := 0) (fun j c hc => by
            obtain ⟨v, h1, h2⟩ := zkx (zea hR ho) j c hc
            exact ⟨v, by simpa using h1, h2⟩)
          have e1 : tm.getD p undef = .pointer (some ⟨l, off, none⟩) := by
            generalize tm.getD p undef = pv at hp
            cases hp
            rfl
          refine ⟨_, v :: us, h1, by rw [List.mapM_cons, Sem.run_bind]; simp only [zll, e1, Sem.run_bind, zhn, Result.andThen_ok]; rw [show (⟨l, off, none⟩ : Addr) = ⟨l, 0 + off, none⟩ by simp, e3]; simp [h2], by simp [h3], fun i c' hc' => ?_⟩
          cases i with
          | zero => simp at hc'; subst hc'; simpa using e4
          | succ i => simp at hc'; simpa using h4 i c' hc'
        · exact h.elim
      · exact h.elim
    · exact h.elim
theorem z5r {M' : Mem} {own' : Owns} {w' : World} {σ' : Heap} {post : COut → Prop} (hR : Rg M' own' σ' w') {vs' : List CV} {us : List Value} (hlen : us.length = vs'.length)
    (hrep : ∀ (i : Nat) c, vs'[i]? = some c → Rep M' FM.no (us.getD i undef) c) (h5 : znk σ' post vs') (hk : KExt M own w M' own' w') :
    za7 M own w post (.returned (if h : us.length = 1 then us[0] else .tuple us.toArray)) w' := by
  have e : ∃ v, Fin vs' v σ' post ∧ v = zez vs' := by
    unfold znk at h5
    split at h5
    · exact ⟨_, h5, rfl⟩
    · rename_i hne
      refine ⟨_, h5, ?_⟩
      unfold zez
      split
      · rename_i v; exact absurd rfl (hne v)
      · rfl
  obtain ⟨v, h5, hv⟩ := e
  cases h5 with
  | ret τ hs hp => subst hv; exact zfa hR hlen hrep hs hp hk
  | ret0 τ vs hs0 hs hp =>
    obtain ⟨k1, k2⟩ := xh (M := M') (F := FM.no) hs0
    refine zfa hR (hlen.trans k1) (fun i c hc => ?_) hs hp hk
    have := k2 us.toArray (fun i c hc => by
      have := hrep i c hc
      simpa [Array.getD_eq_getD_getElem?, List.getD_eq_getElem?_getD] using this) i c hc
    simpa [Array.getD_eq_getD_getElem?, List.getD_eq_getElem?_getD] using this
theorem ztd {M' : Mem} {F' : FM} {vs vs' : List CV} {us : List Value} (h6 : CV.strips true vs = some vs') (h3 : us.length = vs.length) (h4 : ∀ (i : Nat) c, vs[i]? = some c → Rep M' F' (us.getD i undef) c) :
    us.length = vs'.length ∧ ∀ (i : Nat) c, vs'[i]? = some c → Rep M' FM.no (us.getD i undef) c := by
  obtain ⟨k1, k2⟩ := zv (M := M') (F := F') h6
  refine ⟨h3.trans k1, fun i c hc => ?_⟩
  have := k2 us.toArray (fun i c hc => by
    have := h4 i c hc
    simpa [Array.getD_eq_getD_getElem?, List.getD_eq_getElem?_getD] using this) i c hc
  simpa [Array.getD_eq_getD_getElem?, List.getD_eq_getElem?_getD] using this
theorem DeferN.out {P : Program} {fn : Func} {tm : Array Value} {c : CV} {u : Option CV} {k : Bool → Heap → Prop} (h : DeferN P c σ u k) {M1 : Mem} {g : Fn} {vs us : Array Value} {mode : FrameMode}
    (hc : Rep M1 FM.no (.func g vs us) c) (hle : Mem.le M1 M) (hR : Rg M own σ w) (hm : zxq M u mode) {Rr : Ending → World → Prop}
    (hk : ∀ rec M' own' σ' w', k rec σ' → KExt M own w M' own' w' → Rg M' own' σ' w' → Leaves P fn tm Rr [] (match rec with | true => .returning | false => mode) w') :
    Leaves P fn tm Rr [{ target := .fn g us, args := vs }] mode w := by
  obtain ⟨rec, post, ⟨id, first, caps, rfl, hcal, hrun⟩, hpost⟩ := h
  cases hc with
  | fn _ _ _ _ _ h1 h2 h3 h4 =>
    refine leaves_cons (by cases u with
      | none => have : mode = .returning := hm; subst this; simp
      | some v => obtain ⟨p, rfl, _⟩ := hm; simp) (js hcal _ w) ?_
    refine CallsD.mono (hrun M own w vs us mode hR h1 (fun i c hc => (h2 i c hc).mono hle (FM.le.refl _)) h3 (fun i c hc => (h4 i c hc).mono hle (FM.le.refl _)) hm) ?_
    rintro e u' w' ⟨v, M', own', σ', rfl, h5, h6, h7, h8⟩
    show Leaves P fn tm Rr [] (settle u') w'
    rw [h5]
    exact hk rec M' own' σ' w' (hpost _ h6) h7 h8
theorem zzs (hX : X.ok) (hD : ji X) {f : FuncId} {fn : Func} {body : Code} {args : List CV} {σ : Heap} {post : COut → Prop} (hf : X.P.funcs[f]? = some fn) (hb : fn.body = some body)
    (hn : (fn.name == "runtime.NumGoroutine") = false) (hs : Nat.ble args.length fn.ntmps = true)
    (h : ExD X body ⟨fn.ntmps, zdn 0 args, []⟩ σ (zwp X fn post) (z5w X fn post)) : CRun X.P f args σ post := by
  have hs := Nat.le_of_ble_eq_true hs
  refine ⟨⟨fn, hf, by simp [hb], hn⟩, fun M own w vals hRg hvs hr => ?_⟩
  refine calls_of_wp_defers hf hb ?_
  have hR : R M FM.no own ⟨fn.ntmps, zdn 0 args, []⟩ σ { tmps := vals ++ Array.replicate (fn.ntmps - vals.size) undef, defers := [] } w := by
    refine ⟨hRg, by simp; omega, fun t => ?_, fun d ob hd => by simp [z6] at hd, fun d _ => rfl⟩
    rw [zb4]
    by_cases ht : t < args.length
    · rw [if_pos (by omega)]
      have := hr t args[t] (by simp [ht])
      have hv : t < vals.size := by omega
      rw [Array.getD_eq_getD_getElem?, Array.getElem?_append_left hv, ← Array.getD_eq_getD_getElem?]
      simpa [List.getD_eq_getElem?_getD, ht] using this
    · rw [if_neg (by omega)]; exact .junk
  refine Code.wp_mono ?_ (z3x hX hD body h hR ⟨KExt.refl M own w, rfl⟩)
  have fin0 : ∀ {M' : Mem} {F' : FM} {own' : Owns} {fr' : Fr} {σ' : Heap} {a' : Act} {w' : World}, R M' F' own' fr' σ' a' w' → KExt M own w M' own' w' → (zko X fr' σ' fn.results.toList fun raw => vh true raw fun vs => match vs with
    | [v] => Fin raw v σ' post
    | vs => Fin raw (.tup vs) σ' post) →
      ∃ v, (results fn a'.tmps).run X.P w' = .ok v w' ∧ za7 M own w post (.returned v) w' := by
    intro M' F' own' fr' σ' a' w' hR' hk' h
    obtain ⟨vs, us, h1, h2, h3, h4⟩ := zbm hX hR' _ h
    obtain ⟨vs', h5, h6⟩ := wh _ h1
    refine ⟨_, kq h2, ?_⟩
    split at h5
    · exact h5.out rfl hR'.toRg h6 h3 h4 hk'
    · rename_i hne
      refine h5.out (vs' := vs') ?_ hR'.toRg h6 h3 h4 hk'
      unfold zez
      split
      · rename_i v; exact absurd rfl (hne v)
      · rfl
  have finD : ∀ {M' : Mem} {own' : Owns} {fr' : Fr} {σ' : Heap} {tm : Array Value} {w' : World}, Rg M' own' σ' w' → (∀ t c, CV.strip true (look fr'.env t) = some c → Rep M' FM.no (tm.getD t undef) c) → KExt M own w M' own' w' →
      (zdk X fr' σ' fn.results.toList fun vs => vh true vs fun vs => znk σ' post vs) →
      ∃ v, (results fn tm).run X.P w' = .ok v w' ∧ za7 M own w post (.returned v) w' := by
    intro M' own' fr' σ' tm w' hR' he hk' h
    obtain ⟨vs, us, h1, h2, h3, h4⟩ := zh5 hX hR' he _ h
    obtain ⟨vs', h5, h6⟩ := wh _ h1
    obtain ⟨k1, k2⟩ := ztd h6 h3 h4
    exact ⟨_, kq h2, z5r hR' k1 k2 h5 hk'⟩
  have put : ∀ {M' : Mem} {F' : FM} {own' : Owns} {fr' : Fr} {σ' : Heap} {a' : Act} {w' : World} {M1 : Mem} {g : Fn} {vs us : Array Value} {c : CV}, R M' F' own' fr' σ' a' w' → KD [{ target := .fn g us, args := vs }] a' M own w M' own' w' → Rep M1 FM.no (.func g vs us) c → Mem.le M1 M' →
      (DeferN X.P c σ' none fun _ τ => zdk X fr' τ fn.results.toList fun vs => vh true vs fun vs => znk τ post vs) →
      Leaves X.P fn a'.tmps (za7 M own w post) a'.defers .returning w' := by
    intro M' F' own' fr' σ' a' w' M1 g vs us c hR' hk' hc hle h
    rw [hk'.d]
    refine h.out hc hle hR'.toRg rfl fun rec M'' own'' σ'' w'' h1 h2 h3 => ?_
    obtain ⟨v, h4, h5⟩ := finD h3 (fun t c hc => (xi (hR'.env t) hc).mono h2.mem (FM.le.refl _)) (hk'.k.trans h2) h1
    cases rec <;> exact ⟨v, h4, h5⟩
  rintro e a' w' (⟨x', M', F', own', fr', σ', hx, hq, hR', hk'⟩ | ⟨c, g, vs, us, M1, hc, x', M', F', own', fr', σ', hx, hq, hR', hk', hle⟩)
  · cases e with
    | normal =>
      cases x' with
      | normal =>
        show Leaves X.P fn a'.tmps _ a'.defers .returning w'
        rw [hk'.d]
        exact fin0 hR' hk'.k hq
      | _ => exact hx.elim
    | ret =>
      cases x' with
      | ret =>
        show Leaves X.P fn a'.tmps _ a'.defers .returning w'
        rw [hk'.d]
        exact fin0 hR' hk'.k hq
      | _ => exact hx.elim
    | exit i =>
      cases x' with
      | exit j => exact hq.elim
      | _ => exact hx.elim
    | panic ch =>
      cases x' with
      | pan c =>
        rcases ch with _ | ⟨p, _ | ⟨q, r⟩⟩
        · exact hx.elim
        · obtain ⟨e1, e2, e3⟩ := hx
          obtain ⟨τ, hs, hp⟩ := hq
          show Leaves X.P fn a'.tmps _ a'.defers (.panicking [p]) w'
          rw [hk'.d]
          exact ⟨_, M', own', hp, hk'.k, e1, e2, e3, hR'.1.mem, fun l ob hl => hR'.1.glob l ob (hs l ob hl), hR'.1.fresh⟩
        · exact hx.elim
      | _ => rcases ch with _ | ⟨p, _ | ⟨q, r⟩⟩ <;> exact hx.elim
    | goto l => exact hx.elim
    | outgrown => exact hx.elim
  · cases e with
    | normal =>
      cases x' with
      | normal => exact put hR' hk' hc hle hq
      | _ => exact hx.elim
    | ret =>
      cases x' with
      | ret => exact put hR' hk' hc hle hq
      | _ => exact hx.elim
    | exit i =>
      cases x' with
      | exit j => exact hq.elim
      | _ => exact hx.elim
    | panic ch =>
      cases x' with
      | pan cv =>
        rcases ch with _ | ⟨p, _ | ⟨q, r⟩⟩
        · exact hx.elim
        · obtain ⟨e1, e2, e3⟩ := hx
          have hq : DeferN X.P c σ' (some cv) fun rec τ => match rec with
            | true => zdk X fr' τ fn.results.toList fun vs => vh true vs fun vs => znk τ post vs
            | false => FinP cv τ post := hq
          show Leaves X.P fn a'.tmps _ a'.defers (.panicking [p]) w'
          rw [hk'.d]
          refine hq.out hc hle hR'.1 ⟨p, rfl, e1, e2, e3⟩ fun rec M'' own'' σ'' w'' h1 h2 h3 => ?_
          cases rec with
          | true => exact finD h3 (fun t c hc => (hR'.2 t c hc).mono h2.mem (FM.le.refl _)) (hk'.k.trans h2) h1
          | false =>
            obtain ⟨τ, hs, hp⟩ := h1
            exact ⟨_, M'', own'', hp, hk'.k.trans h2, e1, e2, e3.mono h2.mem (FM.le.refl _), h3.mem, fun l ob hl => h3.glob l ob (hs l ob hl), h3.fresh⟩
        · exact hx.elim
      | _ => rcases ch with _ | ⟨p, _ | ⟨q, r⟩⟩ <;> exact hx.elim
    | goto l => exact hx.elim
    | outgrown => exact hx.elim
noncomputable def z5v (fn : Func) (post : Heap → Prop) (e : Xt) (_fr : Fr) (σ : Heap) : Prop := match e with
  | .normal => fn.results.toList = [] ∧ post σ
  | .ret => fn.results.toList = [] ∧ post σ
  | _ => False
theorem zfm {P : Program} {ops : Array Oper} {Q : Exit → Act → World → Prop} {Q' : Exit → Act → List Frame → World → Prop} {cs : List Frame} (hQ : ∀ e a w, Q e a w → Q' e a cs w) (hno : ∀ a w, ¬ Q .outgrown a w) : ∀ (l : List Oper) (k : Nat) {a : Act} {w : World}, (∀ j, l[j]? = ops[k + j]?) → wpList P ops Q l a w →
    wpOpsS P ops Q' (List.range' k l.length) a cs w
  | [], k, a, w, hl, h => hQ _ _ _ h
  | o :: l, k, a, w, hl, h => by
    have ih : ∀ a w, wpList P ops Q l a w → wpOpsS P ops Q' (List.range' (k + 1) l.length) a cs w := fun a w h => zfm hQ hno l (k + 1) (fun j => by have := hl (j + 1); simp at this; rw [this]; congr 1; omega) h
    rw [List.length_cons, List.range'_succ]
    have ho : ops[k]? = some o := by have := hl 0; simpa using this.symm
    unfold wpOpsS
    rw [ho]
    unfold wpList at h
    simp only
    split
    · rename_i hw
      rw [if_pos hw] at h
      rcases h with h | ⟨_, a', w', h⟩
      · unfold Oper.wp at h
        generalize (execOp a.eval o).run P w = r at h
        split
        · simp [Oper.upon] at h
        · exact Oper.wp_both' (K' := fun a' w' => wpOpsS P ops Q' (List.range' (k + 1) l.length) a' cs w') (Q' := fun e a' w' => Q' e a' cs w') (fun a w h => ih a w h) (fun e a w h => hQ _ _ _ h) h
      · exact (hno _ _ h).elim
    · rename_i hw
      rw [if_neg hw] at h
      exact ih _ _ h
theorem zrx (hX : X.ok) (hD : ji X) {id rid : Nat} {fn : Func} {ops : Array Oper} {rest : Code} {o : Oper} {l : List Oper} {c : Call} {t : Tmp} {first caps : List CV} {u : Option CV} {post : Heap → Prop}
    (hf : X.P.funcs[id]? = some fn) (hb : fn.body = some (.seq (.region rid ops false) rest)) (hn : (fn.name == "runtime.NumGoroutine") = false) (hs : Nat.ble (first ++ caps).length fn.ntmps = true)
    (ho : ops.toList = o :: l) (hop : o.op = .call c) (hc : c.callee = .builtin .recover) (hca : c.args = #[]) (hg : o.guard = none) (hd : o.dst = some t)
    (h : putN ⟨fn.ntmps, zdn 0 (first ++ caps), []⟩ (some t) (match u with | none => .sc .nilIface | some v => v) fun fr => ze1 X false ops l [] fr σ fun _ e fr σ => match e with
      | .normal => Ex X rest fr σ (z5v fn post)
      | _ => False) : z6s X.P (.fn (.func id) first caps) σ u u.isSome post := by
  have hs := Nat.le_of_ble_eq_true hs
  refine ⟨id, first, caps, rfl, ⟨fn, hf, by simp [hb], hn⟩, fun M own w vs us mode hRg h1 h2 h3 h4 hm => ?_⟩
  refine callsD_of_wpS hf hb fun c0 cs hc0 => ?_
  have hR : R M FM.no own ⟨fn.ntmps, zdn 0 (first ++ caps), []⟩ σ { tmps := (vs ++ us) ++ Array.replicate (fn.ntmps - (vs ++ us).size) undef, defers := [] } w := by
    refine ⟨hRg, by simp at hs ⊢; omega, fun t => ?_, fun d ob hd => by simp [z6] at hd, fun d _ => rfl⟩
    rw [zb4]
    by_cases ht : t < (first ++ caps).length
    · rw [if_pos (by omega)]
      have hsz : (vs ++ us).size = (first ++ caps).length := by simp; omega
      have hv : t < (vs ++ us).size := by omega
      rw [Array.getD_eq_getD_getElem?, Array.getElem?_append_left hv]
      by_cases ht1 : t < first.length
      · have := h2 t first[t] (by simp [ht1])
        rw [Array.getElem?_append_left (by omega)]
        simpa [List.getD_eq_getElem?_getD, ht1, Array.getD_eq_getD_getElem?, List.getElem?_append_left ht1] using this
      · have := h4 (t - first.length) ((first ++ caps)[t]) (by
          rw [List.getElem_append_right (by omega)]; simp)
        rw [Array.getElem?_append_right (by omega), h1]
        rw [List.getD_eq_getElem?_getD, Nat.sub_zero, List.getElem?_eq_getElem ht]
        simpa [Array.getD_eq_getD_getElem?] using this
    · rw [if_neg (by omega)]; exact .junk
  obtain ⟨v, mode', hv, hset, hrec⟩ : ∃ v mode', Rep M FM.no v (match u with | none => .sc .nilIface | some v => v) ∧ settle mode' = (match u.isSome with | true => .returning | false => mode) ∧
      (match recoverD (c0 :: cs) with
          | some (v', cs') => v' = v ∧ cs' = { c0 with mode := mode' } :: cs
          | none => v = .nilIface ∧ { c0 with mode := mode' } = c0) := by
    cases u with
    | none =>
      have hm : mode = .returning := hm
      subst hm
      exact ⟨.nilIface, .returning, .sc _, rfl, by simp only [recoverD, hc0]; exact ⟨trivial, by rw [← hc0]⟩⟩
    | some c =>
      obtain ⟨p, rfl, e1, e2, e3⟩ := hm
      obtain ⟨pv, pr, pg⟩ := p
      simp only at e1 e2
      subst e1 e2
      exact ⟨pv, .panicking [⟨pv, true, false⟩], e3, by simp [settle], by simp only [recoverD, hc0]; exact ⟨trivial, trivial⟩⟩
  obtain ⟨fr1, hk1, hR1⟩ := zby h hR (hv.mono (Mem.le.refl _) (FM.le.refl _))
  refine wpS_seq (wpS_region ?_)
  rw [List.range_eq_range', ← Array.length_toList, ho, List.length_cons, List.range'_succ]
  have ho0 : ops[0]? = some o := by rw [← Array.getElem?_toList, ho]; rfl
  have hwl := zbn hX (D := []) l [] hk1 hR1 ⟨KExt.refl M own w, rfl⟩
  have key : wpOpsS X.P ops (Exit.thenS (rest.wpS X.P (bodyPostS X.P fn c0 cs fun e u' w' => ∃ v M' own' σ', e = .returned v ∧ settle u' = (match u.isSome with | true => .returning | false => mode) ∧ post σ' ∧ KExt M own w M' own' w' ∧ Rg M' own' σ' w')) (bodyPostS X.P fn c0 cs fun e u' w' => ∃ v M' own' σ', e = .returned v ∧ settle u' = (match u.isSome with | true => .returning | false => mode) ∧ post σ' ∧ KExt M own w M' own' w' ∧ Rg M' own' σ' w')) (List.range' (0 + 1) l.length)
      (Act.put { tmps := (vs ++ us) ++ Array.replicate (fn.ntmps - (vs ++ us).size) undef, defers := [] } (some t) v) ({ c0 with mode := mode' } :: cs) w := by
    refine zfm ?_ (fun a w ⟨_, _, _, _, _, _, hx, _⟩ => hx.elim) l (0 + 1) (fun j => ?_) hwl
    · rintro e a' w' ⟨x', M', F', own', fr', σ', hx, ⟨_, hq⟩, hR', hk'⟩
      cases e with
      | normal =>
        cases x' with
        | normal =>
          have hR'' : R M' F' own' fr' σ' a' w' := hR'
          refine wpS_of_wp (Code.wp_mono ?_ (zr7 hX hD rest hq hR'' (D := []) ⟨KExt.refl M' own' w', hk'.d⟩))
          rintro e a'' w'' ⟨x'', M'', F'', own'', fr'', σ'', hx2, hq2, hR2, hk2⟩
          have done : ∀ {fr σ}, R M'' F'' own'' fr σ a'' w'' → fn.results.toList = [] ∧ post σ → a''.defers = [] ∧ ∃ u', { c0 with mode := mode' } :: cs = { c0 with mode := u' } :: cs ∧ ∃ v, (results fn a''.tmps).run X.P w'' = .ok v w'' ∧
              ∃ v' M' own' σ', Ending.returned v = .returned v' ∧ settle u' = (match u.isSome with | true => .returning | false => mode) ∧ post σ' ∧ KExt M own w M' own' w'' ∧ Rg M' own' σ' w'' := by
            intro fr σ hR3 ⟨e1, e2⟩
            exact ⟨hk2.d, mode', rfl, _, kq (us := []) (by rw [e1]; simp), _, M'', own'', σ, rfl, hset, e2, hk'.k.trans hk2.k, hR3.toRg⟩
          cases e with
          | normal =>
            cases x'' with
            | normal => exact done hR2 hq2
            | _ => exact hx2.elim
          | ret =>
            cases x'' with
            | ret => exact done hR2 hq2
            | _ => exact hx2.elim
          | exit i =>
            cases x'' with
            | exit j => exact hq2.elim
            | _ => exact hx2.elim
          | panic ch =>
            cases x'' with
            | pan cv => exact hq2.elim
            | _ => rcases ch with _ | ⟨p, _ | ⟨q, r⟩⟩ <;> exact hx2.elim
          | goto l => exact hx2.elim
          | outgrown => exact hx2.elim
        | _ => exact hx.elim
      | panic ch =>
        cases x' with
        | pan cv => exact hq.elim
        | _ => rcases ch with _ | ⟨p, _ | ⟨q, r⟩⟩ <;> exact hx.elim
      | exit i =>
        cases x' with
        | exit j => exact hq.elim
        | _ => exact hx.elim
      | ret =>
        cases x' with
        | ret => exact hq.elim
        | _ => exact hx.elim
      | goto l => exact hx.elim
      | outgrown => exact hx.elim
    · rw [← Array.getElem?_toList, ho]; simp [Nat.add_comm]
  unfold wpOpsS
  rw [ho0]
  simp only
  rw [if_pos (by simp [Region.wanted, hg]), hd]
  have hrun : (execOp (Act.eval { tmps := (vs ++ us) ++ Array.replicate (fn.ntmps - (vs ++ us).size) undef, defers := [] }) o).run X.P w = .ok .recover w := by
    simp [execOp, hop, resolve, hc, hca, invoke, builtin]
  rw [hrun]
  simp only
  split at hrec
  · rename_i v' cs' he
    obtain ⟨rfl, rfl⟩ := hrec
    simp only [he]
    exact key
  · rename_i he
    obtain ⟨rfl, hc⟩ := hrec
    simp only [he]
    rw [hc] at key
    exact key
end
def z0j (l : Nat) (ob : Ob) (post : COut → Prop) (out : COut) : Prop := match out with
  | .ret v τ => ∃ τ0, τ = upd τ0 l ob ∧ τ0 l = none ∧ post (.ret v τ0)
  | .pan v τ => ∃ τ0, τ = upd τ0 l ob ∧ τ0 l = none ∧ post (.pan v τ0)
theorem CRun.frame {P : Program} {f : FuncId} {args : List CV} {σ : Heap} {post : COut → Prop} {l : Nat} {ob : Ob} (h : CRun P f args σ post) (hl : σ l = none) : CRun P f args (upd σ l ob) (z0j l ob post) := by
  refine ⟨h.1, fun M own w vals h1 h2 h3 => ?_⟩
  obtain ⟨hown, fo, hob, hfo⟩ := h1.glob l ob (za _ _ _)
  have hlt := hob.lt l hfo
  have hRg : Rg M (fun b => if own b = some (.g l) then none else own b) σ w := by
    refine ⟨h1.mem, fun l' ob' hl' => ?_, fun b hb => ?_⟩
    · have hne : l' ≠ l := fun e => by subst e; rw [hl] at hl'; cases hl'
      obtain ⟨k1, k2⟩ := h1.glob l' ob' (by rw [zb _ _ hne]; exact hl')
      refine ⟨?_, k2⟩
      have : ¬ own l' = some (.g l) := fun e => by rw [k1] at e; cases e; exact hne rfl
      show (if own l' = some (.g l) then none else own l') = _
      rw [if_neg this, k1]
    · have := h1.fresh b hb
      simp [this]
  refine (h.2 M _ w vals hRg h2 h3).mono fun e w' ⟨out, M', own', hp, hk, hm⟩ => ?_
  obtain ⟨k1, k2, k3⟩ := hk.keep l hlt (by simp [hown])
  have hk' : KExt M own w M' (fun b => if b = l then some (.g l) else own' b) w' := by
    refine ⟨hk.mem, hk.size, hk.os, hk.tape, hk.output, fun b hb ho => ?_⟩
    obtain ⟨j1, j2, j3⟩ := hk.keep b hb (by simp [ho])
    have hne : b ≠ l := fun e => by subst e; rw [ho] at hown; cases hown
    exact ⟨j1, by simp [hne, j2], j3⟩
  have hrg : ∀ {τ : Heap}, Rg M' own' τ w' → τ l = none ∧ Rg M' (fun b => if b = l then some (.g l) else own' b) (upd τ l ob) w' := by
    intro τ hg
    have hτ : τ l = none := by
      cases e : τ l with
      | none => rfl
      | some ob' => have := (hg.glob l ob' e).1; rw [k2] at this; cases this
    refine ⟨hτ, hg.mem, fun l' ob' hl' => ?_, fun b hb => ?_⟩
    · by_cases hne : l' = l
      · subst hne
        rw [za] at hl'
        cases hl'
        refine ⟨by simp, fo, hob.keep hk.mem (FM.le.refl _) fun b hb _ => ?_, hfo⟩
        rw [hfo] at hb; cases hb
        exact ⟨k1, k3⟩
      · rw [zb _ _ hne] at hl'
        obtain ⟨j1, j2⟩ := hg.glob l' ob' hl'
        exact ⟨by simp [hne, j1], j2⟩
    · have := hg.fresh b hb
      have hne : b ≠ l := fun e => by subst e; have := hk.size; omega
      simp [hne, this]
  cases out with
  | ret v τ =>
    cases e with
    | returned u =>
      obtain ⟨hr, hg⟩ := hm
      obtain ⟨hτ, hg'⟩ := hrg hg
      exact ⟨.ret v (upd τ l ob), M', _, ⟨τ, rfl, hτ, hp⟩, hk', hr, hg'⟩
    | _ => exact hm.elim
  | pan v τ =>
    split at hm
    · rename_i h' _; cases h'
    · rename_i h' _
      cases h'
      obtain ⟨hτ, hg'⟩ := hrg hm.2.2.2
      exact ⟨.pan v (upd τ l ob), M', _, ⟨τ, rfl, hτ, hp⟩, hk', hm.1, hm.2.1, hm.2.2.1, hg'⟩
    · exact hm.elim
def CvW (v v' : CV) : Prop := ∀ {M : Mem} {F : FM} {u : Value}, Rep M F u v → Rep M F u v'
def OutW (out out' : COut) : Prop := match out, out' with
  | .ret v σ, .ret v' σ' => σ = σ' ∧ CvW v v'
  | .pan v σ, .pan v' σ' => σ = σ' ∧ v = v'
  | _, _ => False
theorem OutW.refl (out : COut) : OutW out out := by
  cases out with
  | ret v σ => exact ⟨rfl, fun h => h⟩
  | pan v σ => exact ⟨rfl, rfl⟩
theorem CRun.weak {P : Program} {f : FuncId} {args : List CV} {σ : Heap} {p q : COut → Prop} (h : CRun P f args σ p) (hi : ∀ out, p out → ∃ out', OutW out out' ∧ q out') : CRun P f args σ q := by
  refine ⟨h.1, fun M own w vals h1 h2 h3 => (h.2 M own w vals h1 h2 h3).mono fun e w' ⟨out, M', own', hp, hk, hm⟩ => ?_⟩
  obtain ⟨out', hw, hq⟩ := hi out hp
  refine ⟨out', M', own', hq, hk, ?_⟩
  cases out with
  | ret v τ =>
    cases out' with
    | pan _ _ => exact hw.elim
    | ret v' τ' =>
      obtain ⟨rfl, hv⟩ := hw
      cases e with
      | returned u => exact ⟨hv hm.1, hm.2⟩
      | _ => exact hm.elim
  | pan v τ =>
    cases out' with
    | ret _ _ => exact hw.elim
    | pan v' τ' => obtain ⟨rfl, rfl⟩ := hw; exact hm
def NilW (c c' : CV) : Prop := c = c' ∨ (c = .nil ∧ c' = .vec [])
inductive NilWs : List CV → List CV → Prop
  | nil : NilWs [] []
  | cons {c c' : CV} {r r' : List CV} (h : NilW c c') (hr : NilWs r r') : NilWs (c :: r) (c' :: r')
theorem NilW.cv {c c' : CV} (h : NilW c c') : CvW c c' := by
  intro M F u hr
  rcases h with rfl | ⟨rfl, rfl⟩
  · exact hr
  · cases hr; exact .nilvec
theorem NilWs.at_ {cs cs' : List CV} (h : NilWs cs cs') : cs.length = cs'.length ∧ ∀ (i : Nat) c', cs'[i]? = some c' → ∃ c, cs[i]? = some c ∧ NilW c c' := by
  induction h with
  | nil => exact ⟨rfl, fun i c' h => by simp at h⟩
  | cons h hr ih =>
    refine ⟨by simp [ih.1], fun i c' hc => ?_⟩
    cases i with
    | zero => simp at hc; subst hc; exact ⟨_, rfl, h⟩
    | succ i => simpa using ih.2 i c' (by simpa using hc)
theorem NilWs.agg {cs cs' : List CV} (h : NilWs cs cs') : CvW (.agg cs) (.agg cs') := by
  intro M F u hr
  obtain ⟨h1, h2⟩ := h.at_
  cases hr with
  | agg vs _ hs hv =>
    refine .agg vs _ (hs.trans h1) fun i c' hc => ?_
    obtain ⟨c, hc1, hw⟩ := h2 i c' hc
    exact hw.cv (hv i c hc1)
theorem FrzOut.refl (out : COut) : FrzOut out out := by
  cases out with
  | ret v σ => exact ⟨Sub.refl _, [], .inl (.one (.same _)), by simp⟩
  | pan v σ => exact ⟨rfl, Sub.refl _⟩
def Wd (ro : Option Nat) : Fence := { Fence.wide with round := ro }
section
variable {P : Program} {ro : Option Nat} {n : Nat}
theorem wd_none {c : Code} {Q : Exit → Act → World → Prop} {a : Act} {w : World} : c.wpIn (Wd none) n P Q a w ↔ c.wp P Q a w := wpIn_wide
theorem wd_calls {m : Nat} {f : FuncId} {args : Array Value} {w : World} {R : Ending → World → Prop} : CallsIn (Wd ro) m P f args w R ↔ Calls P f args w R := callsIn_wide (n := m)
theorem z1m {m : Nat} {row : String} {args : Array Value} {w : World} {R : Value → World → Prop} (h : Rows P row args w R) : RowsIn (Wd ro) m P row args w R := fun c cs _ => let ⟨v, w', r, s⟩ := h c cs; ⟨v, w', r, stepsIn_wide.2 s⟩
theorem zid : (Wd ro).depth.isSome = true → 1 ≤ n := fun h => by cases h
theorem z6z {o : Oper} {a : Act} {w : World} {next : Act → World → Prop} {Q : Exit → Act → World → Prop} (hd : ∀ c, o.op ≠ .defer c) (h : o.wp P a w next Q) : o.wpIn (Wd ro) n P a w next Q := by
  refine ⟨fun _ _ => trivial, ?_⟩
  rw [Oper.semAt_eq _ _ _ hd]
  unfold Oper.wp at h
  generalize (execOp a.eval o).run P w = r at h ⊢
  cases r with
  | ok x w' =>
    cases x <;> simp only [Oper.upon, Oper.uponIn] at h ⊢ <;> first
      | exact h
      | exact ⟨zid, wd_calls.2 h⟩
      | exact ⟨zid, z1m h⟩
      | exact h.elim
  | halt x w' => cases x <;> simp only [Oper.upon, Oper.uponIn] at h ⊢ <;> exact h
end
def z35 (P : Program) (l : Nat) (args : List CV) (σ : Heap) (post : COut → Prop) : Prop :=
  ∀ (M : Mem) (own : Owns) (w : World) (vals : Array Value), Rg M own σ w → vals.size = args.length → (∀ (i : Nat) c, args[i]? = some c → Rep M FM.no (vals.getD i undef) c) →
    YieldAt Fence.wide 0 P l vals w (za7 M own w post)
structure YN (P : Program) (l : Nat) (args : List CV) (σ : Heap) (k : COut → Prop) : Prop where
  h : ∃ post, z35 P l args σ post ∧ ∀ out, post out → k out
theorem YN.many {P : Program} {l : Nat} {args : List CV} {σ : Heap} {k post : COut → Prop} (h : z35 P l args σ post) (hk : ∀ out, post out → k out) : YN P l args σ k := ⟨⟨post, h, hk⟩⟩
def z1j (fr : Fr) (o : Oper) : Option (Nat × List CV) := match o.op with
  | .call c => match c.callee with
    | .value f => match zk fr f with
      | .fn (.yield l) first _ => some (l, first ++ c.args.toList.map (zk fr))
      | _ => none
    | _ => none
  | _ => none
noncomputable def goY (X : Ctx) (o : Oper) (fr : Fr) (σ : Heap) (ih : Fr → Heap → Prop) (Q : Xt → Fr → Heap → Prop) : Prop := match z1j fr o with
  | some (l, as) => vh true as fun as => YN X.P l as σ fun out => match out with
    | .ret v τ => qx fr .no o.dst v fun fr => ih fr τ
    | .pan v τ => Q (.pan v) fr τ
  | none => zg0 X false o fr σ (fun v le he => qx fr le o.dst v fun fr => zxk σ he fun σ => ih fr σ) (fun v τ => Q (.pan v) fr τ)
noncomputable def zbo (X : Ctx) (ops : Array Oper) (l : List Oper) : Fr → Heap → (Xt → Fr → Heap → Prop) → Prop :=
  List.rec (motive := fun _ => Fr → Heap → (Xt → Fr → Heap → Prop) → Prop) (fun fr σ Q => Q .normal fr σ) (fun o _ ih fr σ Q =>
    let skip := qx fr .no o.dst (.sc undef) fun fr => ih fr σ Q
    match o.guard with
    | none => goY X o fr σ (fun fr σ => ih fr σ Q) Q
    | some (j, want) => match y4 ops fr j with
      | some (.sc (.bool b)) => selB (b == want) (goY X o fr σ (fun fr σ => ih fr σ Q) Q) skip
      | some (.sc (.tuple _)) => skip
      | _ => False) l
theorem zpy (X : Ctx) (ops : Array Oper) (o : Oper) (r : List Oper) (fr : Fr) (σ : Heap) (Q : Xt → Fr → Heap → Prop) : zbo X ops (o :: r) fr σ Q =
    (let skip := putN fr o.dst (.sc undef) fun fr => zbo X ops r fr σ Q
    match o.guard with
    | none => goY X o fr σ (fun fr σ => zbo X ops r fr σ Q) Q
    | some (j, want) => match y4 ops fr j with
      | some (.sc (.bool b)) => selB (b == want) (goY X o fr σ (fun fr σ => zbo X ops r fr σ Q) Q) skip
      | some (.sc (.tuple _)) => skip
      | _ => False) := by
  show (let skip := qx fr .no o.dst (.sc undef) fun fr => zbo X ops r fr σ Q
    match o.guard with
    | none => goY X o fr σ (fun fr σ => zbo X ops r fr σ Q) Q
    | some (j, want) => match y4 ops fr j with
      | some (.sc (.bool b)) => selB (b == want) (goY X o fr σ (fun fr σ => zbo X ops r fr σ Q) Q) skip
      | some (.sc (.tuple _)) => skip
      | _ => False) = _
  simp only [zas]
  rfl
structure MD (ro : Option Nat) (Ds : List Nat) (a : Act) (own : Owns) (w0 w : World) : Prop where
  z : ro.isSome = true → Ds = []
  d : a.defers = Ds.map fun D => { target := .collected D, args := #[] }
  at_ : ∀ D ∈ Ds, w.heap[D]? = some (.deferred (some [])) ∧ own D = none ∧ w0.heap.size ≤ D
  nd : Ds.Nodup
theorem MD.step {ro : Option Nat} {Ds : List Nat} {a a' : Act} {M M' : Mem} {own own' : Owns} {w0 w w' : World} (h : MD ro Ds a own w0 w) (k : KExt M own w M' own' w') (ha : a'.defers = a.defers := by first | rfl | exact zbx _ _ _) : MD ro Ds a' own' w0 w' :=
  ⟨h.z, ha.trans h.d, fun D hD => by
    obtain ⟨h1, h2, h3⟩ := h.at_ D hD
    obtain ⟨k1, k2, _⟩ := k.keep D (Array.getElem?_eq_some_iff.1 h1).1 h2
    exact ⟨k1.trans h1, k2, h3⟩, h.nd⟩
theorem MD.put {ro : Option Nat} {Ds : List Nat} {a : Act} {own : Owns} {w0 w : World} (h : MD ro Ds a own w0 w) (d : Option Tmp) (v : Value) : MD ro Ds (a.put d v) own w0 w := ⟨h.z, (zbx a d v).trans h.d, h.at_, h.nd⟩
def zqd (ro : Option Nat) (M0 : Mem) (own0 : Owns) (w0 : World) (Q : Xt → Fr → Heap → Prop) (e : Exit) (a : Act) (w : World) : Prop :=
  ∃ Ds x M F own fr σ, z7m M e x ∧ Q x fr σ ∧ RX x M F own fr σ a w ∧ KExt M0 own0 w0 M own w ∧ MD ro Ds a own w0 w
section
variable {X : Ctx} {fr : Fr} {σ : Heap}
variable {M : Mem} {F : FM} {own : Owns} {a : Act} {w : World} {Ds : List Nat} {M0 : Mem} {own0 : Owns} {w0 : World} {ro : Option Nat}
theorem zm9 {Q : Xt → Fr → Heap → Prop} (hk : KExt M0 own0 w0 M own w) (hm : MD ro Ds a own w0 w) {e : Exit} {a' : Act} {w' : World} (h : ztw a.defers M own w Q e a' w') : zqd ro M0 own0 w0 Q e a' w' := by
  obtain ⟨x, M', F', own', fr', σ', hx, hq, hR, hk'⟩ := h
  exact ⟨Ds, x, M', F', own', fr', σ', hx, hq, hR, hk.trans hk'.k, hm.step hk'.k hk'.d⟩
theorem z11 {o : Oper} {l : Nat} {as : List CV} (hR : R M F own fr σ a w) (hy : z1j fr o = some (l, as)) : ∃ vals : Array Value, vals.size = as.length ∧ (∀ (i : Nat) c, as[i]? = some c → Rep M F (vals.getD i undef) c) ∧
    (∀ c, o.op ≠ .defer c) ∧ (execOp a.eval o).run X.P w = (Instr.yield l vals).run X.P w := by
  unfold z1j at hy
  split at hy
  · rename_i c ho
    split at hy
    · rename_i f hf
      split at hy
      · rename_i l' first caps hfn
        simp only [Option.some.injEq, Prod.mk.injEq] at hy
        obtain ⟨rfl, rfl⟩ := hy
        have hrf := zd hR f
        rw [hfn] at hrf
        generalize hv : a.eval f = vf at hrf
        cases hrf with
        | fn _ vs us _ _ s1 r1 s2 r2 =>
          have ra := zdz (M := M) (F := F) (os := c.args) (ev := a.eval) (op := zk fr) (fun x _ => zd hR x)
          obtain ⟨p1, p2⟩ := vd s1 r1 (us := c.args.map a.eval) (ds := c.args.toList.map (zk fr)) (by simp) ra
          refine ⟨vs ++ c.args.map a.eval, p1, p2, (fun c' hc' => by rw [ho] at hc'; cases hc'), ?_⟩
          simp only [execOp, ho, resolve, hf, Deferred.ofValue, hv, invoke, Sem.run_bind, Sem.run_pure, Result.andThen_ok]
      · cases hy
    · cases hy
  · cases hy
theorem zfc (hX : X.ok) {ops : Array Oper} {Q : Xt → Fr → Heap → Prop} : ∀ (l : List Oper) {fr : Fr} {σ : Heap}, zbo X ops l fr σ Q →
    ∀ {M : Mem} {F : FM} {own : Owns} {a : Act} {w : World} {Ds : List Nat}, R M F own fr σ a w → KExt M0 own0 w0 M own w → MD ro Ds a own w0 w → wpListIn (Wd ro) 0 X.P ops (zqd ro M0 own0 w0 Q) l a w
  | [], fr, σ, h, M, F, own, a, w, Ds, hR, hk, hm => ⟨Ds, .normal, M, F, own, fr, σ, trivial, h, hR, hk, hm⟩
  | o :: l, fr, σ, h, M, F, own, a, w, Ds, hR, hk, hm => by
    rw [zpy] at h
    have hgo : goY X o fr σ (fun fr σ => zbo X ops l fr σ Q) Q → o.wpIn (Wd ro) 0 X.P a w (wpListIn (Wd ro) 0 X.P ops (zqd ro M0 own0 w0 Q) l) (zqd ro M0 own0 w0 Q) := by
      intro h
      unfold goY at h
      simp only [zas, zgv] at h
      split at h
      · rename_i l' as hy
        obtain ⟨as', h, hs⟩ := wh _ h
        obtain ⟨post, hpost, hpk⟩ := h.h
        obtain ⟨vals, v1, v2, v3, v4⟩ := z11 (X := X) hR hy
        obtain ⟨k1, k2⟩ := zv (M := M) (F := F) hs
        obtain ⟨fn, tmps, asg, body, e1, e2⟩ := hpost M _ w vals hR.toRg.only (v1.trans k1) (k2 vals v2)
        refine ⟨fun _ _ => trivial, ?_⟩
        rw [Oper.semAt_eq _ _ _ v3, v4, e1]
        refine ⟨zid, RoundIn.mono (F := Wd ro) (n := 0) e2 fun e w' ho => ?_⟩
        obtain ⟨out, M', own', hp, hk', hmm⟩ := ho
        split at hmm
        · rename_i v σ' u
          obtain ⟨own'', j1, j2⟩ := hR.after hmm.2 hk'
          obtain ⟨fr', g1, g2⟩ := zby (hpk _ hp) j1 (hmm.1.mono (Mem.le.refl _) (FM.no_le F))
          exact zfc hX l g1 g2 (hk.trans j2) (hm.step j2)
        · rename_i v σ' p
          obtain ⟨own'', j1, j2⟩ := hR.after hmm.2.2.2 hk'
          exact ⟨Ds, .pan v, M', F, own'', fr, σ', ⟨hmm.1, hmm.2.1, hmm.2.2.1⟩, hpk _ hp, j1.pan, hk.trans j2, hm.step j2⟩
        · exact hmm.elim
      · refine z6z (fun c hc => by simp [zg0, hc] at h) ?_
        refine zno hX h hR (fun v c le he M' F' own' w' hK hR' hv hk' _ => ?_) (fun p c τ M' own' w' hK hR' e1 e2 hv hk' => ?_)
        · obtain ⟨fr', h1, h2⟩ := zby hK hR' hv
          exact zfc hX l h1 h2 (hk.trans hk') (hm.step hk')
        · exact ⟨Ds, .pan c, M', F, own', fr, τ, ⟨e1, e2, hv⟩, hK, hR'.pan, hk.trans hk', hm.step hk'⟩
    have hskip : (putN fr o.dst (.sc undef) fun fr => zbo X ops l fr σ Q) → (∀ f, o.about X.P w a.eval = some f → (Wd ro).fn f) ∧ wpListIn (Wd ro) 0 X.P ops (zqd ro M0 own0 w0 Q) l (a.put o.dst undef) w := by
      intro h
      obtain ⟨fr', h1, h2⟩ := zby h hR (.sc undef)
      exact ⟨fun _ _ => trivial, zfc hX l h1 h2 hk (hm.put _ _)⟩
    unfold wpListIn
    split at h
    · rename_i hg
      rw [if_pos (by simp [Region.wanted, hg])]
      exact hgo h
    · rename_i j want hg
      split at h
      · rename_i b hb
        obtain ⟨v, hv, hw, _⟩ := vg (w := w) hR hg hb
        cases hv
        have hw := hw b rfl
        cases hbw : (b == want) with
        | true =>
          rw [if_pos (by rw [hw, hbw])]
          exact hgo (h.t hbw)
        | false =>
          rw [if_neg (by rw [hw, hbw]; simp)]
          exact hskip (h.e hbw)
      · rename_i vs hb
        obtain ⟨v, hv, _, hw⟩ := vg (w := w) hR hg hb
        cases hv
        rw [if_neg (by rw [hw _ rfl]; simp)]
        exact hskip h
      · exact h.elim
end
end Go.CL
namespace Go.CL
open Go Go.RowKit
structure RngN (P : Program) (n : Nat) (env : List (Nat × CV)) (c : CV) (ps : Array Tmp) (asg body : Code) (σ : Heap) (k : Xt → Heap → Prop) : Prop where
  h : ∃ id first caps first' caps', c = .fn (.func id) first caps ∧ CV.strips true first = some first' ∧ CV.strips true caps = some caps' ∧ ∀ f l, (P.funcs[f]?).isSome = true → σ l = none → ∃ post,
    CRun P id (first' ++ [.fn (.yield l) [] []] ++ caps') (upd σ l (.loop f n env ps asg body .ready none)) post ∧ ∀ out, post out → match out with
      | .ret _ τ => ∃ st pend σ', τ l = some (.loop f n env ps asg body st pend) ∧ st ≠ .busy ∧ Sub σ' τ ∧ σ' l = none ∧ (match pend with
        | none => k .normal σ'
        | some .ret => k .ret σ'
        | some (.exit i) => k (.exit i) σ'
        | some _ => False)
      | .pan v τ => ∃ σ', Sub σ' τ ∧ k (.pan v) σ'
def ju : Code → Bool
  | .region _ _ d => !d
  | .seq a b => ju a && ju b
  | .cond _ a b => ju a && ju b
  | .block _ a => ju a
  | .loop a => ju a
  | .rangeFunc _ _ _ _ => false
  | _ => true
noncomputable def ExF (X : Ctx) (c : Code) : Fr → Heap → (Xt → Fr → Heap → Prop) → Prop :=
  Code.rec (motive := fun _ => Fr → Heap → (Xt → Fr → Heap → Prop) → Prop)
    (fun fr σ Q => Q .normal fr σ)
    (fun id ops draw fr σ Q => match draw with
      | true => Ex X (.region id ops true) fr σ Q
      | false => zbo X ops ops.toList fr σ Q)
    (fun _ _ iha ihb fr σ Q => iha fr σ fun e fr σ => match e with
      | .normal => ihb fr σ Q
      | e => Q e fr σ)
    (fun c _ _ iht ihe fr σ Q => match zk fr c with
      | .sc (.bool b) => selB b (iht fr σ Q) (ihe fr σ Q)
      | _ => False)
    (fun id _ ih fr σ Q => ih fr σ fun e fr σ => match e with
      | .exit i => match Nat.beq i id with
        | true => Q .normal fr σ
        | false => Q (.exit i) fr σ
      | e => Q e fr σ)
    (fun _ ih fr σ Q => LoopN (fun fr σ K => ih fr σ K) Q fr σ)
    (fun g ps asg body _ _ fr σ Q => match fr with
      | ⟨n, env, locs⟩ => match locs with
        | [] => match zk ⟨n, env, []⟩ g with
          | .fn f first caps => RngN X.P n env (.fn f first caps) ps asg body σ fun x σ => Q x ⟨n, env, []⟩ σ
          | .opq c => RngN X.P n env c ps asg body σ fun x σ => Q x ⟨n, env, []⟩ σ
          | _ => False
        | _ => False)
    (fun id fr σ Q => Q (.exit id) fr σ)
    (fun _ _ _ _ _ => False)
    (fun _ _ _ _ => False)
    (fun _ _ _ _ => False)
    (fun fr σ Q => Q .ret fr σ)
    (fun _ _ _ _ => False) c
def CodeB (ro : Option Nat) (P : Program) (c : Code) (Q : Exit → Act → World → Prop) (a : Act) (w : World) : Prop :=
  ∀ (b : Frame) (k : List Item) (cs : List Frame), b.roundOf = ro → (P.funcs[b.fn]?).isSome = true → ∃ e a' w', Q e a' w' ∧ ArrivesIn (fun _ => True) P (lone (b.atR a (.code c :: k)) cs w) b k cs e a' w'
section
variable {P : Program} {Q : Exit → Act → World → Prop} {a : Act} {w : World} {ro : Option Nat}
theorem z0d {I : Machine → Prop} {m : Machine} {b : Frame} {k : List Item} {cs : List Frame} {e : Exit} (h : ArrivesIn I P m b k cs e a w) : ArrivesIn (fun _ => True) P m b k cs e a w := by
  have st : ∀ {m m'}, StepsIn I P m m' → StepsIn (fun _ => True) P m m' := fun h => h.mono fun _ _ => trivial
  cases e with
  | normal => exact st h
  | exit id => exact ⟨fun k' hk => st (h.1 k' hk), fun hr hk => let ⟨k1, h1, h2⟩ := h.2 hr hk; ⟨k1, h1, st h2⟩⟩
  | goto l => exact ⟨fun k' hk => st (h.1 k' hk), fun hr hk => let ⟨k1, h1, h2⟩ := h.2 hr hk; ⟨k1, h1, st h2⟩⟩
  | ret => exact ⟨fun hr => let ⟨t, hs⟩ := h.1 hr; ⟨t, st hs⟩, fun hr => let ⟨t, hs⟩ := h.2 hr; ⟨t, st hs⟩⟩
  | panic ch => exact h.imp fun _ hs => st hs
  | outgrown => exact h
theorem CodeB.of {c : Code} (h : c.wpIn (Wd ro) 0 P Q a w) : CodeB ro P c Q a w := fun b k cs hb _ => by
  obtain ⟨e, a', w', q, r⟩ := h b k cs hb trivial (fun d hd => by cases hd)
  exact ⟨e, a', w', q, z0d r⟩
theorem CodeB.mono {c : Code} {Q' : Exit → Act → World → Prop} (h : CodeB ro P c Q a w) (hq : ∀ e a w, Q e a w → Q' e a w) : CodeB ro P c Q' a w := fun b k cs hb hf => by
  obtain ⟨e, a', w', q, r⟩ := h b k cs hb hf
  exact ⟨e, a', w', hq _ _ _ q, r⟩
theorem zif {N : Act → World → Prop} {e : Exit} (he : e ≠ .normal) (h : Exit.then N Q e a w) : Q e a w := by cases e <;> first | exact absurd rfl he | exact h
theorem CodeB.seq {x y : Code} (h : CodeB ro P x (Exit.then (CodeB ro P y Q) Q) a w) : CodeB ro P (.seq x y) Q a w := by
  intro b k cs hb hf
  obtain ⟨e, a1, w1, q, r⟩ := h b (.code y :: k) cs hb hf
  by_cases he : e = .normal
  · subst he
    obtain ⟨e2, a2, w2, q2, r2⟩ := q b k cs hb hf
    exact ⟨e2, a2, w2, q2, .of_steps (.head trivial stepR_seq r) r2⟩
  · exact ⟨e, a1, w1, zif he q, .of_steps (.one trivial stepR_seq) (.pass (x := .code y) rfl (fun _ _ => .inl he) r)⟩
theorem CodeB.cond {c : Operand} {x y : Code} {t : Bool} (hc : a.eval c = .bool t) (h1 : t = true → CodeB ro P x Q a w) (h2 : t = false → CodeB ro P y Q a w) : CodeB ro P (.cond c x y) Q a w := by
  intro b k cs hb hf
  have h : CodeB ro P (if t then x else y) Q a w := by
    cases t
    · exact h2 rfl
    · exact h1 rfl
  obtain ⟨e, a', w', q, r⟩ := h b k cs hb hf
  exact ⟨e, a', w', q, .of_steps (.one trivial (stepR_cond hc)) r⟩
theorem CodeB.block {id : Nat} {c : Code} (h : CodeB ro P c (Exit.inBlock id Q) a w) : CodeB ro P (.block id c) Q a w := by
  intro b k cs hb hf
  obtain ⟨e, a1, w1, q, r⟩ := h b (.inBlock id :: k) cs hb hf
  cases e with
  | normal => exact ⟨.normal, a1, w1, q, .head trivial stepR_block (StepsIn.trans r (.one trivial stepR_inBlock))⟩
  | exit i =>
    by_cases hi : i = id
    · simp only [Exit.inBlock, hi, if_true] at q
      exact ⟨.normal, a1, w1, q, .head trivial stepR_block (r.1 k (by simp [exitTo, hi]))⟩
    · simp only [Exit.inBlock, hi, if_false] at q
      have hx : exitTo i (.inBlock id :: k) = exitTo i k := by simp [exitTo, show (id == i) = false by simp; exact fun h => hi h.symm]
      refine ⟨.exit i, a1, w1, q, .of_steps (.one trivial stepR_block) ⟨fun k' hk => r.1 k' (by rw [hx]; exact hk), fun hr hk => r.2 hr (by rw [hx]; exact hk)⟩⟩
  | goto l => 
    have hx : gotoIn l (.inBlock id :: k) = gotoIn l k := by simp [gotoIn]
    exact ⟨_, a1, w1, q, .of_steps (.one trivial stepR_block) ⟨fun k' hk => r.1 k' (by rw [hx]; exact hk), fun hr hk => r.2 hr (by rw [hx]; exact hk)⟩⟩
  | ret => exact ⟨_, a1, w1, q, .of_steps (.one trivial stepR_block) r⟩
  | panic ch => exact ⟨_, a1, w1, q, .of_steps (.one trivial stepR_block) r⟩
  | outgrown => exact ⟨_, a1, w1, q, .of_steps (b := b) (k := k) (cs := cs) (e := .outgrown) (.one trivial stepR_block) r⟩
def zoq (ro : Option Nat) (P : Program) (c : Code) (Q : Exit → Act → World → Prop) : Nat → Act → World → Prop
  | 0, _, _ => False
  | m + 1, a, w => CodeB ro P c (Exit.then (zoq ro P c Q m) Q) a w
theorem CodeB.loop {c : Code} (m : Nat) (h : zoq ro P c Q m a w) : CodeB ro P (.loop c) Q a w := by
  intro b k cs hb hf
  have key : ∀ m a w, zoq ro P c Q m a w → ∃ e a' w', Q e a' w' ∧ ArrivesIn (fun _ => True) P (lone (b.atR a (.code c :: .inLoop c :: k)) cs w) b k cs e a' w' := by
    intro m
    induction m with
    | zero => exact fun _ _ h => h.elim
    | succ m ih =>
      intro a w h
      obtain ⟨e, a1, w1, q, r⟩ := h b (.inLoop c :: k) cs hb hf
      by_cases he : e = .normal
      · subst he
        obtain ⟨e2, a2, w2, q2, r2⟩ := ih a1 w1 q
        exact ⟨e2, a2, w2, q2, .of_steps (StepsIn.trans r (.one trivial stepR_inLoop)) r2⟩
      · exact ⟨e, a1, w1, zif he q, .pass (x := .inLoop c) rfl (fun _ _ => .inl he) r⟩
  obtain ⟨e, a', w', q, r⟩ := key m a w h
  exact ⟨e, a', w', q, .of_steps (.one trivial stepR_loop) r⟩
def z4m (P : Program) (l : Nat) (Q : Exit → Act → World → Prop) (a : Act) : Ending → World → Prop
  | .returned _, w => ∃ jump w4, (Instr.endLoop l).run P w = .ok jump w4 ∧ (match jump with
    | none => Q .normal a w4
    | some c => CodeB none P c Q a w4)
  | .panicked ch, w => Q (.panic ch) a w
  | .outgrown, _ => False
theorem CodeB.range {g : Operand} {ps : Array Tmp} {asg body : Code} (h : ∀ fn, (P.funcs[fn]?).isSome = true → ∃ (l : Nat) (mark : List Deferred) (w1 : World) (d : Deferred) (w2 : World) (f : FuncId) (args : Array Value) (w3 : World),
      (Instr.enterLoop fn a.tmps ps asg body none).run P w = .ok (l, mark) w1 ∧ (resolve a.eval (rangeCall g l) 0).run P w1 = .ok d w2 ∧ (invoke d.target d.args).run P w2 = .ok (.enter f args) w3 ∧
      Calls P f args w3 (z4m P l Q { a with defers := mark ++ a.defers })) : CodeB none P (.rangeFunc g ps asg body) Q a w := by
  intro b k cs hb hf
  obtain ⟨l, mark, w1, d, w2, f, args, w3, he, hres, hinv, hcall⟩ := h b.fn hf
  rw [← hb] at he
  have st : ∀ {m m'}, Steps P m m' → StepsIn (fun _ => True) P m m' := StepsIn.of_steps
  have henter := stepR_rangeFunc (P := P) (b := b) (a := a) (k := k) (cs := cs) (w := w) he hres hinv
  obtain ⟨e, w4, fr, hR, hs, hfn, hl⟩ := hcall (b.atR { a with defers := mark ++ a.defers } (.inRangeFunc l :: k) :: cs)
  cases e with
  | outgrown => exact hR.elim
  | returned v =>
    obtain ⟨jump, w5, hend, hj⟩ := hR
    have s : StepsIn (fun _ => True) P (lone (b.atR a (.code (.rangeFunc g ps asg body) :: k)) cs w) (lone (b.atR { a with defers := mark ++ a.defers } ((jump.map Item.code).toList ++ k)) cs w5) := by
      refine .head trivial henter (StepsIn.trans (st hs) (.head trivial ?_ (.one trivial (stepR_endRangeFunc hend))))
      rw [← finish_atR_inRangeFunc l v]; exact step_leave_returned hl
    cases jump with
    | none => exact ⟨.normal, _, w5, hj, s⟩
    | some c =>
      obtain ⟨e', a'', w6, q, r⟩ := hj b k cs hb hf
      exact ⟨e', a'', w6, q, .of_steps s r⟩
  | panicked ch =>
    refine ⟨.panic ch, _, w4, hR, .inRangeFunc l :: k, .head trivial henter (StepsIn.trans (st hs) (.one trivial ?_))⟩
    rw [← Frame.raise_atR]; exact step_leave_panicked hl
theorem zxb {f : FuncId} {fn : Func} {c : Code} {args : Array Value} {R : Ending → World → Prop} (hf : P.funcs[f]? = some fn) (hb : fn.body = some c)
    (h : CodeB none P c (bodyPostM (Wd none) 0 P fn R) { tmps := args ++ Array.replicate (fn.ntmps - args.size) undef, defers := [] } w) : Calls P f args w R := by
  refine (wd_calls (ro := none) (m := 0)).1 ⟨trivial, fun cs hr => ?_⟩
  let b : Frame := { (default : Frame) with fn := f, kind := .normal, roundOf := none }
  have henter : Frame.enter P f args .normal = b.atR { tmps := args ++ Array.replicate (fn.ntmps - args.size) undef, defers := [] } [.code c] := by
    simp [Frame.enter, Frame.atR, hf, hb, b]
  have up : ∀ {m m'}, StepsIn (fun _ => True) P m m' → StepsIn (Machine.fenced P (Wd none)) P m m' := fun h => (stepsIn_wide (P := P)).2 h.steps
  obtain ⟨e, a', w', q, r⟩ := h b [] cs rfl (by simp [b, hf])
  rw [← henter] at r
  cases e with
  | normal =>
    obtain ⟨e', w2, fr', hR, hs, hfn, hl⟩ := leaves_stepsInM a'.defers .returning w' { b.atR a' [] with mode := .returning } cs rfl rfl rfl hf rfl trivial hr q
    exact ⟨e', w2, fr', hR, ComesIn.of_steps (up (StepsIn.trans r (.one trivial (stepR_end rfl)))) hs, hfn, hl⟩
  | ret =>
    obtain ⟨todo, hs0⟩ := r.1 rfl
    obtain ⟨e', w2, fr', hR, hs, hfn, hl⟩ := leaves_stepsInM a'.defers .returning w' { b.atR a' todo with mode := .returning } cs rfl rfl rfl hf rfl trivial hr q
    exact ⟨e', w2, fr', hR, ComesIn.of_steps (up hs0) hs, hfn, hl⟩
  | panic ch =>
    obtain ⟨todo, hs0⟩ := r
    obtain ⟨e', w2, fr', hR, hs, hfn, hl⟩ := leaves_stepsInM a'.defers (.panicking ch) w' { b.atR a' todo with mode := .panicking ch } cs rfl rfl rfl hf rfl trivial hr q
    exact ⟨e', w2, fr', hR, ComesIn.of_steps (up hs0) hs, hfn, hl⟩
  | exit id => exact q.elim
  | goto l => exact q.elim
  | outgrown => exact ⟨.outgrown, w', b, q, r.resolve_left (by simp [b]), rfl, trivial⟩
def z4j (P : Program) (l : Nat) (R : Ending → World → Prop) : Exit → Act → World → Prop
  | .panic ch, a, w => a.defers = [] ∧ R (.panicked ch) w
  | e, a, w => roundPost P l R e a w
theorem zud {l : Nat} {f : FuncId} {tmps : Array Value} {asg body : Code} {R : Ending → World → Prop} (hf : (P.funcs[f]?).isSome = true)
    (h : CodeB (some l) P asg (Exit.then (fun a1 w1 => ∃ w2, (Instr.beginRound l).run P w1 = .ok () w2 ∧ CodeB (some l) P body (z4j P l R) a1 w2) (fun _ _ _ => False)) { tmps := tmps, defers := [] } w) :
    RoundIn Fence.wide 0 P l f tmps asg body w R := by
  refine ⟨trivial, fun c cs hr => ?_⟩
  let b : Frame := { (default : Frame) with fn := f, kind := .normal, roundOf := some l }
  have hb0 : Frame.round l f tmps asg body .normal = b.atR { tmps := tmps, defers := [] } [.code asg, .beginRound, .code body] := by
    simp [Frame.round, Frame.atR, b]
  have up : ∀ {m m'}, StepsIn (fun _ => True) P m m' → StepsIn (Machine.fenced P Fence.wide) P m m' := fun h => (stepsIn_wide (P := P)).2 h.steps
  obtain ⟨e, a1, w1, q, r⟩ := h b [.beginRound, .code body] (c :: cs) rfl hf
  rw [← hb0] at r
  by_cases he : e = .normal
  case neg => exact (zif he q).elim
  subst he
  obtain ⟨w2, hbr, hbody⟩ := q
  have s1 := StepsIn.trans r (StepsIn.one (I := fun _ => True) trivial (stepR_beginRound (P := P) (b := b) (a := a1) (k := [.code body]) (cs := c :: cs) rfl hbr))
  obtain ⟨e2, a2, w3, q2, r2⟩ := hbody b [] (c :: cs) rfl hf
  cases e2 with
  | normal =>
    obtain ⟨v, w4, hend, hR⟩ := q2
    exact ⟨.returned v, w4, hR, up (s1.trans (StepsIn.trans r2 (.one trivial (stepR_round_end rfl rfl hend))))⟩
  | ret =>
    obtain ⟨v, w4, hend, hR⟩ := q2
    obtain ⟨k1, hs⟩ := r2.2 rfl
    exact ⟨.returned v, w4, hR, up (s1.trans (StepsIn.trans hs (.one trivial (stepR_round_ret rfl rfl hend))))⟩
  | exit id =>
    obtain ⟨v, w4, hend, hR⟩ := q2
    obtain ⟨k1, hk, hs⟩ := r2.2 rfl rfl
    exact ⟨.returned v, w4, hR, up (s1.trans (StepsIn.trans hs (.one trivial (stepR_round_exit rfl rfl hk hend))))⟩
  | goto t =>
    obtain ⟨v, w4, hend, hR⟩ := q2
    obtain ⟨k1, hk, hs⟩ := r2.2 rfl rfl
    exact ⟨.returned v, w4, hR, up (s1.trans (StepsIn.trans hs (.one trivial (stepR_round_goto rfl rfl hk hend))))⟩
  | panic ch =>
    obtain ⟨hd, hR⟩ := q2
    obtain ⟨todo, hs⟩ := r2
    obtain ⟨fn, hfn⟩ := Option.isSome_iff_exists.1 hf
    exact ⟨.panicked ch, w3, hR, up (s1.trans (StepsIn.trans hs (.one trivial (step_leave_panicked ⟨rfl, hd, fn, hfn⟩))))⟩
  | outgrown => exact q2.elim
end
section
variable {X : Ctx} {fr : Fr} {σ : Heap}
variable {M : Mem} {F : FM} {own : Owns} {a : Act} {w : World} {Ds : List Nat} {M0 : Mem} {own0 : Owns} {w0 : World} {ro : Option Nat}
theorem FM.none_of (h : ∀ d, F d = none) : F = FM.no := funext h
theorem ztn {n : Nat} {env : List (Nat × CV)} (hR : R M F own ⟨n, env, []⟩ σ a w) (hm : MD none Ds a own w0 w) (hs0 : w0.heap.size ≤ w.heap.size) (fn : FuncId) (ps : Array Tmp) (asg body : Code) :
    σ (w.heap.size + 1) = none ∧ ∃ own' w1, (Instr.enterLoop fn a.tmps ps asg body none).run X.P w = .ok (w.heap.size + 1, [{ target := .collected w.heap.size, args := #[] }]) w1 ∧
      R M F own' ⟨n, env, []⟩ (upd σ (w.heap.size + 1) (.loop fn n env ps asg body .ready none)) { a with defers := [{ target := .collected w.heap.size, args := #[] }] ++ a.defers } w1 ∧ KExt M own w M own' w1 ∧
      MD none (w.heap.size :: Ds) { a with defers := [{ target := .collected w.heap.size, args := #[] }] ++ a.defers } own' w0 w1 := by
  have hfr : ∀ b, w.heap.size ≤ b → own b = none := hR.fresh
  have hMn : ∀ b, w.heap.size ≤ b → ∀ o, M b o = none := fun b hb o => by
    cases h : M b o with
    | none => rfl
    | some v =>
      have := hR.mem _ _ _ h
      simp [World.cell?, Array.getElem?_eq_none hb] at this
  have hσ : σ (w.heap.size + 1) = none := by
    cases h : σ (w.heap.size + 1) with
    | none => rfl
    | some ob =>
      have := (hR.glob _ _ h).1
      rw [hfr _ (by omega)] at this; cases this
  have hF : F = FM.no := FM.none_of fun d => hR.dom d rfl
  subst hF
  obtain ⟨r, hr⟩ : ∃ r : Loop, r = { state := .ready, pending := none, fn, tmps := a.tmps, params := ps, assign := asg, body, defers := w.heap.size } := ⟨_, rfl⟩
  obtain ⟨w1, hw1⟩ : ∃ w1, w1 = (w.alloc (.deferred (some []))).alloc (.loop r) := ⟨_, rfl⟩
  have hold : ∀ b, b < w.heap.size → w1.heap[b]? = w.heap[b]? := fun b hb => by
    rw [hw1, Below.heap_alloc _ _ _ (by simp; omega), Below.heap_alloc _ _ _ hb]
  have hD : w1.heap[w.heap.size]? = some (.deferred (some [])) := by rw [hw1, Below.heap_alloc _ _ _ (by simp)]; exact World.alloc_heap_new w _
  have hL : w1.heap[w.heap.size + 1]? = some (.loop r) := by
    rw [hw1]; have := World.alloc_heap_new (w.alloc (.deferred (some []))) (.loop r); rwa [World.size_alloc] at this
  have hsz : w1.heap.size = w.heap.size + 2 := by rw [hw1]; simp
  have hT : Touch M own w (.g (w.heap.size + 1)) (.blk (w.heap.size + 1)) M w1 := by
    refine ⟨by omega, by rw [hw1]; rfl, by rw [hw1]; rfl, by rw [hw1]; rfl, fun b hb _ => ⟨hold b hb, fun _ => rfl⟩, fun _ _ _ h => h, fun b o v hb h => ?_, fun b h => ?_⟩
    · by_cases hlt : b < w.heap.size
      · rw [yv (hold b hlt)]; exact hR.mem _ _ _ h
      · rw [hMn b (by omega)] at h; cases h
    · simp [FO.block] at h; subst h; exact ⟨.inr (by omega), by omega⟩
  have hob : ObRep M FM.no w1 (.blk (w.heap.size + 1)) (.loop fn n env ps asg body .ready none) :=
    ⟨r, hL, by rw [hr]; exact ⟨rfl, rfl, rfl, rfl, rfl, rfl⟩, by rw [hr]; exact hR.size, by rw [hr]; exact hR.env, hMn _ (by omega)⟩
  obtain ⟨t1, t2⟩ := hR.touchG _ _ _ hT rfl hob
  refine ⟨hσ, _, w1, by rw [hw1, hr]; exact run_enterLoop_outer _ _ _ _ _, ⟨t1.toRg, t1.size, t1.env, t1.locs, t1.dom⟩, t2, (fun h => by cases h), ?_, ?_, ?_⟩
  · simp [hm.d]
  · intro D hDm
    rcases List.mem_cons.1 hDm with rfl | hDm
    · refine ⟨hD, ?_, hs0⟩
      simp [zae, FO.block, hfr]
    · exact ((MD.step (a' := a) hm t2 rfl).at_ D hDm)
  · refine List.nodup_cons.2 ⟨fun h => ?_, hm.nd⟩
    have := (Array.getElem?_eq_some_iff.1 (hm.at_ _ h).1).1
    omega
theorem ze6 {l : Nat} {f : FuncId} {n : Nat} {env : List (Nat × CV)} {ps : Array Tmp} {asg body : Code} {st st' : LoopState} {pend pend' : Option Code} (hR : Rg M own σ w)
    (hl : σ l = some (.loop f n env ps asg body st pend)) : ∃ r : Loop, w.heap[l]? = some (.loop r) ∧ r.state = st ∧ r.pending = pend ∧ r.fn = f ∧ r.params = ps ∧ r.assign = asg ∧ r.body = body ∧ r.tmps.size = n ∧ (∀ t, Rep M FM.no (r.tmps.getD t undef) (look env t)) ∧
      ∀ {fr : Fr} {F : FM} {a : Act}, R M F own fr σ a w → ∃ own', R M F own' fr (upd σ l (.loop f n env ps asg body st' pend')) a (w.putObj l (.loop { r with state := st', pending := pend' })) ∧
        KExt M own w M own' (w.putObj l (.loop { r with state := st', pending := pend' })) := by
  obtain ⟨hown, fo, hob, hfo⟩ := hR.glob l _ hl
  cases fo with
  | blk b =>
    simp [FO.block] at hfo; subst hfo
    obtain ⟨r, h1, ⟨h2, h3, h4, h5, h6, h7⟩, h8, h9, h10⟩ := hob
    have hlt := (Array.getElem?_eq_some_iff.1 h1).1
    refine ⟨r, h1, h6, h7, h2, h3, h4, h5, h8, h9, fun {fr F a} hR' => ?_⟩
    have hT : Touch M own w (.g b) (.blk b) M (w.putObj b (.loop { r with state := st', pending := pend' })) := by
      refine ⟨by simp, rfl, rfl, rfl, fun c _ ho => ⟨?_, fun _ => rfl⟩, fun _ _ _ h => h, fun c o v _ h => ?_, fun c h => ?_⟩
      · exact World.putObj_heap_other (fun e => ho (by rw [e]; exact hown))
      · have hne : c ≠ b := fun e => by subst e; rw [h10] at h; cases h
        rw [yv (w := w) (World.putObj_heap_other hne)]; exact hR.mem _ _ _ h
      · simp [FO.block] at h; subst h; exact ⟨.inl hown, by simpa using hlt⟩
    obtain ⟨t1, t2⟩ := hR'.touchG b (.blk b) (.loop f n env ps asg body st' pend') hT rfl ⟨_, World.putObj_heap_same hlt, ⟨h2, h3, h4, h5, rfl, rfl⟩, h8, h9, h10⟩
    exact ⟨_, t1, t2⟩
  | row b n' cap => exact hob.elim
  | tok s n' sz => exact hob.elim
theorem zfu {D : Nat} {o' : Obj} (hR : Rg M own σ w) (hD : w.heap[D]? = some (.deferred (some []))) (ho : own D = none) (hk : KExt M0 own0 w0 M own w) (hs : w0.heap.size ≤ D) :
    Rg M own σ (w.putObj D o') ∧ KExt M0 own0 w0 M own (w.putObj D o') := by
  have hM : ∀ o, M D o = none := fun o => by
    cases h : M D o with
    | none => rfl
    | some v =>
      have := hR.mem _ _ _ h
      simp [World.cell?, hD] at this
  have hlt := (Array.getElem?_eq_some_iff.1 hD).1
  have hkeep : ∀ b, b ≠ D → (w.putObj D o').heap[b]? = w.heap[b]? := fun b hb => World.putObj_heap_other hb
  refine ⟨⟨fun b o v h => ?_, fun l ob hl => ?_, fun b hb => hR.fresh b (by simpa using hb)⟩, ⟨hk.mem, by simpa using hk.size, hk.os, hk.tape, hk.output, fun b hb ho' => ?_⟩⟩
  · have hne : b ≠ D := fun e => by subst e; rw [hM] at h; cases h
    rw [yv (hkeep b hne)]; exact hR.mem _ _ _ h
  · obtain ⟨h1, fo, h2, h3⟩ := hR.glob l ob hl
    refine ⟨h1, fo, h2.keep (Mem.le.refl _) (FM.le.refl _) (fun b hb _ => ⟨hkeep b ?_, fun _ => rfl⟩), h3⟩
    rintro rfl
    rw [h3] at hb; cases hb
    rw [ho] at h1; cases h1
  · have hne : b ≠ D := by omega
    obtain ⟨k1, k2, k3⟩ := hk.keep b hb ho'
    exact ⟨(hkeep b hne).trans k1, k2, k3⟩
theorem R.shut {D : Nat} {o' : Obj} (hR : R M F own fr σ a w) (hD : w.heap[D]? = some (.deferred (some []))) (ho : own D = none) (hk : KExt M0 own0 w0 M own w) (hs : w0.heap.size ≤ D) : R M F own fr σ a (w.putObj D o') := by
  refine ⟨(zfu hR.toRg hD ho hk hs).1, hR.size, hR.env, fun d ob hd => ?_, hR.dom⟩
  obtain ⟨fo, h1, h2, h3⟩ := hR.locs d ob hd
  refine ⟨fo, h1, h2.keep (Mem.le.refl _) (FM.le.refl _) (fun b hb _ => ⟨World.putObj_heap_other ?_, fun _ => rfl⟩), h3⟩
  rintro rfl
  have := h3 _ hb
  rw [ho] at this; cases this
theorem zln (hX : X.ok) {g : Operand} {ps : Array Tmp} {asg body : Code} {n : Nat} {env : List (Nat × CV)} {Q : Xt → Fr → Heap → Prop} {c : CV} (hg : zk ⟨n, env, []⟩ g = c ∨ zk ⟨n, env, []⟩ g = .opq c)
    (h : RngN X.P n env c ps asg body σ fun x σ => Q x ⟨n, env, []⟩ σ) (hR : R M F own ⟨n, env, []⟩ σ a w) (hk : KExt M0 own0 w0 M own w) (hm : MD none Ds a own w0 w) :
    CodeB none X.P (.rangeFunc g ps asg body) (zqd none M0 own0 w0 Q) a w := by
  obtain ⟨id, first, caps, first', caps', rfl, hs1, hs2, h⟩ := h.h
  have hF : F = FM.no := FM.none_of fun d => hR.dom d rfl
  subst hF
  have hrf : Rep M FM.no (a.eval g) (.fn (.func id) first caps) := by
    have := zd hR g
    rcases hg with e | e
    · rwa [e] at this
    · rw [e] at this
      generalize a.eval g = v at this
      cases this with
      | opq _ _ _ h => exact h
  generalize hv : a.eval g = vf at hrf
  cases hrf with
  | fn _ vs us _ _ s1 r1 s2 r2 =>
    refine CodeB.range fun fn hfn => ?_
    obtain ⟨hσ, own1, w1, he, hR1, hk1, hm1⟩ := ztn (X := X) hR hm hk.size fn ps asg body
    obtain ⟨post, hc, hp⟩ := h fn (w.heap.size + 1) hfn hσ
    refine ⟨w.heap.size + 1, _, w1, { target := .fn (.func id) us, args := vs ++ #[.func (.yield (w.heap.size + 1)) #[] #[]] }, w1, id, vs ++ #[.func (.yield (w.heap.size + 1)) #[] #[]] ++ us, w1, he, ?_, ?_, ?_⟩
    · simp only [resolve, hv]
      simp [Deferred.ofValue, Sem.run_pure, Act.eval]
    · simp only [invoke]
      exact js hc.1 _ _
    · obtain ⟨j1, j2⟩ := zv (M := M) (F := FM.no) hs1
      obtain ⟨l1, l2⟩ := zv (M := M) (F := FM.no) hs2
      have r1' := j2 vs r1
      have r2' := l2 us r2
      obtain ⟨p1, p2⟩ := vd (M := M) (F := FM.no) (s1.trans j1) r1' (us := #[.func (.yield (w.heap.size + 1)) #[] #[]]) (ds := [.fn (.yield (w.heap.size + 1)) [] []]) rfl (fun i c hc => by
        cases i with
        | zero => simp at hc; subst hc; exact .fn _ #[] #[] [] [] rfl (fun i c hc => by simp at hc) rfl (fun i c hc => by simp at hc)
        | succ i => simp at hc)
      obtain ⟨q1, q2⟩ := vd p1 p2 (s2.trans l1) r2'
      refine (hc.2 M _ w1 _ hR1.toRg.only q1 q2).mono fun e w2 ho => ?_
      obtain ⟨out, M', own', hpo, hk', hmm⟩ := ho
      have hpo := hp out hpo
      split at hmm
      · rename_i v σ' u
        obtain ⟨own'', g1, g2⟩ := hR1.after hmm.2 hk'
        obtain ⟨st, pend, σ2, b1, b2, b3, b4, b5⟩ := hpo
        obtain ⟨r, c1, c2, c3, _, _, _, _, _, _, c4⟩ := ze6 (st' := .exhausted) (pend' := pend) g1.toRg b1
        obtain ⟨own3, d1, d2⟩ := c4 g1
        have hrun : (Instr.endLoop (w.heap.size + 1)).run X.P w2 = .ok pend (w2.putObj (w.heap.size + 1) (.loop { r with state := .exhausted, pending := pend })) := by
          have := run_endLoop (P := X.P) c1 (by rw [c2]; exact b2)
          rw [c3] at this
          rw [this]
        have hR3 : R M' FM.no own3 ⟨n, env, []⟩ σ2 { a with defers := [{ target := .collected w.heap.size, args := #[] }] ++ a.defers } (w2.putObj (w.heap.size + 1) (.loop { r with state := .exhausted, pending := pend })) :=
          ⟨⟨d1.mem, fun x ob hx => d1.glob x ob (by
            have hne : x ≠ w.heap.size + 1 := fun e => by rw [e, b4] at hx; cases hx
            rw [zb _ _ hne]; exact b3 _ _ hx), d1.fresh⟩, d1.size, d1.env, d1.locs, d1.dom⟩
        have hk3 := ((hk.trans hk1).trans g2).trans d2
        have hm3 := (hm1.step g2 rfl).step d2 rfl
        refine ⟨pend, _, hrun, ?_⟩
        cases pend with
        | none => exact ⟨_, .normal, M', FM.no, own3, _, σ2, trivial, b5, hR3, hk3, hm3⟩
        | some c =>
          cases c with
          | ret => exact CodeB.of (wpIn_ret ⟨_, .ret, M', FM.no, own3, _, σ2, trivial, b5, hR3, hk3, hm3⟩)
          | exit i => exact CodeB.of (wpIn_exit ⟨_, .exit i, M', FM.no, own3, _, σ2, rfl, b5, hR3, hk3, hm3⟩)
          | _ => exact b5.elim
      · rename_i v σ' p _
        obtain ⟨own'', g1, g2⟩ := hR1.after hmm.2.2.2 hk'
        obtain ⟨σ2, b3, b5⟩ := hpo
        refine ⟨_, .pan v, M', FM.no, own'', ⟨n, env, []⟩, σ2, ⟨hmm.1, hmm.2.1, hmm.2.2.1⟩, b5, ?_, (hk.trans hk1).trans g2, hm1.step g2 rfl⟩
        exact R.pan ⟨⟨g1.mem, fun x ob hx => g1.glob x ob (b3 _ _ hx), g1.fresh⟩, g1.size, g1.env, g1.locs, g1.dom⟩
      · exact hmm.elim
theorem zqf (hX : X.ok) (hD : ji X) : ∀ (c : Code), (ro = none ∨ ju c = true) → ∀ {fr : Fr} {σ : Heap} {Q : Xt → Fr → Heap → Prop}, ExF X c fr σ Q →
    ∀ {M : Mem} {F : FM} {own : Owns} {a : Act} {w : World} {Ds : List Nat} {M0 : Mem} {own0 : Owns} {w0 : World}, R M F own fr σ a w → KExt M0 own0 w0 M own w → MD ro Ds a own w0 w → CodeB ro X.P c (zqd ro M0 own0 w0 Q) a w := by
  intro c
  induction c with
  | skip => intro _ fr σ Q h M F own a w Ds M0 own0 w0 hR hk hm; exact CodeB.of (wpIn_skip ⟨Ds, .normal, M, F, own, fr, σ, trivial, h, hR, hk, hm⟩)
  | region id ops draw =>
    intro hp fr σ Q h M F own a w Ds M0 own0 w0 hR hk hm
    cases draw with
    | true =>
      have hro : ro = none := hp.resolve_right (by simp [ju])
      subst hro
      exact CodeB.of (wd_none.2 (Code.wp_mono (fun e a' w' hl => zm9 hk hm hl) (hD id ops h hR (D := a.defers) ⟨KExt.refl M own w, rfl⟩)))
    | false => exact CodeB.of (wpIn_region_list (zfc hX _ h hR hk hm))
  | seq x y ihx ihy =>
    intro hp fr σ Q h M F own a w Ds M0 own0 w0 hR hk hm
    refine CodeB.seq (CodeB.mono (ihx (hp.imp id fun e => by simp [ju] at e; exact e.1) h hR hk hm) ?_)
    rintro e a' w' ⟨Ds', x', M', F', own', fr', σ', hx, hq, hR', hk', hm'⟩
    cases e with
    | normal =>
      cases x' with
      | normal => exact ihy (hp.imp id fun e => by simp [ju] at e; exact e.2) hq hR' hk' hm'
      | _ => exact hx.elim
    | exit i =>
      cases x' with
      | exit j => exact ⟨Ds', .exit j, M', F', own', fr', σ', hx, hq, hR', hk', hm'⟩
      | _ => exact hx.elim
    | ret =>
      cases x' with
      | ret => exact ⟨Ds', .ret, M', F', own', fr', σ', hx, hq, hR', hk', hm'⟩
      | _ => exact hx.elim
    | panic ch =>
      cases x' with
      | pan c => exact ⟨Ds', .pan c, M', F', own', fr', σ', hx, hq, hR', hk', hm'⟩
      | _ => rcases ch with _ | ⟨p, _ | ⟨q, r⟩⟩ <;> exact hx.elim
    | goto l => exact hx.elim
    | outgrown => exact hx.elim
  | cond c t e iht ihe =>
    intro hp fr σ Q h M F own a w Ds M0 own0 w0 hR hk hm
    change (match zk fr c with | .sc (.bool b) => selB b (ExF X t fr σ Q) (ExF X e fr σ Q) | _ => False) at h
    split at h
    · rename_i b hb
      have hr := zd hR c
      rw [hb] at hr
      generalize hv : a.eval c = v at hr
      cases hr
      exact CodeB.cond hv (fun hb => iht (hp.imp id fun e => by simp [ju] at e; exact e.1) (h.t hb) hR hk hm) (fun hb => ihe (hp.imp id fun e => by simp [ju] at e; exact e.2) (h.e hb) hR hk hm)
    · exact h.elim
  | block id c ih =>
    intro hp fr σ Q h M F own a w Ds M0 own0 w0 hR hk hm
    refine CodeB.block (CodeB.mono (ih (hp.imp (fun e => e) fun e => by simpa [ju] using e) h hR hk hm) ?_)
    rintro e a' w' ⟨Ds', x', M', F', own', fr', σ', hx, hq, hR', hk', hm'⟩
    cases e with
    | normal =>
      cases x' with
      | normal => exact ⟨Ds', .normal, M', F', own', fr', σ', trivial, hq, hR', hk', hm'⟩
      | _ => exact hx.elim
    | exit i =>
      cases x' with
      | exit j =>
        have hx : i = j := hx
        subst hx
        simp only at hq
        split at hq
        · rename_i he
          have he := Nat.eq_of_beq_eq_true he
          simp only [Exit.inBlock, if_pos he]
          exact ⟨Ds', .normal, M', F', own', fr', σ', trivial, hq, hR', hk', hm'⟩
        · rename_i he
          have he : ¬ i = id := fun e => by subst e; simp at he
          simp only [Exit.inBlock, if_neg he]
          exact ⟨Ds', .exit i, M', F', own', fr', σ', rfl, hq, hR', hk', hm'⟩
      | _ => exact hx.elim
    | ret =>
      cases x' with
      | ret => exact ⟨Ds', .ret, M', F', own', fr', σ', hx, hq, hR', hk', hm'⟩
      | _ => exact hx.elim
    | panic ch =>
      cases x' with
      | pan c => exact ⟨Ds', .pan c, M', F', own', fr', σ', hx, hq, hR', hk', hm'⟩
      | _ => rcases ch with _ | ⟨p, _ | ⟨q, r⟩⟩ <;> exact hx.elim
    | goto l => exact hx.elim
    | outgrown => exact hx.elim
  | loop c ih =>
    intro hp fr σ Q h M F own a w Ds M0 own0 w0 hR hk hm
    obtain ⟨n, h'⟩ := h.h
    clear h
    refine CodeB.loop n ?_
    induction n generalizing fr σ M F own a w Ds with
    | zero => exact h'.elim
    | succ n ihn =>
      obtain ⟨fr', σ', hw, h⟩ := h'
      obtain ⟨F', hR'⟩ := hR.weaken hw
      refine CodeB.mono (ih (hp.imp (fun e => e) fun e => by simpa [ju] using e) h hR' hk hm) ?_
      rintro e a' w' ⟨Ds', x', M', F', own', fr', σ', hx, hq, hR', hk', hm'⟩
      cases e with
      | normal =>
        cases x' with
        | normal => exact ihn hR' hk' hm' (by exact hq)
        | _ => exact hx.elim
      | exit i =>
        cases x' with
        | exit j => exact ⟨Ds', .exit j, M', F', own', fr', σ', hx, hq, hR', hk', hm'⟩
        | _ => exact hx.elim
      | ret =>
        cases x' with
        | ret => exact ⟨Ds', .ret, M', F', own', fr', σ', hx, hq, hR', hk', hm'⟩
        | _ => exact hx.elim
      | panic ch =>
        cases x' with
        | pan c => exact ⟨Ds', .pan c, M', F', own', fr', σ', hx, hq, hR', hk', hm'⟩
        | _ => rcases ch with _ | ⟨p, _ | ⟨q, r⟩⟩ <;> exact hx.elim
      | goto l => exact hx.elim
      | outgrown => exact hx.elim
  | rangeFunc g ps asg body =>
    intro hp fr σ Q h M F own a w Ds M0 own0 w0 hR hk hm
    have hro : ro = none := hp.resolve_right (by simp [ju])
    subst hro
    obtain ⟨n, env, locs⟩ := fr
    cases locs with
    | cons _ _ => exact h.elim
    | nil =>
      change (match zk ⟨n, env, []⟩ g with
          | .fn f first caps => RngN X.P n env (.fn f first caps) ps asg body σ fun x σ => Q x ⟨n, env, []⟩ σ
          | .opq c => RngN X.P n env c ps asg body σ fun x σ => Q x ⟨n, env, []⟩ σ
          | _ => False) at h
      split at h
      · rename_i f first caps hg; exact zln hX (.inl hg) h hR hk hm
      · rename_i c hg; exact zln hX (.inr hg) h hR hk hm
      · exact h.elim
  | exit id => intro _ fr σ Q h M F own a w Ds M0 own0 w0 hR hk hm; exact CodeB.of (wpIn_exit ⟨Ds, .exit id, M, F, own, fr, σ, rfl, h, hR, hk, hm⟩)
  | ret => intro _ fr σ Q h M F own a w Ds M0 own0 w0 hR hk hm; exact CodeB.of (wpIn_ret ⟨Ds, .ret, M, F, own, fr, σ, trivial, h, hR, hk, hm⟩)
  | _ => intro _ fr σ Q h; exact h.elim
end
section
variable {X : Ctx} {fr : Fr} {σ : Heap}
variable {M : Mem} {F : FM} {own : Owns} {a : Act} {w : World} {Ds : List Nat} {M0 : Mem} {own0 : Owns} {w0 : World} {ro : Option Nat}
theorem zbj {fn : Func} {tmps : Array Value} {RR : Ending → World → Prop} {u : FrameMode} (hu : u ≠ .run) {Inv : World → Prop}
    (hI : ∀ D w, Inv w → w.heap[D]? = some (.deferred (some [])) → own D = none → w0.heap.size ≤ D → Inv (w.putObj D (.deferred none)))
    (hfin : ∀ w, Inv w → LeavesIn (Wd none) 0 X.P fn tmps RR [] u w) : ∀ (Ds : List Nat) (w : World), Ds.Nodup → (∀ D ∈ Ds, w.heap[D]? = some (.deferred (some [])) ∧ own D = none ∧ w0.heap.size ≤ D) → Inv w →
    LeavesInM (Wd none) 0 X.P fn tmps RR (Ds.map fun D => { target := .collected D, args := #[] }) u w
  | [], w, _, _, h => hfin w h
  | D :: Ds, w, hn, hd, h => by
    obtain ⟨h1, h2, h3⟩ := hd D (List.mem_cons_self ..)
    obtain ⟨n1, n2⟩ := List.nodup_cons.1 hn
    refine ⟨hu, .inl ⟨D, _, rfl, run_takeDeferred h1, zbj hu hI hfin Ds _ n2 (fun D' hD' => ?_) (hI D w h h1 h2 h3)⟩⟩
    obtain ⟨k1, k2, k3⟩ := hd D' (List.mem_cons_of_mem _ hD')
    exact ⟨(World.putObj_heap_other (fun e => n1 (by rw [← e]; exact hD'))).trans k1, k2, k3⟩
theorem jq (hX : X.ok) (hD : ji X) {f : FuncId} {fn : Func} {body : Code} {args : List CV} {σ : Heap} {post : COut → Prop} (hf : X.P.funcs[f]? = some fn) (hb : fn.body = some body)
    (hn : (fn.name == "runtime.NumGoroutine") = false) (hs : Nat.ble args.length fn.ntmps = true)
    (h : ExF X body ⟨fn.ntmps, zdn 0 args, []⟩ σ (zwp X fn post)) : CRun X.P f args σ post := by
  have hs := Nat.le_of_ble_eq_true hs
  refine ⟨⟨fn, hf, by simp [hb], hn⟩, fun M own w vals hRg hvs hr => ?_⟩
  refine zxb hf hb ?_
  have hR : R M FM.no own ⟨fn.ntmps, zdn 0 args, []⟩ σ { tmps := vals ++ Array.replicate (fn.ntmps - vals.size) undef, defers := [] } w := by
    refine ⟨hRg, by simp; omega, fun t => ?_, fun d ob hd => by simp [z6] at hd, fun d _ => rfl⟩
    rw [zb4]
    by_cases ht : t < args.length
    · rw [if_pos (by omega)]
      have := hr t args[t] (by simp [ht])
      have hv : t < vals.size := by omega
      rw [Array.getD_eq_getD_getElem?, Array.getElem?_append_left hv, ← Array.getD_eq_getD_getElem?]
      simpa [List.getD_eq_getElem?_getD, ht] using this
    · rw [if_neg (by omega)]; exact .junk
  refine CodeB.mono (zqf (ro := none) hX hD body (.inl rfl) h hR (KExt.refl M own w) (Ds := []) ⟨fun _ => rfl, rfl, by simp, List.nodup_nil⟩) ?_
  rintro e a' w' ⟨Ds, x', M', F', own', fr', σ', hx, hq, hR', hk', hm'⟩
  have fin : R M' F' own' fr' σ' a' w' → (zko X fr' σ' fn.results.toList fun raw => vh true raw fun vs => match vs with
    | [v] => Fin raw v σ' post
    | vs => Fin raw (.tup vs) σ' post) → LeavesInM (Wd none) 0 X.P fn a'.tmps (za7 M own w post) a'.defers .returning w' := by
    intro hR' h
    rw [hm'.d]
    refine zbj (own := own') (w0 := w) (by simp) (Inv := fun w' => R M' F' own' fr' σ' a' w' ∧ KExt M own w M' own' w') (fun D w2 ⟨i1, i2⟩ k1 k2 k3 => ⟨i1.shut k1 k2 i2 k3, (zfu i1.toRg k1 k2 i2 k3).2⟩) ?_ Ds w' hm'.nd hm'.at_ ⟨hR', hk'⟩
    rintro w2 ⟨i1, i2⟩
    obtain ⟨vs, us, h1, h2, h3, h4⟩ := zbm hX i1 _ h
    obtain ⟨vs', h5, h6⟩ := wh _ h1
    refine ⟨_, kq h2, ?_⟩
    split at h5
    · exact h5.out rfl i1.toRg h6 h3 h4 i2
    · rename_i hne
      refine h5.out (vs' := vs') ?_ i1.toRg h6 h3 h4 i2
      unfold zez
      split
      · rename_i v; exact absurd rfl (hne v)
      · rfl
  cases e with
  | normal =>
    cases x' with
    | normal => exact fin hR' hq
    | _ => exact hx.elim
  | ret =>
    cases x' with
    | ret => exact fin hR' hq
    | _ => exact hx.elim
  | exit i =>
    cases x' with
    | exit j => exact hq.elim
    | _ => exact hx.elim
  | panic ch =>
    cases x' with
    | pan c =>
      rcases ch with _ | ⟨p, _ | ⟨q, r⟩⟩
      · exact hx.elim
      · obtain ⟨e1, e2, e3⟩ := hx
        obtain ⟨τ, hs, hp⟩ := hq
        show LeavesInM (Wd none) 0 X.P fn a'.tmps (za7 M own w post) a'.defers (.panicking [p]) w'
        rw [hm'.d]
        refine zbj (own := own') (w0 := w) (by simp) (Inv := fun w' => Rg M' own' σ' w' ∧ KExt M own w M' own' w') (fun D w2 ⟨i1, i2⟩ k1 k2 k3 => zfu i1 k1 k2 i2 k3) ?_ Ds w' hm'.nd hm'.at_ ⟨hR'.1, hk'⟩
        rintro w2 ⟨i1, i2⟩
        exact ⟨_, M', own', hp, i2, e1, e2, e3, i1.mem, fun l ob hl => i1.glob l ob (hs l ob hl), i1.fresh⟩
      · exact hx.elim
    | _ => rcases ch with _ | ⟨p, _ | ⟨q, r⟩⟩ <;> exact hx.elim
  | goto l => exact hx.elim
  | outgrown => exact hx.elim
def putsE : List Tmp → List CV → List (Nat × CV) → List (Nat × CV)
  | t :: ts, c :: cs, env => putsE ts cs ((t, c) :: env)
  | _, _, env => env
theorem zqr {n : Nat} : ∀ (ts : List Tmp) (cs : List CV) (vs : List Value) (env : List (Nat × CV)) (tmps : Array Value), cs.length = ts.length → vs.length = ts.length → (∀ t ∈ ts, t < n) → tmps.size = n →
    (∀ (i : Nat) c, cs[i]? = some c → Rep M F (vs.getD i undef) c) → (∀ t, Rep M F (tmps.getD t undef) (look env t)) →
    ((ts.zip vs).foldl (fun tmps (p : Tmp × Value) => tmps.setIfInBounds p.1 p.2) tmps).size = n ∧ ∀ t, Rep M F (((ts.zip vs).foldl (fun tmps (p : Tmp × Value) => tmps.setIfInBounds p.1 p.2) tmps).getD t undef) (look (putsE ts cs env) t)
  | [], _, _, env, tmps, _, _, _, hs, _, he => by cases ‹List CV› <;> exact ⟨hs, he⟩
  | t :: ts, [], _, _, _, h, _, _, _, _, _ => by simp at h
  | t :: ts, c :: cs, [], _, _, _, h, _, _, _, _ => by simp at h
  | t :: ts, c :: cs, v :: vs, env, tmps, h1, h2, h3, hs, hr, he => by
    simp only [List.zip_cons_cons, List.foldl_cons, putsE]
    refine zqr ts cs vs _ _ (by simpa using h1) (by simpa using h2) (fun t ht => h3 t (List.mem_cons_of_mem _ ht)) (by simpa using hs) (fun i c hc => by simpa using hr (i + 1) c (by simpa using hc)) fun t' => ?_
    have hlt := h3 t (List.mem_cons_self ..)
    rw [xa]
    split
    · rename_i e; subst e
      have := hr 0 c rfl
      simp [Array.getD_eq_getD_getElem?, Array.getElem?_setIfInBounds, hs, hlt] at this ⊢
      exact this
    · rename_i e
      have := he t'
      rw [Array.getD_eq_getD_getElem?, Array.getElem?_setIfInBounds_ne e, ← Array.getD_eq_getD_getElem?]; exact this
structure RndN (l : Nat) (ob ob' : Ob) (σ : Heap) (v : CV) (post : COut → Prop) : Prop where
  at_ : σ l = some ob
  h : ∃ τ, Sub τ (upd σ l ob') ∧ post (.ret v τ)
def z4k (l : Nat) (f : FuncId) (n : Nat) (env : List (Nat × CV)) (ps : Array Tmp) (asg body : Code) (post : COut → Prop) (x : Xt) (_fr : Fr) (σ : Heap) : Prop := match x with
  | .normal => RndN l (.loop f n env ps asg body .busy none) (.loop f n env ps asg body .ready none) σ (.sc (.bool true)) post
  | .ret => RndN l (.loop f n env ps asg body .busy none) (.loop f n env ps asg body .done (some .ret)) σ (.sc (.bool false)) post
  | .exit i => RndN l (.loop f n env ps asg body .busy none) (.loop f n env ps asg body .done (some (.exit i))) σ (.sc (.bool false)) post
  | .pan c => ∃ τ, Sub τ σ ∧ post (.pan c τ)
structure AsgN (X : Ctx) (l : Nat) (f : FuncId) (n : Nat) (env : List (Nat × CV)) (ps : Array Tmp) (asg body : Code) (post : COut → Prop) (fr : Fr) (σ : Heap) : Prop where
  at_ : σ l = some (.loop f n env ps asg body .ready none)
  h : ∀ τ, τ = upd σ l (.loop f n env ps asg body .busy none) → ExF X body fr τ (z4k l f n env ps asg body post)
def z58 (X : Ctx) (l : Nat) (f : FuncId) (n : Nat) (env : List (Nat × CV)) (ps : Array Tmp) (asg body : Code) (post : COut → Prop) (x : Xt) (fr : Fr) (σ : Heap) : Prop := match x with
  | .normal => AsgN X l f n env ps asg body post fr σ
  | _ => False
theorem zod (hX : X.ok) (hD : ji X) {l : Nat} {f : FuncId} {n : Nat} {env : List (Nat × CV)} {ps : Array Tmp} {asg body : Code} {args : List CV} {post : COut → Prop} (hf : (X.P.funcs[f]?).isSome = true) (hl : σ l = some (.loop f n env ps asg body .ready none))
    (hn : Nat.beq args.length ps.size = true) (hlt : ps.toList.all (fun t => Nat.blt t n) = true) (hp : (ju asg && ju body) = true)
    (h : ExF X asg ⟨n, putsE ps.toList args env, []⟩ σ (z58 X l f n env ps asg body post)) : z35 X.P l args σ post := by
  intro M own w vals hRg hvs hr
  have hn := Nat.eq_of_beq_eq_true hn
  simp only [Bool.and_eq_true] at hp
  obtain ⟨r, h1, h2, h3, h4, h5, h6, h7, h8, h9, _⟩ := ze6 (st' := .busy) (pend' := none) hRg hl
  have hy := run_yield (P := X.P) (args := vals) h1 (by rw [h5]; omega)
  rw [h4, h5, h6, h7] at hy
  refine ⟨_, _, _, _, hy, zud hf ?_⟩
  have hz : (ps.zip vals).foldl (fun tmps (t, a) => tmps.setIfInBounds t a) r.tmps = (ps.toList.zip vals.toList).foldl (fun tmps (p : Tmp × Value) => tmps.setIfInBounds p.1 p.2) r.tmps := by
    rw [← Array.foldl_toList, Array.toList_zip]
  obtain ⟨p1, p2⟩ := zqr (M := M) (F := FM.no) (n := n) ps.toList args vals.toList env r.tmps (by simpa using hn) (by simp; omega) (fun t ht => by
    have := List.all_eq_true.1 hlt t ht
    simpa using this) h8 (fun i c hc => by simpa [Array.getD_eq_getD_getElem?, List.getD_eq_getElem?_getD] using hr i c hc) h9
  have hR : R M FM.no own ⟨n, putsE ps.toList args env, []⟩ σ { tmps := (ps.zip vals).foldl (fun tmps (t, a) => tmps.setIfInBounds t a) r.tmps, defers := [] } w := by
    refine ⟨hRg, ?_, fun t => ?_, fun d ob hd => by simp [z6] at hd, fun d _ => rfl⟩
    · show ((ps.zip vals).foldl _ r.tmps).size = n
      rw [hz]; exact p1
    · show Rep _ _ (((ps.zip vals).foldl _ r.tmps).getD t undef) _
      rw [hz]; exact p2 t
  refine CodeB.mono (zqf (ro := some l) hX hD asg (.inr hp.1) h hR (KExt.refl M own w) (Ds := []) ⟨fun _ => rfl, rfl, by simp, List.nodup_nil⟩) ?_
  rintro e a1 w1 ⟨Ds, x', M', F', own', fr', σ', hx, hq, hR', hk', hm'⟩
  cases x' with
  | normal =>
    cases e with
    | normal =>
      obtain ⟨hat, hq⟩ := (hq : AsgN X l f n env ps asg body post fr' σ')
      obtain ⟨r1, g1, g2, _, _, _, _, _, _, _, g3⟩ := ze6 (st' := .busy) (pend' := none) hR'.toRg hat
      obtain ⟨own2, hR2, hk2⟩ := g3 hR'
      have hbr := run_beginRound (P := X.P) g1 g2
      have e1 : ({ r1 with state := LoopState.busy } : Loop) = { r1 with state := .busy, pending := none } := by
        have : r1.pending = none := ‹r1.pending = none›
        rw [← this]
      rw [e1] at hbr
      refine ⟨_, hbr, ?_⟩
      refine CodeB.mono (zqf (ro := some l) hX hD body (.inr hp.2) (hq _ rfl) hR2 (hk'.trans hk2) (Ds := Ds) (hm'.step hk2)) ?_
      rintro e2 a2 w2 ⟨Ds2, x2, M2, F2, own2', fr2, σ2, hx2, hq2, hR3, hk3, hm3⟩
      have fin : ∀ {jump : Option Code} {v : CV} {b : Bool} {ob' : Ob}, ob' = .loop f n env ps asg body (if jump.isNone then .ready else .done) jump → b = jump.isNone → v = .sc (.bool b) → R M2 F2 own2' fr2 σ2 a2 w2 → RndN l (.loop f n env ps asg body .busy none) ob' σ2 v post →
          ∃ v' w3, (Instr.endRound l jump).run X.P w2 = .ok v' w3 ∧ za7 M own w post (.returned v') w3 := by
        rintro jump v b ob' rfl rfl rfl hR3 ⟨hat2, τ, hs, hpost⟩
        obtain ⟨r2, k1, k2, _, _, _, _, _, _, _, k3⟩ := ze6 (st' := if jump.isNone then .ready else .done) (pend' := jump) hR3.toRg hat2
        obtain ⟨own4, hR4, hk4⟩ := k3 hR3
        exact ⟨_, _, run_endRound (P := X.P) jump k1, .ret (.sc (.bool jump.isNone)) τ, M2, own4, hpost, hk3.trans hk4, .sc _, hR4.mem, fun x ob hx => hR4.glob x ob (hs _ _ hx), hR4.fresh⟩
      cases x2 with
      | normal =>
        cases e2 with
        | normal => exact fin rfl rfl rfl hR3 hq2
        | panic ch => rcases ch with _ | ⟨p, _ | ⟨q, r⟩⟩ <;> exact hx2.elim
        | _ => exact hx2.elim
      | ret =>
        cases e2 with
        | ret => exact fin rfl rfl rfl hR3 hq2
        | panic ch => rcases ch with _ | ⟨p, _ | ⟨q, r⟩⟩ <;> exact hx2.elim
        | _ => exact hx2.elim
      | exit i =>
        cases e2 with
        | exit j =>
          have hx2 : j = i := hx2
          subst hx2
          exact fin rfl rfl rfl hR3 hq2
        | panic ch => rcases ch with _ | ⟨p, _ | ⟨q, r⟩⟩ <;> exact hx2.elim
        | _ => exact hx2.elim
      | pan c =>
        cases e2 with
        | panic ch =>
          rcases ch with _ | ⟨p, _ | ⟨q, r⟩⟩
          · exact hx2.elim
          · obtain ⟨e1, e2, e3⟩ := hx2
            obtain ⟨τ, hs, hpost⟩ := hq2
            refine ⟨by rw [hm3.d, hm3.z rfl]; rfl, .pan c τ, M2, own2', hpost, hk3, e1, e2, e3, hR3.1.mem, fun x ob hx => hR3.1.glob x ob (hs _ _ hx), hR3.1.fresh⟩
          · exact hx2.elim
        | _ => exact hx2.elim
    | panic ch => rcases ch with _ | ⟨p, _ | ⟨q, r⟩⟩ <;> exact hx.elim
    | _ => exact hx.elim
  | _ => exact (hq : False).elim
def del (σ : Heap) (l : Nat) : Heap := fun x => if x = l then none else σ x
theorem za1 (σ : Heap) (l : Nat) : del σ l l = none := by simp [del]
theorem zbr (σ : Heap) {l x : Nat} (h : x ≠ l) : del σ l x = σ x := by simp [del, h]
theorem zgo (σ : Heap) (l : Nat) : Sub (del σ l) σ := fun x ob h => by
  by_cases e : x = l
  · subst e; rw [za1] at h; cases h
  · rwa [zbr _ e] at h
theorem RngN.all {P : Program} {n : Nat} {env : List (Nat × CV)} {ps : Array Tmp} {asg body : Code} {k : Xt → Heap → Prop} {id : Nat} {caps caps' : List CV} (hc : CV.strips true caps = some caps')
    (h : ∀ f lr ob, (P.funcs[f]?).isSome = true → ob = Ob.loop f n env ps asg body .ready none → σ lr = none → ∃ J : Heap → Prop, CRun P id ([.fn (.yield lr) [] []] ++ caps') (upd σ lr ob) (fun out => ∃ τ v, J τ ∧ out = .ret v τ) ∧
      (∀ τ, J τ → τ lr = some ob) ∧ ∀ τ τ', J τ → τ' = del τ lr → k .normal τ') : RngN P n env (.fn (.func id) [] caps) ps asg body σ k := by
  refine ⟨⟨id, [], caps, [], caps', rfl, rfl, hc, fun f l hfn hl => ?_⟩⟩
  obtain ⟨J, h1, h2, h3⟩ := h f l _ hfn rfl hl
  refine ⟨_, h1, ?_⟩
  rintro _ ⟨τ, v, hJ, rfl⟩
  exact ⟨.ready, none, del τ l, h2 τ hJ, by simp, zgo _ _, za1 _ _, h3 τ _ hJ rfl⟩
theorem RngN.two {P : Program} {n : Nat} {env : List (Nat × CV)} {ps : Array Tmp} {asg body : Code} {k : Xt → Heap → Prop} {id : Nat} {caps caps' : List CV} (hc : CV.strips true caps = some caps')
    (h : ∀ f lr ob ob', (P.funcs[f]?).isSome = true → ob = Ob.loop f n env ps asg body .ready none → ob' = Ob.loop f n env ps asg body .done (some .ret) → σ lr = none → ∃ J K : Heap → Prop,
      CRun P id ([.fn (.yield lr) [] []] ++ caps') (upd σ lr ob) (fun out => ∃ τ v, (J τ ∨ K τ) ∧ out = .ret v τ) ∧
      (∀ τ, J τ → τ lr = some ob) ∧ (∀ τ, K τ → τ lr = some ob') ∧ (∀ τ τ', J τ → τ' = del τ lr → k .normal τ') ∧ ∀ τ τ', K τ → τ' = del τ lr → k .ret τ') : RngN P n env (.fn (.func id) [] caps) ps asg body σ k := by
  refine ⟨⟨id, [], caps, [], caps', rfl, rfl, hc, fun f l hfn hl => ?_⟩⟩
  obtain ⟨J, K, h1, h2, h3, h4, h5⟩ := h f l _ _ hfn rfl rfl hl
  refine ⟨_, h1, ?_⟩
  rintro _ ⟨τ, v, hJ | hK, rfl⟩
  · exact ⟨.ready, none, del τ l, h2 τ hJ, by simp, zgo _ _, za1 _ _, h4 τ _ hJ rfl⟩
  · exact ⟨.done, some .ret, del τ l, h3 τ hK, by simp, zgo _ _, za1 _ _, h5 τ _ hK rfl⟩
theorem RngN.pan {P : Program} {n : Nat} {env : List (Nat × CV)} {ps : Array Tmp} {asg body : Code} {k : Xt → Heap → Prop} {id : Nat} {caps caps' : List CV} (hc : CV.strips true caps = some caps')
    (h : ∀ f lr ob, (P.funcs[f]?).isSome = true → ob = Ob.loop f n env ps asg body .ready none → σ lr = none → ∃ J : Heap → Prop, ∃ K : CV → Heap → Prop,
      CRun P id ([.fn (.yield lr) [] []] ++ caps') (upd σ lr ob) (fun out => (∃ τ v, J τ ∧ out = .ret v τ) ∨ ∃ c τ, K c τ ∧ out = .pan c τ) ∧
      (∀ τ, J τ → τ lr = some ob) ∧ (∀ τ τ', J τ → τ' = del τ lr → k .normal τ') ∧ ∀ c τ τ', K c τ → τ' = del τ lr → k (.pan c) τ') : RngN P n env (.fn (.func id) [] caps) ps asg body σ k := by
  refine ⟨⟨id, [], caps, [], caps', rfl, rfl, hc, fun f l hfn hl => ?_⟩⟩
  obtain ⟨J, K, h1, h2, h3, h4⟩ := h f l _ hfn rfl hl
  refine ⟨_, h1, ?_⟩
  rintro _ (⟨τ, v, hJ, rfl⟩ | ⟨c, τ, hK, rfl⟩)
  · exact ⟨.ready, none, del τ l, h2 τ hJ, by simp, zgo _ _, za1 _ _, h3 τ _ hJ rfl⟩
  · exact ⟨del τ l, zgo _ _, h4 c τ _ hK rfl⟩
end
end Go.CL
