/-
  A symbolic run of the model, its soundness, and steps by which it is used.
-/
import Derived.Laws.AppendOwn
import Derived.Laws.MakeOwn
import Derived.LoopN
import Derived.Laws.Slices
import Derived.Orders
import Derived.WalkKit
import Derived.Laws.BytesString
import Derived.Laws.Cells
set_option linter.unusedVariables false
set_option linter.unusedSimpArgs false
namespace Go.CL
open Go
inductive Own where
  | f (d : Nat)
  | g (l : Nat)
  deriving DecidableEq
inductive CV where
  | sc (v : Value)
  | nil
  | agg (cs : List CV)
  | vec (xs : List CV)
  | avec (d : Nat) (xs : List CV)
  | row (d : Nat)
  | grow (l n cap : Nat)
  | ptr (o : Own) (off : Nat)
  | eptr (o : Own) (sz i off : Nat)
  | ref (x : CV) (off : Nat)
  | iface (t : TypeId) (v : CV)
  | fn (f : Fn) (first caps : List CV)
  | tup (vs : List CV)
  | map (l : Nat)
  | opq (c : CV)
  | junk
def CV.cells : CV → List CV
  | .agg cs => cs
  | c => [c]
def CV.one : CV → Bool
  | .sc (.agg _) => false
  | .sc (.tuple _) => false
  | .agg _ => false
  | .tup _ => false
  | .junk => false
  | _ => true
inductive FO where
  | blk (b : Nat)
  | row (b n cap : Nat)
  | tok (s : Option (Nat × Nat)) (n sz : Nat)
def FO.block : FO → Option Nat
  | .blk b => some b
  | .row b _ _ => some b
  | .tok s _ _ => s.map (·.1)
inductive FO.le : FO → FO → Prop
  | refl (o : FO) : FO.le o o
  | tok (s s' : Option (Nat × Nat)) (n n' sz : Nat) (h : n < n') : FO.le (.tok s n sz) (.tok s' n' sz)
abbrev Mem := Nat → Nat → Option Value
def Mem.le (M M' : Mem) : Prop := ∀ b o v, M b o = some v → M' b o = some v
abbrev FM := Nat → Option FO
def FM.no : FM := fun _ => none
def FM.le (F F' : FM) : Prop := ∀ d o, F d = some o → ∃ o', F' d = some o' ∧ FO.le o o'
def z4e : Option (Nat × Nat) → Nat → Value
  | none, _ => .slice none 0 0
  | some (b, cap), n => .slice (some ⟨b, 0, none⟩) n cap
inductive Rep : Mem → FM → Value → CV → Prop
  | sc {M F} (v : Value) : Rep M F v (.sc v)
  | nil {M F} : Rep M F (.slice none 0 0) .nil
  | nilvec {M F} : Rep M F (.slice none 0 0) (.vec [])
  | vec {M F} (sz b off n cap : Nat) (xs : List CV) (vs : Nat → Nat → Value) (hn : n = xs.length) (hc : n ≤ cap)
      (hs : ∀ (i : Nat) (x : CV), xs[i]? = some x → x.cells.length = sz)
      (hm : ∀ (i : Nat) (x : CV) (j : Nat) (c : CV), xs[i]? = some x → x.cells[j]? = some c → M b (off + i * sz + j) = some (vs i j))
      (hr : ∀ (i : Nat) (x : CV) (j : Nat) (c : CV), xs[i]? = some x → x.cells[j]? = some c → Rep M FM.no (vs i j) c) :
      Rep M F (.slice (some ⟨b, off, none⟩) n cap) (.vec xs)
  | avec {M F v} (d : Nat) (xs : List CV) (s : Option (Nat × Nat)) (n sz : Nat) (h : Rep M F v (.vec xs)) (ho : F d = some (.tok s n sz)) (hz : ∀ (i : Nat) (x : CV), xs[i]? = some x → x.cells.length = sz)
      (hl : xs.length ≤ n) (hv : xs.length = n → v = z4e s n) : Rep M F v (.avec d xs)
  | row {M F} (d : Nat) (b n cap : Nat) (ho : F d = some (.row b n cap)) : Rep M F (.slice (some ⟨b, 0, none⟩) n cap) (.row d)
  | grow {M F} (l n cap : Nat) : Rep M F (.slice (some ⟨l, 0, none⟩) n cap) (.grow l n cap)
  | ptr {M F} (d off b : Nat) (ho : F d = some (.blk b)) : Rep M F (.pointer (some ⟨b, off, none⟩)) (.ptr (.f d) off)
  | gptr {M F} (l off : Nat) : Rep M F (.pointer (some ⟨l, off, none⟩)) (.ptr (.g l) off)
  | eptr {M F} (d sz i off b n cap : Nat) (ho : F d = some (.row b n cap)) :
      Rep M F (.pointer (some ⟨b, i * sz + off, none⟩)) (.eptr (.f d) sz i off)
  | geptr {M F} (l sz i off : Nat) : Rep M F (.pointer (some ⟨l, i * sz + off, none⟩)) (.eptr (.g l) sz i off)
  | ref {M F} (x : CV) (off b base : Nat) (vs : Nat → Value)
      (hm : ∀ (j : Nat) (c : CV), x.cells[j]? = some c → M b (base + j) = some (vs j))
      (hr : ∀ (j : Nat) (c : CV), x.cells[j]? = some c → Rep M FM.no (vs j) c) : Rep M F (.pointer (some ⟨b, base + off, none⟩)) (.ref x off)
  | agg {M F} (vs : Array Value) (cs : List CV) (hs : vs.size = cs.length) (h : ∀ (i : Nat) (c : CV), cs[i]? = some c → Rep M F (vs.getD i undef) c) : Rep M F (.agg vs) (.agg cs)
  | iface {M F} (t : TypeId) (v : Value) (c : CV) (h : Rep M F v c) : Rep M F (.iface t v) (.iface t c)
  | fn {M F} (f : Fn) (vs us : Array Value) (cs ds : List CV) (hs : vs.size = cs.length) (h : ∀ (i : Nat) (c : CV), cs[i]? = some c → Rep M F (vs.getD i undef) c)
      (hs' : us.size = ds.length) (h' : ∀ (i : Nat) (c : CV), ds[i]? = some c → Rep M F (us.getD i undef) c) : Rep M F (.func f vs us) (.fn f cs ds)
  | tup {M F} (vs : Array Value) (cs : List CV) (hs : vs.size = cs.length) (h : ∀ (i : Nat) (c : CV), cs[i]? = some c → Rep M F (vs.getD i undef) c) : Rep M F (.tuple vs) (.tup cs)
  | map {M F} (l : Nat) : Rep M F (.map (some l)) (.map l)
  | opq {M F} (v : Value) (c : CV) (h1 : c.one = true) (h : Rep M FM.no v c) : Rep M F v (.opq c)
  | junk {M F v} : Rep M F v .junk
theorem FM.le.refl (F : FM) : FM.le F F := fun _ o h => ⟨o, h, .refl o⟩
theorem FO.le.trans {a b c : FO} (h : FO.le a b) (k : FO.le b c) : FO.le a c := by
  cases h with
  | refl => exact k
  | tok s s' n n' sz h =>
    cases k with
    | refl => exact .tok _ _ _ _ _ h
    | tok _ s'' _ n'' _ h' => exact .tok _ _ _ _ _ (by omega)
theorem FM.le.trans {F G H : FM} (h : FM.le F G) (k : FM.le G H) : FM.le F H := fun d o e => by
  obtain ⟨o', e', l⟩ := h d o e
  obtain ⟨o'', e'', l'⟩ := k d o' e'
  exact ⟨o'', e'', l.trans l'⟩
theorem Mem.le.refl (M : Mem) : Mem.le M M := fun _ _ _ h => h
theorem Mem.le.trans {F G H : Mem} (h : Mem.le F G) (k : Mem.le G H) : Mem.le F H := fun b o v e => k b o v (h b o v e)
theorem Rep.mono {M F v c} (h : Rep M F v c) : ∀ {M' F'}, Mem.le M M' → FM.le F F' → Rep M' F' v c := by
  induction h with
  | sc v => intros; exact .sc v
  | nil => intros; exact .nil
  | nilvec => intros; exact .nilvec
  | vec sz b off n cap xs vs hn hc hs hm hr ih =>
    intro M' F' hM _
    exact .vec sz b off n cap xs vs hn hc hs (fun i x j c h1 h2 => hM _ _ _ (hm i x j c h1 h2)) (fun i x j c h1 h2 => ih i x j c h1 h2 hM (FM.le.refl _))
  | avec d xs s n sz h ho hz hl hv ih =>
    intro M' F' hM hF
    obtain ⟨y, hy, hle⟩ := hF d _ ho
    cases hle with
    | refl => exact .avec d xs s n sz (ih hM hF) hy hz hl hv
    | tok _ s' _ n' _ hlt => exact .avec d xs s' n' sz (ih hM hF) hy hz (by omega) (fun e => by omega)
  | row d b n cap ho =>
    intro M' F' hM hF
    obtain ⟨y, hy, hle⟩ := hF d _ ho
    cases hle; exact .row d b n cap hy
  | grow l n cap => intros; exact .grow l n cap
  | ptr d off b ho =>
    intro M' F' hM hF
    obtain ⟨y, hy, hle⟩ := hF d _ ho
    cases hle; exact .ptr d off b hy
  | gptr l off => intros; exact .gptr l off
  | eptr d sz i off b n cap ho =>
    intro M' F' hM hF
    obtain ⟨y, hy, hle⟩ := hF d _ ho
    cases hle; exact .eptr d sz i off b n cap hy
  | geptr l sz i off => intros; exact .geptr l sz i off
  | ref x off b base vs hm hr ih =>
    intro M' F' hM _
    exact .ref x off b base vs (fun j c h => hM _ _ _ (hm j c h)) (fun j c h => ih j c h hM (FM.le.refl _))
  | agg vs cs hs h ih => intro M' F' hM hF; exact .agg vs cs hs fun i c e => ih i c e hM hF
  | iface t v c h ih => intro M' F' hM hF; exact .iface t v c (ih hM hF)
  | fn f vs us cs ds hs h hs' h' ih ih' => intro M' F' hM hF; exact .fn f vs us cs ds hs (fun i c e => ih i c e hM hF) hs' (fun i c e => ih' i c e hM hF)
  | tup vs cs hs h ih => intro M' F' hM hF; exact .tup vs cs hs fun i c e => ih i c e hM hF
  | map l => intros; exact .map l
  | opq v c h1 h ih => intro M' F' hM _; exact .opq v c h1 (ih hM (FM.le.refl _))
  | junk => intros; exact .junk
inductive MK where
  | s (t : ByteArray)
  | i (n : Int)
  deriving DecidableEq
def MK.val : MK → Value
  | .s t => .string t
  | .i n => .int .i64 n
def MK.isS : MK → Bool
  | .s _ => true
  | .i _ => false
inductive Ob where
  | cells (cs : List CV)
  | rows (sz : Nat) (xs : List CV)
  | tok (e : TypeId) (sz n : Nat)
  | mp (str : Bool) (es : List (MK × Value))
  | arr (e : TypeId) (sz cap : Nat) (xs : List CV)
  | mq (str : Bool) (es : List (MK × Value))
  | loop (f : FuncId) (n : Nat) (env : List (Nat × CV)) (ps : Array Tmp) (asg body : Code) (st : LoopState) (pend : Option Code)
abbrev Heap := Nat → Option Ob
def obM (q str : Bool) (es : List (MK × Value)) : Ob := match q with
  | false => .mp str es
  | true => .mq str es
def upd (σ : Heap) (l : Nat) (o : Ob) : Heap := fun x => if x = l then some o else σ x
def Sub (σ τ : Heap) : Prop := ∀ l o, σ l = some o → τ l = some o
theorem za (σ : Heap) (l : Nat) (o : Ob) : upd σ l o l = some o := by simp [upd]
theorem zb (σ : Heap) {l l' : Nat} (o : Ob) (h : l' ≠ l) : upd σ l o l' = σ l' := by simp [upd, h]
theorem Sub.refl (σ : Heap) : Sub σ σ := fun _ _ h => h
theorem Sub.upd {σ τ : Heap} {l : Nat} {o : Ob} (h : Sub σ τ) (hl : σ l = none) : Sub σ (upd τ l o) := fun x y e => by
  have hx : x ≠ l := by rintro rfl; rw [hl] at e; exact absurd e (by simp)
  rw [zb _ _ hx]; exact h x y e
structure Fr where
  n : Nat
  env : List (Nat × CV)
  locs : List (Nat × Ob)
def look : List (Nat × CV) → Nat → CV
  | [], _ => .junk
  | (s, c) :: r, t => match Nat.beq s t with
    | true => c
    | false => look r t
def z6 : List (Nat × Ob) → Nat → Option Ob
  | [], _ => none
  | (s, c) :: r, t => match Nat.beq s t with
    | true => some c
    | false => z6 r t
noncomputable def z0n (l : List (Nat × Ob)) (t : Nat) (o : Ob) : List (Nat × Ob) :=
  List.rec (motive := fun _ => List (Nat × Ob)) [(t, o)] (fun p r ih => match Nat.beq p.1 t with
    | true => (p.1, o) :: r
    | false => p :: ih) l
theorem zqk (t : Nat) (o : Ob) : z0n [] t o = [(t, o)] := rfl
theorem zle (s : Nat) (c : Ob) (r : List (Nat × Ob)) (t : Nat) (o : Ob) : z0n ((s, c) :: r) t o = match Nat.beq s t with
    | true => (s, o) :: r
    | false => (s, c) :: z0n r t o := rfl
theorem xa (s : Nat) (c : CV) (r : List (Nat × CV)) (t : Nat) : look ((s, c) :: r) t = if s = t then c else look r t := by
  show (match Nat.beq s t with | true => c | false => look r t) = _
  by_cases h : s = t
  · subst h; simp
  · have : Nat.beq s t = false := by rw [← Bool.not_eq_true]; intro e; exact h (Nat.eq_of_beq_eq_true e)
    simp [this, h]
theorem wg (s : Nat) (c : Ob) (r : List (Nat × Ob)) (t : Nat) : z6 ((s, c) :: r) t = if s = t then some c else z6 r t := by
  show (match Nat.beq s t with | true => some c | false => z6 r t) = _
  by_cases h : s = t
  · subst h; simp
  · have : Nat.beq s t = false := by rw [← Bool.not_eq_true]; intro e; exact h (Nat.eq_of_beq_eq_true e)
    simp [this, h]
theorem km (l : List (Nat × Ob)) (d : Nat) (o : Ob) (t : Nat) : z6 (z0n l d o) t = if d = t then some o else z6 l t := by
  induction l with
  | nil => simp [zqk, wg, z6]
  | cons p r ih =>
    obtain ⟨s, c⟩ := p
    rw [zle]
    by_cases h : s = d
    · subst h; simp only [Nat.beq_refl, wg]; split <;> rfl
    · have : Nat.beq s d = false := by rw [← Bool.not_eq_true]; intro e; exact h (Nat.eq_of_beq_eq_true e)
      simp only [this, wg, ih]
      by_cases h1 : s = t
      · subst h1; simp [Ne.symm h]
      · simp [h1]
def ObRep (M : Mem) (F : FM) (w : World) : FO → Ob → Prop
  | .blk b, .cells cs => ∃ T vs, w.heap[b]? = some (.cells vs T (0, 0)) ∧ vs.size = cs.length ∧ (∀ (j : Nat) c, cs[j]? = some c → Rep M F (vs.getD j undef) c) ∧ ∀ o, M b o = none
  | .blk b, .mp str es => ∃ arr : Array MapEntry, w.heap[b]? = some (.map arr arr.size) ∧ arr.toList.map (fun e => (e.key, e.val)) = es.map (fun p => (p.1.val, p.2)) ∧ (∀ p ∈ es, p.1.isS = str) ∧
      (∀ (i : Nat) e, arr[i]? = some e → e.born = i) ∧ ∀ o, M b o = none
  | .blk b, .mq str es => ∃ (arr : Array MapEntry) (clock : Nat), w.heap[b]? = some (.map arr clock) ∧ arr.toList.map (fun e => (e.key, e.val)) = es.map (fun p => (p.1.val, p.2)) ∧ (∀ p ∈ es, p.1.isS = str) ∧ ∀ o, M b o = none
  | .row b n cap, .rows sz xs => ∃ T vs, w.heap[b]? = some (.cells vs T (0, 0)) ∧ vs.size = cap * sz ∧ n = xs.length ∧ n ≤ cap ∧
      (∀ (i : Nat) (x : CV), xs[i]? = some x → x.cells.length = sz) ∧
      (∀ (i : Nat) (x : CV) (j : Nat) c, xs[i]? = some x → x.cells[j]? = some c → Rep M FM.no (vs.getD (i * sz + j) undef) c) ∧ ∀ o, M b o = none
  | .row b n cap, .arr e sz cap' xs => cap' = cap ∧ n = xs.length ∧ ∃ vs, w.heap[b]? = some (.cells vs e (0, 0)) ∧ vs.size = cap * sz ∧ n ≤ cap ∧
      (∀ (i : Nat) (x : CV), xs[i]? = some x → x.cells.length = sz) ∧
      (∀ (i : Nat) (x : CV) (j : Nat) c, xs[i]? = some x → x.cells[j]? = some c → Rep M FM.no (vs.getD (i * sz + j) undef) c) ∧ ∀ o, M b o = none
  | .blk b, .loop f n env ps asg body st pend => ∃ r : Loop, w.heap[b]? = some (.loop r) ∧ (r.fn = f ∧ r.params = ps ∧ r.assign = asg ∧ r.body = body ∧ r.state = st ∧ r.pending = pend) ∧ r.tmps.size = n ∧
      (∀ t, Rep M FM.no (r.tmps.getD t undef) (look env t)) ∧ ∀ o, M b o = none
  | .tok s n sz', .tok e sz m => n = m ∧ sz' = sz ∧ match s with
    | none => n = 0
    | some (b, cap) => ∃ vs, w.heap[b]? = some (.cells vs e (0, 0)) ∧ vs.size = cap * sz ∧ n ≤ cap ∧ (∀ o, o < n * sz → M b o = vs[o]?) ∧ ∀ o, n * sz ≤ o → M b o = none
  | _, _ => False
abbrev Owns := Nat → Option Own
structure Rg (M : Mem) (own : Owns) (σ : Heap) (w : World) : Prop where
  mem : ∀ b o v, M b o = some v → w.cell? ⟨b, o, none⟩ = some v
  glob : ∀ l ob, σ l = some ob → own l = some (.g l) ∧ ∃ fo, ObRep M FM.no w fo ob ∧ fo.block = some l
  fresh : ∀ b, w.heap.size ≤ b → own b = none
structure R (M : Mem) (F : FM) (own : Owns) (fr : Fr) (σ : Heap) (a : Act) (w : World) : Prop extends Rg M own σ w where
  size : a.tmps.size = fr.n
  env : ∀ t, Rep M F (a.tmps.getD t undef) (look fr.env t)
  locs : ∀ d ob, z6 fr.locs d = some ob → ∃ fo, F d = some fo ∧ ObRep M F w fo ob ∧ ∀ b, fo.block = some b → own b = some (.f d)
  dom : ∀ d, z6 fr.locs d = none → F d = none
structure KExt (M : Mem) (own : Owns) (w : World) (M' : Mem) (own' : Owns) (w' : World) : Prop where
  mem : Mem.le M M'
  size : w.heap.size ≤ w'.heap.size
  os : w'.os = w.os
  tape : w'.tape = w.tape
  output : w'.output = w.output
  keep : ∀ b, b < w.heap.size → own b = none → w'.heap[b]? = w.heap[b]? ∧ own' b = none ∧ ∀ o, M' b o = M b o
theorem KExt.refl (M : Mem) (own : Owns) (w : World) : KExt M own w M own w := ⟨.refl _, Nat.le_refl _, rfl, rfl, rfl, fun _ _ h => ⟨rfl, h, fun _ => rfl⟩⟩
theorem KExt.trans {M own w M' own' w' M'' own'' w''} (h : KExt M own w M' own' w') (k : KExt M' own' w' M'' own'' w'') : KExt M own w M'' own'' w'' :=
  ⟨h.mem.trans k.mem, Nat.le_trans h.size k.size, k.os.trans h.os, k.tape.trans h.tape, k.output.trans h.output, fun b hb ho => by
    obtain ⟨h1, h2, h3⟩ := h.keep b hb ho
    obtain ⟨k1, k2, k3⟩ := k.keep b (Nat.lt_of_lt_of_le hb h.size) h2
    exact ⟨k1.trans h1, k2, fun o => (k3 o).trans (h3 o)⟩⟩
inductive COut where
  | ret (v : CV) (σ : Heap)
  | pan (v : CV) (σ : Heap)
structure Callable (P : Program) (f : FuncId) : Prop where
  ex : ∃ fn, P.funcs[f]? = some fn ∧ fn.body.isSome = true ∧ (fn.name == "runtime.NumGoroutine") = false
def za7 (M : Mem) (own : Owns) (w : World) (post : COut → Prop) (e : Ending) (w' : World) : Prop :=
  ∃ out M' own', post out ∧ KExt M own w M' own' w' ∧ match out, e with
    | .ret v σ', .returned u => Rep M' FM.no u v ∧ Rg M' own' σ' w'
    | .pan v σ', .panicked [p] => p.recovered = false ∧ p.goexit = false ∧ Rep M' FM.no p.v v ∧ Rg M' own' σ' w'
    | _, _ => False
def CRun (P : Program) (f : FuncId) (args : List CV) (σ : Heap) (post : COut → Prop) : Prop :=
  Callable P f ∧ ∀ (M : Mem) (own : Owns) (w : World) (vals : Array Value), Rg M own σ w → vals.size = args.length →
    (∀ (i : Nat) c, args[i]? = some c → Rep M FM.no (vals.getD i undef) c) → Calls P f vals w (za7 M own w post)
structure TI where
  size : Nat := 1
  bytes : Nat := 8
  isAgg : Bool := false
  hz : Bool := true
  zero : List CV
  fields : List (Nat × Nat × Nat) := []
  fok : Bool := false
  elem : Nat := 0
  sl : Bool := false
  ik : Option IntKind := none
  conc : Bool := true
  str : Bool := false
  bl : Bool := false
  ptr : Bool := false
  ife : Bool := false
  mkv : Option (Nat × Nat) := none
def zqz : Value → CV
  | .slice none 0 0 => .nil
  | v => .sc v
def ofV : Value → CV
  | .agg cs => .agg (cs.toList.map zqz)
  | .slice none 0 0 => .nil
  | v => .sc v
def zok (agg : Bool) (n : Nat) : Value → Bool
  | .agg vs => agg && vs.size == n
  | .tuple _ => false
  | _ => !agg && n == 1
def zhd (P : Program) (t : TypeId) : Option TI :=
  match P.info? t, P.underlying t with
  | some i, some d => some
    { size := i.size, bytes := i.bytes
      isAgg := match d with | .struct _ => true | .array _ _ => true | _ => false
      hz := match i.zero with | some z => zok (match d with | .struct _ => true | .array _ _ => true | _ => false) i.size z | none => false
      zero := match i.zero with | some z => z.cells.toList.map zqz | none => []
      fields := match d with | .struct fs => fs.toList.map (fun f => (f.offset, f.type, ((P.info? f.type).map (·.size)).getD 0)) | _ => []
      fok := match d with | .struct fs => fs.toList.all (fun f => (P.info? f.type).isSome) | _ => false
      elem := match d with | .slice e => e | .pointer e => e | .array _ e => e | _ => 0
      sl := match d with | .slice _ => true | _ => false
      ik := match d with | .int k => some k | _ => none
      conc := match d with | .interface _ => false | _ => true
      str := match d with | .string => true | _ => false
      bl := match d with | .bool => true | _ => false
      ptr := match d with | .pointer _ => true | _ => false
      ife := match d with | .interface ms => ms.isEmpty | _ => false
      mkv := match d with | .map k e => some (k, e) | _ => none }
  | _, _ => none
def lkT : List (Nat × TI) → Nat → Option TI
  | [], _ => none
  | (s, c) :: r, t => match Nat.beq s t with
    | true => some c
    | false => lkT r t
structure Ctx where
  P : Program
  tt : List (Nat × TI)
  gl : Nat → Bool
  ord : Nat → Option (List Nat)
def Ctx.ok (X : Ctx) : Prop := ∀ t ti, lkT X.tt t = some ti → zhd X.P t = some ti
structure Fork (b : Bool) (T E : Prop) : Prop where
  t : b = true → T
  e : b = false → E
def selB (b : Bool) (T E : Prop) : Prop := match b with
  | true => T
  | false => E
theorem selB.t {b : Bool} {T E : Prop} (h : selB b T E) (hb : b = true) : T := by subst hb; exact h
theorem selB.e {b : Bool} {T E : Prop} (h : selB b T E) (hb : b = false) : E := by subst hb; exact h
structure Need (c : Prop) (T : Prop) : Prop where
  c : c
  t : T
structure ElemN (xs : List CV) (i : Nat) (k : CV → Prop) : Prop where
  h : ∃ x, xs[i]? = some x ∧ k x
structure GetN (σ : Heap) (l : Nat) (k : Ob → Prop) : Prop where
  h : ∃ ob, σ l = some ob ∧ k ob
structure AllocN (det : Bool) (σ : Heap) (k : Nat → Prop) : Prop where
  d : det = false
  h : ∀ l, σ l = none → k l
structure AllocC (det : Bool) (σ : Heap) (n : Nat) (k : Nat → Nat → Prop) : Prop where
  d : det = false
  h : ∀ l cap, σ l = none → n ≤ cap → k l cap
mutual
def CV.strip (g : Bool) : CV → Option CV
  | .sc v => some (.sc v)
  | .nil => some (.vec [])
  | .agg cs => (CV.strips g cs).map .agg
  | .vec xs => some (.vec xs)
  | .avec _ xs => some (.vec xs)
  | .row _ => none
  | .grow l n cap => match g with | true => some (.grow l n cap) | false => none
  | .ptr (.g l) off => match g with | true => some (.ptr (.g l) off) | false => none
  | .ptr (.f _) _ => none
  | .eptr (.g l) sz i off => match g with | true => some (.eptr (.g l) sz i off) | false => none
  | .eptr (.f _) _ _ _ => none
  | .ref x off => some (.ref x off)
  | .iface t v => (CV.strip g v).map (.iface t)
  | .fn f a b => match CV.strips g a, CV.strips g b with
    | some a, some b => some (.fn f a b)
    | _, _ => none
  | .tup vs => (CV.strips g vs).map .tup
  | .map l => match g with | true => some (.map l) | false => none
  | .opq c => some (.opq c)
  | .junk => none
def CV.strips (g : Bool) : List CV → Option (List CV)
  | [] => some []
  | x :: r => match CV.strip g x with
    | some x => match CV.strips g r with
      | some r => some (x :: r)
      | none => none
    | none => none
end
mutual
def CV.strip0 : CV → Option CV
  | .nil => some .nil
  | .agg cs => (CV.strips0 cs).map .agg
  | .tup cs => (CV.strips0 cs).map .tup
  | c => CV.strip true c
def CV.strips0 : List CV → Option (List CV)
  | [] => some []
  | x :: r => match CV.strip0 x with
    | some x => match CV.strips0 r with
      | some r => some (x :: r)
      | none => none
    | none => none
end
structure CallN (det : Bool) (P : Program) (f : FuncId) (raw args : List CV) (σ : Heap) (k : COut → Prop) : Prop where
  h : ∃ args' post, (args' = args ∨ CV.strips0 raw = some args') ∧ CRun P f args' σ post ∧ (det = true → ∃ o, post o ∧ ∀ out, post out → out = o) ∧ ∀ out, post out → k out
theorem CallN.one {det : Bool} {P : Program} {f : FuncId} {raw args : List CV} {σ : Heap} {k : COut → Prop} {out : COut} (h : CRun P f args σ (· = out)) (hk : k out) : CallN det P f raw args σ k :=
  ⟨⟨_, _, .inl rfl, h, fun _ => ⟨out, rfl, fun _ e => e⟩, fun _ e => e ▸ hk⟩⟩
theorem CallN.many {P : Program} {f : FuncId} {raw args : List CV} {σ : Heap} {k : COut → Prop} {post : COut → Prop} (h : CRun P f args σ post) (hk : ∀ out, post out → k out) : CallN false P f raw args σ k :=
  ⟨⟨_, _, .inl rfl, h, (fun e => absurd e (by simp)), hk⟩⟩
theorem CallN.one0 {det : Bool} {P : Program} {f : FuncId} {raw args args' : List CV} {σ : Heap} {k : COut → Prop} {out : COut} (h : CRun P f args' σ (· = out)) (hk : k out) (hs : CV.strips0 raw = some args' := by rfl) : CallN det P f raw args σ k :=
  ⟨⟨_, _, .inr hs, h, fun _ => ⟨out, rfl, fun _ e => e⟩, fun _ e => e ▸ hk⟩⟩
theorem CallN.many0 {P : Program} {f : FuncId} {raw args args' : List CV} {σ : Heap} {k : COut → Prop} {post : COut → Prop} (h : CRun P f args' σ post) (hk : ∀ out, post out → k out) (hs : CV.strips0 raw = some args' := by rfl) : CallN false P f raw args σ k :=
  ⟨⟨_, _, .inr hs, h, (fun e => absurd e (by simp)), hk⟩⟩
inductive Xt where
  | normal
  | exit (id : Nat)
  | ret
  | pan (v : CV)
def Fr.put (fr : Fr) (d : Option Tmp) (c : CV) : Fr :=
  match d with
  | some d => { fr with env := (d, c) :: fr.env }
  | none => fr
def zk (fr : Fr) : Operand → CV
  | .tmp t => look fr.env t
  | .const v => ofV v
  | .global g => .sc (.pointer (some ⟨g, 0, none⟩))
  | .func f => .fn (.func f) [] []
noncomputable def zeu (l : List Nat) : (List Nat → Prop) → Prop :=
  List.rec (motive := fun _ => (List Nat → Prop) → Prop) (fun k => k []) (fun x _ ih k => ih fun r => k (x :: r)) l
theorem zdg (l : List Nat) (k : List Nat → Prop) : zeu l k = k l := by
  induction l generalizing k with
  | nil => rfl
  | cons x r ih => exact ih _
noncomputable def zni (l : List Oper) : (List Oper → Prop) → Prop :=
  List.rec (motive := fun _ => (List Oper → Prop) → Prop) (fun k => k []) (fun x _ ih k => ih fun r => k (x :: r)) l
theorem znh (l : List Oper) (k : List Oper → Prop) : zni l k = k l := by
  induction l generalizing k with
  | nil => rfl
  | cons x r ih => exact ih _
noncomputable def zdh (l : List CV) : (List CV → Prop) → Prop :=
  List.rec (motive := fun _ => (List CV → Prop) → Prop) (fun k => k []) (fun x _ ih k => ih fun r => k (x :: r)) l
theorem kz (l : List CV) : ∀ k, zdh l k = k l := by
  induction l with
  | nil => intro k; rfl
  | cons x r ih => intro k; exact ih _
structure CallVN (det : Bool) (P : Program) (c : CV) (args : List CV) (σ : Heap) (k : COut → Prop) : Prop where
  h : ∃ id first caps first' caps', c = .fn (.func id) first caps ∧ CV.strips true first = some first' ∧ CV.strips true caps = some caps' ∧ CallN det P id (first' ++ args ++ caps') (first' ++ args ++ caps') σ k
def z36 (P : Program) (c : CV) (args : List CV) (σ : Heap) (post : COut → Prop) : Prop :=
  ∃ id first caps first' caps', c = .fn (.func id) first caps ∧ CV.strips true first = some first' ∧ CV.strips true caps = some caps' ∧ CRun P id (first' ++ args ++ caps') σ post
theorem CallVN.many {P : Program} {c : CV} {args : List CV} {σ : Heap} {k : COut → Prop} {post : COut → Prop} (h : z36 P c args σ post) (hk : ∀ out, post out → k out) : CallVN false P c args σ k := by
  obtain ⟨id, a, b, a', b', e, h1, h2, h3⟩ := h
  exact ⟨⟨id, a, b, a', b', e, h1, h2, CallN.many h3 hk⟩⟩
theorem CallVN.one {det : Bool} {P : Program} {c : CV} {args : List CV} {σ : Heap} {k : COut → Prop} {out : COut} (h : z36 P c args σ (· = out)) (hk : k out) : CallVN det P c args σ k := by
  obtain ⟨id, a, b, a', b', e, h1, h2, h3⟩ := h
  exact ⟨⟨id, a, b, a', b', e, h1, h2, CallN.one h3 hk⟩⟩
def z2c : List CV → Nat → Option CV
  | [], _ => none
  | x :: _, 0 => some x
  | _ :: r, n + 1 => z2c r n
theorem zpc (l : List CV) : ∀ i, z2c l i = l[i]? := by
  induction l with
  | nil => intro i; simp [z2c]
  | cons x r ih => intro i; cases i <;> simp [z2c, ih]
def inR : IntKind → Int → Prop
  | .i64, n => -9223372036854775808 ≤ n ∧ n ≤ 9223372036854775807
  | .u8, n => 0 ≤ n ∧ n ≤ 255
  | k, n => k.wrap n = n
theorem zao {k : IntKind} {n : Int} (h : inR k n) : k.wrap n = n := by
  cases k <;> simp only [inR] at h
  case i64 => unfold IntKind.wrap; simp only [IntKind.bits, IntKind.signed]; simp; omega
  case u8 => unfold IntKind.wrap; simp only [IntKind.bits, IntKind.signed]; simp; omega
  all_goals exact h
def ask (b : Bool) (K : CV → Prop) : Prop := Fork b (K (.sc (.bool true))) (K (.sc (.bool false)))
theorem ask.got {b : Bool} {K : CV → Prop} (h : ask b K) : K (.sc (.bool b)) := by
  cases b with
  | true => exact h.t rfl
  | false => exact h.e rfl
def z5u (op : BinOp) (k : IntKind) (a b : Int) (K : CV → Prop) : Prop :=
  match op with
  | .add => Need (inR k (a + b)) (K (.sc (.int k (a + b))))
  | .sub => Need (inR k (a - b)) (K (.sc (.int k (a - b))))
  | .mul => Need (inR k (a * b)) (K (.sc (.int k (a * b))))
  | .quo => Need (b ≠ 0 ∧ inR k (a.tdiv b)) (K (.sc (.int k (a.tdiv b))))
  | .rem => Need (b ≠ 0) (K (.sc (.int k (a.tmod b))))
  | .eql => ask (decide (a = b)) K
  | .neq => ask (!decide (a = b)) K
  | .lss => ask (decide (a < b)) K
  | .leq => ask (decide (a ≤ b)) K
  | .gtr => ask (decide (b < a)) K
  | .geq => ask (decide (b ≤ a)) K
  | .xor => K (.sc (.int k (k.wrap (BitVec.ofInt k.bits a ^^^ BitVec.ofInt k.bits b).toNat)))
  | _ => False
def z5t (op : BinOp) (a b : ByteArray) (K : CV → Prop) : Prop :=
  match op with
  | .add => Need (a.size + b.size ≤ 140737488355328) (K (.sc (.string (a ++ b))))
  | .eql => ask (decide (a = b)) K
  | .neq => ask (!decide (a = b)) K
  | .lss => ask (Op.bytesLess a.toList b.toList) K
  | .leq => ask (Op.bytesLess a.toList b.toList || decide (a = b)) K
  | .gtr => ask (!(Op.bytesLess a.toList b.toList || decide (a = b))) K
  | .geq => ask (!Op.bytesLess a.toList b.toList) K
  | _ => False
def z04 (X : Ctx) (op : BinOp) (T : TypeId) (a b : Bool) (K : CV → Prop) : Prop :=
  match lkT X.tt T with
  | some ti => match ti.bl, op with
    | true, .eql => K (.sc (.bool (a == b)))
    | true, .neq => K (.sc (.bool (!(a == b))))
    | _, _ => False
  | none => False
def eqN (a b : Nat) (T : Prop) : Prop := match Nat.beq a b with
  | true => T
  | false => False
def leN (a b : Nat) (T : Prop) : Prop := match Nat.ble a b with
  | true => T
  | false => False
def isT (b : Bool) (T : Prop) : Prop := match b with
  | true => T
  | false => False
def zty (op : BinOp) (b : Bool) (K : CV → Prop) : Prop := match op with
  | .eql => K (.sc (.bool b))
  | .neq => K (.sc (.bool (!b)))
  | _ => False
def zwn (X : Ctx) (op : BinOp) (T : TypeId) (x : CV) (K : CV → Prop) : Prop := match lkT X.tt T with
  | some ti => isT ti.ptr <| match x with
    | .sc (.pointer none) => zty op true K
    | .ptr _ _ => zty op false K
    | .eptr _ _ _ _ => zty op false K
    | .ref _ _ => zty op false K
    | _ => False
  | none => False
def zwo (X : Ctx) (op : BinOp) (T : TypeId) (x : CV) (K : CV → Prop) : Prop := match lkT X.tt T with
  | some ti => match x with
    | .sc .nilIface => isT ti.ife (zty op true K)
    | .iface _ _ => isT (!ti.conc) (zty op false K)
    | _ => False
  | none => False
def zs6 (P : Program) (t : TypeId) (k : Bool) : Bool := match P.underlying t, k with
  | some .string, true => true
  | some .bool, false => true
  | _, _ => false
def z6k (P : Program) (T : TypeId) (k l : Bool) : Bool := match P.underlying T with
  | some (.struct fs) => match fs.toList with
    | [f, g] => f.name != "_" && g.name != "_" && f.offset == 0 && g.offset == 1 && zs6 P f.type k && zs6 P g.type l && !P.stoodInHeld T && !P.eqGuardType P.depth T
    | _ => false
  | _ => false
def zsq : Value → Value → Option (Bool × Bool)
  | .string a, .string c => some (true, decide (a = c))
  | .bool a, .bool c => some (false, a == c)
  | _, _ => none
def z3j (b c : Bool) (K : CV → Prop) : Prop := Fork b (Fork c (K (.sc (.bool true))) (K (.sc (.bool false)))) (K (.sc (.bool false)))
def z5s (X : Ctx) (op : BinOp) (T : TypeId) (a b c d : Value) (K : CV → Prop) : Prop := match zsq a c, zsq b d with
  | some (k, p), some (l, q) => Need (z6k X.P T k l = true) <| match op with
    | .eql => z3j p q K
    | .neq => z3j p q fun v => match v with
      | .sc (.bool r) => K (.sc (.bool (!r)))
      | _ => False
    | _ => False
  | _, _ => False
noncomputable def zws (X : Ctx) (op : BinOp) (T : TypeId) (x y : CV) (K : CV → Prop) : Prop :=
  match x, y with
  | x, .sc (.pointer none) => zwn X op T x K
  | x, .sc .nilIface => zwo X op T x K
  | .sc (.int k a), .sc (.int k' b) => match decide (k = k') with
    | true => z5u op k a b K
    | false => False
  | .sc (.string a), .sc (.string b) => z5t op a b K
  | .sc (.bool a), .sc (.bool b) => z04 X op T a b K
  | .agg [.sc a, .sc b], .agg [.sc c, .sc d] => z5s X op T a b c d K
  | _, _ => False
def z0w : Operand → Bool
  | .const .nilIface => true
  | _ => false
noncomputable def zwr (X : Ctx) (op : BinOp) (T : TypeId) (y : Operand) (cx cy : CV) (K : CV → Prop) : Prop := match z0w y with
  | true => match cx with
    | .sc .nilIface => match lkT X.tt T with
      | some ti => isT (!ti.conc) (zty op true K)
      | none => False
    | cx => zws X op T cx cy K
  | false => zws X op T cx cy K
inductive LE where
  | no
  | rd (d : Nat)
  | wr (d : Nat) (ob : Ob)
  | new (d : Nat) (ob : Ob)
inductive HE where
  | no
  | rd
  | rdl (l : Nat)
  | wr (σ : Heap)
  | ext (σ : Heap)
  | wrk (σ : Heap)
structure ExtN (σ τ : Heap) (K : HE → Prop) : Prop where
  h : (Sub σ τ ∧ K (.ext τ)) ∨ K (.wr τ) ∨ K (.wrk τ)
theorem ExtN.ext {σ τ : Heap} {K : HE → Prop} (h : K (.ext τ)) (hs : Sub σ τ := by first | exact Sub.refl _ | assumption) : ExtN σ τ K := ⟨.inl ⟨hs, h⟩⟩
theorem ExtN.wr {σ τ : Heap} {K : HE → Prop} (h : K (.wr τ)) : ExtN σ τ K := ⟨.inr (.inl h)⟩
theorem ExtN.wrk {σ τ : Heap} {K : HE → Prop} (h : K (.wrk τ)) : ExtN σ τ K := ⟨.inr (.inr h)⟩
noncomputable def Fr.app (fr : Fr) : LE → Fr
  | .no => fr
  | .rd _ => fr
  | .wr d ob => { fr with locs := z0n fr.locs d ob }
  | .new d ob => { fr with locs := (d, ob) :: fr.locs }
def HE.app (σ : Heap) : HE → Heap
  | .no => σ
  | .rd => σ
  | .rdl _ => σ
  | .wr τ => τ
  | .ext τ => τ
  | .wrk τ => τ
theorem zw {a b : Nat} {T : Prop} : eqN a b T → a = b ∧ T := by
  unfold eqN
  split
  · rename_i h; exact fun t => ⟨Nat.eq_of_beq_eq_true h, t⟩
  · exact fun h => h.elim
theorem vz {a b : Nat} {T : Prop} : leN a b T → a ≤ b ∧ T := by
  unfold leN
  split
  · rename_i h; exact fun t => ⟨Nat.le_of_ble_eq_true h, t⟩
  · exact fun h => h.elim
theorem zf {b : Bool} {T : Prop} : isT b T → b = true ∧ T := by
  unfold isT
  split
  · exact fun t => ⟨rfl, t⟩
  · exact fun h => h.elim
noncomputable def zee (fr : Fr) (σ : Heap) (p : CV) (k : List CV → Nat → LE → HE → Prop) : Prop :=
  match p with
  | .ptr (.f d) off => match z6 fr.locs d with
    | some (.cells cs) => k cs off (.rd d) .no
    | _ => False
  | .ptr (.g l) off => GetN σ l fun ob => match ob with
    | .cells cs => k cs off .no (.rdl l)
    | _ => False
  | .ref x off => k x.cells off .no .no
  | .eptr (.f d) sz i off => match z6 fr.locs d with
    | some (.rows sz' xs) => eqN sz sz' (ElemN xs i fun x => k x.cells off (.rd d) .no)
    | _ => False
  | .eptr (.g l) sz i off => GetN σ l fun ob => match ob with
    | .rows sz' xs => eqN sz sz' (ElemN xs i fun x => k x.cells off .no (.rdl l))
    | .arr _ sz' _ xs => eqN sz sz' (ElemN xs i fun x => k x.cells off .no (.rdl l))
    | _ => False
  | _ => False
noncomputable def ze0 (ti : TI) (cs : List CV) (off : Nat) (K : CV → Prop) : Prop :=
  match ti.isAgg with
  | true => leN (off + ti.size) cs.length <| zdh ((cs.drop off).take ti.size) fun cs' => K (.agg cs')
  | false => match z2c cs off with
    | some c => K c
    | none => False
def jr (cs : List CV) (off : Nat) (new : List CV) : List CV := cs.take off ++ new ++ cs.drop (off + new.length)
noncomputable def zpw (ti : TI) (fr : Fr) (σ : Heap) (p v : CV) (K : LE → HE → Prop) : Prop :=
  eqN v.cells.length ti.size <| isT (v.cells.all CV.one) <| match p with
    | .ptr (.f d) off => match z6 fr.locs d with
      | some (.cells cs) => leN (off + ti.size) cs.length <| zdh (jr cs off v.cells) fun cs' => K (.wr d (.cells cs')) .no
      | _ => False
    | .ptr (.g l) off => match CV.strips true v.cells with
      | none => False
      | some vc => eqN vc.length ti.size <| GetN σ l fun ob => match ob with
        | .cells cs => leN (off + ti.size) cs.length <| zdh (jr cs off vc) fun cs' => K .no (.wr (upd σ l (.cells cs')))
        | _ => False
    | .eptr (.f d) sz i off => match z6 fr.locs d with
      | some (.rows sz' xs) => eqN sz sz' <| eqN off 0 <| eqN ti.size sz <| match CV.strip false v with
        | none => False
        | some v' => eqN v'.cells.length sz <| isT (v'.cells.all CV.one) <| Need (i < xs.length) (K (.wr d (.rows sz' (xs.set i v'))) .no)
      | _ => False
    | .eptr (.g l) sz i off => match CV.strips true v.cells with
      | none => False
      | some vc => eqN vc.length ti.size <| GetN σ l fun ob => match ob with
        | .arr e sz' cap xs => eqN sz sz' <| match Nat.beq sz 1 with
          | true => eqN off 0 <| match vc with
            | [c] => isT c.one <| Need (i < xs.length) (K .no (.wr (upd σ l (.arr e sz' cap (xs.set i c)))))
            | _ => False
          | false => ElemN xs i fun x => match x with
            | .agg cs => leN (off + ti.size) cs.length <| zdh (jr cs off vc) fun cs' => K .no (.wr (upd σ l (.arr e sz' cap (xs.set i (.agg cs')))))
            | _ => False
        | _ => False
    | _ => False
noncomputable def zg8 (fr : Fr) (d : Option Tmp) (K : Nat → Prop) : Prop :=
  match d with
  | some d => match z6 fr.locs d with
    | none => K d
    | some _ => False
  | none => False
def zky : List CV → Option (List CV)
  | [.nil] => some [.nil]
  | cs => CV.strips true cs
noncomputable def zzn (X : Ctx) (det : Bool) (fr : Fr) (σ : Heap) (d : Option Tmp) (cs : List CV) (K : CV → LE → HE → Prop) : Prop :=
  match d with
  | some t => match X.gl t with
    | true => match zky cs with
      | some cs => AllocN det σ fun l => K (.ptr (.g l) 0) .no (.ext (upd σ l (.cells cs)))
      | none => False
    | false => zg8 fr d fun d => K (.ptr (.f d) 0) (.new d (.cells cs)) .no
  | none => False
noncomputable def zwj (fs : List (Nat × Nat × Nat)) (l : List (Nat × CV)) : List CV → (List CV → Prop) → Prop :=
  List.rec (motive := fun _ => List CV → (List CV → Prop) → Prop) (fun cs K => K cs) (fun p _ ih cs K => match fs[p.1]? with
    | some (off, _, sz) => eqN p.2.cells.length sz <| isT (p.2.cells.all CV.one) <| leN (off + sz) cs.length <| zdh (jr cs off p.2.cells) fun cs => ih cs K
    | none => False) l
theorem zte (fs : List (Nat × Nat × Nat)) (i : Nat) (v : CV) (r : List (Nat × CV)) (cs : List CV) (K : List CV → Prop) : zwj fs ((i, v) :: r) cs K = match fs[i]? with
    | some (off, _, sz) => eqN v.cells.length sz <| isT (v.cells.all CV.one) <| leN (off + sz) cs.length <| zdh (jr cs off v.cells) fun cs => zwj fs r cs K
    | none => False := rfl
noncomputable def zwk (sz : Nat) (l : List (Nat × CV)) : List CV → (List CV → Prop) → Prop :=
  List.rec (motive := fun _ => List CV → (List CV → Prop) → Prop) (fun xs K => K xs) (fun p _ ih xs K => match CV.strip false p.2 with
    | some v' => eqN p.2.cells.length sz <| eqN v'.cells.length sz <| isT (p.2.cells.all CV.one) <| isT (v'.cells.all CV.one) <| leN (p.1 + 1) xs.length <| zdh (xs.set p.1 v') fun xs => ih xs K
    | none => False) l
theorem ztf (sz : Nat) (i : Nat) (v : CV) (r : List (Nat × CV)) (xs : List CV) (K : List CV → Prop) : zwk sz ((i, v) :: r) xs K = match CV.strip false v with
    | some v' => eqN v.cells.length sz <| eqN v'.cells.length sz <| isT (v.cells.all CV.one) <| isT (v'.cells.all CV.one) <| leN (i + 1) xs.length <| zdh (xs.set i v') fun xs => zwk sz r xs K
    | none => False := rfl
def wd (ti : TI) : CV := match ti.isAgg with
  | true => .agg ti.zero
  | false => match ti.zero with
    | [c] => c
    | _ => .junk
noncomputable def vh (g : Bool) (l : List CV) : (List CV → Prop) → Prop :=
  List.rec (motive := fun _ => (List CV → Prop) → Prop) (fun K => K []) (fun x _ ih K => match CV.strip g x with
    | some x => ih fun r => K (x :: r)
    | none => False) l
theorem zp0 (g : Bool) (x : CV) (r : List CV) (K : List CV → Prop) : vh g (x :: r) K = match CV.strip g x with
    | some x => vh g r fun r => K (x :: r)
    | none => False := rfl
def zbp (fr : Fr) (c : CV) (k : List CV → LE → Prop) : Prop :=
  match c with
  | .vec xs => k xs .no
  | .avec _ xs => k xs .no
  | .nil => k [] .no
  | .row d => match z6 fr.locs d with
    | some (.rows _ xs) => k xs (.rd d)
    | _ => False
  | _ => False
def z6h (n : Nat) (x : CV) : Prop := x.cells.length = n ∧ x.cells.all CV.one = true
def ElsOk (n : Nat) (xs : List CV) : Prop := ∀ x ∈ xs, z6h n x
noncomputable def z33 (X : Ctx) (ts : Array TypeId) (k : Nat → TI → Prop) : Prop := match ts.toList with
  | [t, u] => eqN t u <| match lkT X.tt t with
    | some ti => match lkT X.tt ti.elem with
      | some te => isT ti.sl <| isT te.hz <| leN 1 te.size (k ti.elem te)
      | none => False
    | none => False
  | _ => False
def zx0 (X : Ctx) : Option Tmp → Bool
  | some t => X.gl t
  | none => false
noncomputable def zwt (X : Ctx) (det : Bool) (σ : Heap) (d : Option Tmp) (ts : Array TypeId) (n : Int) (K : CV → LE → HE → Prop) : Prop :=
  match ts.toList with
  | [t, u] => match lkT X.tt t, lkT X.tt u with
    | some ti, some tu => match lkT X.tt ti.elem, tu.ik with
      | some te, some _ => isT ti.sl <| isT te.hz <| leN 1 te.size <| eqN (wd te).cells.length te.size <| match CV.strip true (wd te) with
        | some z => eqN z.cells.length te.size <| Need (1 ≤ n ∧ n * te.bytes ≤ 140737488355328 ∧ n ≤ 9223372036854775807) <| isT (zx0 X d) <|
            AllocC det σ n.toNat fun l cap => K (.grow l n.toNat cap) .no (.ext (upd σ l (.arr ti.elem te.size cap (List.replicate n.toNat z))))
        | none => False
      | _, _ => False
    | _, _ => False
  | _ => False
noncomputable def znq (X : Ctx) (det : Bool) (fr : Fr) (σ : Heap) (d : Option Tmp) (b : Builtin) (ts : Array TypeId) (args : List CV) (K : CV → LE → HE → Prop) : Prop :=
  match b, args with
  | .append, [.nil, .sc (.int _ n)] => zwt X det σ d ts n K
  | .len, [x] => match ts.toList with
    | [t] => match lkT X.tt t with
      | some ti => match x with
        | .sc (.string s) => isT ti.str (K (.sc (.int .i64 s.size)) .no .no)
        | .grow _ n _ => isT ti.sl (K (.sc (.int .i64 n)) .no .no)
        | x => isT ti.sl (zbp fr x fun xs le => K (.sc (.int .i64 xs.length)) le .no)
      | none => False
    | _ => False
  | .cap, [x] => match ts.toList with
    | [t] => match lkT X.tt t with
      | some ti => match x with
        | .grow _ _ c => isT ti.sl (K (.sc (.int .i64 c)) .no .no)
        | .nil => isT ti.sl (K (.sc (.int .i64 0)) .no .no)
        | _ => False
      | none => False
    | _ => False
  | .clear, [.map l] => match ts.toList with
    | [t] => match lkT X.tt t with
      | some _ => GetN σ l fun ob => match ob with
        | .mp str _ => K (.sc (.tuple #[])) .no (.wr (upd σ l (.mq str [])))
        | .mq str _ => K (.sc (.tuple #[])) .no (.wr (upd σ l (.mq str [])))
        | _ => False
      | none => False
    | _ => False
  | .append, [x, y] => z33 X ts fun e te => zbp fr y fun ys le => isT (match le with | .no => true | _ => false) <| match x with
    | .nil => Fork ys.isEmpty (K .nil .no .no) <| match zx0 X d with
      | true => Need (ys.length * te.bytes ≤ 140737488355328 ∧ ys.length ≤ 9223372036854775807 ∧ ElsOk te.size ys) <|
          AllocC det σ ys.length fun l cap => K (.grow l ys.length cap) .no (.ext (upd σ l (.arr e te.size cap ys)))
      | false => Need (1 ≤ ys.length ∧ ys.length * te.bytes ≤ 140737488355328 ∧ ys.length ≤ 9223372036854775807 ∧ ElsOk te.size ys) <|
        zg8 fr d fun d => K (.avec d ys) (.new d (.tok e te.size ys.length)) .no
    | .avec d xs => match z6 fr.locs d with
      | some (.tok e' sz n) => eqN e' e <| eqN sz te.size <| Fork ys.isEmpty (Need (n = xs.length) (K (.avec d xs) .no .no)) <|
          Need (n = xs.length ∧ 1 ≤ ys.length ∧ (xs.length + ys.length) * te.bytes ≤ 140737488355328 ∧ xs.length + ys.length ≤ 9223372036854775807 ∧ ElsOk te.size ys) <|
          K (.avec d (xs ++ ys)) (.wr d (.tok e' sz (xs.length + ys.length))) .no
      | _ => False
    | .grow l n cap => Fork ys.isEmpty (Need (n ≤ cap) (K (.grow l n cap) .no .no)) <| GetN σ l fun ob => match ob with
      | .arr e' sz cap' xs => eqN e' e <| eqN sz te.size <|
        Need (cap' = cap ∧ n ≤ xs.length ∧ (n + ys.length) * te.bytes ≤ 140737488355328 ∧ n + ys.length ≤ 9223372036854775807 ∧ ElsOk te.size ys) <|
          Fork (decide (n + ys.length ≤ cap)) (K (.grow l (n + ys.length) cap) .no (.wr (upd σ l (.arr e' sz cap' (xs.take n ++ ys ++ xs.drop (n + ys.length))))))
            (AllocC det σ (n + ys.length) fun l' cap'' => K (.grow l' (n + ys.length) cap'') .no (.ext (upd σ l' (.arr e' sz cap'' (xs.take n ++ ys)))))
      | _ => False
    | .vec xs => Fork ys.isEmpty (K (.vec xs) .no .no) False
    | _ => False
  | .copy, [x, y] => z33 X ts fun e te => zbp fr y fun ys le => isT (match le with | .no => true | _ => false) <| match x with
    | .grow l n cap => Fork ys.isEmpty (K (.sc (.int .i64 0)) .no .no) <| GetN σ l fun ob => match ob with
      | .arr e' sz cap' xs => eqN e' e <| eqN sz te.size <| Need (cap' = cap ∧ ys.length ≤ n ∧ n ≤ xs.length ∧ ElsOk te.size ys) <|
          K (.sc (.int .i64 ys.length)) .no (.wr (upd σ l (.arr e' sz cap' (ys ++ xs.drop ys.length))))
      | _ => False
    | _ => False
  | _, _ => False
def yt (P : Program) (t : TypeId) (name : String) (f : FuncId) : Prop :=
  ∀ (v : Value) (w : World), (method (P.types.size + Made.depth) t v name).run P w = .ok (f, v) w
structure MethN (P : Program) (t : TypeId) (name : String) (k : FuncId → Prop) : Prop where
  h : ∃ f, yt P t name f ∧ k f
def zk3 (P : Program) (t : TypeId) (name : String) : Prop :=
  ∀ (v : Value) (w : World), (nilAhead (P.types.size + Made.depth) t v name).run P w = .ok (some false) w
def kj (c : Option CV) (dflt : Int) (k : Int → Prop) : Prop := match c with
  | none => k dflt
  | some (.sc (.int _ n)) => k n
  | _ => False
def ze (k : MK) : List (MK × Value) → Nat → Option (Nat × Value)
  | [], _ => none
  | (q, v) :: r, i => if k = q then some (i, v) else ze k r (i + 1)
structure MapN (e : Option (Nat × Value)) (k : Option (Nat × Value) → Prop) : Prop where
  h : k e
def z6m : CV → Option MK
  | .sc (.string t) => some (.s t)
  | .sc (.int .i64 n) => some (.i n)
  | _ => none
def MK.fits : MK → TI → Bool
  | .s _, ti => ti.str
  | .i _, ti => match ti.ik with | some .i64 => true | _ => false
def z1i (te : TI) : Option Value := match te.hz, te.isAgg, te.zero with
  | true, false, [.sc z] => some z
  | true, false, [.nil] => some (.slice none 0 0)
  | _, _, _ => none
def grV (sl : Bool) (v : Value) : CV := match sl with
  | false => .sc v
  | true => match v with
    | .slice none 0 0 => .nil
    | .slice (some ⟨l, 0, none⟩) n cap => .grow l n cap
    | v => .sc v
def vGr : CV → Option Value
  | .sc x => some x
  | .nil => some (.slice none 0 0)
  | .grow l n cap => some (.slice (some ⟨l, 0, none⟩) n cap)
  | _ => none
noncomputable def znp (X : Ctx) (σ : Heap) (t : TypeId) (m k : CV) (K : Nat → Bool → Bool → List (MK × Value) → MK → Value → Bool → Prop) : Prop :=
  match lkT X.tt t with
  | some ti => match ti.mkv with
    | some (kt, et) => match lkT X.tt kt, lkT X.tt et with
      | some tk, some te => match z1i te, m, z6m k with
        | some z, .map l, some kk => isT (kk.fits tk) <| GetN σ l fun ob => match ob with
          | .mp str es => isT (kk.isS == str) (K l false str es kk z te.sl)
          | .mq str es => isT (kk.isS == str) (K l true str es kk z te.sl)
          | _ => False
        | _, _, _ => False
      | _, _ => False
    | none => False
  | none => False
noncomputable def u8s (xs : List CV) : (List Int → Prop) → Prop :=
  List.rec (motive := fun _ => (List Int → Prop) → Prop) (fun k => k []) (fun x _ ih k => match x with
    | .sc (.int .u8 n) => ih fun r => k (n :: r)
    | _ => False) xs
def z1a (ns : List Int) : ByteArray := ns.foldl (fun r n => r.push (UInt8.ofNat n.toNat)) ByteArray.empty
def u8T (X : Ctx) (t : TypeId) : Bool := match lkT X.tt t with
  | some te => match te.ik with
    | some .u8 => true
    | _ => false
  | none => false
def u8H (x : CV) (k : Int → Prop) : Prop := match x with
    | .sc (.int .u8 n) => k n
    | _ => False
theorem zx6 (x : CV) (r : List CV) (k : List Int → Prop) : u8s (x :: r) k = u8H x fun n => u8s r fun r => k (n :: r) := by
  cases x with
  | sc v => cases v with
    | int kd n => cases kd <;> rfl
    | _ => rfl
  | _ => rfl
theorem zog : ∀ {xs : List CV} {k : List Int → Prop}, u8s xs k → ∃ ns : List Int, xs = ns.map (fun n => .sc (.int .u8 n)) ∧ k ns
  | [], k, h => ⟨[], rfl, h⟩
  | x :: r, k, h => by
    rw [zx6] at h
    unfold u8H at h
    split at h
    · rename_i n
      obtain ⟨ns, hn, hk⟩ := zog h
      exact ⟨n :: ns, by simp [hn], hk⟩
    · exact h.elim
noncomputable def zg0 (X : Ctx) (det : Bool) (o : Oper) (fr : Fr) (σ : Heap) (K : CV → LE → HE → Prop) (KP : CV → Heap → Prop) : Prop :=
  match o.op with
  | .move x => K (zk fr x) .no .no
  | .assign x => K (zk fr x) .no .no
  | .binOp op T x y _ => zwr X op T y (zk fr x) (zk fr y) fun v => K v .no .no
  | .pick c x y => match zk fr c with
    | .sc (.bool b) => selB b (K (zk fr x) .no .no) (K (zk fr y) .no .no)
    | _ => False
  | .unOp op _ x => match op, zk fr x with
    | .not, .sc (.bool b) => K (.sc (.bool (!b))) .no .no
    | .neg, .sc (.int k n) => Need (inR k (0 - n)) (K (.sc (.int k (0 - n))) .no .no)
    | _, _ => False
  | .alloc t => match lkT X.tt t with
    | some ti => isT ti.hz (zzn X det fr σ o.dst ti.zero K)
    | none => False
  | .box _ x => isT ((zk fr x).cells.all CV.one) (zzn X det fr σ o.dst (zk fr x).cells K)
  | .build t ps => match lkT X.tt t with
    | some ti => isT ti.hz <| isT ti.fok <| zwj ti.fields (ps.toList.map fun p => (p.1, zk fr p.2)) ti.zero fun cs => K (.agg cs) .no .no
    | none => False
  | .buildSlice t len ps => match lkT X.tt t with
    | some ti => match lkT X.tt ti.elem with
      | some te => isT ti.sl <| isT te.hz <| leN 1 te.size <| leN (len * te.size) 16777216 <| eqN (wd te).cells.length te.size <|
          zwk te.size (ps.toList.map fun p => (p.1, zk fr p.2)) (List.replicate len (wd te)) fun xs => match zx0 X o.dst with
            | true => leN 0 0 <| AllocN det σ fun l => K (.grow l len len) .no (.ext (upd σ l (.arr ti.elem te.size len xs)))
            | false => zg8 fr o.dst fun d => K (.avec d xs) (.new d (.tok ti.elem te.size len)) .no
      | none => False
    | none => False
  | .load t p => match lkT X.tt t with
    | some ti => zee fr σ (zk fr p) fun cs off le he => ze0 ti cs off fun v => K v le he
    | none => False
  | .store t p x => match lkT X.tt t with
    | some ti => zpw ti fr σ (zk fr p) (zk fr x) fun le he => K (.sc undef) le he
    | none => False
  | .nilCheck x => match zk fr x with
    | .ptr o off => K (.ptr o off) .no .no
    | .eptr o sz i off => K (.eptr o sz i off) .no .no
    | .ref x off => K (.ref x off) .no .no
    | .fn (.method name) (.iface t v :: r) caps => Need (zk3 X.P t name) (K (.fn (.method name) (.iface t v :: r) caps) .no .no)
    | _ => False
  | .fieldAddr t x f => match lkT X.tt t with
    | some ti => isT ti.fok <| match ti.fields[f]? with
      | some (off', _, sz) => leN 1 sz <| match zk fr x with
        | .ptr o off => K (.ptr o (off + off')) .no .no
        | .eptr o sz i off => K (.eptr o sz i (off + off')) .no .no
        | .ref x off => K (.ref x (off + off')) .no .no
        | _ => False
      | none => False
    | none => False
  | .field t x f => match lkT X.tt t with
    | some ti => isT ti.fok <| match ti.fields[f]? with
      | some (off', t', _) => match lkT X.tt t' with
        | some ti' => match zk fr x with
          | .agg cs => ze0 ti' cs off' fun v => K v .no .no
          | _ => False
        | none => False
      | none => False
    | none => False
  | .indexAddr t x i => match lkT X.tt t with
    | some ti => isT ti.sl <| match lkT X.tt ti.elem with
      | some te => match zk fr i with
        | .sc (.int _ n) => match zk fr x with
          | .vec xs => Need (0 ≤ n) (ElemN xs n.toNat fun x => eqN x.cells.length te.size (K (.ref x 0) .no .no))
          | .avec _ xs => Need (0 ≤ n) (ElemN xs n.toNat fun x => eqN x.cells.length te.size (K (.ref x 0) .no .no))
          | .row d => match z6 fr.locs d with
            | some (.rows sz xs) => eqN sz te.size (Need (0 ≤ n ∧ n.toNat < xs.length) (K (.eptr (.f d) sz n.toNat 0) (.rd d) .no))
            | _ => False
          | .grow l m _ => Need (0 ≤ n ∧ n.toNat < m) (K (.eptr (.g l) te.size n.toNat 0) .no .no)
          | _ => False
        | _ => False
      | none => False
    | none => False
  | .index t x i => match lkT X.tt t with
    | none => False
    | some ti => isT ti.str <| match zk fr x, zk fr i with
    | .sc (.string s), .sc (.int _ n) => Need (0 ≤ n ∧ n.toNat < s.size) (K (.sc (.int .u8 (s.data.getD n.toNat 0).toNat)) .no .no)
    | _, _ => False
  | .slice t x lo hi mx => match mx, lkT X.tt t with
    | some _, _ => False
    | none, none => False
    | none, some ti =>
      match zk fr x with
      | .sc (.string s) => isT ti.str <| kj (lo.map (zk fr)) 0 fun l => kj (hi.map (zk fr)) s.size fun h =>
          Need (0 ≤ l ∧ l ≤ h ∧ h ≤ s.size) (K (.sc (.string (s.extract l.toNat h.toNat))) .no .no)
      | .vec xs => isT ti.sl <| match lkT X.tt ti.elem with
        | none => False
        | some te => kj (lo.map (zk fr)) 0 fun l => kj (hi.map (zk fr)) xs.length fun h =>
          Need (0 ≤ l ∧ l ≤ h ∧ h ≤ xs.length ∧ (l = 0 ∨ ∀ x ∈ xs, x.cells.length = te.size)) (K (.vec ((xs.take h.toNat).drop l.toNat)) .no .no)
      | .avec _ xs => isT ti.sl <| match lkT X.tt ti.elem with
        | none => False
        | some te => kj (lo.map (zk fr)) 0 fun l => kj (hi.map (zk fr)) xs.length fun h =>
          Need (0 ≤ l ∧ l ≤ h ∧ h ≤ xs.length ∧ (l = 0 ∨ ∀ x ∈ xs, x.cells.length = te.size)) (K (.vec ((xs.take h.toNat).drop l.toNat)) .no .no)
      | .grow b n c => isT ti.sl <| match lkT X.tt ti.elem with
        | none => False
        | some _ => kj (lo.map (zk fr)) 0 fun l => kj (hi.map (zk fr)) n fun h =>
          Need (l = 0 ∧ 0 ≤ h ∧ h ≤ n ∧ n ≤ c) (K (.grow b h.toNat c) .no .no)
      | .nil => isT ti.sl <| match lkT X.tt ti.elem with
        | none => False
        | some _ => kj (lo.map (zk fr)) 0 fun l => kj (hi.map (zk fr)) 0 fun h => Need (l = 0 ∧ h = 0) (K .nil .no .no)
      | _ => False
  | .makeSlice t l c => match lkT X.tt t with
    | some ti => match lkT X.tt ti.elem with
      | some te => isT ti.sl <| isT te.hz <| leN 1 te.size <| eqN (wd te).cells.length te.size <| match zk fr l, zk fr c with
        | .sc (.int _ n), .sc (.int _ m) => Need (0 ≤ n ∧ n ≤ m ∧ te.bytes * m ≤ 140737488355328 ∧ m ≤ 9223372036854775807) <|
            match zx0 X o.dst with
            | true => match CV.strip true (wd te) with
              | some z => eqN z.cells.length te.size <| AllocN det σ fun l => K (.grow l n.toNat m.toNat) .no (.ext (upd σ l (.arr ti.elem te.size m.toNat (List.replicate n.toNat z))))
              | none => False
            | false => zg8 fr o.dst fun d => K (.row d) (.new d (.rows te.size (List.replicate n.toNat (wd te)))) .no
        | _, _ => False
      | none => False
    | none => False
  | .convert src dst x => match lkT X.tt src, lkT X.tt dst with
    | some ts, some td => match zk fr x with
      | .sc (.int _ n) => match td.ik with
        | some k => Need (inR k n) (K (.sc (.int k n)) .no .no)
        | none => False
      | .sc (.string s) => isT td.str (K (.sc (.string s)) .no .no)
      | .vec xs => isT ts.sl <| isT td.str <| isT (u8T X ts.elem) <| u8s xs fun ns => K (.sc (.string (z1a ns))) .no .no
      | .avec _ xs => isT ts.sl <| isT td.str <| isT (u8T X ts.elem) <| u8s xs fun ns => K (.sc (.string (z1a ns))) .no .no
      | _ => False
    | _, _ => False
  | .extract x i => match zk fr x with
    | .tup vs => match z2c vs i with
      | some c => K c .no .no
      | none => False
    | _ => False
  | .makeInterface t x => match lkT X.tt t with
    | some ti => isT ti.conc (K (.iface t (zk fr x)) .no .no)
    | none => False
  | .makeFunc f first caps => K (.fn f (first.toList.map (zk fr)) (caps.toList.map (zk fr))) .no .no
  | .typeAssert x _ t ok => match lkT X.tt t with
    | some ti => isT ti.conc <| match zk fr x with
      | .iface u v => match Nat.beq u t with
        | true => match ok with
          | true => K (.tup [v, .sc (.bool true)]) .no .no
          | false => K v .no .no
        | false => isT ok <| isT ti.hz <| eqN (wd ti).cells.length ti.size <| K (.tup [wd ti, .sc (.bool false)]) .no .no
      | _ => False
    | none => False
  | .panic x => match CV.strip true (zk fr x) with
    | some (.iface t v) => KP (.iface t v) σ
    | _ => False
  | .makeMap t r => match r, lkT X.tt t with
    | none, some ti => match ti.mkv with
      | some (kt, _) => match lkT X.tt kt with
        | some tk => AllocN det σ fun l => K (.map l) .no (.ext (upd σ l (.mp tk.str [])))
        | none => False
      | none => False
    | _, _ => False
  | .lookup t m k ok => znp X σ t (zk fr m) (zk fr k) fun _ _ _ es kk z sl => MapN (ze kk es 0) fun r => match ok with
    | true => K (.tup [grV sl ((r.map (·.2)).getD z), .sc (.bool r.isSome)]) .no .rd
    | false => K (grV sl ((r.map (·.2)).getD z)) .no .rd
  | .mapUpdate t m k v => znp X σ t (zk fr m) (zk fr k) fun l q str es kk _ _ => match vGr (zk fr v) with
    | some x => MapN (ze kk es 0) fun r => match r, q with
      | some (i, _), false => K (.sc undef) .no (.wr (upd σ l (.mp str (es.set i (kk, x)))))
      | none, false => K (.sc undef) .no (.wr (upd σ l (.mp str (es ++ [(kk, x)]))))
      | some (i, _), true => K (.sc undef) .no (.wr (upd σ l (.mq str (es.set i (kk, x)))))
      | none, true => K (.sc undef) .no (.wr (upd σ l (.mq str (es ++ [(kk, x)]))))
    | _ => False
  | .mapEntry t m k => znp X σ t (zk fr m) (zk fr k) fun l q str es kk z sl => isT (!q) <| MapN (ze kk es 0) fun r => match r with
    | some (i, v) => K (.tup [grV sl v, .sc (.int .i64 i)]) .no (.wr (upd σ l (.mp str es)))
    | none => K (.tup [grV sl z, .sc (.int .i64 es.length)]) .no (.wr (upd σ l (.mp str (es ++ [(kk, z)]))))
  | .entryStore _ m s v => match zk fr m, zk fr s, vGr (zk fr v) with
    | .map l, .sc (.int _ n), some x => GetN σ l fun ob => match ob with
      | .mp str es => Need (0 ≤ n ∧ n.toNat < es.length) (K (.sc undef) .no (.wr (upd σ l (.mp str (es.modify n.toNat fun p => (p.1, x))))))
      | _ => False
    | _, _, _ => False
  | .call c => match c.callee with
    | .builtin b => znq X det fr σ o.dst b c.argTypes (c.args.toList.map (zk fr)) K
    | .value f => match zk fr f with
      | .fn (.func id) first caps => vh true (first ++ c.args.toList.map (zk fr) ++ caps) fun as => CallN det X.P id (first ++ c.args.toList.map (zk fr) ++ caps) as σ fun out => match out with
        | .ret v σ' => ExtN σ σ' fun he => K v .no he
        | .pan v σ' => KP v σ'
      | .opq v => vh true (c.args.toList.map (zk fr)) fun as => CallVN det X.P v as σ fun out => match out with
        | .ret v σ' => ExtN σ σ' fun he => K v .no he
        | .pan v σ' => KP v σ'
      | _ => False
    | .invoke r name => match zk fr r with
      | .iface t v => vh true (v :: c.args.toList.map (zk fr)) fun as => MethN X.P t name fun id => CallN det X.P id as as σ fun out => match out with
        | .ret v σ' => ExtN σ σ' fun he => K v .no he
        | .pan v σ' => KP v σ'
      | _ => False
  | _ => False
def y4 (ops : Array Oper) (fr : Fr) (j : Nat) : Option CV := ((ops[j]?).bind (·.dst)).map (look fr.env)
def putN (fr : Fr) (d : Option Tmp) (c : CV) (K : Fr → Prop) : Prop := match fr with
  | ⟨n, env, locs⟩ => match d with
    | none => K ⟨n, env, locs⟩
    | some t => match Nat.blt t n with
      | true => K ⟨n, (t, c) :: env, locs⟩
      | false => False
structure Did where
  dst : Option Tmp
  le : LE
  he : HE
def qx (fr : Fr) (le : LE) (d : Option Tmp) (c : CV) (K : Fr → Prop) : Prop := match fr with
  | ⟨n, env, locs⟩ => match le with
    | .wr l ob => match z0n locs l ob with
      | [] => False
      | x :: r => putN ⟨n, env, x :: r⟩ d c K
    | .new l ob => putN ⟨n, env, (l, ob) :: locs⟩ d c K
    | .no => putN ⟨n, env, locs⟩ d c K
    | .rd _ => putN ⟨n, env, locs⟩ d c K
def zxk (σ : Heap) (he : HE) (K : Heap → Prop) : Prop := match he with
  | .no => K σ
  | .rd => K σ
  | .rdl _ => K σ
  | .wr τ => K τ
  | .ext τ => K τ
  | .wrk τ => K τ
theorem z1x (l : List (Nat × Ob)) (d : Nat) (ob : Ob) : z0n l d ob ≠ [] := by
  cases l with
  | nil => simp [zqk]
  | cons p r => obtain ⟨s, c⟩ := p; rw [zle]; split <;> simp
theorem zas (fr : Fr) (le : LE) (d : Option Tmp) (c : CV) (K : Fr → Prop) : qx fr le d c K = putN (fr.app le) d c K := by
  obtain ⟨n, env, locs⟩ := fr
  cases le with
  | wr l ob =>
    simp only [qx, Fr.app]
    cases h : z0n locs l ob with
    | nil => exact absurd h (z1x _ _ _)
    | cons x r => rfl
  | _ => rfl
theorem zgv (σ : Heap) (he : HE) (K : Heap → Prop) : zxk σ he K = K (he.app σ) := by cases he <;> rfl
noncomputable def ze1 (X : Ctx) (det : Bool) (ops : Array Oper) (l : List Oper) : List Did → Fr → Heap → (List Did → Xt → Fr → Heap → Prop) → Prop :=
  List.rec (motive := fun _ => List Did → Fr → Heap → (List Did → Xt → Fr → Heap → Prop) → Prop) (fun ds fr σ Q => Q ds .normal fr σ) (fun o _ ih ds fr σ Q =>
    let go := zg0 X det o fr σ (fun v le he => qx fr le o.dst v fun fr => zxk σ he fun σ => ih (⟨o.dst, le, he⟩ :: ds) fr σ Q) (fun v τ => Q (⟨none, .no, .wr τ⟩ :: ds) (.pan v) fr τ)
    let skip := qx fr .no o.dst (.sc undef) fun fr => ih (⟨o.dst, .no, .no⟩ :: ds) fr σ Q
    match o.guard with
    | none => go
    | some (j, want) => match y4 ops fr j with
      | some (.sc (.bool b)) => selB (b == want) go skip
      | some (.sc (.tuple _)) => skip
      | _ => False) l
theorem zti (X : Ctx) (det : Bool) (ops : Array Oper) (o : Oper) (r : List Oper) (ds : List Did) (fr : Fr) (σ : Heap) (Q : List Did → Xt → Fr → Heap → Prop) : ze1 X det ops (o :: r) ds fr σ Q =
    (let go := zg0 X det o fr σ (fun v le he => putN (fr.app le) o.dst v fun fr => ze1 X det ops r (⟨o.dst, le, he⟩ :: ds) fr (he.app σ) Q) (fun v τ => Q (⟨none, .no, .wr τ⟩ :: ds) (.pan v) fr τ)
    let skip := putN fr o.dst (.sc undef) fun fr => ze1 X det ops r (⟨o.dst, .no, .no⟩ :: ds) fr σ Q
    match o.guard with
    | none => go
    | some (j, want) => match y4 ops fr j with
      | some (.sc (.bool b)) => selB (b == want) go skip
      | some (.sc (.tuple _)) => skip
      | _ => False) := by
  show (let go := zg0 X det o fr σ (fun v le he => qx fr le o.dst v fun fr => zxk σ he fun σ => ze1 X det ops r (⟨o.dst, le, he⟩ :: ds) fr σ Q) (fun v τ => Q (⟨none, .no, .wr τ⟩ :: ds) (.pan v) fr τ)
    let skip := qx fr .no o.dst (.sc undef) fun fr => ze1 X det ops r (⟨o.dst, .no, .no⟩ :: ds) fr σ Q
    match o.guard with
    | none => go
    | some (j, want) => match y4 ops fr j with
      | some (.sc (.bool b)) => selB (b == want) go skip
      | some (.sc (.tuple _)) => skip
      | _ => False) = _
  simp only [zas, zgv]
  rfl
def zqa (ops : Array Oper) : List Oper → List Nat → List Nat
  | [], acc => acc
  | o :: r, acc => zqa ops r (acc ++ [o.after.toList.foldl (fun s e => match Region.binds .any e with
      | true => s ||| 2 ^ e.on ||| acc.getD e.on 0
      | false => s) 0])
def Oper.reads (ops : Array Oper) (o : Oper) : List Tmp :=
  (o.op.operands.toList.filterMap fun x => match x with | .tmp t => some t | _ => none) ++
  (match o.guard with
    | some (j, _) => match (ops[j]?).bind (·.dst) with
      | some t => [t]
      | none => []
    | none => [])
def zav : LE → Option Nat
  | .no => none
  | .rd d => some d
  | .wr d _ => some d
  | .new d _ => some d
def zau : LE → Option Nat
  | .no => none
  | .rd _ => none
  | .wr d _ => some d
  | .new d _ => some d
def zd3 (a b : Option Nat) : Bool := match a, b with
  | some x, some y => Nat.beq x y
  | _, _ => false
def zhz : HE → HE → Bool
  | .no, _ => false
  | _, .no => false
  | .rd, .rd => false
  | .rd, .rdl _ => false
  | .rdl _, .rd => false
  | .rdl _, .rdl _ => false
  | .rd, .ext _ => false
  | .rdl _, .ext _ => false
  | .rdl _, .wrk _ => false
  | _, _ => true
def Did.meets (ops : Array Oper) (o p : Oper) (x y : Did) : Bool :=
  zd3 x.dst y.dst || (match x.dst with | some t => (Oper.reads ops p).contains t | none => false) || (match y.dst with | some t => (Oper.reads ops o).contains t | none => false) ||
  zd3 (zau x.le) (zav y.le) || zd3 (zav x.le) (zau y.le) || zhz x.he y.he
def isN (X : Ctx) (o : Oper) : Bool := match o.op with
  | .call c => match c.callee with
    | .builtin .append => zx0 X o.dst
    | .builtin _ => false
    | _ => true
  | .makeSlice _ _ _ => zx0 X o.dst
  | .buildSlice _ _ _ => zx0 X o.dst
  | .makeMap _ _ => true
  | .alloc _ => true
  | .box _ _ => true
  | _ => false
def zu0 (X : Ctx) (id : Nat) (ops : Array Oper) : List Nat := match X.ord id with
  | some l => l
  | none => List.range ops.size
def zyp (ops : Array Oper) (ord : List Nat) : Bool :=
  let n := ops.size
  let rk := (List.range n).map fun i => ord.findIdx (Nat.beq i)
  Nat.beq ord.length n && ((List.range n).all fun i => Nat.blt (rk.getD i n) n && Nat.beq (ord.getD (rk.getD i n) n) i && Nat.blt (ord.getD i n) n && Nat.beq (rk.getD (ord.getD i n) n) i) &&
  (List.range n).all fun k => match ops[k]? with
    | some o => o.after.toList.all fun e => !Region.binds .any e || (Nat.blt e.on n && Nat.blt (rk.getD e.on n) (rk.getD k n))
    | none => true
def yh (ops : Array Oper) (ord : List Nat) (ds : List Did) (n : Nat) : Bool :=
  let anc := zqa ops ops.toList []
  zyp ops ord && Nat.ble n ops.size && (List.range n).all fun j => (List.range j).all fun i =>
    match ops[ord.getD i ops.size]?, ops[ord.getD j ops.size]?, ds[i]?, ds[j]? with
    | some o, some p, some x, some y => (anc.getD (ord.getD j 0) 0).testBit (ord.getD i 0) || !Did.meets ops o p x y
    | _, _, _, _ => false
def zaj (ops : Array Oper) (ord : List Nat) (i : Nat) : Bool :=
  let anc := zqa ops ops.toList []
  (List.range ops.size).all fun j => Nat.ble j i || (anc.getD (ord.getD j 0) 0).testBit (ord.getD i 0)
structure OrdN (c : Prop) (A B : Prop) : Prop where
  h : (c ∧ A) ∨ B
theorem OrdN.many {c A B : Prop} (hc : c) (h : A) : OrdN c A B := ⟨.inl ⟨hc, h⟩⟩
theorem OrdN.one {c A B : Prop} (h : B) : OrdN c A B := ⟨.inr h⟩
def zwe (ops : Array Oper) (t : Nat) : Bool := ops.any fun o => match o.dst with
  | some s => Nat.beq s t
  | none => false
def zey (ops : Array Oper) (fr : Fr) : Fr := { fr with env := fr.env.filter fun p => !zwe ops p.1 }
def zs7 (σ τ : Heap) (ds : List Did) : Prop := List.rec (motive := fun _ => Prop) True (fun d _ ih => match d.he with
  | .rdl l => τ l = σ l ∧ ih
  | _ => ih) ds
def zj9 (σ : Heap) (he : HE) (ds : List Did) (T : Prop) : Prop := match he with
  | .wrk τ => Need (zs7 σ τ ds) T
  | _ => T
theorem zj8 {σ τ : Heap} {d : Did} {l : Nat} : ∀ {ds : List Did}, zs7 σ τ ds → d ∈ ds → d.he = .rdl l → τ l = σ l
  | x :: r, h, hm, he => by
    have h : (match x.he with
      | .rdl l => τ l = σ l ∧ zs7 σ τ r
      | _ => zs7 σ τ r) := h
    rcases List.mem_cons.1 hm with rfl | hm
    · rw [he] at h; exact h.1
    · split at h
      · exact zj8 h.2 hm he
      · exact zj8 h hm he
structure AndN (A B : Prop) : Prop where
  l : A
  r : B
def zui (ops : Array Oper) (done : List Nat) (i : Nat) : Bool := !(done.any (Nat.beq i)) && match ops[i]? with
  | some o => o.after.toList.all fun e => !Region.binds .any e || done.any (Nat.beq e.on)
  | none => false
def zc4 (ops : Array Oper) (done : List Nat) : List Nat := (List.range ops.size).filter (zui ops done)
def z3p (f : Nat → Prop) (l : List Nat) : Prop := List.rec (motive := fun _ => Prop) False (fun i r ih => match r with
  | [] => f i
  | _ :: _ => AndN (f i) ih) l
noncomputable def zrq (X : Ctx) (ops : Array Oper) (n : Nat) : List Nat → Fr → Heap → (Xt → Fr → Heap → Prop) → Prop :=
  Nat.rec (motive := fun _ => List Nat → Fr → Heap → (Xt → Fr → Heap → Prop) → Prop) (fun _ fr σ Q => Q .normal fr σ) (fun _ ih done fr σ Q =>
    zeu (zc4 ops done) fun rd => z3p (fun i => match ops[i]? with
      | some o => match o.guard with
        | none => zg0 X true o fr σ (fun v le he => qx fr le o.dst v fun fr => zxk σ he fun σ => ih (i :: done) fr σ Q) (fun _ _ => False)
        | some _ => False
      | none => False) rd) n
def qLE : LE → Bool
  | .no => true
  | .rd _ => true
  | _ => false
def qHE : HE → Bool
  | .no => true
  | _ => false
noncomputable def zkp (X : Ctx) (ops : Array Oper) (σ : Heap) (k : Fr → Prop) (l : List Nat) : Fr → Prop :=
  List.rec (motive := fun _ => Fr → Prop) k (fun i _ ih fr => match ops[i]? with
    | some o => zg0 X true o fr σ (fun v le he => isT (qLE le) <| isT (qHE he) <| qx fr le o.dst v ih) (fun _ _ => False)
    | none => False) l
noncomputable def zed (X : Ctx) (ops : Array Oper) (n : Nat) : List Nat → Fr → Heap → (Xt → Fr → Heap → Prop) → Prop :=
  Nat.rec (motive := fun _ => List Nat → Fr → Heap → (Xt → Fr → Heap → Prop) → Prop) (fun _ fr σ Q => Q .normal fr σ) (fun _ ih done fr σ Q =>
    zeu (zc4 ops done) fun rd => z3p (fun i => match ops[i]? with
      | some o => match o.guard with
        | none => zg0 X false o fr σ (fun v le he => isT (qLE le) <| qx fr le o.dst v fun fr => zxk σ he fun σ => ih (i :: done) fr σ Q) (fun _ _ => False)
        | some _ => False
      | none => False) rd) n
def k7 (ops : Array Oper) (i : Nat) : Option Tmp := (ops[i]?).bind (·.dst)
def zd0 (ops : Array Oper) (i : Nat) : List Tmp := match ops[i]? with
  | some o => Oper.reads ops o
  | none => []
def z2v (l : List Tmp) : Option Tmp → Bool
  | some t => l.any (Nat.beq t)
  | none => false
def z1z : Option Tmp → Option Tmp → Bool
  | some a, some b => Nat.beq a b
  | _, _ => false
def z7h (ops : Array Oper) (i j : Nat) : Bool := match ops[j]? with
  | some o => o.after.toList.any fun e => Region.binds .any e && Nat.beq e.on i
  | none => false
def zem (ops : Array Oper) : List Nat → List Nat → Bool
  | [], _ => true
  | i :: r, before => (match ops[i]? with
    | some o => o.guard.isNone && o.after.toList.all fun e => !Region.binds .any e || before.any (Nat.beq e.on)
    | none => false) && (!before.any (Nat.beq i) && ((i :: r).all (fun j => !z2v (zd0 ops i) (k7 ops j)) && zem ops r (before ++ [i])))
def zch (ops : Array Oper) (q : List Nat) : Bool := zem ops q [] && (List.range ops.size).all fun j => q.all fun i => Nat.beq i j ||
  (!z1z (k7 ops i) (k7 ops j) && ((!z2v (zd0 ops j) (k7 ops i) || z7h ops i j) && (q.any (Nat.beq j) || !z2v (zd0 ops i) (k7 ops j))))
noncomputable def exQ (X : Ctx) (ops : Array Oper) (q : List Nat) (fr : Fr) (σ : Heap) (Q : Xt → Fr → Heap → Prop) : Prop :=
  Need (zch ops q = true) (zkp X ops σ (fun fr => zed X ops (ops.size - q.length) q fr σ Q) q fr)
def zqi (ops : Array Oper) (ord : List Nat) (k : Nat) : Bool :=
  let anc := zqa ops ops.toList []
  (List.range ops.size).all fun j => Nat.blt j k || (List.range k).all fun i => (anc.getD (ord.getD j 0) 0).testBit (ord.getD i 0)
def z7x (X : Ctx) (ops : Array Oper) (ord : List Nat) (ds : List Did) (fr : Fr) (σ : Heap) (Q : Xt → Fr → Heap → Prop) : Prop := Need (zqi ops ord ds.length = true ∧ yh ops ord ds.reverse ds.length = true ∧ Nat.blt ds.length ops.size = true) (zrq X ops (ops.size - ds.length) (ord.take ds.length) fr σ Q)
def zw3 (X : Ctx) (id : Nat) (ord : List Nat) : List Nat := match X.ord (id + 100000) with
  | some c => ord.take c.length
  | none => ord
noncomputable def qo (X : Ctx) (ops : Array Oper) (ord : List Nat) (l : List Oper) : List Did → Fr → Heap → (Xt → Fr → Heap → Prop) → Prop :=
  List.rec (motive := fun _ => List Did → Fr → Heap → (Xt → Fr → Heap → Prop) → Prop) (fun ds fr σ Q => match Nat.beq ds.length ops.size with
    | true => Need (yh ops ord ds.reverse ops.size = true ∧ ds.length = ops.size) (Q .normal fr σ)
    | false => z7x X ops ord ds fr σ Q) (fun o _ ih ds fr σ Q =>
    let go := fun det => zg0 X det o fr σ (fun v le he => qx fr le o.dst v fun fr => zj9 σ he ds <| zxk σ he fun σ => ih (⟨o.dst, le, he⟩ :: ds) fr σ Q)
      (fun v τ => Need (zaj ops ord ds.length = true ∧ yh ops ord (ds.reverse ++ [⟨none, .no, .ext σ⟩]) (ds.length + 1) = true) (Q (.pan v) (zey ops fr) τ))
    let skip := qx fr .no o.dst (.sc undef) fun fr => ih (⟨o.dst, .no, .no⟩ :: ds) fr σ Q
    let both := match isN X o with
      | true => OrdN (zaj ops ord ds.length = true ∧ yh ops ord (ds.reverse ++ [⟨o.dst, .no, .ext σ⟩]) (ds.length + 1) = true) (go false) (go true)
      | false => go true
    match o.guard with
    | none => both
    | some (j, want) => match y4 ops fr j with
      | some (.sc (.bool b)) => selB (b == want) both skip
      | some (.sc (.tuple _)) => skip
      | _ => False) l
theorem ztl (X : Ctx) (ops : Array Oper) (ord : List Nat) (ds : List Did) (fr : Fr) (σ : Heap) (Q : Xt → Fr → Heap → Prop) : qo X ops ord [] ds fr σ Q = (match Nat.beq ds.length ops.size with
    | true => Need (yh ops ord ds.reverse ops.size = true ∧ ds.length = ops.size) (Q .normal fr σ)
    | false => z7x X ops ord ds fr σ Q) := rfl
theorem zpz (X : Ctx) (ops : Array Oper) (ord : List Nat) (o : Oper) (r : List Oper) (ds : List Did) (fr : Fr) (σ : Heap) (Q : Xt → Fr → Heap → Prop) : qo X ops ord (o :: r) ds fr σ Q = (
    let go := fun det => zg0 X det o fr σ (fun v le he => qx fr le o.dst v fun fr => zj9 σ he ds <| zxk σ he fun σ => qo X ops ord r (⟨o.dst, le, he⟩ :: ds) fr σ Q)
      (fun v τ => Need (zaj ops ord ds.length = true ∧ yh ops ord (ds.reverse ++ [⟨none, .no, .ext σ⟩]) (ds.length + 1) = true) (Q (.pan v) (zey ops fr) τ))
    let skip := qx fr .no o.dst (.sc undef) fun fr => qo X ops ord r (⟨o.dst, .no, .no⟩ :: ds) fr σ Q
    let both := match isN X o with
      | true => OrdN (zaj ops ord ds.length = true ∧ yh ops ord (ds.reverse ++ [⟨o.dst, .no, .ext σ⟩]) (ds.length + 1) = true) (go false) (go true)
      | false => go true
    match o.guard with
    | none => both
    | some (j, want) => match y4 ops fr j with
      | some (.sc (.bool b)) => selB (b == want) both skip
      | some (.sc (.tuple _)) => skip
      | _ => False) := rfl
mutual
def CV.only (D : Nat → Bool) : CV → Bool
  | .avec d _ => D d
  | .row d => D d
  | .ptr (.f d) _ => D d
  | .eptr (.f d) _ _ _ => D d
  | .agg cs => CV.onlys D cs
  | .iface _ v => CV.only D v
  | .fn _ a b => match CV.onlys D a with
    | true => CV.onlys D b
    | false => false
  | .tup vs => CV.onlys D vs
  | _ => true
def CV.onlys (D : Nat → Bool) : List CV → Bool
  | [] => true
  | x :: r => match CV.only D x with
    | true => CV.onlys D r
    | false => false
end
def Ob.only (D : Nat → Bool) : Ob → Bool
  | .cells cs => CV.onlys D cs
  | _ => true
def z32 (l : List (Nat × Ob)) (d : Nat) : Bool := (z6 l d).isSome
inductive CVle (l l' : List (Nat × Ob)) : CV → CV → Prop
  | junk (c : CV) : CVle l l' c .junk
  | same (c : CV) (h : CV.only (z32 l') c = true) : CVle l l' c c
  | vec (d : Nat) (xs : List CV) : CVle l l' (.avec d xs) (.vec xs)
  | nil : CVle l l' .nil (.vec [])
  | tok (d : Nat) (e sz : Nat) (h : z6 l d = none) (h' : z6 l' d = some (.tok e sz 0)) : CVle l l' .nil (.avec d [])
inductive CVles (l l' : List (Nat × Ob)) : List CV → List CV → Prop
  | nil : CVles l l' [] []
  | cons {c c' : CV} {r r' : List CV} (h : CVle l l' c c') (hr : CVles l l' r r') : CVles l l' (c :: r) (c' :: r')
inductive ObLe (l l' : List (Nat × Ob)) (d : Nat) : Ob → Prop
  | cells {cs cs' : List CV} (h : z6 l d = some (.cells cs)) (hc : CVles l l' cs cs') : ObLe l l' d (.cells cs')
  | same (ob : Ob) (h : z6 l d = some ob) (h' : Ob.only (z32 l') ob = true) : ObLe l l' d ob
  | tok (e sz : Nat) (h : z6 l d = none) : ObLe l l' d (.tok e sz 0)
inductive EnvLe (l l' : List (Nat × Ob)) (env : List (Nat × CV)) : List (Nat × CV) → Prop
  | nil : EnvLe l l' env []
  | cons (t : Nat) (c : CV) (r : List (Nat × CV)) (h : CVle l l' (look env t) c) (hr : EnvLe l l' env r) : EnvLe l l' env ((t, c) :: r)
inductive LocsLe (l l' : List (Nat × Ob)) : List (Nat × Ob) → Prop
  | nil : LocsLe l l' []
  | cons (d : Nat) (ob : Ob) (r : List (Nat × Ob)) (h : ObLe l l' d ob) (hr : LocsLe l l' r) : LocsLe l l' ((d, ob) :: r)
structure Wk (fr : Fr) (σ : Heap) (fr' : Fr) (σ' : Heap) : Prop where
  n : fr'.n = fr.n
  env : EnvLe fr.locs fr'.locs fr.env fr'.env
  locs : LocsLe fr.locs fr'.locs fr'.locs
  heap : Sub σ' σ
def zvj (body : Fr → Heap → (Xt → Fr → Heap → Prop) → Prop) (Q : Xt → Fr → Heap → Prop) : Nat → Fr → Heap → Prop
  | 0, _, _ => False
  | n + 1, fr, σ => ∃ fr' σ', Wk fr σ fr' σ' ∧ body fr' σ' fun e fr σ => match e with
    | .normal => zvj body Q n fr σ
    | e => Q e fr σ
structure LoopN (body : Fr → Heap → (Xt → Fr → Heap → Prop) → Prop) (Q : Xt → Fr → Heap → Prop) (fr : Fr) (σ : Heap) : Prop where
  h : ∃ n, zvj body Q n fr σ
noncomputable def Ex (X : Ctx) (c : Code) : Fr → Heap → (Xt → Fr → Heap → Prop) → Prop :=
  Code.rec (motive := fun _ => Fr → Heap → (Xt → Fr → Heap → Prop) → Prop)
    (fun fr σ Q => Q .normal fr σ)
    (fun id ops draw fr σ Q => match draw with
      | true => match X.ord (id + 200000) with
        | some q => exQ X ops q fr σ Q
        | none => zeu (zu0 X id ops) fun ord => zni ((zw3 X id ord).filterMap fun i => ops[i]?) fun l => qo X ops ord l [] fr σ Q
      | false => ze1 X false ops ops.toList [] fr σ fun _ e fr σ => Q e fr σ)
    (fun _ _ iha ihb fr σ Q => iha fr σ fun e fr σ => match e with
      | .normal => ihb fr σ Q
      | e => Q e fr σ)
    (fun c _ _ iht ihe fr σ Q => match zk fr c with
      | .sc (.bool b) => selB b (iht fr σ Q) (ihe fr σ Q)
      | _ => False)
    (fun id _ ih fr σ Q => ih fr σ fun e fr σ => match e with
      | .exit i => match Nat.beq i id with
        | true => Q .normal fr σ
        | false => Q (.exit i) fr σ
      | e => Q e fr σ)
    (fun _ ih fr σ Q => LoopN (fun fr σ K => ih fr σ K) Q fr σ)
    (fun _ _ _ _ _ _ _ _ _ => False)
    (fun id fr σ Q => Q (.exit id) fr σ)
    (fun _ _ _ _ _ => False)
    (fun _ _ _ _ => False)
    (fun _ _ _ _ => False)
    (fun fr σ Q => Q .ret fr σ)
    (fun _ _ _ _ => False) c
noncomputable def zko (X : Ctx) (fr : Fr) (σ : Heap) (l : List ResultVar) : (List CV → Prop) → Prop :=
  List.rec (motive := fun _ => (List CV → Prop) → Prop) (fun K => K []) (fun v _ ih K => match v with
    | .tmp t => ih fun vs => K (look fr.env t :: vs)
    | .cell a t => match lkT X.tt t with
      | some ti => zee fr σ (look fr.env a) fun cs off _ _ => ze0 ti cs off fun v => ih fun vs => K (v :: vs)
      | none => False) l
theorem zwm (X : Ctx) (fr : Fr) (σ : Heap) (t : Tmp) (r : List ResultVar) (K : List CV → Prop) : zko X fr σ (.tmp t :: r) K = zko X fr σ r fun vs => K (look fr.env t :: vs) := rfl
theorem zth (X : Ctx) (fr : Fr) (σ : Heap) (a : Tmp) (t : TypeId) (r : List ResultVar) (K : List CV → Prop) : zko X fr σ (.cell a t :: r) K = match lkT X.tt t with
    | some ti => zee fr σ (look fr.env a) fun cs off _ _ => ze0 ti cs off fun v => zko X fr σ r fun vs => K (v :: vs)
    | none => False := rfl
def zez (vs : List CV) : CV := match vs with
  | [v] => v
  | vs => .tup vs
inductive Fin (raw : List CV) (v : CV) (σ : Heap) (post : COut → Prop) : Prop
  | ret (σ' : Heap) (h : Sub σ' σ) (hp : post (.ret v σ')) : Fin raw v σ post
  | ret0 (σ' : Heap) (vs : List CV) (hs : CV.strips0 raw = some vs) (h : Sub σ' σ) (hp : post (.ret (zez vs) σ')) : Fin raw v σ post
inductive FinP (v : CV) (σ : Heap) (post : COut → Prop) : Prop
  | pan (σ' : Heap) (h : Sub σ' σ) (hp : post (.pan v σ')) : FinP v σ post
noncomputable def zwp (X : Ctx) (fn : Func) (post : COut → Prop) (e : Xt) (fr : Fr) (σ : Heap) : Prop :=
  let done := zko X fr σ fn.results.toList fun raw => vh true raw fun vs => match vs with
    | [v] => Fin raw v σ post
    | vs => Fin raw (.tup vs) σ post
  match e with
  | .normal => done
  | .ret => done
  | .pan v => FinP v σ post
  | .exit _ => False
def zdn : Nat → List CV → List (Nat × CV)
  | _, [] => []
  | k, c :: r => (k, c) :: zdn (k + 1) r
theorem zio (M : Mem) (F : FM) (v : Value) : Rep M F v (zqz v) := by
  unfold zqz
  split
  · exact .nil
  · exact .sc _
theorem z13 (M : Mem) (F : FM) (v : Value) : Rep M F v (ofV v) := by
  unfold ofV
  split
  · rename_i cs
    refine .agg cs _ (by simp) fun i c h => ?_
    rw [List.getElem?_map] at h
    cases hc : cs.toList[i]? with
    | none => rw [hc] at h; simp at h
    | some u =>
      rw [hc] at h
      simp only [Option.map_some, Option.some.injEq] at h
      subst h
      have : cs[i]? = some u := by simpa using hc
      have : cs.getD i undef = u := by simp [Array.getD_eq_getD_getElem?, this]
      rw [this]
      exact zio M F u
  · exact .nil
  · exact .sc _
section
variable {M : Mem} {F : FM} {own : Owns} {fr : Fr} {σ : Heap} {a : Act} {w : World}
theorem zd (hR : R M F own fr σ a w) (x : Operand) : Rep M F (a.eval x) (zk fr x) := by
  cases x with
  | tmp t => exact hR.env t
  | const v => exact z13 M F v
  | global g => exact .sc _
  | func f => exact .fn (.func f) #[] #[] [] [] rfl (by simp) rfl (by simp)
theorem zjw {v c} (h : Rep M F v c) : c.one = true → v.oneCell' = true := by
  induction h with
  | sc v => intro ho; cases v <;> first | rfl | (simp [CV.one] at ho)
  | agg => intro ho; simp [CV.one] at ho
  | tup => intro ho; simp [CV.one] at ho
  | junk => intro ho; simp [CV.one] at ho
  | avec o xs s n sz h => intro _; cases h <;> rfl
  | opq v c h1 h ih => intro _; exact ih h1
  | _ => intro _; rfl
theorem jt {v c} (h : Rep M F v c) (ho : c.cells.all CV.one = true) :
    v.cells.size = c.cells.length ∧ ∀ (j : Nat) x, c.cells[j]? = some x → Rep M F (v.cells.getD j undef) x ∧ (v.cells.getD j undef).oneCell' = true := by
  have single : (∀ cs, c ≠ .agg cs) → v.cells.size = c.cells.length ∧ ∀ (j : Nat) x, c.cells[j]? = some x → Rep M F (v.cells.getD j undef) x ∧ (v.cells.getD j undef).oneCell' = true := by
    intro hn
    have hc : c.cells = [c] := by cases c <;> first | rfl | exact absurd rfl (hn _)
    rw [hc] at ho ⊢
    have h1 : c.one = true := by simpa using ho
    have hv : v.cells = #[v] := by
      have := zjw h h1
      cases v <;> first | rfl | (simp [Value.oneCell'] at this)
    rw [hv]
    refine ⟨rfl, fun j x hx => ?_⟩
    cases j with
    | zero => simp at hx; subst hx; exact ⟨by simpa using h, by simpa using zjw h h1⟩
    | succ j => simp at hx
  cases h with
  | agg vs cs hs h =>
    refine ⟨hs, fun j x hx => ?_⟩
    have hr := h j x hx
    refine ⟨hr, zjw hr ?_⟩
    simp only [CV.cells, List.all_eq_true] at ho
    exact ho x (List.mem_of_getElem? hx)
  | _ => exact single (by intro cs e; cases e)
theorem zt {P : Program} {t : TypeId} {ti : TI} (h : zhd P t = some ti) : ∃ i d, P.info? t = some i ∧ P.underlying t = some d ∧
    ti = { size := i.size, bytes := i.bytes
           isAgg := match d with | .struct _ => true | .array _ _ => true | _ => false
           hz := match i.zero with | some z => zok (match d with | .struct _ => true | .array _ _ => true | _ => false) i.size z | none => false
           zero := match i.zero with | some z => z.cells.toList.map zqz | none => []
           fields := match d with | .struct fs => fs.toList.map (fun f => (f.offset, f.type, ((P.info? f.type).map (·.size)).getD 0)) | _ => []
           fok := match d with | .struct fs => fs.toList.all (fun f => (P.info? f.type).isSome) | _ => false
           elem := match d with | .slice e => e | .pointer e => e | .array _ e => e | _ => 0
           sl := match d with | .slice _ => true | _ => false
           ik := match d with | .int k => some k | _ => none
           conc := match d with | .interface _ => false | _ => true
           str := match d with | .string => true | _ => false
           bl := match d with | .bool => true | _ => false
           ptr := match d with | .pointer _ => true | _ => false
           ife := match d with | .interface ms => ms.isEmpty | _ => false
           mkv := match d with | .map k e => some (k, e) | _ => none } := by
  unfold zhd at h
  split at h
  · rename_i i d hi hd
    exact ⟨i, d, hi, hd, (Option.some.inj h).symm⟩
  · simp at h
theorem we {P : Program} {t : TypeId} {ti : TI} (h : zhd P t = some ti) (w : World) : (sizeOf t).run P w = .ok ti.size w := by
  obtain ⟨i, d, hi, hd, rfl⟩ := zt h
  simp [sizeOf, typeInfo, hi]
theorem zc1 {P : Program} {t : TypeId} {ti : TI} (h : zhd P t = some ti) (w : World) : (isAgg t).run P w = .ok ti.isAgg w := by
  obtain ⟨i, d, hi, hd, rfl⟩ := zt h
  unfold isAgg
  rw [Sem.run_bind, run_underlying hd w]
  cases d <;> simp
theorem qs (b o n : Nat) : (⟨b, o, none⟩ : Addr).add n = ⟨b, o + n, none⟩ := by unfold Addr.add; split <;> simp_all
inductive PtrTo (fr : Fr) (σ : Heap) : CV → List CV → Nat → LE → HE → Prop
  | f (d off : Nat) (cs : List CV) (h : z6 fr.locs d = some (.cells cs)) : PtrTo fr σ (.ptr (.f d) off) cs off (.rd d) .no
  | g (l off : Nat) (cs : List CV) (h : σ l = some (.cells cs)) : PtrTo fr σ (.ptr (.g l) off) cs off .no (.rdl l)
  | ref (x : CV) (off : Nat) : PtrTo fr σ (.ref x off) x.cells off .no .no
  | e (d sz i off : Nat) (xs : List CV) (x : CV) (h : z6 fr.locs d = some (.rows sz xs)) (hx : xs[i]? = some x) : PtrTo fr σ (.eptr (.f d) sz i off) x.cells off (.rd d) .no
  | ge (l sz i off : Nat) (xs : List CV) (x : CV) (h : σ l = some (.rows sz xs)) (hx : xs[i]? = some x) : PtrTo fr σ (.eptr (.g l) sz i off) x.cells off .no (.rdl l)
  | ga (l sz i off : Nat) (e : TypeId) (cap : Nat) (xs : List CV) (x : CV) (h : σ l = some (.arr e sz cap xs)) (hx : xs[i]? = some x) : PtrTo fr σ (.eptr (.g l) sz i off) x.cells off .no (.rdl l)
theorem zew {p : CV} {k : List CV → Nat → LE → HE → Prop} (h : zee fr σ p k) : ∃ cs off le he, k cs off le he ∧ PtrTo fr σ p cs off le he := by
  unfold zee at h
  split at h
  · rename_i d off
    split at h
    · rename_i cs hl; exact ⟨_, _, _, _, h, .f d off cs hl⟩
    · exact h.elim
  · rename_i l off
    obtain ⟨ob, hl, h⟩ := h.h
    split at h
    · rename_i cs; exact ⟨_, _, _, _, h, .g l off cs hl⟩
    · exact h.elim
  · rename_i x off; exact ⟨_, _, _, _, h, .ref x off⟩
  · rename_i d sz i off
    split at h
    · rename_i sz' xs hl
      obtain ⟨e, h2⟩ := zw h
      subst e
      obtain ⟨x, hx, h3⟩ := h2.h
      exact ⟨_, _, _, _, h3, .e d sz i off xs x hl hx⟩
    · exact h.elim
  · rename_i l sz i off
    obtain ⟨ob, hl, h⟩ := h.h
    split at h
    · rename_i sz' xs
      obtain ⟨e, h2⟩ := zw h
      subst e
      obtain ⟨x, hx, h3⟩ := h2.h
      exact ⟨_, _, _, _, h3, .ge l sz i off xs x hl hx⟩
    · rename_i e' sz' cap xs
      obtain ⟨e, h2⟩ := zw h
      subst e
      obtain ⟨x, hx, h3⟩ := h2.h
      exact ⟨_, _, _, _, h3, .ga l sz i off e' cap xs x hl hx⟩
    · exact h.elim
  · exact h.elim
def HAgree (he : HE) (σ σ1 : Heap) : Prop := match he with
  | .no => True
  | .rd => Sub σ σ1
  | .rdl l => ∀ ob, σ l = some ob → σ1 l = some ob
  | _ => σ1 = σ
theorem HAgree.refl (he : HE) (σ : Heap) : HAgree he σ σ := by
  cases he with
  | no => exact True.intro
  | rd => exact Sub.refl _
  | rdl => exact fun _ h => h
  | wr => exact rfl
  | ext => exact rfl
  | wrk => exact rfl
def z7z (σ τ : Heap) (he : HE) : Prop := (he = .wr τ ∨ he = .wrk τ) ∨ (he = .ext τ ∧ Sub σ τ)
theorem PtrTo.at_ {fr1 : Fr} {σ1 : Heap} {p : CV} {cs : List CV} {off : Nat} {le : LE} {he : HE} (h : PtrTo fr σ p cs off le he)
    (hl : ∀ d, zav le = some d → z6 fr1.locs d = z6 fr.locs d) (hh : HAgree he σ σ1) : PtrTo fr1 σ1 p cs off le he := by
  cases h with
  | f d off cs h => exact .f d off cs ((hl d rfl).trans h)
  | g l off cs h => exact .g l off cs (hh _ h)
  | ref x off => exact .ref x off
  | e d sz i off xs x h hx => exact .e d sz i off xs x ((hl d rfl).trans h) hx
  | ge l sz i off xs x h hx => exact .ge l sz i off xs x (hh _ h) hx
  | ga l sz i off e cap xs x h hx => exact .ga l sz i off e cap xs x (hh _ h) hx
theorem PtrTo.noExt {p : CV} {cs : List CV} {off : Nat} {le : LE} {he : HE} {τ : Heap} (h : PtrTo fr σ p cs off le he) (e : he = .ext τ) : False := by
  cases h <;> cases e
theorem zkx {b : Nat} {cs : List CV} (h : ObRep M F w (.blk b) (.cells cs)) : ∀ (j : Nat) c, cs[j]? = some c → ∃ v, w.cell? ⟨b, j, none⟩ = some v ∧ Rep M F v c := by
  obtain ⟨T, vs, hb, hsz, hr, _⟩ := h
  intro j c hc
  have hj : j < vs.size := by rw [hsz]; exact (List.getElem?_eq_some_iff.1 hc).1
  refine ⟨vs[j], by simp [World.cell?, hb, hj], ?_⟩
  have := hr j c hc
  simpa [Array.getD_eq_getD_getElem?, hj] using this
theorem zqp {b n cap sz : Nat} {xs : List CV} (h : ObRep M F w (.row b n cap) (.rows sz xs)) {i : Nat} {x : CV} (hx : xs[i]? = some x) :
    ∀ (j : Nat) c, x.cells[j]? = some c → ∃ v, w.cell? ⟨b, i * sz + j, none⟩ = some v ∧ Rep M FM.no v c := by
  obtain ⟨T, vs, hb, hvs, hn, hnc, hlen, hr, _⟩ := h
  intro j c hc
  have hi : i < xs.length := (List.getElem?_eq_some_iff.1 hx).1
  have hjl : j < sz := by rw [← hlen i x hx]; exact (List.getElem?_eq_some_iff.1 hc).1
  have hj : i * sz + j < vs.size := by
    rw [hvs]
    calc i * sz + j < i * sz + sz := by omega
      _ = (i + 1) * sz := by rw [Nat.add_mul]; omega
      _ ≤ cap * sz := Nat.mul_le_mul_right _ (by omega)
  refine ⟨vs[i * sz + j], by simp [World.cell?, hb, hj], ?_⟩
  have := hr i x j c hx hc
  simpa [Array.getD_eq_getD_getElem?, hj] using this
theorem FM.no_le (F : FM) : FM.le FM.no F := fun _ _ e => by simp [FM.no] at e
theorem zea {l : Nat} {cs : List CV} (hR : Rg M own σ w) (h : σ l = some (.cells cs)) : ObRep M FM.no w (.blk l) (.cells cs) := by
  obtain ⟨_, fo, ho, hb⟩ := hR.glob l _ h
  cases fo with
  | blk b => cases hb; exact ho
  | row b n cap => exact ho.elim
  | tok s n sz => exact ho.elim
theorem zwd {l sz : Nat} {xs : List CV} (hR : Rg M own σ w) (h : σ l = some (.rows sz xs)) : ∃ n cap, ObRep M FM.no w (.row l n cap) (.rows sz xs) := by
  obtain ⟨_, fo, ho, hb⟩ := hR.glob l _ h
  cases fo with
  | blk b => exact ho.elim
  | row b n cap => cases hb; exact ⟨n, cap, ho⟩
  | tok s n sz => exact ho.elim
theorem zay {l sz cap : Nat} {e : TypeId} {xs : List CV} (hR : Rg M own σ w) (h : σ l = some (.arr e sz cap xs)) : ∃ vs, w.heap[l]? = some (.cells vs e (0, 0)) ∧ vs.size = cap * sz ∧ xs.length ≤ cap ∧
      (∀ (i : Nat) (x : CV), xs[i]? = some x → x.cells.length = sz) ∧
      (∀ (i : Nat) (x : CV) (j : Nat) c, xs[i]? = some x → x.cells[j]? = some c → Rep M FM.no (vs.getD (i * sz + j) undef) c) ∧ ∀ o, M l o = none := by
  obtain ⟨_, fo, ho, hb⟩ := hR.glob l _ h
  cases fo with
  | blk b => exact ho.elim
  | row b n cap' =>
    cases hb
    obtain ⟨rfl, rfl, vs, h1, h2, h3, h4⟩ := ho
    exact ⟨vs, h1, h2, h3, h4⟩
  | tok s n sz => exact ho.elim
theorem z0e {l sz cap : Nat} {e : TypeId} {xs : List CV} (hR : Rg M own σ w) (h : σ l = some (.arr e sz cap xs)) {i : Nat} {x : CV} (hx : xs[i]? = some x) :
    ∀ (j : Nat) c, x.cells[j]? = some c → ∃ v, w.cell? ⟨l, i * sz + j, none⟩ = some v ∧ Rep M FM.no v c := by
  obtain ⟨vs, hb, hvs, hnc, hlen, hr, _⟩ := zay hR h
  intro j c hc
  have hi : i < xs.length := (List.getElem?_eq_some_iff.1 hx).1
  have hjl : j < sz := by rw [← hlen i x hx]; exact (List.getElem?_eq_some_iff.1 hc).1
  have hj : i * sz + j < vs.size := by
    rw [hvs]
    calc i * sz + j < i * sz + sz := by omega
      _ = (i + 1) * sz := by rw [Nat.add_mul]; omega
      _ ≤ cap * sz := Nat.mul_le_mul_right _ (by omega)
  refine ⟨vs[i * sz + j], by simp [World.cell?, hb, hj], ?_⟩
  have := hr i x j c hx hc
  simpa [Array.getD_eq_getD_getElem?, hj] using this
theorem PtrTo.sound {p : CV} {pv : Value} {cs : List CV} {off : Nat} {le : LE} {he : HE} (hR : R M F own fr σ a w) (hp : Rep M F pv p) (h : PtrTo fr σ p cs off le he) :
    ∃ b base, pv = .pointer (some ⟨b, base + off, none⟩) ∧ ∀ (j : Nat) c, cs[j]? = some c → ∃ v, w.cell? ⟨b, base + j, none⟩ = some v ∧ Rep M F v c := by
  cases h with
  | f d off cs hl =>
    obtain ⟨fo, hF, ho, hown⟩ := hR.locs d _ hl
    cases hp with
    | ptr _ _ b ho' =>
      have : fo = .blk b := by rw [hF] at ho'; exact Option.some.inj ho'
      subst this
      exact ⟨b, 0, by simp, fun j c hc => by simpa using zkx ho j c hc⟩
  | g l off cs hl =>
    cases hp with
    | gptr _ _ =>
      refine ⟨l, 0, by simp, fun j c hc => ?_⟩
      obtain ⟨v, h1, h2⟩ := zkx (zea hR.toRg hl) j c hc
      exact ⟨v, by simpa using h1, h2.mono (Mem.le.refl _) (FM.no_le F)⟩
  | ref x off =>
    cases hp with
    | ref _ _ b base vs hm hr =>
      exact ⟨b, base, rfl, fun j c hc => ⟨vs j, hR.mem _ _ _ (hm j c hc), (hr j c hc).mono (Mem.le.refl M) (FM.no_le F)⟩⟩
  | e d sz i off xs x hl hx =>
    obtain ⟨fo, hF, ho, hown⟩ := hR.locs d _ hl
    cases hp with
    | eptr _ _ _ _ b n cap ho' =>
      have : fo = .row b n cap := by rw [hF] at ho'; exact Option.some.inj ho'
      subst this
      refine ⟨b, i * sz, rfl, fun j c hc => ?_⟩
      obtain ⟨v, h1, h2⟩ := zqp ho hx j c hc
      exact ⟨v, h1, h2.mono (Mem.le.refl _) (FM.no_le F)⟩
  | ge l sz i off xs x hl hx =>
    cases hp with
    | geptr _ _ _ _ =>
      obtain ⟨n, cap, ho⟩ := zwd hR.toRg hl
      refine ⟨l, i * sz, rfl, fun j c hc => ?_⟩
      obtain ⟨v, h1, h2⟩ := zqp ho hx j c hc
      exact ⟨v, h1, h2.mono (Mem.le.refl _) (FM.no_le F)⟩
  | ga l sz i off e cap xs x hl hx =>
    cases hp with
    | geptr _ _ _ _ =>
      refine ⟨l, i * sz, rfl, fun j c hc => ?_⟩
      obtain ⟨v, h1, h2⟩ := z0e hR.toRg hl hx j c hc
      exact ⟨v, h1, h2.mono (Mem.le.refl _) (FM.no_le F)⟩
theorem zgh {ti : TI} {cs : List CV} {off : Nat} {K : CV → Prop} (h : ze0 ti cs off K) :
    ∃ c, K c ∧ ∀ {P : Program} {t : TypeId} {M : Mem} {F : FM} {w : World} {b base : Nat}, zhd P t = some ti → (∀ (j : Nat) c, cs[j]? = some c → ∃ v, w.cell? ⟨b, base + j, none⟩ = some v ∧ Rep M F v c) →
      ∃ v, (loadVar t ⟨b, base + off, none⟩).run P w = .ok v w ∧ Rep M F v c := by
  unfold ze0 at h
  split at h
  · rename_i hagg
    obtain ⟨hle, h⟩ := vz h
    rw [kz] at h
    refine ⟨_, h, fun {P t M F w b base} hti hc => ?_⟩
    let vs : List Value := (List.range ti.size).map fun j => (w.cell? ⟨b, base + off + j, none⟩).getD undef
    have hvs : vs.length = ti.size := by simp [vs]
    have hcell : ∀ j, j < ti.size → ∃ v c, cs[off + j]? = some c ∧ w.cell? ⟨b, base + off + j, none⟩ = some v ∧ Rep M F v c := by
      intro j hj
      have hlt : off + j < cs.length := by omega
      obtain ⟨v, h1, h2⟩ := hc (off + j) cs[off + j] (by simp [hlt])
      exact ⟨v, cs[off + j], by simp [hlt], by rw [Nat.add_assoc]; exact h1, h2⟩
    refine ⟨.agg vs.toArray, ?_, ?_⟩
    · have hl := run_loadCells_list (P := P) w ⟨b, base + off, none⟩ vs (fun j v hv => by
        rw [qs]
        simp only [vs, List.getElem?_map, Option.map_eq_some_iff] at hv
        obtain ⟨j', hj', rfl⟩ := hv
        obtain ⟨hlt, rfl⟩ := List.getElem?_eq_some_iff.1 hj'
        simp only [List.length_range] at hlt
        simp only [List.getElem_range]
        obtain ⟨v, c, _, h2, _⟩ := hcell j hlt
        rw [h2]; rfl)
      rw [hvs] at hl
      simp [loadVar, zc1 hti, hagg, we hti, hl]
    · refine .agg _ _ (by simp [hvs]; omega) fun i c hi => ?_
      simp only [List.getElem?_take, List.getElem?_drop] at hi
      split at hi
      · rename_i hlt
        obtain ⟨v, c', h1, h2, h3⟩ := hcell i hlt
        rw [h1] at hi
        cases hi
        have : vs.toArray.getD i undef = v := by
          simp [vs, Array.getD_eq_getD_getElem?, hlt, h2]
        rw [this]; exact h3
      · simp at hi
  · rename_i hagg
    rw [zpc] at h
    split at h
    · rename_i c hcs
      refine ⟨c, h, fun {P t M F w b base} hti hc => ?_⟩
      obtain ⟨v, h1, h2⟩ := hc off c hcs
      refine ⟨v, ?_, h2⟩
      simp [loadVar, zc1 hti, hagg, h1]
    · exact h.elim
end
theorem ObRep.keep {M M' : Mem} {F F' : FM} {w w' : World} {fo : FO} {ob : Ob} (h : ObRep M F w fo ob) (hM : Mem.le M M') (hF : FM.le F F')
    (hb : ∀ b, fo.block = some b → b < w.heap.size → w'.heap[b]? = w.heap[b]? ∧ ∀ o, M' b o = M b o) : ObRep M' F' w' fo ob := by
  cases fo with
  | blk b =>
    cases ob with
    | cells cs =>
      obtain ⟨T, vs, h1, h2, h3, h4⟩ := h
      obtain ⟨k1, k2⟩ := hb b rfl (Array.getElem?_eq_some_iff.1 h1).1
      exact ⟨T, vs, k1.trans h1, h2, fun j c hc => (h3 j c hc).mono hM hF, fun o => (k2 o).trans (h4 o)⟩
    | mp str es =>
      obtain ⟨arr, h1, h2, h3, h5, h4⟩ := h
      obtain ⟨k1, k2⟩ := hb b rfl (Array.getElem?_eq_some_iff.1 h1).1
      exact ⟨arr, k1.trans h1, h2, h3, h5, fun o => (k2 o).trans (h4 o)⟩
    | mq str es =>
      obtain ⟨arr, clock, h1, h2, h3, h4⟩ := h
      obtain ⟨k1, k2⟩ := hb b rfl (Array.getElem?_eq_some_iff.1 h1).1
      exact ⟨arr, clock, k1.trans h1, h2, h3, fun o => (k2 o).trans (h4 o)⟩
    | loop f n env ps asg body st pend =>
      obtain ⟨r, h1, h2, h3, h5, h4⟩ := h
      obtain ⟨k1, k2⟩ := hb b rfl (Array.getElem?_eq_some_iff.1 h1).1
      exact ⟨r, k1.trans h1, h2, h3, fun t => (h5 t).mono hM (FM.le.refl _), fun o => (k2 o).trans (h4 o)⟩
    | _ => exact h.elim
  | row b n cap =>
    cases ob with
    | rows sz xs =>
      obtain ⟨T, vs, h1, h2, h3, h4, h5, h6, h7⟩ := h
      obtain ⟨k1, k2⟩ := hb b rfl (Array.getElem?_eq_some_iff.1 h1).1
      exact ⟨T, vs, k1.trans h1, h2, h3, h4, h5, fun i x j c hx hc => (h6 i x j c hx hc).mono hM (FM.le.refl _), fun o => (k2 o).trans (h7 o)⟩
    | arr e sz cap' xs =>
      obtain ⟨h0, h3, vs, h1, h2, h4, h5, h6, h7⟩ := h
      obtain ⟨k1, k2⟩ := hb b rfl (Array.getElem?_eq_some_iff.1 h1).1
      exact ⟨h0, h3, vs, k1.trans h1, h2, h4, h5, fun i x j c hx hc => (h6 i x j c hx hc).mono hM (FM.le.refl _), fun o => (k2 o).trans (h7 o)⟩
    | _ => exact h.elim
  | tok s n szz =>
    cases ob with
    | tok e sz m =>
      obtain ⟨h0, h0', h⟩ := h
      refine ⟨h0, h0', ?_⟩
      cases s with
      | none => exact h
      | some p =>
        obtain ⟨b, cap⟩ := p
        obtain ⟨vs, h1, h2, h3, h4, h5⟩ := h
        obtain ⟨k1, k2⟩ := hb b rfl (Array.getElem?_eq_some_iff.1 h1).1
        exact ⟨vs, k1.trans h1, h2, h3, fun o ho => (k2 o).trans (h4 o ho), fun o ho => (k2 o).trans (h5 o ho)⟩
    | _ => exact h.elim
theorem ObRep.lt {M : Mem} {F : FM} {w : World} {fo : FO} {ob : Ob} (h : ObRep M F w fo ob) : ∀ b, fo.block = some b → b < w.heap.size := by
  intro b hb
  cases fo with
  | blk b' =>
    cases ob with
    | cells cs => obtain ⟨T, vs, h1, _⟩ := h; cases hb; exact (Array.getElem?_eq_some_iff.1 h1).1
    | mp str es => obtain ⟨arr, h1, _⟩ := h; cases hb; exact (Array.getElem?_eq_some_iff.1 h1).1
    | mq str es => obtain ⟨arr, _, h1, _⟩ := h; cases hb; exact (Array.getElem?_eq_some_iff.1 h1).1
    | loop f n env ps asg body st pend => obtain ⟨r, h1, _⟩ := h; cases hb; exact (Array.getElem?_eq_some_iff.1 h1).1
    | _ => exact h.elim
  | row b' n cap =>
    cases ob with
    | rows sz xs => obtain ⟨T, vs, h1, _⟩ := h; cases hb; exact (Array.getElem?_eq_some_iff.1 h1).1
    | arr e sz cap' xs => obtain ⟨_, _, vs, h1, _⟩ := h; cases hb; exact (Array.getElem?_eq_some_iff.1 h1).1
    | _ => exact h.elim
  | tok s n szz =>
    cases ob with
    | tok e sz m =>
      cases s with
      | none => simp [FO.block] at hb
      | some p => obtain ⟨_, _, vs, h1, _⟩ := h; simp [FO.block] at hb; subst hb; exact (Array.getElem?_eq_some_iff.1 h1).1
    | _ => exact h.elim
theorem yv {w w' : World} {b : Nat} (h : w'.heap[b]? = w.heap[b]?) (o : Nat) : w'.cell? ⟨b, o, none⟩ = w.cell? ⟨b, o, none⟩ := by
  simp [World.cell?, h]
def zfv (F : FM) (d : Nat) (fo : FO) : FM := fun x => if x = d then some fo else F x
def zae (own : Owns) (t : Own) (fo : FO) : Owns := fun b => if fo.block = some b then some t else if own b = some t then none else own b
structure Touch (M : Mem) (own : Owns) (w : World) (t : Own) (fo : FO) (M' : Mem) (w' : World) : Prop where
  size : w.heap.size ≤ w'.heap.size
  os : w'.os = w.os
  tape : w'.tape = w.tape
  output : w'.output = w.output
  keep : ∀ b, b < w.heap.size → own b ≠ some t → w'.heap[b]? = w.heap[b]? ∧ ∀ o, M' b o = M b o
  at_ : ∀ b o v, M b o = some v → M' b o = some v
  mem : ∀ b o v, (own b = some t ∨ w.heap.size ≤ b) → M' b o = some v → w'.cell? ⟨b, o, none⟩ = some v
  blk : ∀ b, fo.block = some b → (own b = some t ∨ w.heap.size ≤ b) ∧ b < w'.heap.size
section
variable {M M' : Mem} {F : FM} {own : Owns} {fr fr' : Fr} {σ : Heap} {a : Act} {w w' : World}
theorem Touch.kext {t : Own} {fo : FO} (h : Touch M own w t fo M' w') : KExt M own w M' (zae own t fo) w' :=
  ⟨h.at_, h.size, h.os, h.tape, h.output, fun b hb ho => by
    obtain ⟨k1, k2⟩ := h.keep b hb (by rw [ho]; simp)
    refine ⟨k1, ?_, k2⟩
    have : fo.block ≠ some b := fun e => by rcases (h.blk b e).1 with e' | e'
                                            · rw [ho] at e'; cases e'
                                            · omega
    simp [zae, this, ho]⟩
theorem qb {own : Owns} {t u : Own} {fo : FO} {b : Nat} (hu : own b = some u) (hne : u ≠ t) (hb : fo.block ≠ some b) : zae own t fo b = some u := by
  simp [zae, hb, hu, hne]
theorem R.touch (hR : R M F own fr σ a w) (d : Nat) (fo : FO) (ob : Ob) (hT : Touch M own w (.f d) fo M' w')
    (hF : ∀ fo0, F d = some fo0 → FO.le fo0 fo) (hob : ObRep M' (zfv F d fo) w' fo ob)
    (hfr : fr'.n = fr.n ∧ fr'.env = fr.env ∧ ∀ x, z6 fr'.locs x = if d = x then some ob else z6 fr.locs x) :
    R M' (zfv F d fo) (zae own (.f d) fo) fr' σ a w' ∧ KExt M own w M' (zae own (.f d) fo) w' ∧ FM.le F (zfv F d fo) := by
  have hMle : Mem.le M M' := hT.at_
  have hFle : FM.le F (zfv F d fo) := fun x o e => by
    by_cases hx : x = d
    · subst hx; exact ⟨fo, by simp [zfv], hF o e⟩
    · exact ⟨o, by simp [zfv, hx, e], .refl o⟩
  have hblk : ∀ b u, own b = some u → u ≠ .f d → b < w.heap.size → fo.block ≠ some b := fun b u hu hne hlt e => by
    rcases (hT.blk b e).1 with e' | e'
    · rw [hu] at e'; exact hne (Option.some.inj e')
    · omega
  refine ⟨⟨⟨?_, ?_, ?_⟩, ?_, ?_, ?_, ?_⟩, hT.kext, hFle⟩
  · intro b o v h
    by_cases hb : own b = some (.f d) ∨ w.heap.size ≤ b
    · exact hT.mem b o v hb h
    · have hb : own b ≠ some (.f d) ∧ b < w.heap.size := by rw [not_or] at hb; exact ⟨hb.1, by omega⟩
      obtain ⟨k1, k2⟩ := hT.keep b hb.2 hb.1
      rw [yv k1, ← hR.mem b o v ((k2 o).symm.trans h)]
  · intro l ob' hl
    obtain ⟨h1, fo', h2, h3⟩ := hR.glob l ob' hl
    refine ⟨qb h1 (by simp) (hblk l _ h1 (by simp) (h2.lt l h3)), fo', h2.keep hMle (FM.le.refl _) fun b hb hlt => ?_, h3⟩
    rw [h3] at hb; cases hb
    exact hT.keep _ hlt (by rw [h1]; simp)
  · intro b hb
    have : own b = none := hR.fresh b (Nat.le_trans hT.size hb)
    have hn : fo.block ≠ some b := fun e => by have := (hT.blk b e).2; omega
    simp [zae, hn, this]
  · rw [hfr.1]; exact hR.size
  · intro t; rw [hfr.2.1]; exact (hR.env t).mono hMle hFle
  · intro x ob' hx
    rw [hfr.2.2] at hx
    by_cases hd : d = x
    · subst hd
      rw [if_pos rfl] at hx
      cases hx
      exact ⟨fo, by simp [zfv], hob, fun b hb => by simp [zae, hb]⟩
    · rw [if_neg hd] at hx
      obtain ⟨fo', h1, h2, h3⟩ := hR.locs x ob' hx
      have hne : (Own.f x) ≠ .f d := fun e => hd (by cases e; rfl)
      refine ⟨fo', by simp [zfv, Ne.symm hd, h1], h2.keep hMle hFle fun b hb hlt => hT.keep b hlt (by rw [h3 b hb]; simpa using hne), fun b hb => ?_⟩
      exact qb (h3 b hb) hne (hblk b _ (h3 b hb) hne (h2.lt b hb))
  · intro x hx
    rw [hfr.2.2] at hx
    by_cases hd : d = x
    · rw [if_pos hd] at hx; cases hx
    · rw [if_neg hd] at hx
      simp [zfv, Ne.symm hd, hR.dom x hx]
theorem R.touchG (hR : R M F own fr σ a w) (l : Nat) (fo : FO) (ob : Ob) (hT : Touch M own w (.g l) fo M' w') (hl : fo.block = some l) (hob : ObRep M' FM.no w' fo ob) :
    R M' F (zae own (.g l) fo) fr (upd σ l ob) a w' ∧ KExt M own w M' (zae own (.g l) fo) w' := by
  have hMle : Mem.le M M' := hT.at_
  have hblk : ∀ b u, own b = some u → u ≠ .g l → b < w.heap.size → fo.block ≠ some b := fun b u hu hne hlt e => by
    rcases (hT.blk b e).1 with e' | e'
    · rw [hu] at e'; exact hne (Option.some.inj e')
    · omega
  refine ⟨⟨⟨?_, ?_, ?_⟩, ?_, ?_, ?_, ?_⟩, hT.kext⟩
  · intro b o v h
    by_cases hb : own b = some (.g l) ∨ w.heap.size ≤ b
    · exact hT.mem b o v hb h
    · have hb : own b ≠ some (.g l) ∧ b < w.heap.size := by rw [not_or] at hb; exact ⟨hb.1, by omega⟩
      obtain ⟨k1, k2⟩ := hT.keep b hb.2 hb.1
      rw [yv k1, ← hR.mem b o v ((k2 o).symm.trans h)]
  · intro x ob' hx
    by_cases hd : x = l
    · subst hd
      rw [za] at hx
      cases hx
      exact ⟨by simp [zae, hl], fo, hob, hl⟩
    · rw [zb _ _ hd] at hx
      obtain ⟨h1, fo', h2, h3⟩ := hR.glob x ob' hx
      have hne : (Own.g x) ≠ .g l := fun e => hd (by cases e; rfl)
      refine ⟨qb h1 hne (hblk x _ h1 hne (h2.lt x h3)), fo', h2.keep hMle (FM.le.refl _) fun b hb hlt => ?_, h3⟩
      rw [h3] at hb; cases hb
      exact hT.keep _ hlt (by rw [h1]; simpa using hne)
  · intro b hb
    have : own b = none := hR.fresh b (Nat.le_trans hT.size hb)
    have hn : fo.block ≠ some b := fun e => by have := (hT.blk b e).2; omega
    simp [zae, hn, this]
  · exact hR.size
  · intro t; exact (hR.env t).mono hMle (FM.le.refl _)
  · intro x ob' hx
    obtain ⟨fo', h1, h2, h3⟩ := hR.locs x ob' hx
    refine ⟨fo', h1, h2.keep hMle (FM.le.refl _) fun b hb hlt => hT.keep b hlt (by rw [h3 b hb]; simp), fun b hb => ?_⟩
    exact qb (h3 b hb) (by simp) (hblk b _ (h3 b hb) (by simp) (h2.lt b hb))
  · exact hR.dom
theorem R.put (hR : R M F own fr σ a w) {t : Nat} {v : Value} {c : CV} (ht : t < fr.n) (hv : Rep M F v c) :
    R M F own { fr with env := (t, c) :: fr.env } σ (a.put (some t) v) w := by
  refine ⟨hR.toRg, by simpa [Act.put] using hR.size, fun x => ?_, hR.locs, hR.dom⟩
  rw [xa]
  by_cases hx : t = x
  · subst hx
    rw [if_pos rfl]
    have : (a.put (some t) v).tmps.getD t undef = v := by simp [Act.put, Array.getD_eq_getD_getElem?, hR.size, ht]
    rw [this]; exact hv
  · rw [if_neg hx]
    have : (a.put (some t) v).tmps.getD x undef = a.tmps.getD x undef := by simp [Act.put, Array.getD_eq_getD_getElem?, hx]
    rw [this]; exact hR.env x
theorem zrc (w : World) (o : Obj) (b : Nat) (h : b < w.heap.size) : (w.alloc o).heap[b]? = w.heap[b]? := by
  show (w.heap.push o)[b]? = w.heap[b]?
  rw [Array.getElem?_push, if_neg (Nat.ne_of_lt h)]
theorem R.new_at (hR : Rg M own σ w) (o : Nat) : M w.heap.size o = none := by
  cases h : M w.heap.size o with
  | none => rfl
  | some v => exact absurd (World.block_lt_of_cell? w _ (hR.mem _ _ _ h)) (by simp)
theorem zaa (hR : Rg M own σ w) (t : Own) (fo : FO) (o : Obj) (hb : fo.block = some w.heap.size) : Touch M own w t fo M (w.alloc o) := by
  refine ⟨by simp, rfl, rfl, rfl, fun b hb _ => ⟨zrc w _ b hb, fun _ => rfl⟩, fun _ _ _ h => h, fun b o v _ h => ?_, fun b h => ?_⟩
  · have hlt := World.block_lt_of_cell? w _ (hR.mem _ _ _ h)
    rw [yv (zrc w _ b hlt)]; exact hR.mem _ _ _ h
  · rw [hb] at h; cases h; exact ⟨.inr (Nat.le_refl _), by simp⟩
theorem z1y {F : FM} {d : Nat} {fo : FO} (hno : F d = none) : FM.le F (zfv F d fo) := fun x o e => by
  have : x ≠ d := fun hx => by subst hx; rw [hno] at e; cases e
  exact ⟨o, by simp [zfv, this, e], .refl o⟩
theorem R.newBox (hR : R M F own fr σ a w) (d : Nat) (hd : z6 fr.locs d = none) (vs : Array Value) (T : TypeId) (cs : List CV) (hs : vs.size = cs.length)
    (hr : ∀ (j : Nat) c, cs[j]? = some c → Rep M F (vs.getD j undef) c) :
    ∃ F' own', R M F' own' { fr with locs := (d, .cells cs) :: fr.locs } σ a (w.alloc (.cells vs T)) ∧ KExt M own w M own' (w.alloc (.cells vs T)) ∧ FM.le F F' ∧
      Rep M F' (.pointer (some ⟨w.heap.size, 0, none⟩)) (.ptr (.f d) 0) := by
  have hno : F d = none := hR.dom d hd
  obtain ⟨h1, h2, h3⟩ := hR.touch (fr' := { fr with locs := (d, .cells cs) :: fr.locs }) d (.blk w.heap.size) (.cells cs) (zaa hR.toRg _ _ _ rfl) (fun fo0 e => by rw [hno] at e; cases e)
    ⟨T, vs, heap_alloc_new w _, hs, fun j c hc => (hr j c hc).mono (Mem.le.refl M) (z1y hno), R.new_at hR.toRg⟩ ⟨rfl, rfl, fun x => wg _ _ _ _⟩
  exact ⟨_, _, h1, h2, h3, .ptr _ _ _ (by simp [zfv])⟩
theorem R.newBoxG (hR : R M F own fr σ a w) (vs : Array Value) (T : TypeId) (cs : List CV) (hs : vs.size = cs.length)
    (hr : ∀ (j : Nat) c, cs[j]? = some c → Rep M FM.no (vs.getD j undef) c) :
    ∃ own', R M F own' fr (upd σ w.heap.size (.cells cs)) a (w.alloc (.cells vs T)) ∧ KExt M own w M own' (w.alloc (.cells vs T)) := by
  obtain ⟨h1, h2⟩ := hR.touchG w.heap.size (.blk w.heap.size) (.cells cs) (zaa hR.toRg _ _ _ rfl) rfl
    ⟨T, vs, heap_alloc_new w _, hs, fun j c hc => hr j c hc, R.new_at hR.toRg⟩
  exact ⟨_, h1, h2⟩
theorem Rg.freshL (hR : Rg M own σ w) : σ w.heap.size = none := by
  cases h : σ w.heap.size with
  | none => rfl
  | some ob =>
    obtain ⟨h1, _⟩ := hR.glob _ _ h
    rw [hR.fresh _ (Nat.le_refl _)] at h1; cases h1
end
section
variable {M M' : Mem} {F : FM} {own : Owns} {fr fr' : Fr} {σ : Heap} {a : Act} {w w' : World} {P : Program}
theorem xg {o : Oper} {next : Act → World → Prop} {Q : Exit → Act → World → Prop} {v : Value} (h : (execOp a.eval o).run P w = .ok (.value v) w')
    (hn : next (a.put o.dst v) w') : o.wp P a w next Q := by
  unfold Oper.wp; rw [h]; exact hn
theorem zfl {o : Oper} {next : Act → World → Prop} {Q : Exit → Act → World → Prop} (h : (execOp a.eval o).run P w = .ok .skip w')
    (hn : next (a.put o.dst undef) w') : o.wp P a w next Q := by
  unfold Oper.wp; rw [h]; exact hn
theorem zbt (a b : ByteArray) : (a.toList == b.toList) = decide (a = b) := by
  by_cases h : a = b
  · subst h; simp
  · have : a.toList ≠ b.toList := fun e => h (by
      rw [ByteArray.toList_eq, ByteArray.toList_eq] at e
      cases a; cases b
      simp only at e
      congr 1
      exact Array.toList_inj.1 e)
    simp [h, this]
theorem zdy {vs : Array Value} {cs : List CV} {ns : List Value} {nc : List CV} {off : Nat} (h1 : vs.size = cs.length) (h2 : ns.length = nc.length) (hle : off + nc.length ≤ cs.length)
    (hr : ∀ (j : Nat) c, cs[j]? = some c → Rep M F (vs.getD j undef) c) (hn : ∀ (j : Nat) c, nc[j]? = some c → Rep M F (ns.getD j undef) c) :
    (vs.toList.take off ++ ns ++ vs.toList.drop (off + ns.length)).toArray.size = (jr cs off nc).length ∧
    ∀ (j : Nat) c, (jr cs off nc)[j]? = some c → Rep M F ((vs.toList.take off ++ ns ++ vs.toList.drop (off + ns.length)).toArray.getD j undef) c := by
  constructor
  · simp [jr]; omega
  · intro j c hc
    have hc : (cs.take off ++ nc ++ cs.drop (off + nc.length))[j]? = some c := hc
    have e : ∀ l : List Value, l.toArray.getD j undef = l.getD j undef := fun l => by simp [Array.getD_eq_getD_getElem?]
    rw [e]
    have ho : (cs.take off).length = off := by simp; omega
    have ho' : (vs.toList.take off).length = off := by simp; omega
    by_cases hj : j < off
    · rw [List.append_assoc, List.getElem?_append_left (by omega), List.getElem?_take_of_lt hj] at hc
      have := hr j c hc
      rw [List.getD_eq_getElem?_getD, List.append_assoc, List.getElem?_append_left (by omega), List.getElem?_take_of_lt hj]
      simpa [Array.getD_eq_getD_getElem?] using this
    · by_cases hj2 : j < off + nc.length
      · rw [List.append_assoc, List.getElem?_append_right (by omega), ho, List.getElem?_append_left (by omega)] at hc
        have := hn _ c hc
        rw [List.getD_eq_getElem?_getD, List.append_assoc, List.getElem?_append_right (by omega), ho', List.getElem?_append_left (by omega)]
        simpa [List.getD_eq_getElem?_getD] using this
      · rw [List.append_assoc, List.getElem?_append_right (by omega), ho, List.getElem?_append_right (by omega), List.getElem?_drop] at hc
        have := hr _ c hc
        rw [List.getD_eq_getElem?_getD, List.append_assoc, List.getElem?_append_right (by omega), ho', List.getElem?_append_right (by omega), List.getElem?_drop, h2]
        simpa [Array.getD_eq_getD_getElem?] using this
mutual
theorem xi {g : Bool} {c c' : CV} {v : Value} (h : Rep M F v c) (hs : CV.strip g c = some c') : Rep M FM.no v c' := by
  cases c with
  | sc u => simp only [CV.strip, Option.some.injEq] at hs; subst hs; cases h; exact .sc _
  | nil => simp only [CV.strip, Option.some.injEq] at hs; subst hs; cases h; exact .nilvec
  | agg cs =>
    simp only [CV.strip, Option.map_eq_some_iff] at hs
    obtain ⟨cs', hs, rfl⟩ := hs
    cases h with
    | agg vs _ hz h =>
      obtain ⟨k1, k2⟩ := zv hs
      exact .agg vs cs' (hz.trans k1) fun i c hc => k2 _ h i c hc
  | vec xs =>
    simp only [CV.strip, Option.some.injEq] at hs; subst hs
    cases h with
    | nilvec => exact .nilvec
    | vec sz b off n cap xs vs hn hc hs hm hr => exact .vec sz b off n cap xs vs hn hc hs hm hr
  | avec o xs =>
    simp only [CV.strip, Option.some.injEq] at hs; subst hs
    cases h with
    | avec _ _ s n sz h =>
      cases h with
      | nilvec => exact .nilvec
      | vec sz b off n cap xs vs hn hc hs hm hr => exact .vec sz b off n cap xs vs hn hc hs hm hr
  | row o => simp [CV.strip] at hs
  | grow l n cap =>
    cases g with
    | false => simp [CV.strip] at hs
    | true =>
      simp only [CV.strip, Option.some.injEq] at hs; subst hs
      cases h; exact .grow l n cap
  | ptr o off =>
    cases o with
    | f d => simp [CV.strip] at hs
    | g l =>
      cases g with
      | false => simp [CV.strip] at hs
      | true =>
        simp only [CV.strip, Option.some.injEq] at hs; subst hs
        cases h; exact .gptr l off
  | eptr o sz i off =>
    cases o with
    | f d => simp [CV.strip] at hs
    | g l =>
      cases g with
      | false => simp [CV.strip] at hs
      | true =>
        simp only [CV.strip, Option.some.injEq] at hs; subst hs
        cases h; exact .geptr l sz i off
  | ref x off =>
    simp only [CV.strip, Option.some.injEq] at hs; subst hs
    cases h with
    | ref x off b base vs hm hr => exact .ref x off b base vs hm hr
  | iface t x =>
    simp only [CV.strip, Option.map_eq_some_iff] at hs
    obtain ⟨x', hs, rfl⟩ := hs
    cases h with
    | iface _ u _ h => exact .iface t u x' (xi h hs)
  | fn f p q =>
    simp only [CV.strip] at hs
    split at hs
    · rename_i p' q' hp hq
      simp only [Option.some.injEq] at hs; subst hs
      cases h with
      | fn _ vs us _ _ h1 h2 h3 h4 =>
        obtain ⟨k1, k2⟩ := zv hp
        obtain ⟨k3, k4⟩ := zv hq
        exact .fn f vs us p' q' (h1.trans k1) (fun i c hc => k2 _ h2 i c hc) (h3.trans k3) (fun i c hc => k4 _ h4 i c hc)
    · simp at hs
  | tup cs =>
    simp only [CV.strip, Option.map_eq_some_iff] at hs
    obtain ⟨cs', hs, rfl⟩ := hs
    cases h with
    | tup vs _ hz h =>
      obtain ⟨k1, k2⟩ := zv hs
      exact .tup vs cs' (hz.trans k1) fun i c hc => k2 _ h i c hc
  | map l =>
    cases g with
    | false => simp [CV.strip] at hs
    | true =>
      simp only [CV.strip, Option.some.injEq] at hs; subst hs
      cases h; exact .map l
  | opq x =>
    simp only [CV.strip, Option.some.injEq] at hs; subst hs
    cases h with
    | opq _ _ h1 h => exact .opq _ _ h1 h
  | junk => simp [CV.strip] at hs
theorem zv {g : Bool} {cs cs' : List CV} (hs : CV.strips g cs = some cs') :
    cs.length = cs'.length ∧ ∀ (vs : Array Value), (∀ (i : Nat) c, cs[i]? = some c → Rep M F (vs.getD i undef) c) → ∀ (i : Nat) c, cs'[i]? = some c → Rep M FM.no (vs.getD i undef) c := by
  cases cs with
  | nil => simp only [CV.strips, Option.some.injEq] at hs; subst hs; exact ⟨rfl, fun vs _ i c hc => by simp at hc⟩
  | cons x r =>
    simp only [CV.strips] at hs
    split at hs
    · rename_i x' hx
      split at hs
      · rename_i r' hr
        simp only [Option.some.injEq] at hs; subst hs
        obtain ⟨k1, k2⟩ := zv hr
        refine ⟨by simp [k1], fun vs h i c hc => ?_⟩
        cases i with
        | zero =>
          simp only [List.getElem?_cons_zero, Option.some.injEq] at hc; subst hc
          exact xi (h 0 x rfl) hx
        | succ i =>
          simp only [List.getElem?_cons_succ] at hc
          have := k2 (vs.extract 1 vs.size) (fun j c hc => by
            have := h (j + 1) c (by simpa using hc)
            have e : (vs.extract 1 vs.size).getD j undef = vs.getD (j + 1) undef := by
              simp only [Array.getD_eq_getD_getElem?, Array.getElem?_extract]
              by_cases hj : j < vs.size - 1
              · simp [hj, Nat.add_comm]
              · rw [if_neg (by omega), Array.getElem?_eq_none (by omega)]
            rw [e]; exact this) i c hc
          have e : (vs.extract 1 vs.size).getD i undef = vs.getD (i + 1) undef := by
            simp only [Array.getD_eq_getD_getElem?, Array.getElem?_extract]
            by_cases hj : i < vs.size - 1
            · simp [hj, Nat.add_comm]
            · rw [if_neg (by omega), Array.getElem?_eq_none (by omega)]
          rw [e] at this; exact this
      · simp at hs
    · simp at hs
end
mutual
theorem zsd {c c' : CV} {v : Value} (h : Rep M F v c) (hs : CV.strip0 c = some c') : Rep M FM.no v c' := by
  cases c with
  | nil => simp only [CV.strip0, Option.some.injEq] at hs; subst hs; cases h; exact .nil
  | agg cs =>
    simp only [CV.strip0, Option.map_eq_some_iff] at hs
    obtain ⟨cs', h1, rfl⟩ := hs
    cases h with
    | agg vs _ hsz hv =>
      obtain ⟨k1, k2⟩ := xh h1
      exact .agg vs _ (hsz.trans k1) (k2 vs hv)
  | tup cs =>
    simp only [CV.strip0, Option.map_eq_some_iff] at hs
    obtain ⟨cs', h1, rfl⟩ := hs
    cases h with
    | tup vs _ hsz hv =>
      obtain ⟨k1, k2⟩ := xh h1
      exact .tup vs _ (hsz.trans k1) (k2 vs hv)
  | _ => exact xi h (by simpa only [CV.strip0] using hs)
theorem xh {cs cs' : List CV} (hs : CV.strips0 cs = some cs') :
    cs.length = cs'.length ∧ ∀ (vs : Array Value), (∀ (i : Nat) c, cs[i]? = some c → Rep M F (vs.getD i undef) c) → ∀ (i : Nat) c, cs'[i]? = some c → Rep M FM.no (vs.getD i undef) c := by
  cases cs with
  | nil => simp only [CV.strips0, Option.some.injEq] at hs; subst hs; exact ⟨rfl, fun vs _ i c hc => by simp at hc⟩
  | cons x r =>
    simp only [CV.strips0] at hs
    split at hs
    · rename_i x' hx
      split at hs
      · rename_i r' hr
        simp only [Option.some.injEq] at hs; subst hs
        obtain ⟨k1, k2⟩ := xh hr
        refine ⟨by simp [k1], fun vs h i c hc => ?_⟩
        cases i with
        | zero =>
          simp only [List.getElem?_cons_zero, Option.some.injEq] at hc; subst hc
          exact zsd (h 0 x rfl) hx
        | succ i =>
          simp only [List.getElem?_cons_succ] at hc
          have := k2 (vs.extract 1 vs.size) (fun j c hc => by
            have := h (j + 1) c (by simpa using hc)
            have e : (vs.extract 1 vs.size).getD j undef = vs.getD (j + 1) undef := by
              simp only [Array.getD_eq_getD_getElem?, Array.getElem?_extract]
              by_cases hj : j < vs.size - 1
              · simp [hj, Nat.add_comm]
              · rw [if_neg (by omega), Array.getElem?_eq_none (by omega)]
            rw [e]; exact this) i c hc
          have e : (vs.extract 1 vs.size).getD i undef = vs.getD (i + 1) undef := by
              simp only [Array.getD_eq_getD_getElem?, Array.getElem?_extract]
              by_cases hj : i < vs.size - 1
              · simp [hj, Nat.add_comm]
              · rw [if_neg (by omega), Array.getElem?_eq_none (by omega)]
          rw [← e]; exact this
      · cases hs
    · cases hs
end
end
def Tri (X : Ctx) (o : Oper) (fr : Fr) (σ : Heap) (c : CV) (le : LE) (he : HE) : Prop :=
  (∀ τ, he = .ext τ → Sub σ τ) ∧ ∀ {M : Mem} {F : FM} {own : Owns} {fr1 : Fr} {σ1 : Heap} {a : Act} {w : World}, R M F own fr1 σ1 a w → fr1.n = fr.n → (∀ x ∈ o.op.operands.toList, zk fr1 x = zk fr x) →
    (∀ d, zav le = some d → z6 fr1.locs d = z6 fr.locs d) → HAgree he σ σ1 → ∀ {next : Act → World → Prop} {Q : Exit → Act → World → Prop},
    (∀ v M' F' own' w', R M' F' own' (fr1.app le) (he.app σ1) a w' → Rep M' F' v c → KExt M own w M' own' w' → FM.le F F' → next (a.put o.dst v) w') → o.wp X.P a w next Q
def z7y (X : Ctx) (o : Oper) (fr : Fr) (σ : Heap) (c : CV) (σ' : Heap) : Prop :=
  ∀ {M : Mem} {F : FM} {own : Owns} {fr1 : Fr} {σ1 : Heap} {a : Act} {w : World}, R M F own fr1 σ1 a w → fr1.n = fr.n → (∀ x ∈ o.op.operands.toList, zk fr1 x = zk fr x) →
    σ1 = σ → ∀ {next : Act → World → Prop} {Q : Exit → Act → World → Prop},
    (∀ (p : PanicEntry) M' own' w', R M' F own' fr1 σ' a w' → p.recovered = false → p.goexit = false → Rep M' FM.no p.v c → KExt M own w M' own' w' → Q (.panic [p]) a w') → o.wp X.P a w next Q
def Got (X : Ctx) (o : Oper) (fr : Fr) (σ : Heap) (K : CV → LE → HE → Prop) (KP : CV → Heap → Prop) : Prop :=
  (∃ c le he, K c le he ∧ Tri X o fr σ c le he) ∨ (∃ c σ', KP c σ' ∧ z7y X o fr σ c σ')
section
variable {X : Ctx} {o : Oper} {fr : Fr} {σ : Heap} {K : CV → LE → HE → Prop} {KP : CV → Heap → Prop}
theorem zo {c : CV} (h : ∀ {M : Mem} {F : FM} {own : Owns} {fr1 : Fr} {σ1 : Heap} {a : Act} {w : World}, R M F own fr1 σ1 a w →
    (∀ x ∈ o.op.operands.toList, Rep M F (a.eval x) (zk fr x)) → ∃ v, (execOp a.eval o).run X.P w = .ok (.value v) w ∧ Rep M F v c) : Tri X o fr σ c .no .no := by
  refine ⟨fun _ e => (by cases e), ?_⟩
  intro M F own fr1 σ1 a w hR _ hop _ _ next Q hn
  obtain ⟨v, h1, h2⟩ := h hR (fun x hx => by rw [← hop x hx]; exact zd hR x)
  exact xg h1 (hn v M F own w hR h2 (KExt.refl _ _ _) (FM.le.refl _))
theorem zzd {x : Operand} (ho : o.op = .move x) (h : K (zk fr x) .no .no) : Got X o fr σ K KP :=
  .inl ⟨_, _, _, h, zo fun {M F own fr1 σ1 a w} _ hop => ⟨a.eval x, by simp [execOp, ho], hop x (by simp [ho, Op.operands])⟩⟩
theorem zta {x : Operand} (ho : o.op = .assign x) (h : K (zk fr x) .no .no) : Got X o fr σ K KP :=
  .inl ⟨_, _, _, h, zo fun {M F own fr1 σ1 a w} _ hop => ⟨a.eval x, by simp [execOp, ho], hop x (by simp [ho, Op.operands])⟩⟩
theorem zvx (a b : Int) : (a == b) = decide (a = b) := by by_cases h : a = b <;> simp [h]
theorem zcc {P : Program} {T : TypeId} (hu : P.underlying T = some .bool) {s t : Bool} {w : World} : (Op.equal T (.bool s) (.bool t)).run P w = .ok (s == t) w := by
  unfold Op.equal Op.maxDepth Op.equalIn
  rw [Sem.run_bind, run_underlying hu, Result.andThen_ok]
  rfl
def z1f (P : Program) (T0 : TypeId) (b : Bool) (vx vy : Value) : Prop :=
  (vx = .pointer none ∧ vy = .pointer none ∧ b = true ∧ ∃ e, P.underlying T0 = some (.pointer e)) ∨
  (∃ ad, vx = .pointer (some ad) ∧ vy = .pointer none ∧ b = false ∧ ∃ e, P.underlying T0 = some (.pointer e)) ∨
  (vx = .nilIface ∧ vy = .nilIface ∧ b = true ∧ P.underlying T0 = some (.interface #[])) ∨
  (∃ u z, vx = .iface u z ∧ vy = .nilIface ∧ b = false ∧ ∃ ms, P.underlying T0 = some (.interface ms))
theorem zj0 {P : Program} {op : BinOp} {T0 : TypeId} {b : Bool} {K : CV → Prop} (h : zty op b K) : ∃ c, K c ∧ ∀ {vx vy : Value}, z1f P T0 b vx vy → ∀ {M : Mem} {F : FM} (x y : Operand) (w : World),
      ∃ v, (do eqGuard op T0 x y vx vy; binOp op T0 vx vy : Sem Value).run P w = .ok v w ∧ Rep M F v c := by
  have hg : ∀ {vx vy : Value}, z1f P T0 b vx vy → ∀ (x y : Operand) (w : World), (eqGuard .eql T0 x y vx vy).run P w = .ok () w ∧ (eqGuard .neq T0 x y vx vy).run P w = .ok () w ∧ (Op.equal T0 vx vy).run P w = .ok b w := by
    intro vx vy hv x y w
    rcases hv with ⟨rfl, rfl, rfl, e, hu⟩ | ⟨ad, rfl, rfl, rfl, e, hu⟩ | ⟨rfl, rfl, rfl, hu⟩ | ⟨u, z, rfl, rfl, rfl, ms, hu⟩
    · refine ⟨by unfold eqGuard; simp, by unfold eqGuard; simp, ?_⟩
      unfold Op.equal Op.maxDepth Op.equalIn
      rw [Sem.run_bind, run_underlying hu, Result.andThen_ok]; rfl
    · refine ⟨by unfold eqGuard; simp, by unfold eqGuard; simp, ?_⟩
      unfold Op.equal Op.maxDepth Op.equalIn
      rw [Sem.run_bind, run_underlying hu, Result.andThen_ok]; rfl
    · have hi : (Op.eqGuardIn Op.maxDepth T0 .nilIface .nilIface).run P w = .ok false w := by
        unfold Op.maxDepth Op.eqGuardIn
        rw [Sem.run_bind, run_underlying hu, Result.andThen_ok]; rfl
      have hone : ∀ (b : Bool), (if b = true then pure () else do
          if ← Op.eqGuardIn Op.maxDepth T0 .nilIface .nilIface then unsupported (.noEntry "binop/eql: two nil values of an interface type with methods, neither of them the literal nil") : Sem Unit).run P w = .ok () w := by
        intro b
        cases b
        · rw [if_neg (by simp), Sem.run_bind, hi, Result.andThen_ok]; rfl
        · rfl
      refine ⟨?_, ?_, ?_⟩
      · unfold eqGuard
        rw [if_neg (by simp)]
        exact hone _
      · unfold eqGuard
        rw [if_neg (by simp)]
        exact hone _
      · unfold Op.equal Op.maxDepth Op.equalIn
        rw [Sem.run_bind, run_underlying hu, Result.andThen_ok]; rfl
    · refine ⟨by unfold eqGuard; simp, by unfold eqGuard; simp, ?_⟩
      unfold Op.equal Op.maxDepth Op.equalIn
      rw [Sem.run_bind, run_underlying hu, Result.andThen_ok]; rfl
  unfold zty at h
  split at h
  · refine ⟨_, h, fun {vx vy} hv {M F} x y w => ?_⟩
    obtain ⟨h1, h2, h3⟩ := hg hv x y w
    refine ⟨.bool b, ?_, .sc _⟩
    rw [Sem.run_bind, h1, Result.andThen_ok]
    rcases hv with ⟨rfl, rfl, _⟩ | ⟨ad, rfl, rfl, _⟩ | ⟨rfl, rfl, _⟩ | ⟨u, z, rfl, rfl, _⟩ <;> simp [binOp, h3]
  · refine ⟨_, h, fun {vx vy} hv {M F} x y w => ?_⟩
    obtain ⟨h1, h2, h3⟩ := hg hv x y w
    refine ⟨.bool (!b), ?_, .sc _⟩
    rw [Sem.run_bind, h2, Result.andThen_ok]
    rcases hv with ⟨rfl, rfl, _⟩ | ⟨ad, rfl, rfl, _⟩ | ⟨rfl, rfl, _⟩ | ⟨u, z, rfl, rfl, _⟩ <;> simp [binOp, h3]
  · exact h.elim
theorem ztj {op : BinOp} {T0 : TypeId} (hX : X.ok) {cx : CV} {K : CV → Prop} (h : zwn X op T0 cx K) :
    ∃ c, K c ∧ ∀ {vx : Value}, (∃ (M : Mem) (F : FM), Rep M F vx cx) → ∀ {M : Mem} {F : FM} (x y : Operand) (w : World),
      ∃ v, (do eqGuard op T0 x y vx (.pointer none); binOp op T0 vx (.pointer none) : Sem Value).run X.P w = .ok v w ∧ Rep M F v c := by
  unfold zwn at h
  split at h
  · rename_i ti ht
    obtain ⟨hp, h⟩ := zf h
    have hptr : ∃ e, X.P.underlying T0 = some (.pointer e) := by
      obtain ⟨i, d, hi, hd, rfl⟩ := zt (hX T0 ti ht)
      cases d <;> first | exact ⟨_, hd⟩ | simp at hp
    have key : ∀ K', zty op false K' → (∀ {vx : Value}, (∃ (M : Mem) (F : FM), Rep M F vx cx) → ∃ ad, vx = .pointer (some ad)) → ∃ c, K' c ∧ ∀ {vx : Value}, (∃ (M : Mem) (F : FM), Rep M F vx cx) → ∀ {M : Mem} {F : FM} (x y : Operand) (w : World),
        ∃ v, (do eqGuard op T0 x y vx (.pointer none); binOp op T0 vx (.pointer none) : Sem Value).run X.P w = .ok v w ∧ Rep M F v c := by
      intro K' h' hv
      obtain ⟨c, hK, hc⟩ := zj0 (P := X.P) (T0 := T0) h'
      refine ⟨c, hK, fun {vx} hx {M F} x y w => ?_⟩
      obtain ⟨ad, rfl⟩ := hv hx
      exact hc (.inr (.inl ⟨ad, rfl, rfl, rfl, hptr⟩)) x y w
    split at h
    · obtain ⟨c, hK, hc⟩ := zj0 (P := X.P) (T0 := T0) h
      exact ⟨c, hK, fun {vx} ⟨_, _, hx⟩ {M F} x y w => hc (.inl ⟨by cases hx; rfl, rfl, rfl, hptr⟩) x y w⟩
    · exact key K h fun ⟨_, _, hx⟩ => by cases hx <;> exact ⟨_, rfl⟩
    · exact key K h fun ⟨_, _, hx⟩ => by cases hx <;> exact ⟨_, rfl⟩
    · exact key K h fun ⟨_, _, hx⟩ => by cases hx <;> exact ⟨_, rfl⟩
    · exact h.elim
  · exact h.elim
theorem ztk {op : BinOp} {T0 : TypeId} (hX : X.ok) {cx : CV} {K : CV → Prop} (h : zwo X op T0 cx K) :
    ∃ c, K c ∧ ∀ {vx : Value}, (∃ (M : Mem) (F : FM), Rep M F vx cx) → ∀ {M : Mem} {F : FM} (x y : Operand) (w : World),
      ∃ v, (do eqGuard op T0 x y vx .nilIface; binOp op T0 vx .nilIface : Sem Value).run X.P w = .ok v w ∧ Rep M F v c := by
  unfold zwo at h
  split at h
  · rename_i ti ht
    split at h
    · obtain ⟨hp, h⟩ := zf h
      have hu : X.P.underlying T0 = some (.interface #[]) := by
        obtain ⟨i, d, hi, hd, rfl⟩ := zt (hX T0 ti ht)
        cases d <;> first | (simp at hp; subst hp; exact hd) | simp at hp
      obtain ⟨c, hK, hc⟩ := zj0 (P := X.P) (T0 := T0) h
      exact ⟨c, hK, fun {vx} ⟨_, _, hx⟩ {M F} x y w => hc (.inr (.inr (.inl ⟨by cases hx; rfl, rfl, rfl, hu⟩))) x y w⟩
    · obtain ⟨hp, h⟩ := zf h
      have hu : ∃ ms, X.P.underlying T0 = some (.interface ms) := by
        obtain ⟨i, d, hi, hd, rfl⟩ := zt (hX T0 ti ht)
        cases d <;> first | exact ⟨_, hd⟩ | simp at hp
      obtain ⟨c, hK, hc⟩ := zj0 (P := X.P) (T0 := T0) h
      refine ⟨c, hK, fun {vx} ⟨_, _, hx⟩ {M F} x y w => ?_⟩
      obtain ⟨u, z, rfl⟩ : ∃ u z, vx = .iface u z := by cases hx; exact ⟨_, _, rfl⟩
      exact hc (.inr (.inr (.inr ⟨u, z, rfl, rfl, rfl, hu⟩))) x y w
    · exact h.elim
  · exact h.elim
theorem zxg {b c : Bool} {K : CV → Prop} (h : z3j b c K) : K (.sc (.bool (b && c))) := by
  cases b with
  | false => exact h.e rfl
  | true => cases c with
    | true => exact (h.t rfl).t rfl
    | false => exact (h.t rfl).e rfl
theorem jl {P : Program} {t : TypeId} {k : Bool} (h : zs6 P t k = true) {cs : Array Value} {off : Nat} {v : Value} (hv : cs[off]? = some v) (w : World) : (part t cs off).run P w = .ok v w := by
  have ha : (isAgg t).run P w = .ok false w := by
    unfold zs6 at h
    split at h
    · rename_i hu; simp [isAgg, Sem.run_bind, run_underlying hu, Result.andThen_ok]
    · rename_i hu; simp [isAgg, Sem.run_bind, run_underlying hu, Result.andThen_ok]
    · cases h
  simp [part, Sem.run_bind, ha, Result.andThen_ok, hv]
theorem z57 (a b : ByteArray) : (a == b) = decide (a = b) := by
  obtain ⟨a⟩ := a; obtain ⟨b⟩ := b
  show (a == b) = _
  by_cases h : a = b
  · subst h; simp
  · have : ¬ (ByteArray.mk a = ByteArray.mk b) := fun e => h (by cases e; rfl)
    simp [h]
theorem zub {P : Program} {t : TypeId} {k p : Bool} (h : zs6 P t k = true) {a c : Value} (he : zsq a c = some (k, p)) (n : Nat) (w : World) : (Op.equalIn (n + 1) t a c).run P w = .ok p w := by
  unfold zs6 at h
  unfold zsq at he
  split at he
  · cases he
    split at h
    · rename_i hu _
      rw [Op.equalIn, Sem.run_bind, run_underlying hu, Result.andThen_ok]
      rw [← z57]; rfl
    · rename_i hk; cases hk
    · cases h
  · cases he
    split at h
    · rename_i hk; cases hk
    · rename_i hu _
      rw [Op.equalIn, Sem.run_bind, run_underlying hu, Result.andThen_ok]; rfl
    · cases h
  · cases he
theorem zc2 {P : Program} {T : TypeId} {k l p q : Bool} (hT : z6k P T k l = true) {a b c d : Value} (h1 : zsq a c = some (k, p)) (h2 : zsq b d = some (l, q)) (w : World) :
    (Op.equal T (.agg #[a, b]) (.agg #[c, d])).run P w = .ok (p && q) w := by
  unfold z6k at hT
  split at hT
  · rename_i fs hu
    split at hT
    · rename_i f g hfs
      simp only [Bool.and_eq_true, Bool.not_eq_true', bne_iff_ne, ne_eq, beq_iff_eq] at hT
      obtain ⟨⟨⟨⟨⟨⟨⟨n1, n2⟩, o1⟩, o2⟩, k1⟩, k2⟩, hs⟩, _⟩ := hT
      obtain rfl : fs = #[f, g] := by rw [← Array.toArray_toList (xs := fs), hfs]
      unfold Op.equal Op.maxDepth
      rw [Op.equalIn, Sem.run_bind, run_underlying hu, Result.andThen_ok]
      have p1 := jl (P := P) k1 (cs := #[a, b]) (off := 0) rfl w
      have p2 := jl (P := P) k1 (cs := #[c, d]) (off := 0) rfl w
      have p3 := jl (P := P) k2 (cs := #[a, b]) (off := 1) rfl w
      have p4 := jl (P := P) k2 (cs := #[c, d]) (off := 1) rfl w
      have q1 := zub k1 h1 9998 w
      have q2 := zub k2 h2 9998 w
      have hp : (program).run P w = .ok P w := rfl
      cases p <;> cases q <;> simp [Sem.run_bind, hp, hs, n1, n2, o1, o2, p1, p2, p3, p4, q1, q2, Result.andThen_ok, Sem.run_pure]
    · cases hT
  · cases hT
theorem zwq {op : BinOp} {T0 : TypeId} (hX : X.ok) {cx cy : CV} {K : CV → Prop} (h : zws X op T0 cx cy K) :
    ∃ c, K c ∧ ∀ {M : Mem} {F : FM} {vx vy : Value} (x y : Operand) (w : World), Rep M F vx cx → Rep M F vy cy →
      ∃ v, (do eqGuard op T0 x y vx vy; binOp op T0 vx vy : Sem Value).run X.P w = .ok v w ∧ Rep M F v c := by
  unfold zws at h
  split at h
  · obtain ⟨c, hK, hc⟩ := ztj hX h
    exact ⟨c, hK, fun {M F vx vy} x y w hx hy => by cases hy; exact hc ⟨M, F, hx⟩ x y w⟩
  · obtain ⟨c, hK, hc⟩ := ztk hX h
    exact ⟨c, hK, fun {M F vx vy} x y w hx hy => by cases hy; exact hc ⟨M, F, hx⟩ x y w⟩
  · rename_i k a k' b
    split at h
    · rename_i hk
      have hk := of_decide_eq_true hk
      subst hk
      have key : ∀ (c : CV), K c → (∀ {M : Mem} {F : FM} (P : Program) (w : World), ∃ v, (binOp op 0 (.int k a) (.int k b)).run P w = .ok v w ∧ Rep M F v c) → (∀ T, binOp op T (.int k a) (.int k b) = binOp op 0 (.int k a) (.int k b)) →
        ∃ c, K c ∧ ∀ {M : Mem} {F : FM} {vx vy : Value} (x y : Operand) (w : World), Rep M F vx (.sc (.int k a)) → Rep M F vy (.sc (.int k b)) →
          ∃ v, (do eqGuard op T0 x y vx vy; binOp op T0 vx vy : Sem Value).run X.P w = .ok v w ∧ Rep M F v c := by
        intro c hc hb hT
        refine ⟨c, hc, fun {M F vx vy} x y w hx hy => ?_⟩
        cases hx; cases hy
        have hg : (eqGuard op T0 x y (.int k a) (.int k b)).run X.P w = .ok () w := by unfold eqGuard; simp
        obtain ⟨v, h1, h2⟩ := hb (M := M) (F := F) X.P w
        exact ⟨v, by rw [Sem.run_bind, hg, Result.andThen_ok, hT, h1], h2⟩
      unfold z5u at h
      split at h
      · exact key _ h.t (fun P w => ⟨_, by simp [binOp, Op.intArith, zao h.c], .sc _⟩) (fun T => by simp [binOp])
      · exact key _ h.t (fun P w => ⟨_, by simp [binOp, Op.intArith, zao h.c], .sc _⟩) (fun T => by simp [binOp])
      · exact key _ h.t (fun P w => ⟨_, by simp [binOp, Op.intArith, zao h.c], .sc _⟩) (fun T => by simp [binOp])
      · exact key _ h.t (fun P w => ⟨_, by simp [binOp, Op.intDiv, zao h.c.2, h.c.1], .sc _⟩) (fun T => by simp [binOp])
      · exact key _ h.t (fun P w => ⟨_, by simp [binOp, Op.intDiv, h.c], .sc _⟩) (fun T => by simp [binOp])
      · exact key _ h.got (fun P w => ⟨_, by simp [binOp, Op.intCmp]; rfl, by rw [zvx]; exact .sc _⟩) (fun T => by simp [binOp])
      · exact key _ h.got (fun P w => ⟨_, by simp [binOp, Op.intCmp]; rfl, by simp only [bne, zvx]; exact .sc _⟩) (fun T => by simp [binOp])
      · exact key _ h.got (fun P w => ⟨_, by simp [binOp, Op.intCmp], .sc _⟩) (fun T => by simp [binOp])
      · exact key _ h.got (fun P w => ⟨_, by simp [binOp, Op.intCmp], .sc _⟩) (fun T => by simp [binOp])
      · exact key _ h.got (fun P w => ⟨_, by simp [binOp, Op.intCmp], .sc _⟩) (fun T => by simp [binOp])
      · exact key _ h.got (fun P w => ⟨_, by simp [binOp, Op.intCmp], .sc _⟩) (fun T => by simp [binOp])
      · exact key _ h (fun P w => ⟨_, by simp [binOp, Op.intBits], .sc _⟩) (fun T => by simp [binOp])
      · exact h.elim
    · exact h.elim
  · rename_i s t
    have key : ∀ (c : CV), K c → (∀ {M : Mem} {F : FM} (P : Program) (w : World), ∃ v, (Op.stringOp op s t).run P w = .ok v w ∧ Rep M F v c) → (∀ T, binOp op T (.string s) (.string t) = Op.stringOp op s t) →
        ∃ c, K c ∧ ∀ {M : Mem} {F : FM} {vx vy : Value} (x y : Operand) (w : World), Rep M F vx (.sc (.string s)) → Rep M F vy (.sc (.string t)) →
          ∃ v, (do eqGuard op T0 x y vx vy; binOp op T0 vx vy : Sem Value).run X.P w = .ok v w ∧ Rep M F v c := by
      intro c hc hb hT
      refine ⟨c, hc, fun {M F vx vy} x y w hx hy => ?_⟩
      cases hx; cases hy
      have hg : (eqGuard op T0 x y (.string s) (.string t)).run X.P w = .ok () w := by unfold eqGuard; simp
      obtain ⟨v, h1, h2⟩ := hb (M := M) (F := F) X.P w
      exact ⟨v, by rw [Sem.run_bind, hg, Result.andThen_ok, hT, h1], h2⟩
    unfold z5t at h
    split at h
    · have hc := h.c
      have : ¬ ((s.size + t.size : Nat) : Int) > IntKind.i64.max := by
        have : IntKind.i64.max = 9223372036854775807 := by decide
        omega
      exact key _ h.t (fun P w => ⟨_, by simp only [Op.stringOp, if_neg this]; rfl, .sc _⟩) (fun T => by simp [binOp])
    all_goals first
      | exact h.elim
      | exact key _ h.got (fun P w => ⟨_, by simp only [Op.stringOp, zbt]; rfl, .sc _⟩) (fun T => by simp [binOp])
  · rename_i s t
    unfold z04 at h
    split at h
    · rename_i ti ht
      have hu : ti.bl = true → X.P.underlying T0 = some .bool := by
        intro hb
        obtain ⟨i, d, hi, hd, rfl⟩ := zt (hX T0 ti ht)
        cases d <;> first | exact hd | simp at hb
      split at h
      · rename_i hbl
        refine ⟨_, h, fun {M F vx vy} x y w hx hy => ?_⟩
        cases hx; cases hy
        have hg : (eqGuard .eql T0 x y (.bool s) (.bool t)).run X.P w = .ok () w := by unfold eqGuard; simp
        exact ⟨.bool (s == t), by rw [Sem.run_bind, hg, Result.andThen_ok]; simp [binOp, zcc (hu hbl)], .sc _⟩
      · rename_i hbl
        refine ⟨_, h, fun {M F vx vy} x y w hx hy => ?_⟩
        cases hx; cases hy
        have hg : (eqGuard .neq T0 x y (.bool s) (.bool t)).run X.P w = .ok () w := by unfold eqGuard; simp
        exact ⟨.bool (!(s == t)), by rw [Sem.run_bind, hg, Result.andThen_ok]; simp [binOp, zcc (hu hbl)], .sc _⟩
      · exact h.elim
    · exact h.elim
  · rename_i a b c d
    unfold z5s at h
    split at h
    · rename_i k p l q h1 h2
      have hT := h.c
      have h := h.t
      have two : ∀ {M : Mem} {F : FM} {vx : Value} {a b : Value}, Rep M F vx (.agg [.sc a, .sc b]) → vx = .agg #[a, b] := by
        intro M F vx a b hx
        cases hx with
        | agg vs _ hs hv =>
          have e0 := hv 0 _ rfl
          have e1 := hv 1 _ rfl
          have hs : vs.size = 2 := hs
          congr 1
          apply Array.ext (by simpa using hs)
          intro i hi1 hi2
          have : i = 0 ∨ i = 1 := by omega
          rcases this with rfl | rfl
          · generalize hz : vs.getD 0 undef = z at e0
            cases e0
            simp [Array.getD_eq_getD_getElem?, hi1] at hz
            simpa using hz
          · generalize hz : vs.getD 1 undef = z at e1
            cases e1
            simp [Array.getD_eq_getD_getElem?, hi1] at hz
            simpa using hz
      have hg : ∀ (op : BinOp) (x y : Operand) (w : World), (eqGuard op T0 x y (.agg #[a, b]) (.agg #[c, d])).run X.P w = .ok () w := by
        intro op x y w
        have he : X.P.eqGuardType X.P.depth T0 = false := by
          unfold z6k at hT
          split at hT
          · split at hT
            · simp only [Bool.and_eq_true, Bool.not_eq_true'] at hT; exact hT.2
            · cases hT
          · cases hT
        have hp : (program).run X.P w = .ok X.P w := rfl
        unfold eqGuard
        split <;> simp [Sem.run_bind, hp, he, Result.andThen_ok]
      split at h
      · refine ⟨_, zxg h, fun {M F vx vy} x y w hx hy => ?_⟩
        rw [two hx, two hy]
        exact ⟨.bool (p && q), by rw [Sem.run_bind, hg, Result.andThen_ok]; simp [binOp, Sem.run_bind, zc2 hT h1 h2, Result.andThen_ok, Sem.run_pure], .sc _⟩
      · refine ⟨.sc (.bool (!(p && q))), ?_, fun {M F vx vy} x y w hx hy => ?_⟩
        · cases p with
          | false => exact h.e rfl
          | true => cases q with
            | true => exact (h.t rfl).t rfl
            | false => exact (h.t rfl).e rfl
        rw [two hx, two hy]
        exact ⟨.bool (!(p && q)), by rw [Sem.run_bind, hg, Result.andThen_ok]; simp [binOp, Sem.run_bind, zc2 hT h1 h2, Result.andThen_ok, Sem.run_pure], .sc _⟩
      · exact h.elim
    · exact h.elim
  · exact h.elim
theorem zzc {c x y : Operand} (ho : o.op = .pick c x y) (h : match zk fr c with
    | .sc (.bool b) => selB b (K (zk fr x) .no .no) (K (zk fr y) .no .no)
    | _ => False) : Got X o fr σ K KP := by
  split at h
  · rename_i b hb
    have key : ∀ (z : Operand), K (zk fr z) .no .no → (∀ {a : Act}, a.eval c = .bool b → (if b then a.eval x else a.eval y) = a.eval z) → z = x ∨ z = y → Got X o fr σ K KP := by
      intro z hK hz hzz
      refine .inl ⟨_, _, _, hK, zo fun {M F own fr1 σ1 a w} _ hop => ⟨a.eval z, ?_, hop z (by rcases hzz with rfl | rfl <;> simp [ho, Op.operands])⟩⟩
      have h1 := hop c (by simp [ho, Op.operands])
      rw [hb] at h1
      generalize hv : a.eval c = v at h1
      cases h1
      simp [execOp, ho, hv, ← hz hv]
      cases b <;> rfl
    cases b with
    | true => exact key x (h.t rfl) (fun _ => rfl) (.inl rfl)
    | false => exact key y (h.e rfl) (fun _ => rfl) (.inr rfl)
  · exact h.elim
theorem zys {op : BinOp} {T0 : TypeId} {K : CV → Prop} (h : zty op true K) (hu : ∃ ms, X.P.underlying T0 = some (.interface ms)) : ∃ c, K c ∧ ∀ {M : Mem} {F : FM} (x : Operand) (w : World),
      ∃ v, (do eqGuard op T0 x (.const .nilIface) .nilIface .nilIface; binOp op T0 .nilIface .nilIface : Sem Value).run X.P w = .ok v w ∧ Rep M F v c := by
  obtain ⟨ms, hu⟩ := hu
  have hg : ∀ (x : Operand) (w : World), (eqGuard op T0 x (.const .nilIface) .nilIface .nilIface).run X.P w = .ok () w := by
    intro x w
    unfold eqGuard
    cases op <;> simp
  have he : ∀ w : World, (Op.equal T0 .nilIface .nilIface).run X.P w = .ok true w := by
    intro w
    unfold Op.equal Op.maxDepth Op.equalIn
    rw [Sem.run_bind, run_underlying hu, Result.andThen_ok]; rfl
  unfold zty at h
  split at h
  · exact ⟨_, h, fun {M F} x w => ⟨.bool true, by rw [Sem.run_bind, hg, Result.andThen_ok]; simp [binOp, he], .sc _⟩⟩
  · exact ⟨_, h, fun {M F} x w => ⟨.bool (!true), by rw [Sem.run_bind, hg, Result.andThen_ok]; simp [binOp, he], .sc _⟩⟩
  · exact h.elim
theorem z22 {op : BinOp} {T T' : TypeId} {x y : Operand} (hX : X.ok) (ho : o.op = .binOp op T x y T') (h : zwr X op T y (zk fr x) (zk fr y) fun v => K v .no .no) : Got X o fr σ K KP := by
  have base : (zws X op T (zk fr x) (zk fr y) fun v => K v .no .no) → Got X o fr σ K KP := by
    intro h
    obtain ⟨c, hc, hb⟩ := zwq hX h
    refine .inl ⟨c, _, _, hc, zo fun {M F own fr1 σ1 a w} _ hop => ?_⟩
    obtain ⟨v, h1, h2⟩ := hb x y w (hop x (by simp [ho, Op.operands])) (hop y (by simp [ho, Op.operands]))
    refine ⟨v, ?_, h2⟩
    simp only [execOp, ho]
    rw [Sem.run_bind, h1]; rfl
  unfold zwr at h
  split at h
  · rename_i hy
    have hyc : y = .const .nilIface := by
      unfold z0w at hy
      split at hy
      · rfl
      · cases hy
    split at h
    · rename_i hx
      split at h
      · rename_i ti ht
        obtain ⟨hp, h⟩ := zf h
        have hu : ∃ ms, X.P.underlying T = some (.interface ms) := by
          obtain ⟨i, d, hi, hd, rfl⟩ := zt (hX T ti ht)
          cases d <;> first | exact ⟨_, hd⟩ | simp at hp
        obtain ⟨c, hc, hb⟩ := zys h hu
        refine .inl ⟨c, _, _, hc, zo fun {M F own fr1 σ1 a w} _ hop => ?_⟩
        have hvx := hop x (by simp [ho, Op.operands])
        rw [hx] at hvx
        generalize hv : a.eval x = vx at hvx
        cases hvx
        obtain ⟨v, h1, h2⟩ := hb (M := M) (F := F) x w
        refine ⟨v, ?_, h2⟩
        simp only [execOp, ho, hv, hyc]
        rw [Sem.run_bind]
        simp only [Act.eval] at *
        rw [h1]; rfl
      · exact h.elim
    · exact base h
  · exact base h
theorem z5l {op : UnOp} {T : TypeId} {x : Operand}
    (h : (match op, zk fr x with
    | .not, .sc (.bool b) => K (.sc (.bool (!b))) .no .no
    | .neg, .sc (.int k n) => Need (inR k (0 - n)) (K (.sc (.int k (0 - n))) .no .no)
    | _, _ => False)) (ho : o.op = .unOp op T x) : Got X o fr σ K KP := by
  generalize hx : zk fr x = c at h
  split at h
  · rename_i b ho
    refine .inl ⟨_, _, _, h, zo fun {M F own fr1 σ1 a w} _ hop => ⟨_, ?_, .sc _⟩⟩
    have h1 := hop x (by simp [ho, Op.operands])
    rw [hx] at h1
    generalize hv : a.eval x = v at h1
    cases h1
    simp [execOp, ho, hv, Op.unary]
  · rename_i k n ho
    refine .inl ⟨_, _, _, h.t, zo fun {M F own fr1 σ1 a w} _ hop => ⟨_, ?_, .sc _⟩⟩
    have h1 := hop x (by simp [ho, Op.operands])
    rw [hx] at h1
    generalize hv : a.eval x = v at h1
    cases h1
    have := zao h.c
    simp only [Int.zero_sub] at this
    simp [execOp, ho, hv, Op.unary, Op.intArith, this]
  · exact h.elim
def zxt (X : Ctx) (o : Oper) (fr : Fr) (cs : List CV) : Prop :=
  ∀ {M : Mem} {F : FM} {own : Owns} {fr1 : Fr} {σ1 : Heap} {a : Act} {w : World}, R M F own fr1 σ1 a w → (∀ x ∈ o.op.operands.toList, zk fr1 x = zk fr x) →
      ∃ vs T, (execOp a.eval o).run X.P w = .ok (.value (.pointer (some ⟨w.heap.size, 0, none⟩))) (w.alloc (.cells vs T)) ∧ vs.size = cs.length ∧ ∀ (j : Nat) c, cs[j]? = some c → Rep M F (vs.getD j undef) c
def z7n (X : Ctx) (o : Oper) (fr : Fr) (σ : Heap) (K : CV → LE → HE → Prop) (KP : CV → Heap → Prop) : Prop :=
  ∀ {M : Mem} {F : FM} {own : Owns} {a : Act} {w : World}, R M F own fr σ a w → ∀ {next : Act → World → Prop} {Q : Exit → Act → World → Prop},
    (∀ v c le he M' F' own' w', K c le he → R M' F' own' (fr.app le) (he.app σ) a w' → Rep M' F' v c → KExt M own w M' own' w' → FM.le F F' → next (a.put o.dst v) w') →
    (∀ (p : PanicEntry) c σ' M' own' w', KP c σ' → R M' F own' fr σ' a w' → p.recovered = false → p.goexit = false → Rep M' FM.no p.v c → KExt M own w M' own' w' → Q (.panic [p]) a w') →
    o.wp X.P a w next Q
def TriN (X : Ctx) (o : Oper) (fr : Fr) (σ : Heap) (K : CV → LE → HE → Prop) (KP : CV → Heap → Prop) : Prop :=
  ∀ {M : Mem} {F : FM} {own : Owns} {fr1 : Fr} {σ1 : Heap} {a : Act} {w : World}, R M F own fr1 σ1 a w → fr1.n = fr.n → (∀ x ∈ o.op.operands.toList, zk fr1 x = zk fr x) → σ1 = σ →
    ∀ {next : Act → World → Prop} {Q : Exit → Act → World → Prop},
    (∀ v c τ he M' F' own' w', z7z σ τ he → K c .no he → R M' F' own' fr1 τ a w' → Rep M' F' v c → KExt M own w M' own' w' → FM.le F F' → next (a.put o.dst v) w') →
    (∀ (p : PanicEntry) c τ M' own' w', KP c τ → R M' F own' fr1 τ a w' → p.recovered = false → p.goexit = false → Rep M' FM.no p.v c → KExt M own w M' own' w' → Q (.panic [p]) a w') →
    o.wp X.P a w next Q
theorem TriN.here (h : TriN X o fr σ K KP) : z7n X o fr σ K KP := by
  intro M F own a w hR next Q hn hp
  exact h hR rfl (fun _ _ => rfl) rfl (fun v c τ he M' F' own' w' h0 h1 h2 h3 h4 h5 => hn v c .no he M' F' own' w' h1 (by rcases h0 with (rfl | rfl) | ⟨rfl, _⟩ <;> exact h2) h3 h4 h5) hp
theorem Got.here (h : Got X o fr σ K KP) : z7n X o fr σ K KP := by
  intro M F own a w hR next Q hn hp
  rcases h with ⟨c, le, he, hK, hT⟩ | ⟨c, σ', hK, hT⟩
  · exact hT.2 hR rfl (fun _ _ => rfl) (fun _ _ => rfl) (HAgree.refl _ _) fun v M' F' own' w' h1 h2 h3 h4 => hn v c le he M' F' own' w' hK h1 h2 h3 h4
  · exact hT hR rfl (fun _ _ => rfl) rfl fun p M' own' w' h1 h2 h3 h4 h5 => hp p c σ' M' own' w' hK h1 h2 h3 h4 h5
theorem zdm {d : Option Tmp} {K : Nat → Prop} (h : zg8 fr d K) : ∃ t, d = some t ∧ z6 fr.locs t = none ∧ K t := by
  unfold zg8 at h
  split at h
  · split at h
    · exact ⟨_, rfl, ‹_›, h⟩
    · exact h.elim
  · exact h.elim
theorem zny {M : Mem} {F : FM} {cs cs' : List CV} (hs : zky cs = some cs') :
    cs.length = cs'.length ∧ ∀ (vs : Array Value), (∀ (i : Nat) c, cs[i]? = some c → Rep M F (vs.getD i undef) c) → ∀ (i : Nat) c, cs'[i]? = some c → Rep M FM.no (vs.getD i undef) c := by
  unfold zky at hs
  split at hs
  · cases hs
    refine ⟨rfl, fun vs h i c hc => ?_⟩
    have := h i c hc
    cases i with
    | zero =>
      simp at hc; subst hc
      generalize vs.getD 0 undef = v at this
      cases this; exact .nil
    | succ i => simp at hc
  · exact zv hs
theorem znr {det : Bool} {cs : List CV} (h : zzn X det fr σ o.dst cs K) (hrun : zxt X o fr cs) :
    Got X o fr σ K KP ∨ (det = false ∧ TriN X o fr σ K KP) := by
  unfold zzn at h
  split at h
  · rename_i t hd
    split at h
    · split at h
      · rename_i cs' hs
        refine .inr ⟨h.d, ?_⟩
        intro M F own fr1 σ1 a w hR _ hops hσ next Q hn _
        subst hσ
        obtain ⟨vs, T, h1, h2, h3⟩ := hrun hR hops
        obtain ⟨k1, k2⟩ := zny (M := M) (F := F) hs
        obtain ⟨own', k3, k4⟩ := hR.newBoxG vs T cs' (h2.trans k1) (k2 vs h3)
        exact xg h1 (hn _ _ _ _ _ _ _ _ (.inr ⟨rfl, (Sub.refl _).upd hR.freshL⟩) (h.h _ hR.freshL) k3 (.gptr _ _) k4 (FM.le.refl _))
      · exact h.elim
    · left
      obtain ⟨d', e, hl, h⟩ := zdm h
      refine .inl ⟨_, _, _, h, ?_⟩
      refine ⟨fun _ e => (by cases e), ?_⟩
      intro M F own fr1 σ1 a w hR _ hops hle _ next Q hk
      obtain ⟨vs, T, h1, h2, h3⟩ := hrun hR hops
      obtain ⟨F', own', k1, k2, k3, k4⟩ := hR.newBox d' (by rw [hle d' rfl]; exact hl) vs T cs h2 h3
      exact xg h1 (hk _ _ _ _ _ k1 k4 k2 k3)
  · exact h.elim
theorem zic {agg : Bool} {n : Nat} {z : Value} (h : zok agg n z = true) : z.cells.size = n ∧ ((agg = true ∧ ∃ vs, z = .agg vs) ∨ (agg = false ∧ z.cells = #[z])) := by
  cases z <;> simp [zok, Value.cells] at h ⊢ <;> first | exact ⟨h.2, h.1⟩ | exact ⟨h.2.symm, h.1⟩ | exact ⟨by omega, h.1⟩ | (constructor <;> simp_all) 
theorem za9 {P : Program} {t : TypeId} {ti : TI} (h : zhd P t = some ti) (hz : ti.hz = true) : ∃ z, (∀ w, (zeroValue t).run P w = .ok z w) ∧ ti.zero = z.cells.toList.map zqz ∧ z.cells.size = ti.size ∧ ((ti.isAgg = true ∧ ∃ vs, z = .agg vs) ∨ (ti.isAgg = false ∧ z.cells = #[z])) := by
  obtain ⟨i, d, hi, hd, rfl⟩ := zt h
  cases hzz : i.zero with
  | none => simp [hzz] at hz
  | some z =>
    simp only [hzz] at hz
    refine ⟨z, fun w => ?_, rfl, (zic hz).1, (zic hz).2⟩
    simp [zeroValue, typeInfo, hi, hzz]
theorem ze5 {M : Mem} {F : FM} (vs : Array Value) : ∀ (j : Nat) c, (vs.toList.map zqz)[j]? = some c → Rep M F (vs.getD j undef) c := by
  intro j c h
  rw [List.getElem?_map] at h
  cases hc : vs.toList[j]? with
  | none => rw [hc] at h; simp at h
  | some u =>
    rw [hc] at h
    simp only [Option.map_some, Option.some.injEq] at h
    subst h
    have : vs[j]? = some u := by simpa using hc
    have : vs.getD j undef = u := by simp [Array.getD_eq_getD_getElem?, this]
    rw [this]
    exact zio M F u
theorem zuf {ti : TI} {z : Value} (z2 : ti.zero = z.cells.toList.map zqz) (z4 : (ti.isAgg = true ∧ ∃ vs, z = .agg vs) ∨ (ti.isAgg = false ∧ z.cells = #[z])) {M : Mem} {F : FM} : Rep M F z (wd ti) := by
  rcases z4 with ⟨h, vs, rfl⟩ | ⟨h, hc⟩
  · simp only [wd, h, z2]
    exact .agg vs _ (by simp [Value.cells]) (ze5 vs)
  · simp only [wd, h, z2, hc]
    exact zio M F z
theorem zxc {t : TypeId} {ti : TI} (hX : X.ok) (ho : o.op = .alloc t) (ht : lkT X.tt t = some ti) (hz : ti.hz = true) : zxt X o fr ti.zero := by
  intro M F own fr1 σ1 a w _ _
  obtain ⟨z, h1, h2, h3, _⟩ := za9 (hX t ti ht) hz
  refine ⟨z.cells, t, ?_, by rw [h2]; simp, by rw [h2]; exact ze5 z.cells⟩
  simp [execOp, ho, Instr.alloc, h1, newVar, newRow]
theorem z3e {t : TypeId} {x : Operand} (ho : o.op = .box t x) (hc : (zk fr x).cells.all CV.one = true) : zxt X o fr (zk fr x).cells := by
  intro M F own fr1 σ1 a w hR hop
  have hr : Rep M F (a.eval x) (zk fr x) := by rw [← hop x (by simp [ho, Op.operands])]; exact zd hR x
  obtain ⟨k1, k2⟩ := jt hr hc
  exact ⟨(a.eval x).cells, t, by simp [execOp, ho, Instr.box, newVar, newRow], k1, fun j c h => (k2 j c h).1⟩
theorem PtrTo.app {p : CV} {cs : List CV} {off : Nat} {le : LE} {he : HE} (h : PtrTo fr σ p cs off le he) (fr1 : Fr) (σ1 : Heap) : fr1.app le = fr1 ∧ he.app σ1 = σ1 := by
  cases h <;> exact ⟨rfl, rfl⟩
theorem zze {t : TypeId} {p : Operand} (hX : X.ok) (ho : o.op = .load t p)
    (h : (match lkT X.tt t with
    | some ti => zee fr σ (zk fr p) fun cs off le he => ze0 ti cs off fun v => K v le he
    | none => False)) : Got X o fr σ K KP := by
  split at h
  · rename_i ti ht
    obtain ⟨cs, off, le, he, hs, hp⟩ := zew h
    obtain ⟨c, hc, hsub⟩ := zgh hs
    refine .inl ⟨c, le, he, hc, ?_⟩
    refine ⟨fun _ e => (hp.noExt e).elim, ?_⟩
    intro M F own fr1 σ1 a w hR _ hops hle hhe next Q hk
    have hr : Rep M F (a.eval p) (zk fr p) := by rw [← hops p (by simp [ho, Op.operands])]; exact zd hR p
    obtain ⟨b, base, h1, h2⟩ := (hp.at_ hle hhe).sound hR hr
    obtain ⟨v, h3, h4⟩ := hsub (hX t ti ht) h2
    have hn := hk v M F own w ?_ h4 (KExt.refl _ _ _) (FM.le.refl _)
    · refine xg ?_ hn
      simp [execOp, ho, Instr.loadAt, h1, Instr.sureAddr, h3]
    · rw [(hp.app fr1 σ1).1, (hp.app fr1 σ1).2]; exact hR
  · exact h.elim
end
section
variable {X : Ctx} {o : Oper} {fr : Fr} {σ : Heap} {K : CV → LE → HE → Prop} {KP : CV → Heap → Prop}
variable {M : Mem} {F : FM} {own : Owns} {a : Act} {w : World}
theorem q0 (hR : Rg M own σ w) (t : Own) (fo : FO) (b : Nat) (cs' : Array Value) (hb : fo.block = some b) (hown : own b = some t) (hM : ∀ o, M b o = none) (hlt : b < w.heap.size) :
    Touch M own w t fo M (w.setRow b cs') := by
  refine ⟨by simp, rfl, rfl, rfl, fun b' _ ho => ⟨?_, fun _ => rfl⟩, fun _ _ _ h => h, fun b' o v _ h => ?_, fun b' h => ?_⟩
  · exact setRow_other w b b' cs' (fun e => by subst e; exact ho hown)
  · have hne : b' ≠ b := fun e => by subst e; rw [hM] at h; cases h
    rw [yv (setRow_other w b b' cs' hne)]; exact hR.mem _ _ _ h
  · rw [hb] at h; cases h; exact ⟨.inl hown, by simpa using hlt⟩
theorem qc {P : Program} {t : TypeId} {ti : TI} (hti : zhd P t = some ti) {b off : Nat} {T : TypeId} {cur : Array Value} {v : Value} (hb : w.heap[b]? = some (.cells cur T (0, 0)))
    (hs : v.cells.size = ti.size) (hle : off + ti.size ≤ cur.size) (h1 : ∀ u ∈ v.cells.toList, u.oneCell' = true) :
    (storeVar t ⟨b, off, none⟩ v).run P w = .ok () (w.setRow b (cur.toList.take off ++ v.cells.toList ++ cur.toList.drop (off + v.cells.toList.length)).toArray) := by
  have := run_storeCells_at P b off T v.cells.toList 0 cur w hb (by simp; omega) h1
  simp only [Nat.add_zero] at this
  simp [storeVar, we hti, hs]
  simpa [hs] using this
theorem zjv {vs : Array Value} {n : Nat} (hs : vs.size = n) (h : ∀ (j : Nat), j < n → (vs.getD j undef).oneCell' = true) : ∀ u ∈ vs.toList, u.oneCell' = true := by
  intro u hu
  obtain ⟨j, hj, rfl⟩ := List.mem_iff_getElem.1 hu
  have hj' : j < vs.size := by simpa using hj
  have := h j (by omega)
  simpa [Array.getD_eq_getD_getElem?, hj'] using this
theorem zt8 (l ns : List Value) (p q : Nat) (hp : p + ns.length ≤ l.length) : (l.take p ++ ns ++ l.drop (p + ns.length)).toArray.getD q undef =
    if q < p then l.toArray.getD q undef else if q < p + ns.length then ns.getD (q - p) undef else l.toArray.getD q undef := by
  have hto : (l.take p).length = p := by simp; omega
  simp only [Array.getD_eq_getD_getElem?, List.getElem?_toArray, List.getD_eq_getElem?_getD]
  by_cases h1 : q < p
  · rw [if_pos h1, List.append_assoc, List.getElem?_append_left (by omega), List.getElem?_take_of_lt h1]
  · rw [if_neg h1, List.append_assoc, List.getElem?_append_right (by omega), hto]
    by_cases h2 : q < p + ns.length
    · rw [if_pos h2, List.getElem?_append_left (by omega)]
    · rw [if_neg h2, List.getElem?_append_right (by omega), List.getElem?_drop]
      congr 2; omega
theorem zyn {vs : Array Value} {sz : Nat} {xs : List CV} {i off : Nat} {x x' : CV} {ns : List Value} {nc : List CV} (hlens : ∀ (i : Nat) (x : CV), xs[i]? = some x → x.cells.length = sz)
    (hr : ∀ (i : Nat) (x : CV) (j : Nat) c, xs[i]? = some x → x.cells[j]? = some c → Rep M FM.no (vs.getD (i * sz + j) undef) c) (hx : xs[i]? = some x)
    (hx' : x.cells.length = sz → x'.cells = jr x.cells off nc) (hn : ns.length = nc.length) (hle : off + nc.length ≤ sz) (hvs : xs.length * sz ≤ vs.size) (hnr : ∀ (j : Nat) c, nc[j]? = some c → Rep M FM.no (ns.getD j undef) c) :
    x'.cells.length = sz ∧ ∀ (k : Nat) (y : CV) (j : Nat) c, (xs.set i x')[k]? = some y → y.cells[j]? = some c →
      Rep M FM.no ((vs.toList.take (i * sz + off) ++ ns ++ vs.toList.drop (i * sz + off + ns.length)).toArray.getD (k * sz + j) undef) c := by
  have hi : i < xs.length := (List.getElem?_eq_some_iff.1 hx).1
  have hxl := hlens i x hx
  have hx' := hx' hxl
  have hl' : x'.cells.length = sz := by rw [hx', jr]; simp; omega
  have hrow : i * sz + sz ≤ xs.length * sz := by
    calc i * sz + sz = (i + 1) * sz := by rw [Nat.add_mul]; omega
      _ ≤ xs.length * sz := Nat.mul_le_mul_right _ hi
  refine ⟨hl', fun k y j c hy hc => ?_⟩
  have hjlt : j < sz := by
    rw [List.getElem?_set] at hy
    split at hy
    · first
        | (cases hy; rw [← hl']; exact (List.getElem?_eq_some_iff.1 hc).1)
        | (split at hy <;> first | (cases hy; rw [← hl']; exact (List.getElem?_eq_some_iff.1 hc).1) | cases hy)
    · rw [← hlens k y hy]; exact (List.getElem?_eq_some_iff.1 hc).1
  rw [zt8 _ _ _ _ (by simp; omega)]
  by_cases hik : i = k
  · subst hik
    rw [List.getElem?_set_self hi] at hy
    cases hy
    rw [hx', jr] at hc
    have hto : (x.cells.take off).length = off := by simp; omega
    by_cases h1 : j < off
    · rw [List.append_assoc, List.getElem?_append_left (by omega), List.getElem?_take_of_lt h1] at hc
      rw [if_pos (by omega)]
      exact hr i x j c hx hc
    · rw [if_neg (by omega)]
      rw [List.append_assoc, List.getElem?_append_right (by omega), hto] at hc
      by_cases h2 : j < off + nc.length
      · rw [List.getElem?_append_left (by omega)] at hc
        rw [if_pos (by omega), show i * sz + j - (i * sz + off) = j - off by omega]
        exact hnr _ c hc
      · rw [List.getElem?_append_right (by omega), List.getElem?_drop] at hc
        rw [if_neg (by omega)]
        refine hr i x j c hx ?_
        rw [← hc]; congr 1; omega
  · rw [List.getElem?_set_ne hik] at hy
    have := hr k y j c hy hc
    by_cases hlt : k < i
    · have : k * sz + sz ≤ i * sz := by
        calc k * sz + sz = (k + 1) * sz := by rw [Nat.add_mul]; omega
          _ ≤ i * sz := Nat.mul_le_mul_right _ hlt
      rw [if_pos (by omega)]; exact hr k y j c hy hc
    · have : i * sz + sz ≤ k * sz := by
        calc i * sz + sz = (i + 1) * sz := by rw [Nat.add_mul]; omega
          _ ≤ k * sz := Nat.mul_le_mul_right _ (by omega)
      rw [if_neg (by omega), if_neg (by omega)]; exact hr k y j c hy hc
theorem z3k {l e sz cap i off : Nat} {xs : List CV} {x x' : CV} {ns : List Value} {nc : List CV} (hR : R M F own fr σ a w) (hl : σ l = some (.arr e sz cap xs)) (hx : xs[i]? = some x)
    (hx' : x.cells.length = sz → x'.cells = jr x.cells off nc) (hn : ns.length = nc.length) (hle : off + nc.length ≤ sz) (hnr : ∀ (j : Nat) c, nc[j]? = some c → Rep M FM.no (ns.getD j undef) c) :
    ∃ vs T, w.heap[l]? = some (.cells vs T (0, 0)) ∧ i * sz + off + ns.length ≤ vs.size ∧ ∃ own', R M F own' fr (upd σ l (.arr e sz cap (xs.set i x'))) a (w.setRow l (vs.toList.take (i * sz + off) ++ ns ++ vs.toList.drop (i * sz + off + ns.length)).toArray) ∧
      KExt M own w M own' (w.setRow l (vs.toList.take (i * sz + off) ++ ns ++ vs.toList.drop (i * sz + off + ns.length)).toArray) := by
  obtain ⟨vs, hb, hvs, hnc, hlens, hr, hM⟩ := zay hR.toRg hl
  have hi : i < xs.length := (List.getElem?_eq_some_iff.1 hx).1
  have hcap := Nat.mul_le_mul_right sz hnc
  have hrow : i * sz + sz ≤ xs.length * sz := by
    calc i * sz + sz = (i + 1) * sz := by rw [Nat.add_mul]; omega
      _ ≤ xs.length * sz := Nat.mul_le_mul_right _ hi
  obtain ⟨p1, p2⟩ := zyn hlens hr hx hx' hn hle (by omega) hnr
  have hlt := (Array.getElem?_eq_some_iff.1 hb).1
  refine ⟨vs, e, hb, by omega, ?_⟩
  obtain ⟨t1, t2⟩ := hR.touchG l (.row l xs.length cap) (.arr e sz cap (xs.set i x')) (q0 hR.toRg (.g l) (.row l xs.length cap) l (vs.toList.take (i * sz + off) ++ ns ++ vs.toList.drop (i * sz + off + ns.length)).toArray rfl (hR.glob l _ hl).1 hM hlt) rfl
    ⟨rfl, by simp, _, setRow_heap w l vs _ e _ hb, by simp; omega, hnc, fun k y hy => by
      rw [List.getElem?_set] at hy
      split at hy
      · first
          | (cases hy; exact p1)
          | (split at hy <;> first | (cases hy; exact p1) | cases hy)
      · exact hlens k y hy, p2, hM⟩
  exact ⟨_, t1, t2⟩
theorem zv6 {t : TypeId} {p x : Operand} (hX : X.ok) (ho : o.op = .store t p x)
    (h : (match lkT X.tt t with
    | some ti => zpw ti fr σ (zk fr p) (zk fr x) fun le he => K (.sc undef) le he
    | none => False)) : Got X o fr σ K KP := by
  split at h
  · rename_i ti ht
    have hti := hX t ti ht
    have hmp : p ∈ o.op.operands.toList := by simp [ho, Op.operands]
    have hmx : x ∈ o.op.operands.toList := by simp [ho, Op.operands]
    unfold zpw at h
    obtain ⟨hlen, h⟩ := zw h
    obtain ⟨hone, h⟩ := zf h
    generalize hcx : zk fr x = cx at *
    generalize hcp : zk fr p = cp at h
    split at h
    · rename_i d off
      split at h
      · rename_i cs hl
        obtain ⟨hle, h⟩ := vz h
        rw [kz] at h
        refine .inl ⟨_, _, _, h, ?_⟩
        refine ⟨fun _ e => (by cases e), ?_⟩
        intro M F own fr1 σ1 a w hR hn hops hloc _ next Q hk
        have hrp : Rep M F (a.eval p) (.ptr (.f d) off) := by rw [← hcp, ← hops p hmp]; exact zd hR p
        have hrx : Rep M F (a.eval x) cx := by rw [← hcx, ← hops x hmx]; exact zd hR x
        obtain ⟨fo, hF, hob, hown⟩ := hR.locs d _ ((hloc d rfl).trans hl)
        generalize hpv : a.eval p = pv at hrp
        cases hrp with
        | ptr _ _ b ho' =>
          have : fo = .blk b := by rw [hF] at ho'; exact Option.some.inj ho'
          subst this
          obtain ⟨T, vs, hb, hsz, hr, hM⟩ := hob
          obtain ⟨k1, k2⟩ := jt hrx hone
          have hs : (a.eval x).cells.size = ti.size := by omega
          have hrun := qc (w := w) hti (off := off) hb hs (by omega) (zjv k1 fun j hj => (k2 j _ (List.getElem?_eq_getElem hj)).2)
          obtain ⟨s1, s2⟩ := zdy (M := M) (F := F) (ns := (a.eval x).cells.toList) (nc := cx.cells) (off := off) hsz (by simpa using k1) (by omega) hr (fun j c hc => by
            have := (k2 j c hc).1
            simpa [Array.getD_eq_getD_getElem?, List.getD_eq_getElem?_getD] using this)
          have hlt := (Array.getElem?_eq_some_iff.1 hb).1
          have hF' : zfv F d (.blk b) = F := by funext y; by_cases hy : y = d <;> simp [zfv, hy, hF]
          obtain ⟨t1, t2, t3⟩ := hR.touch (fr' := fr1.app (.wr d (.cells (jr cs off cx.cells)))) d (.blk b) (.cells (jr cs off cx.cells)) (q0 hR.toRg (.f d) (.blk b) b _ rfl (hown b rfl) hM hlt)
            (fun fo0 e => by rw [hF] at e; cases e; exact .refl _) ⟨T, _, setRow_heap w b vs _ T _ hb, s1, fun j c hc => by rw [hF']; exact s2 j c hc, hM⟩ ⟨rfl, rfl, fun y => km _ _ _ _⟩
          refine zfl ?_ (hk _ _ _ _ _ t1 (.sc _) t2 t3)
          simp [execOp, ho, Instr.storeAt, Instr.sureAddr, hpv, hrun]
      · exact h.elim
    · rename_i l off
      split at h
      · exact h.elim
      · rename_i vc hs
        obtain ⟨hvl, h⟩ := zw h
        obtain ⟨ob, hl, h⟩ := h.h
        split at h
        · rename_i cs
          obtain ⟨hle, h⟩ := vz h
          rw [kz] at h
          refine .inl ⟨_, _, _, h, ?_⟩
          refine ⟨fun _ e => (by cases e), ?_⟩
          intro M F own fr1 σ1 a w hR hn hops hloc hhe next Q hk
          have hσ : σ1 = σ := hhe
          subst hσ
          have hrp : Rep M F (a.eval p) (.ptr (.g l) off) := by rw [← hcp, ← hops p hmp]; exact zd hR p
          have hrx : Rep M F (a.eval x) cx := by rw [← hcx, ← hops x hmx]; exact zd hR x
          generalize hpv : a.eval p = pv at hrp
          cases hrp with
          | gptr _ _ =>
            obtain ⟨T, vs, hb, hsz, hr, hM⟩ := zea hR.toRg hl
            obtain ⟨k1, k2⟩ := jt hrx hone
            obtain ⟨j1, j2⟩ := zv (M := M) (F := F) hs
            have hs : (a.eval x).cells.size = ti.size := by omega
            have hrun := qc (w := w) hti (off := off) hb hs (by omega) (zjv k1 fun j hj => (k2 j _ (List.getElem?_eq_getElem hj)).2)
            obtain ⟨s1, s2⟩ := zdy (M := M) (F := FM.no) (ns := (a.eval x).cells.toList) (nc := vc) (off := off) hsz (by simp; omega) (by omega) hr (fun j c hc => by
              have := j2 _ (fun i c h => (k2 i c h).1) j c hc
              simpa [Array.getD_eq_getD_getElem?, List.getD_eq_getElem?_getD] using this)
            have hlt := (Array.getElem?_eq_some_iff.1 hb).1
            obtain ⟨t1, t2⟩ := hR.touchG l (.blk l) (.cells (jr cs off vc)) (q0 hR.toRg (.g l) (.blk l) l _ rfl (hR.glob l _ hl).1 hM hlt) rfl
              ⟨T, _, setRow_heap w l vs _ T _ hb, s1, s2, hM⟩
            refine zfl ?_ (hk _ _ _ _ _ t1 (.sc _) t2 (FM.le.refl _))
            simp [execOp, ho, Instr.storeAt, Instr.sureAddr, hpv, hrun]
        · exact h.elim
    · rename_i d sz i off
      split at h
      · rename_i sz' xs hl
        obtain ⟨e1, h1⟩ := zw h
        obtain ⟨e2, h2⟩ := zw h1
        obtain ⟨e3, h3⟩ := zw h2
        clear h h1 h2
        subst e1; subst e2
        split at h3
        · exact h3.elim
        · rename_i v' hs
          obtain ⟨hvl, h4⟩ := zw h3
          obtain ⟨hvo, h5⟩ := zf h4
          refine .inl ⟨_, _, _, h5.t, ?_⟩
          have hi := h5.c
          refine ⟨fun _ e => (by cases e), ?_⟩
          intro M F own fr1 σ1 a w hR hn hops hloc _ next Q hk
          have hrp : Rep M F (a.eval p) (.eptr (.f d) sz i 0) := by rw [← hcp, ← hops p hmp]; exact zd hR p
          have hrx : Rep M F (a.eval x) cx := by rw [← hcx, ← hops x hmx]; exact zd hR x
          have hrv := xi hrx hs
          obtain ⟨fo, hF, hob, hown⟩ := hR.locs d _ ((hloc d rfl).trans hl)
          generalize hpv : a.eval p = pv at hrp
          cases hrp with
          | eptr _ _ _ _ b n cap ho' =>
            have : fo = .row b n cap := by rw [hF] at ho'; exact Option.some.inj ho'
            subst this
            obtain ⟨T, vs, hb, hsz, hnl, hnc, hlens, hr, hM⟩ := hob
            obtain ⟨k1, k2⟩ := jt hrv hvo
            have hs : (a.eval x).cells.size = ti.size := by omega
            have hin : i * sz + sz ≤ vs.size := by
              rw [hsz]
              calc i * sz + sz = (i + 1) * sz := by rw [Nat.add_mul]; omega
                _ ≤ cap * sz := Nat.mul_le_mul_right _ (by omega)
            have hrun := qc (w := w) hti (off := i * sz) hb hs (by omega) (zjv k1 fun j hj => (k2 j _ (List.getElem?_eq_getElem hj)).2)
            have hlt := (Array.getElem?_eq_some_iff.1 hb).1
            have hF' : zfv F d (.row b n cap) = F := by funext y; by_cases hy : y = d <;> simp [zfv, hy, hF]
            have hnsz : (a.eval x).cells.toList.length = sz := by simp; omega
            have hob' : ObRep M (zfv F d (.row b n cap)) (w.setRow b (vs.toList.take (i * sz) ++ (a.eval x).cells.toList ++ vs.toList.drop (i * sz + (a.eval x).cells.toList.length)).toArray) (.row b n cap) (.rows sz (xs.set i v')) := by
              refine ⟨T, _, setRow_heap w b vs _ T _ hb, by simp; omega, by simpa using hnl, hnc, fun k y hy => ?_, fun k y j c hy hc => ?_, hM⟩
              · rw [List.getElem?_set] at hy
                split at hy
                · first
                    | (cases hy; exact hvl)
                    | (split at hy <;> first | (cases hy; exact hvl) | cases hy)
                · exact hlens k y hy
              · have e : ∀ l : List Value, l.toArray.getD (k * sz + j) undef = l.getD (k * sz + j) undef := fun l => by simp [Array.getD_eq_getD_getElem?]
                rw [e]
                have hto : (vs.toList.take (i * sz)).length = i * sz := by simp; omega
                rw [List.getElem?_set] at hy
                split at hy
                · rename_i hik
                  subst hik
                  cases hy
                  have hj : j < sz := by rw [← hvl]; exact (List.getElem?_eq_some_iff.1 hc).1
                  have := (k2 j c hc).1
                  rw [List.getD_eq_getElem?_getD, List.append_assoc, List.getElem?_append_right (by omega), hto, show i * sz + j - i * sz = j by omega, List.getElem?_append_left (by omega)]
                  simpa [Array.getD_eq_getD_getElem?] using this
                · rename_i hik
                  have hj : j < sz := by rw [← hlens k y hy]; exact (List.getElem?_eq_some_iff.1 hc).1
                  have := hr k y j c hy hc
                  rw [List.getD_eq_getElem?_getD]
                  by_cases hlt2 : k < i
                  · have : k * sz + sz ≤ i * sz := by
                      calc k * sz + sz = (k + 1) * sz := by rw [Nat.add_mul]; omega
                        _ ≤ i * sz := Nat.mul_le_mul_right _ (by omega)
                    rw [List.append_assoc, List.getElem?_append_left (by omega), List.getElem?_take_of_lt (by omega)]
                    simpa [Array.getD_eq_getD_getElem?] using hr k y j c hy hc
                  · have : i * sz + sz ≤ k * sz := by
                      calc i * sz + sz = (i + 1) * sz := by rw [Nat.add_mul]; omega
                        _ ≤ k * sz := Nat.mul_le_mul_right _ (by omega)
                    rw [List.append_assoc, List.getElem?_append_right (by omega), hto, List.getElem?_append_right (by omega), List.getElem?_drop, hnsz]
                    rw [show i * sz + sz + (k * sz + j - i * sz - sz) = k * sz + j by omega]
                    simpa [Array.getD_eq_getD_getElem?] using hr k y j c hy hc
            obtain ⟨t1, t2, t3⟩ := hR.touch (fr' := fr1.app (.wr d (.rows sz (xs.set i v')))) d (.row b n cap) (.rows sz (xs.set i v')) (q0 hR.toRg (.f d) (.row b n cap) b _ rfl (hown b rfl) hM hlt)
              (fun fo0 e => by rw [hF] at e; cases e; exact .refl _) hob' ⟨rfl, rfl, fun y => km _ _ _ _⟩
            refine zfl ?_ (hk _ _ _ _ _ t1 (.sc _) t2 t3)
            simp only [execOp, ho, Instr.storeAt, Instr.sureAddr, hpv, Nat.add_zero, pure_bind, Sem.run_bind, hrun, Result.andThen_ok, Sem.run_pure]
      · exact h.elim
    · rename_i l sz i off
      split at h
      · exact h.elim
      · rename_i vc hs
        obtain ⟨hvl, h⟩ := zw h
        obtain ⟨ob, hl, h⟩ := h.h
        split at h
        · rename_i e sz' cap xs
          obtain ⟨hsz, h⟩ := zw h
          subst hsz
          have key : ∀ {y0 y1 : CV}, xs[i]? = some y0 → (y0.cells.length = sz → y1.cells = jr y0.cells off vc) → off + vc.length ≤ sz → K (.sc undef) .no (.wr (upd σ l (.arr e sz cap (xs.set i y1)))) → Got X o fr σ K KP := by
            intro y0 y1 hx hx' hle hK
            refine .inl ⟨_, _, _, hK, ?_⟩
            refine ⟨fun _ e => (by cases e), ?_⟩
            intro M F own fr1 σ1 a w hR hn hops hloc hhe next Q hk
            have hσ : σ1 = σ := hhe
            subst hσ
            have hrp : Rep M F (a.eval p) (.eptr (.g l) sz i off) := by rw [← hcp, ← hops p hmp]; exact zd hR p
            have hrx : Rep M F (a.eval x) cx := by rw [← hcx, ← hops x hmx]; exact zd hR x
            generalize hpv : a.eval p = pv at hrp
            cases hrp with
            | geptr _ _ _ _ =>
              obtain ⟨k1, k2⟩ := jt hrx hone
              obtain ⟨j1, j2⟩ := zv (M := M) (F := F) hs
              have hss : (a.eval x).cells.size = ti.size := by omega
              obtain ⟨vs, T, hb, hin, own', t1, t2⟩ := z3k (ns := (a.eval x).cells.toList) hR hl hx hx' (by simp; omega) hle (fun j c hc => by
                have := j2 _ (fun i c h => (k2 i c h).1) j c hc
                simpa [Array.getD_eq_getD_getElem?, List.getD_eq_getElem?_getD] using this)
              have hrun := qc (w := w) hti (off := i * sz + off) hb hss (by simp at hin; omega) (zjv k1 fun j hj => (k2 j _ (List.getElem?_eq_getElem hj)).2)
              refine zfl ?_ (hk _ _ _ _ _ t1 (.sc _) t2 (FM.le.refl _))
              simp [execOp, ho, Instr.storeAt, Instr.sureAddr, hpv, hrun]
          split at h
          · rename_i hb1
            have hsz1 : sz = 1 := Nat.eq_of_beq_eq_true hb1
            obtain ⟨ho0, h⟩ := zw h
            cases vc with
            | nil => exact h.elim
            | cons c r =>
              cases r with
              | cons _ _ => exact h.elim
              | nil =>
                obtain ⟨hc1, h⟩ := zf h
                have hi := h.c
                refine key (List.getElem?_eq_getElem hi) (fun hlen => ?_) (by simp; omega) h.t
                have hcc : c.cells = [c] := by cases c <;> first | rfl | simp [CV.one] at hc1
                rw [hcc, jr, ho0, List.drop_of_length_le (by simp; omega)]; rfl
          · obtain ⟨x, hx, h⟩ := h.h
            split at h
            · rename_i cs
              obtain ⟨hle, h⟩ := vz h
              rw [kz] at h
              by_cases hbig : cs.length ≤ sz
              · exact key hx (fun _ => rfl) (by omega) h
              · refine .inl ⟨_, _, _, h, ?_⟩
                refine ⟨fun _ e => (by cases e), ?_⟩
                intro M F own fr1 σ1 a w hR hn hops hloc hhe next Q hk
                have hσ : σ1 = σ := hhe
                subst hσ
                obtain ⟨vs, _, _, _, hlens, _⟩ := zay hR.toRg hl
                have := hlens i _ hx
                exact absurd (Nat.le_of_eq this) hbig
            · exact h.elim
        · exact h.elim
    · exact h.elim
  · exact h.elim
end
section
variable {X : Ctx} {o : Oper} {fr : Fr} {σ : Heap} {K : CV → LE → HE → Prop} {KP : CV → Heap → Prop}
variable {M : Mem} {F : FM} {own : Owns} {a : Act} {w : World}
theorem znd {x : Operand} (ho : o.op = .nilCheck x)
    (h : (match zk fr x with
    | .ptr o off => K (.ptr o off) .no .no
    | .eptr o sz i off => K (.eptr o sz i off) .no .no
    | .ref x off => K (.ref x off) .no .no
    | .fn (.method name) (.iface t v :: r) caps => Need (zk3 X.P t name) (K (.fn (.method name) (.iface t v :: r) caps) .no .no)
    | _ => False)) : Got X o fr σ K KP := by
  have key : ∀ c, zk fr x = c → K c .no .no → (∀ {M F v}, Rep M F v c → ∃ p, v = .pointer (some p)) → Got X o fr σ K KP := by
    intro c hc hK hv
    refine .inl ⟨_, _, _, hK, zo fun {M F own fr1 σ1 a w} _ hop => ?_⟩
    have h1 := hop x (by simp [ho, Op.operands])
    rw [hc] at h1
    obtain ⟨p, hp⟩ := hv h1
    exact ⟨a.eval x, by simp [execOp, ho, hp], h1⟩
  split at h
  · exact key _ ‹_› h fun hr => by cases hr <;> exact ⟨_, rfl⟩
  · exact key _ ‹_› h fun hr => by cases hr <;> exact ⟨_, rfl⟩
  · exact key _ ‹_› h fun hr => by cases hr <;> exact ⟨_, rfl⟩
  · rename_i name t v r caps hc
    refine .inl ⟨_, _, _, h.t, zo fun {M F own fr1 σ1 a w} _ hop => ?_⟩
    have h1 := hop x (by simp [ho, Op.operands])
    rw [hc] at h1
    refine ⟨a.eval x, ?_, h1⟩
    generalize hv : a.eval x = u at h1
    cases h1 with
    | fn _ vs us _ _ s1 r1 s2 r2 =>
      have h0 := r1 0 _ rfl
      have hsz : 0 < vs.size := by rw [s1]; simp
      have e0 : vs.getD 0 undef = vs[0] := by simp [Array.getD, hsz]
      have e1 : vs[0]? = some vs[0] := Array.getElem?_eq_getElem hsz
      rw [e0] at h0
      generalize vs[0] = z at h0 e1
      cases h0 with
      | iface _ y _ hy =>
        have hn := h.c y w
        simp only [execOp, ho, hv, e1, Sem.run_bind, run_program, Result.andThen_ok, hn]
        simp
  · exact h.elim
theorem zh4 {P : Program} {t : TypeId} {ti : TI} {f off t' sz : Nat} (h : zhd P t = some ti) (hok : ti.fok = true) (hf : ti.fields[f]? = some (off, t', sz)) :
    ∃ fs fd, P.underlying t = some (.struct fs) ∧ fs[f]? = some fd ∧ fd.offset = off ∧ fd.type = t' ∧ (∀ w, (sizeOf fd.type).run P w = .ok sz w) := by
  obtain ⟨i, d, hi, hd, rfl⟩ := zt h
  cases d with
  | struct fs =>
    simp only at hok hf
    rw [List.getElem?_map] at hf
    cases hfd : fs.toList[f]? with
    | none => rw [hfd] at hf; simp at hf
    | some fd =>
      rw [hfd] at hf
      simp only [Option.map_some, Option.some.injEq, Prod.mk.injEq] at hf
      have hfd' : fs[f]? = some fd := by simpa using hfd
      refine ⟨fs, fd, hd, hfd', hf.1, hf.2.1, fun w => ?_⟩
      rw [List.all_eq_true] at hok
      have := hok fd (List.mem_of_getElem? hfd)
      cases hq : P.info? fd.type with
      | none => simp [hq] at this
      | some j =>
        have hsz := hf.2.2
        simp [hq] at hsz
        simp [sizeOf, typeInfo, hq, hsz]
  | _ => simp at hok
theorem zkh {t : TypeId} {x : Operand} {f : Nat} (hX : X.ok) (ho : o.op = .fieldAddr t x f)
    (h : (match lkT X.tt t with
    | some ti => isT ti.fok <| match ti.fields[f]? with
      | some (off', _, sz) => leN 1 sz <| match zk fr x with
        | .ptr o off => K (.ptr o (off + off')) .no .no
        | .eptr o sz i off => K (.eptr o sz i (off + off')) .no .no
        | .ref x off => K (.ref x (off + off')) .no .no
        | _ => False
      | none => False
    | none => False)) : Got X o fr σ K KP := by
  split at h
  · rename_i ti ht
    obtain ⟨hok, h⟩ := zf h
    split at h
    · rename_i off' t' sz hf
      obtain ⟨hsz, h⟩ := vz h
      obtain ⟨fs, fd, h1, h2, h3, h4, h5⟩ := zh4 (hX t ti ht) hok hf
      have key : ∀ c c', zk fr x = c → K c' .no .no → (∀ {M F v}, Rep M F v c → ∃ b q, v = .pointer (some ⟨b, q, none⟩) ∧ Rep M F (.pointer (some ⟨b, q + off', none⟩)) c') → Got X o fr σ K KP := by
        intro c c' hc hK hv
        refine .inl ⟨_, _, _, hK, zo fun {M F own fr1 σ1 a w} _ hop => ?_⟩
        have hx := hop x (by simp [ho, Op.operands])
        rw [hc] at hx
        obtain ⟨b, q, e1, e2⟩ := hv hx
        refine ⟨_, ?_, e2⟩
        have hsz' : ¬ sz = 0 := by omega
        simp [execOp, ho, Instr.fieldAt, run_underlying h1, h2, e1, Instr.sureAddr, fieldPlace, h5, hsz', h3, qs]
      split at h
      · refine key _ _ ‹_› h fun hr => ?_
        cases hr with
        | ptr d _ b hF => exact ⟨b, _, rfl, .ptr d _ b hF⟩
        | gptr l _ => exact ⟨l, _, rfl, .gptr l _⟩
      · refine key _ _ ‹_› h fun hr => ?_
        cases hr with
        | eptr d _ _ _ b n cap hF => exact ⟨b, _, rfl, by rw [Nat.add_assoc]; exact .eptr d _ _ _ b n cap hF⟩
        | geptr l _ _ _ => exact ⟨l, _, rfl, by rw [Nat.add_assoc]; exact .geptr l _ _ _⟩
      · refine key _ _ ‹_› h fun hr => ?_
        cases hr with
        | ref _ _ b base vs hm hr => exact ⟨b, _, rfl, by rw [Nat.add_assoc]; exact .ref _ _ b base vs hm hr⟩
      · exact h.elim
    · exact h.elim
  · exact h.elim
theorem zyo {ti : TI} {cs : List CV} {off : Nat} {K : CV → Prop} (h : ze0 ti cs off K) :
    ∃ c, K c ∧ ∀ {P : Program} {t : TypeId} {M : Mem} {F : FM} {w : World} {vs : Array Value}, zhd P t = some ti → vs.size = cs.length → (∀ (j : Nat) c, cs[j]? = some c → Rep M F (vs.getD j undef) c) →
      ∃ v, (part t vs off).run P w = .ok v w ∧ Rep M F v c := by
  unfold ze0 at h
  split at h
  · rename_i hagg
    obtain ⟨hle, h⟩ := vz h
    rw [kz] at h
    refine ⟨_, h, fun {P t M F w vs} hti hs hc => ?_⟩
    refine ⟨.agg (vs.extract off (off + ti.size)), by simp [part, zc1 hti, hagg, we hti], .agg _ _ (by simp; omega) fun i c hi => ?_⟩
    simp only [List.getElem?_take, List.getElem?_drop] at hi
    split at hi
    · rename_i hlt
      have := hc _ c hi
      have e : (vs.extract off (off + ti.size)).getD i undef = vs.getD (off + i) undef := by
        simp only [Array.getD_eq_getD_getElem?, Array.getElem?_extract]
        rw [if_pos (by omega)]
      rw [e]; exact this
    · simp at hi
  · rename_i hagg
    rw [zpc] at h
    split at h
    · rename_i c hcs
      refine ⟨c, h, fun {P t M F w vs} hti hs hc => ?_⟩
      have hlt : off < vs.size := by rw [hs]; exact (List.getElem?_eq_some_iff.1 hcs).1
      refine ⟨vs[off], by simp [part, zc1 hti, hagg, hlt], ?_⟩
      have := hc off c hcs
      simpa [Array.getD_eq_getD_getElem?, hlt] using this
    · exact h.elim
theorem zwa {t : TypeId} {x : Operand} {f : Nat} (hX : X.ok) (ho : o.op = .field t x f)
    (h : (match lkT X.tt t with
    | some ti => isT ti.fok <| match ti.fields[f]? with
      | some (off', t', _) => match lkT X.tt t' with
        | some ti' => match zk fr x with
          | .agg cs => ze0 ti' cs off' fun v => K v .no .no
          | _ => False
        | none => False
      | none => False
    | none => False)) : Got X o fr σ K KP := by
  split at h
  · rename_i ti ht
    obtain ⟨hok, h⟩ := zf h
    split at h
    · rename_i off' t' sz hf
      split at h
      · rename_i ti' ht'
        obtain ⟨fs, fd, h1, h2, h3, h4, h5⟩ := zh4 (hX t ti ht) hok hf
        split at h
        · rename_i cs hcx
          obtain ⟨c, hK, hp⟩ := zyo h
          refine .inl ⟨_, _, _, hK, zo fun {M F own fr1 σ1 a w} _ hop => ?_⟩
          have hx := hop x (by simp [ho, Op.operands])
          rw [hcx] at hx
          generalize hv : a.eval x = v at hx
          cases hx with
          | agg vs _ hs hr =>
            obtain ⟨v, k1, k2⟩ := hp (w := w) (hX t' ti' ht') hs hr
            refine ⟨v, ?_, k2⟩
            simp [execOp, ho, hv, Instr.field, run_underlying h1, h2, asAgg, h3, h4, k1]
        · exact h.elim
      · exact h.elim
    · exact h.elim
  · exact h.elim
theorem vv {P : Program} {t : TypeId} {ti : TI} (h : zhd P t = some ti) (hs : ti.sl = true) : P.underlying t = some (.slice ti.elem) := by
  obtain ⟨i, d, hi, hd, rfl⟩ := zt h
  cases d <;> first | exact hd | simp at hs
theorem zkg {t : TypeId} {x i : Operand} (hX : X.ok) (ho : o.op = .indexAddr t x i)
    (h : (match lkT X.tt t with
    | some ti => isT ti.sl <| match lkT X.tt ti.elem with
      | some te => match zk fr i with
        | .sc (.int _ n) => match zk fr x with
          | .vec xs => Need (0 ≤ n) (ElemN xs n.toNat fun x => eqN x.cells.length te.size (K (.ref x 0) .no .no))
          | .avec _ xs => Need (0 ≤ n) (ElemN xs n.toNat fun x => eqN x.cells.length te.size (K (.ref x 0) .no .no))
          | .row d => match z6 fr.locs d with
            | some (.rows sz xs) => eqN sz te.size (Need (0 ≤ n ∧ n.toNat < xs.length) (K (.eptr (.f d) sz n.toNat 0) (.rd d) .no))
            | _ => False
          | .grow l m _ => Need (0 ≤ n ∧ n.toNat < m) (K (.eptr (.g l) te.size n.toNat 0) .no .no)
          | _ => False
        | _ => False
      | none => False
    | none => False)) : Got X o fr σ K KP := by
  split at h
  · rename_i ti ht
    obtain ⟨hsl, h⟩ := zf h
    split at h
    · rename_i te hte
      have hu := vv (hX t ti ht) hsl
      have hsz := fun w => we (hX _ _ hte) w
      split at h
      · rename_i k n hi
        have hmx : x ∈ o.op.operands.toList := by simp [ho, Op.operands]
        have hmi : i ∈ o.op.operands.toList := by simp [ho, Op.operands]
        have key : ∀ xs : List CV, (∀ {M F v}, Rep M F v (zk fr x) → Rep M F v (.vec xs)) → Need (0 ≤ n) (ElemN xs n.toNat fun x => eqN x.cells.length te.size (K (.ref x 0) .no .no)) → Got X o fr σ K KP := by
          intro xs hxs h
          have h0 := h.c
          obtain ⟨y, hy, h⟩ := h.t.h
          obtain ⟨hlen, h⟩ := zw h
          refine .inl ⟨_, _, _, h, zo fun {M F own fr1 σ1 a w} _ hop => ?_⟩
          have hx := hxs (hop x hmx)
          have hii := hop i hmi
          rw [hi] at hii
          generalize hv : a.eval x = v at hx
          generalize hvi : a.eval i = vi at hii
          cases hii
          have hlt := (List.getElem?_eq_some_iff.1 hy).1
          cases hx with
          | nilvec => simp at hlt
          | vec sz b off m cap _ vs hn hc hs hm hr =>
            subst hn
            have hsz' : sz = te.size := by rw [← hs _ _ hy]; exact hlen
            subst hsz'
            have hni : n < (xs.length : Int) := by omega
            refine ⟨.pointer (some ⟨b, off + n.toNat * te.size, none⟩), ?_, ?_⟩
            · simp [execOp, ho, Instr.indexAt, hv, hvi, asIntOf, run_underlying hu, h0, hni, hsz, qs]
            · exact .ref y 0 b (off + n.toNat * te.size) (fun j => vs n.toNat j) (fun j c hc => hm _ y j c hy hc) (fun j c hc => hr _ y j c hy hc)
        split at h
        · rename_i xs hcx
          exact key xs (fun hr => by rw [hcx] at hr; exact hr) h
        · rename_i d xs hcx
          exact key xs (fun hr => by rw [hcx] at hr; cases hr; assumption) h
        · rename_i d hcx
          split at h
          · rename_i sz xs hl
            obtain ⟨e, h⟩ := zw h
            refine .inl ⟨_, _, _, h.t, ?_⟩
            have h0 := h.c
            refine ⟨fun _ e => (by cases e), ?_⟩
            intro M F own fr1 σ1 a w hR hn hops hloc _ next Q hk
            have hx : Rep M F (a.eval x) (.row d) := by rw [← hcx, ← hops x hmx]; exact zd hR x
            have hii : Rep M F (a.eval i) (.sc (.int k n)) := by rw [← hi, ← hops i hmi]; exact zd hR i
            obtain ⟨fo, hF, hob, hown⟩ := hR.locs d _ ((hloc d rfl).trans hl)
            generalize hv : a.eval x = v at hx
            generalize hvi : a.eval i = vi at hii
            cases hii
            cases hx with
            | row _ b m cap ho' =>
              have : fo = .row b m cap := by rw [hF] at ho'; exact Option.some.inj ho'
              subst this
              obtain ⟨T, vs, hb, hvs, hnl, _⟩ := hob
              subst hnl
              have hni : n < (xs.length : Int) := by omega
              refine xg ?_ (hk _ M F own w hR (.eptr d sz n.toNat 0 b _ cap hF) (KExt.refl _ _ _) (FM.le.refl _))
              subst e
              simp [execOp, ho, Instr.indexAt, hv, hvi, asIntOf, run_underlying hu, h0.1, hni, hsz, qs]
          · exact h.elim
        · rename_i l m cp hcx
          refine .inl ⟨_, _, _, h.t, zo fun {M F own fr1 σ1 a w} _ hop => ?_⟩
          have h0 := h.c
          have hx := hop x hmx
          rw [hcx] at hx
          have hii := hop i hmi
          rw [hi] at hii
          generalize hv : a.eval x = v at hx
          generalize hvi : a.eval i = vi at hii
          cases hii
          cases hx
          have hni : n < (m : Int) := by omega
          refine ⟨.pointer (some ⟨l, n.toNat * te.size + 0, none⟩), ?_, .geptr _ _ _ _⟩
          simp [execOp, ho, Instr.indexAt, hv, hvi, asIntOf, run_underlying hu, h0.1, hni, hsz, qs]
        · exact h.elim
      · exact h.elim
    · exact h.elim
  · exact h.elim
theorem zv9 {t : TypeId} {x i : Operand} (ho : o.op = .index t x i) (hu : X.P.underlying t = some .string)
    (h : (match zk fr x, zk fr i with
    | .sc (.string s), .sc (.int _ n) => Need (0 ≤ n ∧ n.toNat < s.size) (K (.sc (.int .u8 (s.data.getD n.toNat 0).toNat)) .no .no)
    | _, _ => False)) : Got X o fr σ K KP := by
  split at h
  · rename_i s k n hx hi
    have h0 := h.c
    refine .inl ⟨_, _, _, h.t, zo fun {M F own fr1 σ1 a w} _ hop => ⟨_, ?_, .sc _⟩⟩
    have h1 := hop x (by simp [ho, Op.operands])
    have h2 := hop i (by simp [ho, Op.operands])
    rw [hx] at h1; rw [hi] at h2
    generalize hv : a.eval x = v at h1
    generalize hvi : a.eval i = vi at h2
    cases h1; cases h2
    have hlt : n.toNat < s.size := h0.2
    have hlt' : n.toNat < s.data.size := h0.2
    have hg : s[n.toNat]? = some (s.data[n.toNat]) := by
      rw [getElem?_pos s n.toNat hlt]; rfl
    simp [execOp, ho, Instr.index, hv, hvi, asIntOf, run_underlying hu, h0.1, hg, Array.getD_eq_getD_getElem?]
    rw [Array.getElem?_eq_getElem hlt']; rfl
  · exact h.elim
theorem zpo {x : Operand} {i : Nat} (ho : o.op = .extract x i)
    (h : (match zk fr x with
    | .tup vs => match z2c vs i with
      | some c => K c .no .no
      | none => False
    | _ => False)) : Got X o fr σ K KP := by
  split at h
  · rename_i vs hx
    rw [zpc] at h
    split at h
    · rename_i c hc
      refine .inl ⟨_, _, _, h, zo fun {M F own fr1 σ1 a w} _ hop => ?_⟩
      have h1 := hop x (by simp [ho, Op.operands])
      rw [hx] at h1
      generalize hv : a.eval x = v at h1
      cases h1 with
      | tup us _ hs hr =>
        have hlt : i < us.size := by rw [hs]; exact (List.getElem?_eq_some_iff.1 hc).1
        refine ⟨us[i], by simp [execOp, ho, hv, Instr.extract, hlt], ?_⟩
        have := hr i c hc
        simpa [Array.getD_eq_getD_getElem?, hlt] using this
    · exact h.elim
  · exact h.elim
theorem zd9 {t : TypeId} {x : Operand} (hX : X.ok) (ho : o.op = .makeInterface t x)
    (h : (match lkT X.tt t with
    | some ti => isT ti.conc (K (.iface t (zk fr x)) .no .no)
    | none => False)) : Got X o fr σ K KP := by
  split at h
  · rename_i ti ht
    obtain ⟨hc, h⟩ := zf h
    refine .inl ⟨_, _, _, h, zo fun {M F own fr1 σ1 a w} _ hop => ⟨.iface t (a.eval x), ?_, .iface t _ _ (hop x (by simp [ho, Op.operands]))⟩⟩
    obtain ⟨i, d, hi, hd, rfl⟩ := zt (hX t ti ht)
    cases d <;> first | (simp at hc; done) | simp [execOp, ho, Instr.makeInterface, run_underlying hd]
  · exact h.elim
theorem zdz {os : Array Operand} {M : Mem} {F : FM} {ev : Operand → Value} {op : Operand → CV} (h : ∀ x ∈ os.toList, Rep M F (ev x) (op x)) :
    ∀ (i : Nat) c, (os.toList.map op)[i]? = some c → Rep M F ((os.map ev).getD i undef) c := by
  intro i c hc
  rw [List.getElem?_map] at hc
  cases hx : os.toList[i]? with
  | none => rw [hx] at hc; simp at hc
  | some x =>
    rw [hx] at hc
    simp only [Option.map_some, Option.some.injEq] at hc
    subst hc
    have hx' : os[i]? = some x := by simpa using hx
    have : (os.map ev).getD i undef = ev x := by simp [Array.getD_eq_getD_getElem?, hx']
    rw [this]
    exact h x (List.mem_of_getElem? hx)
theorem znf {f : Fn} {first caps : Array Operand} (ho : o.op = .makeFunc f first caps)
    (h : K (.fn f (first.toList.map (zk fr)) (caps.toList.map (zk fr))) .no .no) : Got X o fr σ K KP := by
  refine .inl ⟨_, _, _, h, zo fun {M F own fr1 σ1 a w} _ hop => ⟨.func f (first.map a.eval) (caps.map a.eval), by simp [execOp, ho, Instr.makeFunc], ?_⟩⟩
  refine .fn f _ _ _ _ (by simp) (zdz fun x hx => hop x ?_) (by simp) (zdz fun x hx => hop x ?_)
  · simp [ho, Op.operands]; left; simpa using hx
  · simp [ho, Op.operands]; right; simpa using hx
end
section
variable {X : Ctx} {o : Oper} {fr : Fr} {σ : Heap} {K : CV → LE → HE → Prop} {KP : CV → Heap → Prop}
variable {M : Mem} {F : FM} {own : Owns} {a : Act} {w : World}
theorem zps (l : List Value) : ∀ (k off : Nat) (cs : Array Value), off + k + l.length ≤ cs.size →
    (l.zipIdx k).foldl (fun cs p => cs.setIfInBounds (off + p.2) p.1) cs = (cs.toList.take (off + k) ++ l ++ cs.toList.drop (off + k + l.length)).toArray := by
  induction l with
  | nil => intro k off cs _; simp
  | cons v r ih =>
    intro k off cs h
    simp only [List.zipIdx_cons, List.foldl_cons]
    rw [ih (k + 1) off _ (by simp at h ⊢; omega)]
    have := list_seg_step cs.toList (off + k) v r (by simp at h ⊢; omega)
    simp only [Array.toList_setIfInBounds]
    congr 1
theorem znl (vs : Array Value) (off : Nat) (cs : Array Value) (h : off + vs.size ≤ cs.size) :
    vs.zipIdx.foldl (fun cs (p : Value × Nat) => cs.setIfInBounds (off + p.2) p.1) cs = (cs.toList.take off ++ vs.toList ++ cs.toList.drop (off + vs.toList.length)).toArray := by
  rw [← Array.foldl_toList, Array.toList_zipIdx, zps vs.toList 0 off cs (by simpa using h)]
  simp
theorem znm {fs : List (Nat × Nat × Nat)} {op : Operand → CV} : ∀ (ps : List (Nat × Operand)) (cs : List CV) {K : List CV → Prop}, zwj fs (ps.map fun p => (p.1, op p.2)) cs K →
    ∃ cs', K cs' ∧ ∀ {M : Mem} {F : FM} (ev : Operand → Value) (vs : Array Value), (∀ p ∈ ps, Rep M F (ev p.2) (op p.2)) → vs.size = cs.length → (∀ (j : Nat) c, cs[j]? = some c → Rep M F (vs.getD j undef) c) →
      ∃ vs', Instr.fill (fun i => (fs[i]?).map fun f => (f.1, f.2.2)) vs (ps.map fun p => (p.1, ev p.2)) = some vs' ∧ vs'.size = cs'.length ∧ ∀ (j : Nat) c, cs'[j]? = some c → Rep M F (vs'.getD j undef) c
  | [], cs, K, h => ⟨cs, h, fun ev vs _ hs hr => ⟨vs, rfl, hs, hr⟩⟩
  | (i, x) :: ps, cs, K, h => by
    simp only [List.map_cons, zte] at h
    split at h
    · rename_i off t sz hf
      obtain ⟨h1, h⟩ := zw h
      obtain ⟨h2, h⟩ := zf h
      obtain ⟨h3, h⟩ := vz h
      rw [kz] at h
      obtain ⟨cs', hK, hrest⟩ := znm ps _ h
      refine ⟨cs', hK, fun {M F} ev vs hp hs hr => ?_⟩
      obtain ⟨k1, k2⟩ := jt (hp (i, x) (by simp)) h2
      obtain ⟨s1, s2⟩ := zdy (M := M) (F := F) (ns := (ev x).cells.toList) (nc := (op x).cells) (off := off) hs (by simpa using k1) (by omega) hr (fun j c hc => by
        have := (k2 j c hc).1
        simpa [Array.getD_eq_getD_getElem?, List.getD_eq_getElem?_getD] using this)
      obtain ⟨vs', e1, e2, e3⟩ := hrest ev _ (fun p hp' => hp p (by simp [hp'])) s1 s2
      refine ⟨vs', ?_, e2, e3⟩
      simp only [List.map_cons, Instr.fill, hf, Option.map_some]
      have hsz : (ev x).cells.size = sz := by simp only at k1; omega
      rw [if_neg (by simp [hsz]; omega), znl _ _ _ (by omega)]
      exact e1
    · exact h.elim
theorem zqn {α β : Type} {P : Program} {w : World} (g : α → Sem β) (h : α → β) : ∀ (l : List α), (∀ x ∈ l, (g x).run P w = .ok (h x) w) → (l.mapM g).run P w = .ok (l.map h) w
  | [], _ => by simp
  | x :: r, hg => by
    have ih := zqn g h r (fun y hy => hg y (by simp [hy]))
    rw [List.mapM_cons, Sem.run_bind, hg x (by simp), Result.andThen_ok, Sem.run_bind, ih, Result.andThen_ok]
    rfl
def zzl (P : Program) (f : Field) : Nat × Nat × Nat := (f.offset, f.type, ((P.info? f.type).map (·.size)).getD 0)
def zfj (P : Program) (f : Field) : Nat × Nat := (f.offset, ((P.info? f.type).map (·.size)).getD 0)
theorem zol {P : Program} {t : TypeId} {ti : TI} (h : zhd P t = some ti) (hok : ti.fok = true) :
    ∃ fs, P.underlying t = some (.struct fs) ∧ ti.fields = fs.toList.map (zzl P) ∧ ∀ f ∈ fs.toList, (P.info? f.type).isSome = true := by
  obtain ⟨i, d, hi, hd, rfl⟩ := zt h
  cases d with
  | struct fs => exact ⟨fs, hd, rfl, List.all_eq_true.1 hok⟩
  | _ => simp at hok
theorem zwc {t : TypeId} {ps : Array (Nat × Operand)} (hX : X.ok) (ho : o.op = .build t ps)
    (h : (match lkT X.tt t with
    | some ti => isT ti.hz <| isT ti.fok <| zwj ti.fields (ps.toList.map fun p => (p.1, zk fr p.2)) ti.zero fun cs => K (.agg cs) .no .no
    | none => False)) : Got X o fr σ K KP := by
  split at h
  · rename_i ti ht
    obtain ⟨hz, h⟩ := zf h
    obtain ⟨hok, h⟩ := zf h
    obtain ⟨cs', hK, hf⟩ := znm _ _ h
    clear h
    obtain ⟨fs, hd, hfs, hall⟩ := zol (hX t ti ht) hok
    refine .inl ⟨_, _, _, hK, zo fun {M F own fr1 σ1 a w} _ hop => ?_⟩
    obtain ⟨z, z1, z2, z3, _⟩ := za9 (hX t ti ht) hz
    obtain ⟨vs', e1, e2, e3⟩ := hf (M := M) (F := F) a.eval z.cells (fun p hp => hop p.2 (by simp [ho, Op.operands]; exact ⟨p.1, by simpa using hp⟩)) (by rw [z2]; simp) (by rw [z2]; exact ze5 _)
    refine ⟨.agg vs', ?_, .agg vs' cs' e2 e3⟩
    have hp : (fs.mapM (fun (f : Field) => (do pure (f.offset, ← sizeOf f.type) : Sem (Nat × Nat)))).run X.P w = .ok (fs.map (zfj X.P)) w := by
      rw [Array.mapM_eq_mapM_toList, Sem.run_map, zqn (h := zfj X.P)]
      · rw [Result.andThen_ok, ← Array.toList_map, Array.toArray_toList]
      · intro f hf
        have h1 := hall f hf
        cases hq : X.P.info? f.type with
        | none => simp [hq] at h1
        | some j => simp [sizeOf, typeInfo, hq, zfj]
    have hpl : (fun i => (ti.fields[i]?).map fun f => (f.1, f.2.2)) = (fun (i : Nat) => (fs.map (zfj X.P))[i]?) := by
      funext i
      rw [hfs, List.getElem?_map, Option.map_map, Array.getElem?_map, Array.getElem?_toList]
      rfl
    rw [hpl] at e1
    simp only [Array.getElem?_map] at e1
    simp only [execOp, ho, Instr.build, Sem.run_bind, z1, Result.andThen_ok, run_underlying hd, hp]
    simp [e1]
  · exact h.elim
theorem wh {g : Bool} : ∀ (l : List CV) {K : List CV → Prop}, vh g l K → ∃ l', K l' ∧ CV.strips g l = some l'
  | [], K, h => ⟨[], h, rfl⟩
  | x :: r, K, h => by
    rw [zp0] at h
    split at h
    · rename_i x' hx
      obtain ⟨r', h1, h2⟩ := wh r h
      exact ⟨x' :: r', h1, by simp [CV.strips, hx, h2]⟩
    · exact h.elim
structure RowRep (M : Mem) (vs : Array Value) (sz : Nat) (xs : List CV) : Prop where
  size : vs.size = xs.length * sz
  len : ∀ (i : Nat) (x : CV), xs[i]? = some x → x.cells.length = sz
  rep : ∀ (i : Nat) (x : CV) (j : Nat) c, xs[i]? = some x → x.cells[j]? = some c → Rep M FM.no (vs.getD (i * sz + j) undef) c
theorem zz {i n sz : Nat} (h : i < n) : i * sz + sz ≤ n * sz := by
  calc i * sz + sz = (i + 1) * sz := by rw [Nat.add_mul]; omega
    _ ≤ n * sz := Nat.mul_le_mul_right _ (by omega)
theorem RowRep.set {vs : Array Value} {sz : Nat} {xs : List CV} {i : Nat} {x : CV} {ns : List Value} (h : RowRep M vs sz xs) (hi : i < xs.length) (hl : x.cells.length = sz) (hn : ns.length = sz)
    (hr : ∀ (j : Nat) c, x.cells[j]? = some c → Rep M FM.no (ns.getD j undef) c) :
    RowRep M (vs.toList.take (i * sz) ++ ns ++ vs.toList.drop (i * sz + ns.length)).toArray sz (xs.set i x) := by
  have hin := zz (sz := sz) hi
  have hsz := h.size
  refine ⟨by simp; omega, fun k y hy => ?_, fun k y j c hy hc => ?_⟩
  · rw [List.getElem?_set] at hy
    split at hy
    · first
        | (cases hy; exact hl)
        | (split at hy <;> first | (cases hy; exact hl) | cases hy)
    · exact h.len k y hy
  · have e : ∀ l : List Value, l.toArray.getD (k * sz + j) undef = l.getD (k * sz + j) undef := fun l => by simp [Array.getD_eq_getD_getElem?]
    rw [e]
    have hto : (vs.toList.take (i * sz)).length = i * sz := by simp; omega
    rw [List.getElem?_set] at hy
    by_cases hik : i = k
    · subst hik
      have hy' : x = y := by simpa [hi] using hy
      subst hy'
      have hj : j < sz := by rw [← hl]; exact (List.getElem?_eq_some_iff.1 hc).1
      rw [List.getD_eq_getElem?_getD, List.append_assoc, List.getElem?_append_right (by omega), hto, show i * sz + j - i * sz = j by omega, List.getElem?_append_left (by omega)]
      simpa [List.getD_eq_getElem?_getD] using hr j c hc
    · rw [if_neg hik] at hy
      have hj : j < sz := by rw [← h.len k y hy]; exact (List.getElem?_eq_some_iff.1 hc).1
      rw [List.getD_eq_getElem?_getD]
      by_cases hlt2 : k < i
      · have := zz (sz := sz) hlt2
        rw [List.append_assoc, List.getElem?_append_left (by omega), List.getElem?_take_of_lt (by omega)]
        simpa [Array.getD_eq_getD_getElem?] using h.rep k y j c hy hc
      · have := zz (sz := sz) (show i < k by omega)
        rw [List.append_assoc, List.getElem?_append_right (by omega), hto, List.getElem?_append_right (by omega), List.getElem?_drop, hn]
        rw [show i * sz + sz + (k * sz + j - i * sz - sz) = k * sz + j by omega]
        simpa [Array.getD_eq_getD_getElem?] using h.rep k y j c hy hc
theorem kp {P : Program} {t : TypeId} {te : TI} (h : zhd P t = some te) (hl : (wd te).cells.length = te.size) (hz : te.hz = true) : (wd te).cells = te.zero := by
  obtain ⟨z, z1, z2, z3, _⟩ := za9 h hz
  have hlz : te.zero.length = te.size := by rw [z2]; simp [z3]
  have hof : ∀ c ∈ te.zero, CV.cells c = [c] := by
    intro c hc
    rw [z2] at hc
    obtain ⟨v, _, rfl⟩ := List.mem_map.1 hc
    unfold zqz; split <;> rfl
  cases ha : te.isAgg with
  | true => simp [wd, ha, CV.cells]
  | false =>
    simp only [wd, ha] at hl ⊢
    cases hq : te.zero with
    | nil =>
      simp only [hq] at hl hlz
      simp [CV.cells] at hl
      simp at hlz; omega
    | cons c r =>
      cases r with
      | nil => exact hof c (by rw [hq]; simp)
      | cons c' r' =>
        simp only [hq] at hl hlz
        simp [CV.cells] at hl
        simp at hlz; omega
theorem zc3 {te : TI} {z : Value} (n : Nat) (z2 : te.zero = z.cells.toList.map zqz) (z3 : z.cells.size = te.size) (hc : (wd te).cells = te.zero) (h1 : 1 ≤ te.size) :
    RowRep M (madeCells z.cells (n * te.size)) te.size (List.replicate n (wd te)) := by
  have hlen : (wd te).cells.length = te.size := by rw [hc, z2]; simp [z3]
  have hrep : ∀ (i : Nat) x, (List.replicate n (wd te))[i]? = some x → i < n ∧ x = wd te := fun i x hx => by
    rw [List.getElem?_replicate] at hx
    split at hx
    · cases hx; exact ⟨‹_›, rfl⟩
    · cases hx
  refine ⟨by simp [madeCells], fun i x hx => ?_, fun i x j c hx hcc => ?_⟩
  · obtain ⟨_, rfl⟩ := hrep i x hx; exact hlen
  · obtain ⟨hi, rfl⟩ := hrep i x hx
    have hj : j < te.size := by rw [← hlen]; exact (List.getElem?_eq_some_iff.1 hcc).1
    have hlt := zz (sz := te.size) hi
    have hk : i * te.size + j < n * te.size := by omega
    have hm : (i * te.size + j) % z.cells.size = j := by rw [z3, Nat.add_comm, Nat.add_mul_mod_self_right, Nat.mod_eq_of_lt hj]
    have e : (madeCells z.cells (n * te.size)).getD (i * te.size + j) undef = z.cells.getD j undef := by
      have hj' : j < z.cells.size := by omega
      simp [madeCells, Array.getD_eq_getD_getElem?, hk, hm, hj']
    rw [e]
    rw [hc, z2] at hcc
    exact ze5 z.cells j c hcc
theorem znn {sz : Nat} {op : Operand → CV} : ∀ (ps : List (Nat × Operand)) (xs : List CV) {K : List CV → Prop}, zwk sz (ps.map fun p => (p.1, op p.2)) xs K →
    ∃ xs', K xs' ∧ xs'.length = xs.length ∧ ∀ {M : Mem} {F : FM} (ev : Operand → Value) (vs : Array Value), (∀ p ∈ ps, Rep M F (ev p.2) (op p.2)) → RowRep M vs sz xs →
      ∃ vs', Instr.fill (fun i => some (i * sz, sz)) vs (ps.map fun p => (p.1, ev p.2)) = some vs' ∧ RowRep M vs' sz xs'
  | [], xs, K, h => ⟨xs, h, rfl, fun ev vs _ hr => ⟨vs, rfl, hr⟩⟩
  | (i, x) :: ps, xs, K, h => by
    simp only [List.map_cons, ztf] at h
    split at h
    · rename_i v' hs
      obtain ⟨h1, h⟩ := zw h
      obtain ⟨h2, h⟩ := zw h
      obtain ⟨h3, h⟩ := zf h
      obtain ⟨h4, h⟩ := zf h
      obtain ⟨h5, h⟩ := vz h
      rw [kz] at h
      obtain ⟨xs', hK, hlen, hrest⟩ := znn ps _ h
      refine ⟨xs', hK, by simpa using hlen, fun {M F} ev vs hp hr => ?_⟩
      have hrx := hp (i, x) (by simp)
      obtain ⟨k1, k2⟩ := jt hrx h3
      obtain ⟨j1, j2⟩ := jt (xi hrx hs) h4
      have hsz : (ev x).cells.size = sz := by simp only at k1; omega
      have hr' := hr.set (i := i) (x := v') (ns := (ev x).cells.toList) (by omega) h2 (by simp [hsz]) (fun j c hc => by
        have := (j2 j c hc).1
        simpa [Array.getD_eq_getD_getElem?, List.getD_eq_getElem?_getD] using this)
      obtain ⟨vs', e1, e2⟩ := hrest ev _ (fun p hp' => hp p (by simp [hp'])) hr'
      refine ⟨vs', ?_, e2⟩
      have hin := zz (sz := sz) (show i < xs.length by omega)
      have := hr.size
      simp only [List.map_cons, Instr.fill]
      rw [if_neg (by simp [hsz]; omega), znl _ _ _ (by omega)]
      exact e1
    · exact h.elim
def Mem.add (M : Mem) (b n : Nat) (vs : Array Value) : Mem := fun b' o => if b' = b then (if o < n then vs[o]? else none) else M b' o
theorem zhp {vs : Array Value} {sz b cap : Nat} {xs : List CV} {M' : Mem} (h : RowRep M vs sz xs) (hM : Mem.le M M') (hb : ∀ o, o < xs.length * sz → M' b o = vs[o]?) (hc : xs.length ≤ cap) :
    Rep M' F (.slice (some ⟨b, 0, none⟩) xs.length cap) (.vec xs) := by
  refine .vec sz b 0 xs.length cap xs (fun i j => vs.getD (i * sz + j) undef) rfl hc h.len (fun i x j c hx hcc => ?_) (fun i x j c hx hcc => (h.rep i x j c hx hcc).mono hM (FM.le.refl _))
  have hi := (List.getElem?_eq_some_iff.1 hx).1
  have hj : j < sz := by rw [← h.len i x hx]; exact (List.getElem?_eq_some_iff.1 hcc).1
  have hin := zz (sz := sz) hi
  have hlt : i * sz + j < vs.size := by rw [h.size]; omega
  rw [Nat.zero_add, hb _ (by omega)]
  simp [Array.getD_eq_getD_getElem?, hlt]
theorem zhc {w' : World} {M' : Mem} (hR : Rg M own σ w) (t : Own) (fo : FO) (o : Obj) (hb : fo.block = some w.heap.size) (hw : w'.heap = w.heap.push o) (h1 : w'.os = w.os) (h2 : w'.tape = w.tape) (h3 : w'.output = w.output)
    (hM : ∀ b, b ≠ w.heap.size → ∀ o, M' b o = M b o) (hm : ∀ o v, M' w.heap.size o = some v → w'.cell? ⟨w.heap.size, o, none⟩ = some v) : Touch M own w t fo M' w' := by
  have hold : ∀ b, b < w.heap.size → w'.heap[b]? = w.heap[b]? := fun b h => by rw [hw, Array.getElem?_push, if_neg (Nat.ne_of_lt h)]
  refine ⟨by rw [hw]; simp, h1, h2, h3, fun b hb _ => ⟨hold b hb, hM b (Nat.ne_of_lt hb)⟩, fun b o v h => ?_, fun b o v _ h => ?_, fun b h => ?_⟩
  · have hlt := World.block_lt_of_cell? w _ (hR.mem _ _ _ h)
    rw [hM b (Nat.ne_of_lt hlt)]; exact h
  · by_cases hbb : b = w.heap.size
    · subst hbb; exact hm o v h
    · rw [hM b hbb] at h
      have hlt := World.block_lt_of_cell? w _ (hR.mem _ _ _ h)
      rw [yv (hold b hlt)]; exact hR.mem _ _ _ h
  · rw [hb] at h; cases h; exact ⟨.inr (Nat.le_refl _), by rw [hw]; simp⟩
theorem R.newTok {w' : World} {vs : Array Value} {e : TypeId} {sz cap d : Nat} {xs : List CV} (hR : R M F own fr σ a w) (hd : F d = none ∨ ∃ s n, F d = some (.tok s n sz) ∧ n < xs.length)
    (hw : w'.heap = w.heap.push (.cells vs e (0, 0))) (h1 : w'.os = w.os) (h2 : w'.tape = w.tape) (h3 : w'.output = w.output) (hsz : vs.size = cap * sz) (hc : xs.length ≤ cap)
    (hr : RowRep M (vs.extract 0 (xs.length * sz)) sz xs) {fr' : Fr} (hfr : fr'.n = fr.n ∧ fr'.env = fr.env ∧ ∀ x, z6 fr'.locs x = if d = x then some (.tok e sz xs.length) else z6 fr.locs x) :
    ∃ M' F' own', R M' F' own' fr' σ a w' ∧ KExt M own w M' own' w' ∧ FM.le F F' ∧ Rep M' F' (.slice (some ⟨w.heap.size, 0, none⟩) xs.length cap) (.avec d xs) := by
  let M' := Mem.add M w.heap.size (xs.length * sz) vs
  have hnew : w'.heap[w.heap.size]? = some (.cells vs e (0, 0)) := by rw [hw]; simp
  have hT : Touch M own w (.f d) (.tok (some (w.heap.size, cap)) xs.length sz) M' w' := by
    refine zhc hR.toRg _ _ _ rfl hw h1 h2 h3 (fun b hb o => by simp [M', Mem.add, hb]) (fun o v h => ?_)
    simp only [M', Mem.add, if_true] at h
    split at h
    · simp [World.cell?, hnew, h]
    · cases h
  have hle : xs.length * sz ≤ vs.size := by rw [hsz]; exact Nat.mul_le_mul_right _ hc
  have hob : ObRep M' (zfv F d (.tok (some (w.heap.size, cap)) xs.length sz)) w' (.tok (some (w.heap.size, cap)) xs.length sz) (.tok e sz xs.length) := by
    refine ⟨rfl, rfl, vs, hnew, hsz, hc, fun o ho => by simp [M', Mem.add, ho], fun o ho => ?_⟩
    have : ¬ o < xs.length * sz := by omega
    simp [M', Mem.add, this]
  obtain ⟨t1, t2, t3⟩ := hR.touch (fr' := fr') d _ _ hT (fun fo0 e0 => by
    rcases hd with hd | ⟨s, n, hd, hn⟩
    · rw [hd] at e0; cases e0
    · rw [hd] at e0; cases e0; exact .tok _ _ _ _ _ hn) hob hfr
  refine ⟨M', _, _, t1, t2, t3, .avec d xs (some (w.heap.size, cap)) xs.length sz (zhp hr hT.at_ (fun o ho => ?_) hc) (by simp [zfv]) hr.len (Nat.le_refl _) (fun _ => rfl)⟩
  simp only [M', Mem.add, if_true, if_pos ho]
  rw [Array.getElem?_extract, if_pos (by simp; omega)]
  simp
theorem zg7 {det : Bool} {t : TypeId} {len : Nat} {ps : Array (Nat × Operand)} (hX : X.ok) (ho : o.op = .buildSlice t len ps)
    (h : (match lkT X.tt t with
    | some ti => match lkT X.tt ti.elem with
      | some te => isT ti.sl <| isT te.hz <| leN 1 te.size <| leN (len * te.size) 16777216 <| eqN (wd te).cells.length te.size <|
          zwk te.size (ps.toList.map fun p => (p.1, zk fr p.2)) (List.replicate len (wd te)) fun xs => match zx0 X o.dst with
            | true => leN 0 0 <| AllocN det σ fun l => K (.grow l len len) .no (.ext (upd σ l (.arr ti.elem te.size len xs)))
            | false => zg8 fr o.dst fun d => K (.avec d xs) (.new d (.tok ti.elem te.size len)) .no
      | none => False
    | none => False)) : Got X o fr σ K KP ∨ (det = false ∧ TriN X o fr σ K KP) := by
  split at h
  · rename_i ti ht
    split at h
    · rename_i te hte
      obtain ⟨hsl, h⟩ := zf h
      obtain ⟨hz, h⟩ := zf h
      obtain ⟨h1, h⟩ := vz h
      obtain ⟨h24, h⟩ := vz h
      obtain ⟨hzl, h⟩ := zw h
      obtain ⟨xs, h, hxl, hf⟩ := znn _ _ h
      have hxl' : xs.length = len := by simpa using hxl
      subst hxl'
      have hu := vv (hX t ti ht) hsl
      obtain ⟨z, z1, z2, z3, _⟩ := za9 (hX _ te hte) hz
      have hzc := kp (hX _ te hte) hzl hz
      have h24' : ¬ 16777216 < xs.length * te.size := by omega
      have hexec : ∀ (a : Act) (w : World) (vs' : Array Value), Instr.fill (fun i => some (i * te.size, te.size)) (madeCells z.cells (xs.length * te.size)) (ps.toList.map fun p => (p.1, a.eval p.2)) = some vs' →
          (execOp a.eval o).run X.P w = .ok (.value (.slice (some ⟨w.heap.size, 0, none⟩) xs.length xs.length)) (w.alloc (.cells vs' ti.elem)) := by
        intro a w vs' e1
        by_cases h0 : xs.length * te.size = 0
        · have hx0 : xs.length = 0 := by
            rcases Nat.mul_eq_zero.1 h0 with h | h
            · exact h
            · omega
          have e1' : Instr.fill (fun i => some (i * te.size, te.size)) #[] (ps.toList.map fun p => (p.1, a.eval p.2)) = some vs' := by
            rw [← e1, hx0]; simp [madeCells, show Array.range 0 = #[] from rfl]
          simp [execOp, ho, Instr.buildSlice, run_underlying hu, we (hX _ te hte), hx0, e1', newRow, show Array.range 0 = #[] from rfl]
        · have e1' : Instr.fill (fun i => some (i * te.size, te.size)) ((Array.range (xs.length * te.size)).map fun x => z.cells[x % z.cells.size]!) (ps.toList.map fun p => (p.1, a.eval p.2)) = some vs' := e1
          have hne : ¬ (xs.length = 0 ∨ te.size = 0) := by rw [← Nat.mul_eq_zero]; exact h0
          simp [execOp, ho, Instr.buildSlice, run_underlying hu, we (hX _ te hte), h24', h0, hne, z1, e1', newRow]
      split at h
      · obtain ⟨_, h⟩ := vz h
        refine .inr ⟨h.d, ?_⟩
        intro M F own fr1 σ1 a w hR _ hops hσ next Q hnx _
        subst hσ
        obtain ⟨vs', e1, e2⟩ := hf (M := M) (F := F) a.eval _ (fun p hp => by rw [← hops p.2 (by simp [ho, Op.operands]; exact ⟨p.1, by simpa using hp⟩)]; exact zd hR p.2)
          (zc3 xs.length z2 z3 hzc h1)
        have hob : ObRep M FM.no (w.alloc (.cells vs' ti.elem)) (.row w.heap.size xs.length xs.length) (.arr ti.elem te.size xs.length xs) :=
          ⟨rfl, rfl, vs', heap_alloc_new w _, e2.size, Nat.le_refl _, e2.len, e2.rep, R.new_at hR.toRg⟩
        obtain ⟨t1, t2⟩ := hR.touchG w.heap.size (.row w.heap.size xs.length xs.length) _ (zaa hR.toRg _ _ (.cells vs' ti.elem) rfl) rfl hob
        exact xg (hexec a w vs' e1) (hnx _ _ _ _ _ _ _ _ (.inr ⟨rfl, (Sub.refl _).upd hR.freshL⟩) (h.h _ hR.freshL) t1 (.grow _ _ _) t2 (FM.le.refl _))
      · left
        obtain ⟨d, hd, hl, h⟩ := zdm h
        refine .inl ⟨_, _, _, h, ?_⟩
        refine ⟨fun _ e => (by cases e), ?_⟩
        intro M F own fr1 σ1 a w hR hn hops hloc _ next Q hk
        obtain ⟨vs', e1, e2⟩ := hf (M := M) (F := F) a.eval _ (fun p hp => by rw [← hops p.2 (by simp [ho, Op.operands]; exact ⟨p.1, by simpa using hp⟩)]; exact zd hR p.2)
          (zc3 xs.length z2 z3 hzc h1)
        have hno : F d = none := hR.dom d (by rw [hloc d rfl]; exact hl)
        obtain ⟨M', F', own', r1, r2, r3, r4⟩ := hR.newTok (w' := w.alloc (.cells vs' ti.elem)) (vs := vs') (e := ti.elem) (sz := te.size) (cap := xs.length) (d := d) (xs := xs) (.inl hno) rfl rfl rfl rfl e2.size (Nat.le_refl _)
          (by rw [← e2.size]; simpa using e2) (fr' := fr1.app (.new d (.tok ti.elem te.size xs.length))) ⟨rfl, rfl, fun x => wg _ _ _ _⟩
        exact xg (hexec a w vs' e1) (hk _ M' F' own' _ r1 r4 r2 r3)
    · exact h.elim
  · exact h.elim
end
section
variable {X : Ctx} {o : Oper} {fr : Fr} {σ : Heap} {K : CV → LE → HE → Prop} {KP : CV → Heap → Prop}
variable {M : Mem} {F : FM} {own : Owns} {a : Act} {w : World}
theorem zug {v : Value} {xs : List CV} {l h : Nat} {sz : Nat} (hr : Rep M F v (.vec xs)) (hlh : l ≤ h) (hh : h ≤ xs.length) (hsz : l = 0 ∨ ∀ x ∈ xs, x.cells.length = sz) :
    ∃ ad cap, v = .slice ad xs.length cap ∧ xs.length ≤ cap ∧ Rep M F (.slice (if cap = l then ad else ad.map (·.add (l * sz))) (h - l) (cap - l)) (.vec ((xs.take h).drop l)) := by
  cases hr with
  | nilvec =>
    have h0 : h = 0 := by simpa using hh
    have l0 : l = 0 := by omega
    subst h0; subst l0
    exact ⟨none, 0, rfl, Nat.le_refl _, by simpa using Rep.nilvec⟩
  | vec sz' b off n cap _ vs hn hc hs hm hr =>
    subst hn
    refine ⟨_, cap, rfl, hc, ?_⟩
    by_cases hcl : cap = l
    · have e : (xs.take h).drop l = [] := by apply List.drop_eq_nil_of_le; simp; omega
      have hl0 : h - l = 0 := by omega
      rw [if_pos hcl, e, hl0]
      exact .vec 0 b off 0 (cap - l) [] (fun _ _ => undef) rfl (Nat.zero_le _) (by simp) (by simp) (by simp)
    · rw [if_neg hcl]
      have hlen : ((xs.take h).drop l).length = h - l := by simp; omega
      have hget : ∀ (i : Nat) x, ((xs.take h).drop l)[i]? = some x → xs[l + i]? = some x := by
        intro i x hx
        rw [List.getElem?_drop, List.getElem?_take] at hx
        split at hx
        · exact hx
        · cases hx
      have hoff : ∀ (i : Nat) x, ((xs.take h).drop l)[i]? = some x → off + l * sz = off + l * sz' := by
        intro i x hx
        rcases hsz with rfl | hall
        · simp
        · have hx' := hget i x hx
          rw [← hs _ _ hx', ← hall x (List.mem_of_getElem? hx')]
      simp only [Option.map_some, qs]
      refine .vec sz' b (off + l * sz) (h - l) (cap - l) _ (fun i j => vs (l + i) j) hlen.symm (by omega) (fun i x hx => hs _ _ (hget i x hx)) (fun i x j c hx hcc => ?_) (fun i x j c hx hcc => hr _ x j c (hget i x hx) hcc)
      rw [hoff i x hx]
      have := hm (l + i) x j c (hget i x hx) hcc
      rw [show off + l * sz' + i * sz' + j = off + (l + i) * sz' + j by rw [Nat.add_mul]; omega]
      exact this
theorem zv8 {x : Operand} (ho : o.op = .panic x)
    (h : (match CV.strip true (zk fr x) with
    | some (.iface t v) => KP (.iface t v) σ
    | _ => False)) : Got X o fr σ K KP := by
  split at h
  · rename_i t v hs
    refine .inr ⟨_, _, h, ?_⟩
    intro M F own fr1 σ1 a w hR _ hops hσ next Q hp
    subst hσ
    have hx : Rep M F (a.eval x) (zk fr x) := by rw [← hops x (by simp [ho, Op.operands])]; exact zd hR x
    have hx' := xi hx hs
    generalize hv : a.eval x = u at hx'
    cases hx' with
    | iface _ u' _ hr =>
      unfold Oper.wp
      have : (execOp a.eval o).run X.P w = .halt (.panic (.iface t u')) w := by
        simp [execOp, ho, hv, Instr.panic]
      rw [this]
      exact hp ⟨.iface t u', false, false⟩ M own w hR rfl rfl (.iface t u' v hr) (KExt.refl _ _ _)
  · exact h.elim
theorem R.after {M' : Mem} {own' : Owns} {σ' : Heap} {w' : World} (hR : R M F own fr σ a w)
    (hg : Rg M' own' σ' w') (hk : KExt M (fun b => match own b with | some (.g l) => some (.g l) | _ => none) w M' own' w') :
    ∃ own'', R M' F own'' fr σ' a w' ∧ KExt M own w M' own'' w' := by
  let own'' : Owns := fun b => match own b with
    | some (.f d) => if b < w.heap.size then some (.f d) else own' b
    | _ => own' b
  have hf : ∀ b d, own b = some (.f d) → b < w.heap.size → w'.heap[b]? = w.heap[b]? ∧ own' b = none ∧ ∀ o, M' b o = M b o := fun b d h hlt => hk.keep b hlt (by simp [h])
  refine ⟨own'', ⟨⟨hg.mem, fun l ob hl => ?_, fun b hb => ?_⟩, hR.size, fun t => (hR.env t).mono hk.mem (FM.le.refl _), fun d ob hd => ?_, hR.dom⟩, ?_⟩
  · obtain ⟨h1, fo, h2, h3⟩ := hg.glob l ob hl
    refine ⟨?_, fo, h2, h3⟩
    simp only [own'']
    split
    · rename_i d hd
      split
      · rename_i hlt
        have := (hf l d hd hlt).2.1
        rw [h1] at this; cases this
      · exact h1
    · exact h1
  · have h1 := hg.fresh b hb
    have : own b = none := hR.fresh b (Nat.le_trans hk.size hb)
    simp [own'', this, h1]
  · obtain ⟨fo, h1, h2, h3⟩ := hR.locs d ob hd
    refine ⟨fo, h1, h2.keep hk.mem (FM.le.refl _) fun b hb hlt => ?_, fun b hb => ?_⟩
    · obtain ⟨k1, _, k3⟩ := hf b d (h3 b hb) hlt
      exact ⟨k1, k3⟩
    · simp [own'', h3 b hb, h2.lt b hb]
  · refine ⟨hk.mem, hk.size, hk.os, hk.tape, hk.output, fun b hb ho => ?_⟩
    obtain ⟨k1, k2, k3⟩ := hk.keep b hb (by simp [ho])
    exact ⟨k1, by simp [own'', ho, k2], k3⟩
theorem Rg.only (hR : Rg M own σ w) : Rg M (fun b => match own b with | some (.g l) => some (.g l) | _ => none) σ w :=
  ⟨hR.mem, fun l ob hl => by
    obtain ⟨h1, h2⟩ := hR.glob l ob hl
    exact ⟨by simp [h1], h2⟩, fun b hb => by simp [hR.fresh b hb]⟩
theorem js {P : Program} {f : FuncId} (hc : Callable P f) (args : Array Value) (w : World) : (callFunc f args).run P w = .ok (.enter f args) w := by
  obtain ⟨fn, h1, h2, h3⟩ := hc.ex
  have h3' : ¬ fn.name = "runtime.NumGoroutine" := by simpa using h3
  cases hb : fn.body with
  | none => simp [hb] at h2
  | some c => simp [callFunc, h1, h3', hb]
theorem zgp {f : FuncId} {as : List CV} {post : COut → Prop} (hc : CRun X.P f as σ post) {vals : Array Value}
    (hR : R M F own fr σ a w) (hs : vals.size = as.length) (hr : ∀ (i : Nat) c, as[i]? = some c → Rep M FM.no (vals.getD i undef) c)
    (hrun : (execOp a.eval o).run X.P w = .ok (.enter f vals) w) {next : Act → World → Prop} {Q : Exit → Act → World → Prop}
    (hret : ∀ v c σ' M' own' w', post (.ret c σ') → R M' F own' fr σ' a w' → Rep M' FM.no v c → KExt M own w M' own' w' → next (a.put o.dst v) w')
    (hpan : ∀ (p : PanicEntry) c σ' M' own' w', post (.pan c σ') → R M' F own' fr σ' a w' → p.recovered = false → p.goexit = false → Rep M' FM.no p.v c → KExt M own w M' own' w' → Q (.panic [p]) a w') :
    o.wp X.P a w next Q := by
  unfold Oper.wp
  rw [hrun, Oper.upon_enter]
  refine (hc.2 M _ w vals hR.toRg.only hs hr).mono fun e w' ho => ?_
  obtain ⟨out, M', own', hp, hk, hm⟩ := ho
  split at hm
  · rename_i v σ' u
    obtain ⟨own'', k1, k2⟩ := hR.after hm.2 hk
    exact hret _ _ _ _ _ _ hp k1 hm.1 k2
  · rename_i v σ' p
    obtain ⟨own'', k1, k2⟩ := hR.after hm.2.2.2 hk
    exact hpan _ _ _ _ _ _ hp k1 hm.1 hm.2.1 hm.2.2.1 k2
  · exact hm.elim
def zxs (X : Ctx) (o : Oper) (fr : Fr) (f : FuncId) (as : List CV) : Prop :=
  ∀ {M : Mem} {F : FM} {own : Owns} {fr1 : Fr} {σ1 : Heap} {a : Act} {w : World}, R M F own fr1 σ1 a w → (∀ x ∈ o.op.operands.toList, zk fr1 x = zk fr x) → Callable X.P f →
    ∃ vals, (execOp a.eval o).run X.P w = .ok (.enter f vals) w ∧ vals.size = as.length ∧ ∀ (i : Nat) c, as[i]? = some c → Rep M FM.no (vals.getD i undef) c
theorem zkw {det : Bool} {f : FuncId} {raw as : List CV} (hrun : ∀ as', as' = as ∨ CV.strips0 raw = some as' → zxs X o fr f as')
    (h : CallN det X.P f raw as σ fun out => match out with
        | .ret v σ' => ExtN σ σ' fun he => K v .no he
        | .pan v σ' => KP v σ') : Got X o fr σ K KP ∨ (det = false ∧ TriN X o fr σ K KP) := by
  obtain ⟨as', post, has, hc, hd, hk⟩ := h.h
  have hrun : zxs X o fr f as' := hrun as' has
  cases det with
  | false =>
    right
    refine ⟨rfl, ?_⟩
    intro M F own fr1 σ1 a w hR _ hops hσ next Q hn hp
    subst hσ
    obtain ⟨vals, h1, h2, h3⟩ := hrun hR hops hc.1
    refine zgp hc hR h2 h3 h1 (fun v c σ' M' own' w' hpost hR' hr hk' => ?_) (fun p c σ' M' own' w' hpost hR' e1 e2 hr hk' => ?_)
    · rcases (hk _ hpost : ExtN σ1 σ' fun he => K c .no he).h with ⟨e1, e2⟩ | e2 | e2
      · exact hn v c σ' (.ext σ') M' F own' w' (.inr ⟨rfl, e1⟩) e2 hR' (hr.mono (Mem.le.refl _) (FM.no_le F)) hk' (FM.le.refl _)
      · exact hn v c σ' (.wr σ') M' F own' w' (.inl (.inl rfl)) e2 hR' (hr.mono (Mem.le.refl _) (FM.no_le F)) hk' (FM.le.refl _)
      · exact hn v c σ' (.wrk σ') M' F own' w' (.inl (.inr rfl)) e2 hR' (hr.mono (Mem.le.refl _) (FM.no_le F)) hk' (FM.le.refl _)
    · exact hp p c σ' M' own' w' (hk _ hpost) hR' e1 e2 hr hk'
  | true =>
    left
    obtain ⟨out, hpo, hone⟩ := hd rfl
    have hK := hk out hpo
    cases out with
    | ret c σ' =>
      obtain ⟨he, hNew, hK⟩ : ∃ he, z7z σ σ' he ∧ K c .no he := by
        rcases (hK : ExtN σ σ' fun he => K c .no he).h with ⟨e1, e2⟩ | e2 | e2
        · exact ⟨.ext σ', .inr ⟨rfl, e1⟩, e2⟩
        · exact ⟨.wr σ', .inl (.inl rfl), e2⟩
        · exact ⟨.wrk σ', .inl (.inr rfl), e2⟩
      refine .inl ⟨c, .no, he, hK, fun τ e => ?_, ?_⟩
      · rcases hNew with (rfl | rfl) | ⟨rfl, h⟩
        · cases e
        · cases e
        · cases e; exact h
      intro M F own fr1 σ1 a w hR _ hops _ hσ next Q hn
      have hσ : σ1 = σ := by rcases hNew with (rfl | rfl) | ⟨rfl, _⟩ <;> exact hσ
      subst hσ
      have hap : he.app σ1 = σ' := by rcases hNew with (rfl | rfl) | ⟨rfl, _⟩ <;> rfl
      obtain ⟨vals, h1, h2, h3⟩ := hrun hR hops hc.1
      refine zgp hc hR h2 h3 h1 (fun v c' σ'' M' own' w' hpost hR' hr hk' => ?_) (fun p c' σ'' M' own' w' hpost _ _ _ _ _ => ?_)
      · have := hone _ hpost
        cases this
        exact hn v M' F own' w' (by rw [hap]; exact hR') (hr.mono (Mem.le.refl _) (FM.no_le F)) hk' (FM.le.refl _)
      · have := hone _ hpost
        cases this
    | pan c σ' =>
      refine .inr ⟨c, σ', hK, ?_⟩
      intro M F own fr1 σ1 a w hR _ hops hσ next Q hp
      subst hσ
      obtain ⟨vals, h1, h2, h3⟩ := hrun hR hops hc.1
      refine zgp hc hR h2 h3 h1 (fun v c' σ'' M' own' w' hpost _ _ _ => ?_) (fun p c' σ'' M' own' w' hpost hR' e1 e2 hr hk' => ?_)
      · have := hone _ hpost
        cases this
      · have := hone _ hpost
        cases this
        exact hp p M' own' w' hR' e1 e2 hr hk'
theorem vd {vs us : Array Value} {cs ds : List CV} (h1 : vs.size = cs.length) (h2 : ∀ (i : Nat) c, cs[i]? = some c → Rep M F (vs.getD i undef) c)
    (h3 : us.size = ds.length) (h4 : ∀ (i : Nat) c, ds[i]? = some c → Rep M F (us.getD i undef) c) :
    (vs ++ us).size = (cs ++ ds).length ∧ ∀ (i : Nat) c, (cs ++ ds)[i]? = some c → Rep M F ((vs ++ us).getD i undef) c := by
  refine ⟨by simp [h1, h3], fun i c hc => ?_⟩
  by_cases hi : i < cs.length
  · rw [List.getElem?_append_left hi] at hc
    have := h2 i c hc
    rw [Array.getD_eq_getD_getElem?, Array.getElem?_append_left (by omega), ← Array.getD_eq_getD_getElem?]; exact this
  · rw [List.getElem?_append_right (by omega)] at hc
    have := h4 _ c hc
    rw [Array.getD_eq_getD_getElem?, Array.getElem?_append_right (by omega), ← Array.getD_eq_getD_getElem?, h1]; exact this
theorem zki {det : Bool} {c : Call} {f : Operand} (ho : o.op = .call c) (hf : c.callee = .value f)
    (h : (match zk fr f with
      | .fn (.func id) first caps => vh true (first ++ c.args.toList.map (zk fr) ++ caps) fun as => CallN det X.P id (first ++ c.args.toList.map (zk fr) ++ caps) as σ fun out => match out with
        | .ret v σ' => ExtN σ σ' fun he => K v .no he
        | .pan v σ' => KP v σ'
      | .opq v => vh true (c.args.toList.map (zk fr)) fun as => CallVN det X.P v as σ fun out => match out with
        | .ret v σ' => ExtN σ σ' fun he => K v .no he
        | .pan v σ' => KP v σ'
      | _ => False)) : Got X o fr σ K KP ∨ (det = false ∧ TriN X o fr σ K KP) := by
  have hmf : f ∈ o.op.operands.toList := by simp [ho, Op.operands, Call.operands, hf]
  have hma : ∀ x ∈ c.args.toList, x ∈ o.op.operands.toList := fun x hx => by simp [ho, Op.operands, Call.operands, hf]; right; simpa using hx
  split at h
  · rename_i id first caps hfn
    obtain ⟨as, h, hs⟩ := wh _ h
    refine zkw (f := id) (as := as) ?_ h
    intro as' has M F own fr1 σ1 a w hR hops hcal
    have hrf : Rep M F (a.eval f) (.fn (.func id) first caps) := by rw [← hfn, ← hops f hmf]; exact zd hR f
    generalize hv : a.eval f = vf at hrf
    cases hrf with
    | fn _ vs us _ _ s1 r1 s2 r2 =>
      have ra := zdz (M := M) (F := F) (os := c.args) (ev := a.eval) (op := zk fr) (fun x hx => by rw [← hops x (hma x hx)]; exact zd hR x)
      obtain ⟨p1, p2⟩ := vd s1 r1 (us := c.args.map a.eval) (ds := c.args.toList.map (zk fr)) (by simp) ra
      obtain ⟨q1, q2⟩ := vd p1 p2 s2 r2
      obtain ⟨k1, k2⟩ : (first ++ c.args.toList.map (zk fr) ++ caps).length = as'.length ∧ ∀ (vs : Array Value), (∀ (i : Nat) x, (first ++ c.args.toList.map (zk fr) ++ caps)[i]? = some x → Rep M F (vs.getD i undef) x) → ∀ (i : Nat) x, as'[i]? = some x → Rep M FM.no (vs.getD i undef) x := by
        rcases has with rfl | has
        · exact zv (M := M) (F := F) hs
        · exact xh (M := M) (F := F) has
      refine ⟨vs ++ c.args.map a.eval ++ us, ?_, q1.trans k1, k2 _ q2⟩
      simp only [execOp, ho, resolve, hf, Deferred.ofValue, hv, invoke, Sem.run_bind, Sem.run_pure, Result.andThen_ok]
      exact js hcal _ w
  · rename_i vc hfn
    obtain ⟨as, h, hs⟩ := wh _ h
    obtain ⟨id, first, caps, first', caps', rfl, hs1, hs2, h⟩ := h.h
    refine zkw (f := id) (as := first' ++ as ++ caps') ?_ h
    intro as'' has M F own fr1 σ1 a w hR hops hcal
    have hrf : Rep M F (a.eval f) (.opq (.fn (.func id) first caps)) := by rw [← hfn, ← hops f hmf]; exact zd hR f
    generalize hv : a.eval f = vf at hrf
    cases hrf with
    | opq _ _ _ hrf =>
      cases hrf with
      | fn _ vs us _ _ s1 r1 s2 r2 =>
        have ra := zdz (M := M) (F := F) (os := c.args) (ev := a.eval) (op := zk fr) (fun x hx => by rw [← hops x (hma x hx)]; exact zd hR x)
        obtain ⟨k1, k2⟩ := zv (M := M) (F := F) hs
        obtain ⟨j1, j2⟩ := zv (M := M) (F := FM.no) hs1
        obtain ⟨l1, l2⟩ := zv (M := M) (F := FM.no) hs2
        have ra' := k2 (c.args.map a.eval) ra
        have r1' := j2 vs r1
        have r2' := l2 us r2
        obtain ⟨p1, p2⟩ := vd (s1.trans j1) r1' (us := c.args.map a.eval) (ds := as) (by simp [← k1]) ra'
        obtain ⟨q1, q2⟩ := vd p1 p2 (s2.trans l1) r2'
        obtain ⟨z1, z2⟩ : (first' ++ as ++ caps').length = as''.length ∧ ∀ (i : Nat) x, as''[i]? = some x → Rep M FM.no ((vs ++ c.args.map a.eval ++ us).getD i undef) x := by
          rcases has with rfl | has
          · exact ⟨rfl, q2⟩
          · obtain ⟨y1, y2⟩ := xh (M := M) (F := FM.no) has
            exact ⟨y1, y2 _ q2⟩
        refine ⟨vs ++ c.args.map a.eval ++ us, ?_, q1.trans z1, z2⟩
        simp only [execOp, ho, resolve, hf, Deferred.ofValue, hv, invoke, Sem.run_bind, Sem.run_pure, Result.andThen_ok]
        exact js hcal _ w
  · exact h.elim
theorem zs9 {det : Bool} {c : Call} {r : Operand} {name : String} (ho : o.op = .call c) (hf : c.callee = .invoke r name)
    (h : (match zk fr r with
      | .iface t v => vh true (v :: c.args.toList.map (zk fr)) fun as => MethN X.P t name fun id => CallN det X.P id as as σ fun out => match out with
        | .ret v σ' => ExtN σ σ' fun he => K v .no he
        | .pan v σ' => KP v σ'
      | _ => False)) : Got X o fr σ K KP ∨ (det = false ∧ TriN X o fr σ K KP) := by
  split at h
  · rename_i t v hfn
    obtain ⟨as, h, hs⟩ := wh _ h
    obtain ⟨id, hm, h⟩ := h.h
    refine zkw (f := id) (as := as) ?_ h
    intro as' has M F own fr1 σ1 a w hR hops hcal
    have hmf : r ∈ o.op.operands.toList := by simp [ho, Op.operands, Call.operands, hf]
    have hma : ∀ x ∈ c.args.toList, x ∈ o.op.operands.toList := fun x hx => by simp [ho, Op.operands, Call.operands, hf]; right; simpa using hx
    have hrf : Rep M F (a.eval r) (.iface t v) := by rw [← hfn, ← hops r hmf]; exact zd hR r
    generalize hv : a.eval r = vf at hrf
    cases hrf with
    | iface _ u _ hru =>
      have ra := zdz (M := M) (F := F) (os := c.args) (ev := a.eval) (op := zk fr) (fun x hx => by rw [← hops x (hma x hx)]; exact zd hR x)
      obtain ⟨p1, p2⟩ := vd (vs := #[u]) (cs := [v]) rfl (fun i c hc => by
        cases i with
        | zero => simp at hc; subst hc; simpa using hru
        | succ i => simp at hc) (us := c.args.map a.eval) (ds := c.args.toList.map (zk fr)) (by simp) ra
      obtain ⟨k1, k2⟩ := zv (M := M) (F := F) hs
      obtain ⟨z1, z2⟩ : as.length = as'.length ∧ ∀ (i : Nat) x, as'[i]? = some x → Rep M FM.no ((#[u] ++ c.args.map a.eval).getD i undef) x := by
        rcases has with rfl | has
        · exact ⟨rfl, k2 _ p2⟩
        · obtain ⟨y1, y2⟩ := xh (M := M) (F := FM.no) has
          exact ⟨y1, y2 _ (k2 _ p2)⟩
      refine ⟨#[u] ++ c.args.map a.eval, ?_, (p1.trans k1).trans z1, z2⟩
      have hm' := hm u w
      have e0 : (#[Value.iface t u] ++ c.args.map a.eval)[0]? = some (.iface t u) := by
        rw [Array.getElem?_append_left (by simp)]; rfl
      have e1 : (#[Value.iface t u] ++ c.args.map a.eval).extract 1 (#[Value.iface t u] ++ c.args.map a.eval).size = c.args.map a.eval := by
        exact Array.ext (by simp) (fun i h1 h2 => by simp)
      simp only [execOp, ho, resolve, hf, hv, invoke, Sem.run_bind, Sem.run_pure, Result.andThen_ok, e0, e1, callMethod, run_program, hm']
      exact js hcal _ w
  · exact h.elim
theorem zg5 {x : Operand} {xt t : TypeId} {ok : Bool} (hX : X.ok)
    (h : (match lkT X.tt t with
    | some ti => isT ti.conc <| match zk fr x with
      | .iface u v => match Nat.beq u t with
        | true => match ok with
          | true => K (.tup [v, .sc (.bool true)]) .no .no
          | false => K v .no .no
        | false => isT ok <| isT ti.hz <| eqN (wd ti).cells.length ti.size <| K (.tup [wd ti, .sc (.bool false)]) .no .no
      | _ => False
    | none => False)) (ho : o.op = .typeAssert x xt t ok) : Got X o fr σ K KP := by
  split at h
  · rename_i ti ht
    obtain ⟨hc, hA⟩ := zf h
    clear h
    have hd : ∃ d, X.P.underlying t = some d ∧ ∀ ms, d ≠ .interface ms := by
      obtain ⟨i, d, hi, hd, rfl⟩ := zt (hX t ti ht)
      refine ⟨d, hd, fun ms e => ?_⟩
      subst e; simp at hc
    obtain ⟨d, hd, hni⟩ := hd
    split at hA
    · rename_i u v hfn
      have hmx : x ∈ o.op.operands.toList := by simp [ho, Op.operands]
      split at hA
      · rename_i hut
        have hut := Nat.eq_of_beq_eq_true hut
        subst hut
        cases ok with
        | true =>
          refine .inl ⟨_, _, _, hA, zo fun {M F own fr1 σ1 a w} _ hop => ?_⟩
          have hx := hop x hmx
          rw [hfn] at hx
          generalize hv : a.eval x = vx at hx
          cases hx with
          | iface _ y _ hr =>
            refine ⟨.tuple #[y, .bool true], ?_, .tup _ _ rfl fun i c hc => ?_⟩
            · cases d <;> first | (exact absurd rfl (hni _)) | simp [execOp, ho, hv, Instr.typeAssert, run_underlying hd]
            · cases i with
              | zero => simp at hc; subst hc; simpa using hr
              | succ i =>
                cases i with
                | zero => simp at hc; subst hc; exact .sc _
                | succ i => simp at hc
        | false =>
          refine .inl ⟨_, _, _, hA, zo fun {M F own fr1 σ1 a w} _ hop => ?_⟩
          have hx := hop x hmx
          rw [hfn] at hx
          generalize hv : a.eval x = vx at hx
          cases hx with
          | iface _ y _ hr =>
            refine ⟨y, ?_, hr⟩
            cases d <;> first | (exact absurd rfl (hni _)) | simp [execOp, ho, hv, Instr.typeAssert, run_underlying hd]
      · rename_i hut
        have hut : ¬ u = t := fun e => by subst e; simp at hut
        obtain ⟨hok, hA2⟩ := zf hA
        obtain ⟨hz, hB⟩ := zf hA2
        obtain ⟨hzl, hC⟩ := zw hB
        subst hok
        obtain ⟨z, z1, z2, z3, z4⟩ := za9 (hX t ti ht) hz
        have hzc := kp (hX t ti ht) hzl hz
        refine .inl ⟨_, _, _, hC, zo fun {M F own fr1 σ1 a w} _ hop => ?_⟩
        have hx := hop x hmx
        rw [hfn] at hx
        generalize hv : a.eval x = vx at hx
        cases hx with
        | iface _ y _ hr =>
          refine ⟨.tuple #[z, .bool false], ?_, .tup _ _ rfl fun i c hc => ?_⟩
          · cases d <;> first | (exact absurd rfl (hni _)) | simp [execOp, ho, hv, Instr.typeAssert, run_underlying hd, hut, z1]
          · cases i with
            | zero =>
              simp at hc; subst hc
              simpa using zuf z2 z4
            | succ i =>
              cases i with
              | zero => simp at hc; subst hc; exact .sc _
              | succ i => simp at hc
    · exact hA.elim
  · exact h.elim
end
section
variable {X : Ctx} {o : Oper} {fr : Fr} {σ : Heap} {K : CV → LE → HE → Prop} {KP : CV → Heap → Prop}
variable {M : Mem} {F : FM} {own : Owns} {a : Act} {w : World}
theorem jy {c : Option Operand} {op : Operand → CV} {dflt : Int} {k : Int → Prop} (h : kj (c.map op) dflt k) :
    ∃ n, k n ∧ ((c = none ∧ n = dflt) ∨ ∃ x kd, c = some x ∧ op x = .sc (.int kd n)) := by
  unfold kj at h
  cases c with
  | none => exact ⟨dflt, h, .inl ⟨rfl, rfl⟩⟩
  | some x =>
    simp only [Option.map_some] at h
    split at h
    · rename_i e; cases e
    · rename_i kd n e; exact ⟨n, h, .inr ⟨x, kd, rfl, by simpa using e⟩⟩
    · exact h.elim
theorem zbw {P : Program} {isS : Bool} {len cap : Nat} {lo hi : Option Value} {l h : Int} (h0 : 0 ≤ l) (h1 : l ≤ h) (h2 : h ≤ len) (h3 : len ≤ cap)
    (hl : (lo = none ∧ l = 0) ∨ ∃ k, lo = some (.int k l)) (hh : (hi = none ∧ h = len) ∨ ∃ k, hi = some (.int k h)) :
    (Instr.sliceBounds isS len cap lo hi none).run P w = .ok (l.toNat, h.toNat, cap) w := by
  have hb : ∀ (k : IntKind) (n : Int) (y : Nat) (code : BoundsCode), 0 ≤ n → n ≤ y → (Instr.sliceBound (.int k n) y code).run P w = .ok n.toNat w := fun k n y code e1 e2 => by
    simp [Instr.sliceBound, asIntOf, e1, e2]
  have eh : (h.toNat : Int) = h := Int.toNat_of_nonneg (by omega)
  have el : l ≤ (h.toNat : Int) := by omega
  have ec : h ≤ (cap : Int) := by omega
  have e0 : 0 ≤ h := by omega
  rcases hl with ⟨rfl, rfl⟩ | ⟨k, rfl⟩ <;> rcases hh with ⟨rfl, rfl⟩ | ⟨k', rfl⟩ <;> simp [Instr.sliceBounds, hb, *]
  all_goals (first | (rw [hb _ _ _ _ h0 (by omega)]; simp) | skip)
theorem zv7 {t : TypeId} {x : Operand} {lo hi mx : Option Operand} (hX : X.ok)
    (h : (match mx, lkT X.tt t with
    | some _, _ => False
    | none, none => False
    | none, some ti =>
      match zk fr x with
      | .sc (.string s) => isT ti.str <| kj (lo.map (zk fr)) 0 fun l => kj (hi.map (zk fr)) s.size fun h =>
          Need (0 ≤ l ∧ l ≤ h ∧ h ≤ s.size) (K (.sc (.string (s.extract l.toNat h.toNat))) .no .no)
      | .vec xs => isT ti.sl <| match lkT X.tt ti.elem with
        | none => False
        | some te => kj (lo.map (zk fr)) 0 fun l => kj (hi.map (zk fr)) xs.length fun h =>
          Need (0 ≤ l ∧ l ≤ h ∧ h ≤ xs.length ∧ (l = 0 ∨ ∀ x ∈ xs, x.cells.length = te.size)) (K (.vec ((xs.take h.toNat).drop l.toNat)) .no .no)
      | .avec _ xs => isT ti.sl <| match lkT X.tt ti.elem with
        | none => False
        | some te => kj (lo.map (zk fr)) 0 fun l => kj (hi.map (zk fr)) xs.length fun h =>
          Need (0 ≤ l ∧ l ≤ h ∧ h ≤ xs.length ∧ (l = 0 ∨ ∀ x ∈ xs, x.cells.length = te.size)) (K (.vec ((xs.take h.toNat).drop l.toNat)) .no .no)
      | .grow b n c => isT ti.sl <| match lkT X.tt ti.elem with
        | none => False
        | some _ => kj (lo.map (zk fr)) 0 fun l => kj (hi.map (zk fr)) n fun h =>
          Need (l = 0 ∧ 0 ≤ h ∧ h ≤ n ∧ n ≤ c) (K (.grow b h.toNat c) .no .no)
      | .nil => isT ti.sl <| match lkT X.tt ti.elem with
        | none => False
        | some _ => kj (lo.map (zk fr)) 0 fun l => kj (hi.map (zk fr)) 0 fun h => Need (l = 0 ∧ h = 0) (K .nil .no .no)
      | _ => False)) (ho : o.op = .slice t x lo hi mx) : Got X o fr σ K KP := by
  cases mx with
  | some m => exact h.elim
  | none =>
    have hmx : x ∈ o.op.operands.toList := by simp [ho, Op.operands]
    have hml : ∀ y, lo = some y → y ∈ o.op.operands.toList := fun y e => by subst e; simp [ho, Op.operands]
    have hmh : ∀ y, hi = some y → y ∈ o.op.operands.toList := fun y e => by subst e; simp [ho, Op.operands]
    have hbv : ∀ {M : Mem} {F : FM} {a : Act} {c : Option Operand} {n dflt : Int}, (∀ x ∈ o.op.operands.toList, Rep M F (a.eval x) (zk fr x)) → (∀ y, c = some y → y ∈ o.op.operands.toList) →
        ((c = none ∧ n = dflt) ∨ ∃ x kd, c = some x ∧ zk fr x = .sc (.int kd n)) → (c.map a.eval = none ∧ n = dflt) ∨ ∃ k, c.map a.eval = some (.int k n) := by
      intro M F a c n dflt hop hmem hc
      rcases hc with ⟨rfl, rfl⟩ | ⟨y, kd, rfl, e⟩
      · exact .inl ⟨rfl, rfl⟩
      · right
        have := hop y (hmem y rfl)
        rw [e] at this
        generalize hv : a.eval y = v at this
        cases this
        exact ⟨kd, by simp [hv]⟩
    cases ht : lkT X.tt t with
    | none => simp only [ht] at h
    | some ti =>
      simp only [ht] at h
      have key : ∀ xs : List CV, (∀ {M : Mem} {F : FM} {v : Value}, Rep M F v (zk fr x) → Rep M F v (.vec xs)) →
          (isT ti.sl <| match lkT X.tt ti.elem with
            | none => False
            | some te => kj (lo.map (zk fr)) 0 fun l => kj (hi.map (zk fr)) xs.length fun h =>
              Need (0 ≤ l ∧ l ≤ h ∧ h ≤ xs.length ∧ (l = 0 ∨ ∀ x ∈ xs, x.cells.length = te.size)) (K (.vec ((xs.take h.toNat).drop l.toNat)) .no .no)) → Got X o fr σ K KP := by
        intro xs hxs h
        obtain ⟨hsl, h⟩ := zf h
        split at h
        · exact h.elim
        · rename_i te hte
          have hu := vv (hX t ti ht) hsl
          obtain ⟨l, h, hlc⟩ := jy h
          obtain ⟨hh, h, hhc⟩ := jy h
          obtain ⟨c1, c2, c3, c4⟩ := h.c
          refine .inl ⟨_, _, _, h.t, zo fun {M F own fr1 σ1 a w} _ hop => ?_⟩
          obtain ⟨ad, cap, e1, e2, e3⟩ := zug (l := l.toNat) (h := hh.toNat) (sz := te.size) (hxs (hop x hmx)) (by omega) (by omega) (by
            rcases c4 with rfl | c4
            · exact .inl rfl
            · exact .inr c4)
          refine ⟨_, ?_, e3⟩
          have hb := zbw (P := X.P) (w := w) (isS := true) (len := xs.length) (cap := cap) c1 c2 c3 e2 (hbv hop hml hlc) (hbv hop hmh hhc)
          simp only [execOp, ho, Option.map_none]
          simp [Instr.sliceAt, run_underlying hu, e1, Instr.slice, hb, we (hX _ te hte)]
      split at h
      · rename_i s hs
        obtain ⟨hstr, h⟩ := zf h
        obtain ⟨l, h, hlc⟩ := jy h
        obtain ⟨hh, h, hhc⟩ := jy h
        obtain ⟨c1, c2, c3⟩ := h.c
        refine .inl ⟨_, _, _, h.t, zo fun {M F own fr1 σ1 a w} _ hop => ⟨_, ?_, .sc _⟩⟩
        have hx := hop x hmx
        rw [hs] at hx
        generalize hv : a.eval x = v at hx
        cases hx
        have hu : X.P.underlying t = some .string := by
          obtain ⟨i, d, hi, hd, rfl⟩ := zt (hX t ti ht)
          cases d <;> first | exact hd | simp at hstr
        have hb := zbw (P := X.P) (w := w) (isS := false) (len := s.size) (cap := s.size) c1 c2 c3 (Nat.le_refl _) (hbv hop hml hlc) (hbv hop hmh hhc)
        simp only [execOp, ho, Option.map_none]
        simp [Instr.sliceAt, run_underlying hu, hv, Instr.slice, hb]
      · rename_i xs hs
        exact key xs (fun hr => by rw [hs] at hr; exact hr) h
      · rename_i d xs hs
        exact key xs (fun hr => by rw [hs] at hr; cases hr; assumption) h
      · rename_i b n cp hs
        obtain ⟨hsl, h⟩ := zf h
        split at h
        · exact h.elim
        · rename_i te hte
          have hu := vv (hX t ti ht) hsl
          obtain ⟨l, h, hlc⟩ := jy h
          obtain ⟨hh, h, hhc⟩ := jy h
          obtain ⟨c1, c2, c3, c4⟩ := h.c
          subst c1
          refine .inl ⟨_, _, _, h.t, zo fun {M F own fr1 σ1 a w} _ hop => ⟨_, ?_, .grow b hh.toNat cp⟩⟩
          have hx := hop x hmx
          rw [hs] at hx
          generalize hv : a.eval x = v at hx
          cases hx
          have hb := zbw (P := X.P) (w := w) (isS := true) (len := n) (cap := cp) (Int.le_refl 0) c2 (by omega) c4 (hbv hop hml hlc) (hbv hop hmh hhc)
          simp only [execOp, ho, Option.map_none]
          simp [Instr.sliceAt, run_underlying hu, hv, Instr.slice, hb, we (hX _ te hte), Addr.add]
      · rename_i hs
        obtain ⟨hsl, h⟩ := zf h
        split at h
        · exact h.elim
        · rename_i te hte
          have hu := vv (hX t ti ht) hsl
          obtain ⟨l, h, hlc⟩ := jy h
          obtain ⟨hh, h, hhc⟩ := jy h
          obtain ⟨c1, c2⟩ := h.c
          subst c1; subst c2
          refine .inl ⟨_, _, _, h.t, zo fun {M F own fr1 σ1 a w} _ hop => ⟨_, ?_, .nil⟩⟩
          have hx := hop x hmx
          rw [hs] at hx
          generalize hv : a.eval x = v at hx
          cases hx
          have hb := zbw (P := X.P) (w := w) (isS := true) (len := 0) (cap := 0) (Int.le_refl 0) (Int.le_refl 0) (by omega) (Nat.le_refl 0) (hbv hop hml hlc) (hbv hop hmh hhc)
          simp only [execOp, ho, Option.map_none]
          simp [Instr.sliceAt, run_underlying hu, hv, Instr.slice, hb, we (hX _ te hte)]
      · exact h.elim
theorem zx7 {t : TypeId} (hX : X.ok) (h : u8T X t = true) : X.P.underlying t = some (.int .u8) := by
  unfold u8T at h
  split at h
  · rename_i te hte
    obtain ⟨i2, d2, _, hu2, e2⟩ := zt (hX t te hte)
    split at h
    · rename_i hk
      subst e2
      cases d2 <;> first | (simp at hk; done) | (simp at hk; rw [hu2, hk])
    · cases h
  · cases h
theorem zh8 {src dst : TypeId} {x : Operand} {ts td : TI} {ns : List Int} (hX : X.ok) (ho : o.op = .convert src dst x) (hs : lkT X.tt src = some ts) (hd : lkT X.tt dst = some td) (hsl : ts.sl = true) (hstr : td.str = true) (hu8 : u8T X ts.elem = true)
    (hr : ∀ {M : Mem} {F : FM} {v : Value}, Rep M F v (zk fr x) → Rep M F v (.vec (ns.map fun n => .sc (.int .u8 n)))) (h : K (.sc (.string (z1a ns))) .no .no) : Got X o fr σ K KP := by
  have hu1 := vv (hX src ts hs) hsl
  have hu3 := zx7 hX hu8
  have hu2 : X.P.underlying dst = some .string := by
    obtain ⟨i2, d2, _, hu2, e2⟩ := zt (hX dst td hd)
    subst e2
    cases d2 <;> first | exact hu2 | (simp at hstr; done)
  refine .inl ⟨_, _, _, h, zo fun {M F own fr1 σ1 a w} hR hop => ⟨_, ?_, .sc _⟩⟩
  have h1 := hr (hop x (by simp [ho, Op.operands]))
  generalize hv : a.eval x = v at h1
  generalize hys : (ns.map fun n => CV.sc (.int .u8 n)) = ys at h1
  have key : ∀ (ad : Option Addr) (l c : Nat), v = .slice ad l c → (Conv.bytesToString (.slice ad l c)).run X.P w = .ok (.string (z1a ns)) w → (execOp a.eval o).run X.P w = .ok (.value (.string (z1a ns))) w := by
    intro ad l c e hb
    subst e
    have := run_convert_bytes_string (P := X.P) w src dst ts.elem ad l c hu1 hu3 hu2
    simp [execOp, ho, hv, this, hb]
  cases h1 with
  | nilvec =>
    cases ns with
    | nil => exact key _ _ _ rfl (by simp [Conv.bytesToString, z1a])
    | cons _ _ => simp at hys
  | vec sz b off n cap _ vs hn hc hz hm hrr =>
    refine key _ _ _ rfl ?_
    have hl : n = (ns.map (Value.int .u8)).length := by rw [hn, ← hys]; simp
    refine run_bytesToString w _ n cap ns ?_
    rw [hl]
    refine run_loadCells_list (P := X.P) (w := w) ⟨b, off, none⟩ (ns.map (Value.int .u8)) fun j u hu => ?_
    rw [List.getElem?_map] at hu
    cases hj : ns[j]? with
    | none => rw [hj] at hu; cases hu
    | some m =>
      rw [hj] at hu; cases hu
      have hx : ys[j]? = some (CV.sc (.int .u8 m)) := by rw [← hys, List.getElem?_map, hj]; rfl
      have h2 := hm j _ 0 (CV.sc (.int .u8 m)) hx rfl
      have h3 := hrr j _ 0 (CV.sc (.int .u8 m)) hx rfl
      have h4 := hz j _ hx
      have h5 : sz = 1 := h4.symm
      subst h5
      generalize vs j 0 = u at h2 h3
      cases h3
      have := hR.mem b _ _ h2
      by_cases h0 : j = 0
      · subst h0; simpa [Addr.add] using this
      · simpa [Addr.add, h0] using this
theorem zpp {src dst : TypeId} {x : Operand} (hX : X.ok) (ho : o.op = .convert src dst x)
    (h : (match lkT X.tt src, lkT X.tt dst with
    | some ts, some td => match zk fr x with
      | .sc (.int _ n) => match td.ik with
        | some k => Need (inR k n) (K (.sc (.int k n)) .no .no)
        | none => False
      | .sc (.string s) => isT td.str (K (.sc (.string s)) .no .no)
      | .vec xs => isT ts.sl <| isT td.str <| isT (u8T X ts.elem) <| u8s xs fun ns => K (.sc (.string (z1a ns))) .no .no
      | .avec _ xs => isT ts.sl <| isT td.str <| isT (u8T X ts.elem) <| u8s xs fun ns => K (.sc (.string (z1a ns))) .no .no
      | _ => False
    | _, _ => False)) : Got X o fr σ K KP := by
  split at h
  · rename_i ts td hs hd
    obtain ⟨i1, d1, _, hu1, _⟩ := zt (hX src ts hs)
    obtain ⟨i2, d2, _, hu2, e2⟩ := zt (hX dst td hd)
    split at h
    · rename_i k n hx
      split at h
      · rename_i k' hk
        refine .inl ⟨_, _, _, h.t, zo fun {M F own fr1 σ1 a w} _ hop => ⟨_, ?_, .sc _⟩⟩
        have h1 := hop x (by simp [ho, Op.operands])
        rw [hx] at h1
        generalize hv : a.eval x = v at h1
        cases h1
        have e : d2 = .int k' := by
          subst e2
          cases d2 <;> first | (simp at hk; done) | (simp at hk; rw [hk])
        subst e
        have := zao h.c
        cases d1 <;> simp [execOp, ho, hv, convert, run_underlying hu1, run_underlying hu2, Conv.intToInt, this]
      · exact h.elim
    · rename_i s hx
      obtain ⟨hstr, h⟩ := zf h
      refine .inl ⟨_, _, _, h, zo fun {M F own fr1 σ1 a w} _ hop => ⟨_, ?_, .sc _⟩⟩
      have h1 := hop x (by simp [ho, Op.operands])
      rw [hx] at h1
      generalize hv : a.eval x = v at h1
      cases h1
      have e : d2 = .string := by
        subst e2
        cases d2 <;> first | rfl | (simp at hstr; done)
      subst e
      cases d1 <;> simp [execOp, ho, hv, convert, run_underlying hu1, run_underlying hu2]
    · rename_i xs hx
      obtain ⟨hsl, h⟩ := zf h
      obtain ⟨hstr, h⟩ := zf h
      obtain ⟨hu8, h⟩ := zf h
      obtain ⟨ns, rfl, h'⟩ := zog h
      exact zh8 hX ho hs hd hsl hstr hu8 (fun hr => by rwa [hx] at hr) h'
    · rename_i d xs hx
      obtain ⟨hsl, h⟩ := zf h
      obtain ⟨hstr, h⟩ := zf h
      obtain ⟨hu8, h⟩ := zf h
      obtain ⟨ns, rfl, h'⟩ := zog h
      exact zh8 hX ho hs hd hsl hstr hu8 (fun hr => by rw [hx] at hr; cases hr; assumption) h'
    · exact h.elim
  · exact h.elim
end
section
variable {X : Ctx} {o : Oper} {fr : Fr} {σ : Heap} {K : CV → LE → HE → Prop} {KP : CV → Heap → Prop}
variable {M : Mem} {F : FM} {own : Owns} {a : Act} {w : World}
theorem zig {P : Program} {t : TypeId} {te : TI} (h : zhd P t = some te) (hz : te.hz = true) :
    ∃ i z, P.info? t = some i ∧ i.size = te.size ∧ i.bytes = te.bytes ∧ i.zero = some z ∧ te.zero = z.cells.toList.map zqz ∧ z.cells.size = te.size := by
  obtain ⟨i, d, hi, hd, rfl⟩ := zt h
  cases hzz : i.zero with
  | none => simp [hzz] at hz
  | some z =>
    simp only [hzz] at hz
    exact ⟨i, z, hi, rfl, rfl, hzz, rfl, (zic hz).1⟩
theorem zfr {c c' : CV} (hs : CV.strip true c = some c') (hl : c.cells.length = c'.cells.length) {vs : Nat → Value} (h : ∀ (j : Nat) x, c.cells[j]? = some x → Rep M F (vs j) x) :
    ∀ (j : Nat) x, c'.cells[j]? = some x → Rep M FM.no (vs j) x := by
  have single : (∀ cs, c ≠ .agg cs) → (∀ cs, c' ≠ .agg cs) → ∀ (j : Nat) x, c'.cells[j]? = some x → Rep M FM.no (vs j) x := by
    intro h1 h2
    have hc : c.cells = [c] := by cases c <;> first | rfl | exact absurd rfl (h1 _)
    have hc' : c'.cells = [c'] := by cases c' <;> first | rfl | exact absurd rfl (h2 _)
    intro j x hx
    rw [hc'] at hx
    cases j with
    | zero =>
      simp at hx; subst hx
      exact xi (h 0 c (by rw [hc]; rfl)) hs
    | succ j => simp at hx
  cases c with
  | agg cs =>
    simp only [CV.strip, Option.map_eq_some_iff] at hs
    obtain ⟨cs', hs, rfl⟩ := hs
    obtain ⟨k1, k2⟩ := zv (M := M) (F := F) hs
    intro j x hx
    have hj : j < cs'.length := (List.getElem?_eq_some_iff.1 hx).1
    have := k2 ((List.range cs'.length).map vs).toArray (fun i c hc => by
      have hi : i < cs'.length := by rw [← k1]; exact (List.getElem?_eq_some_iff.1 hc).1
      have := h i c hc
      simpa [Array.getD_eq_getD_getElem?, hi] using this) j x hx
    simpa [Array.getD_eq_getD_getElem?, hj] using this
  | iface t x =>
    refine single (by intro cs e; cases e) ?_
    simp only [CV.strip, Option.map_eq_some_iff] at hs
    obtain ⟨_, _, rfl⟩ := hs
    intro cs e; cases e
  | tup x =>
    refine single (by intro cs e; cases e) ?_
    simp only [CV.strip, Option.map_eq_some_iff] at hs
    obtain ⟨_, _, rfl⟩ := hs
    intro cs e; cases e
  | fn f p q =>
    refine single (by intro cs e; cases e) ?_
    simp only [CV.strip] at hs
    split at hs
    · cases hs; intro cs e; cases e
    · cases hs
  | ptr o off => refine single (by intro cs e; cases e) ?_; cases o <;> simp [CV.strip] at hs; subst hs; intro cs e; cases e
  | eptr o sz i off => refine single (by intro cs e; cases e) ?_; cases o <;> simp [CV.strip] at hs; subst hs; intro cs e; cases e
  | _ => refine single (by intro cs e; cases e) ?_; simp [CV.strip] at hs; try (subst hs; intro cs e; cases e)
theorem zkf {det : Bool} {t : TypeId} {l c : Operand} (hX : X.ok) (ho : o.op = .makeSlice t l c)
    (h : (match lkT X.tt t with
    | some ti => match lkT X.tt ti.elem with
      | some te => isT ti.sl <| isT te.hz <| leN 1 te.size <| eqN (wd te).cells.length te.size <| match zk fr l, zk fr c with
        | .sc (.int _ n), .sc (.int _ m) => Need (0 ≤ n ∧ n ≤ m ∧ te.bytes * m ≤ 140737488355328 ∧ m ≤ 9223372036854775807) <|
            match zx0 X o.dst with
            | true => match CV.strip true (wd te) with
              | some z => eqN z.cells.length te.size <| AllocN det σ fun l => K (.grow l n.toNat m.toNat) .no (.ext (upd σ l (.arr ti.elem te.size m.toNat (List.replicate n.toNat z))))
              | none => False
            | false => zg8 fr o.dst fun d => K (.row d) (.new d (.rows te.size (List.replicate n.toNat (wd te)))) .no
        | _, _ => False
      | none => False
    | none => False)) : Got X o fr σ K KP ∨ (det = false ∧ TriN X o fr σ K KP) := by
  split at h
  · rename_i ti ht
    split at h
    · rename_i te hte
      obtain ⟨hsl, h⟩ := zf h
      obtain ⟨hz, h⟩ := zf h
      obtain ⟨h1, h⟩ := vz h
      obtain ⟨hzl, h⟩ := zw h
      split at h
      · rename_i k n k' m hl hc
        obtain ⟨c1, c2, c3, c4⟩ := h.c
        have h := h.t
        split at h
        · split at h
          · rename_i z' hzs
            obtain ⟨hzl', h⟩ := zw h
            refine .inr ⟨h.d, ?_⟩
            intro M F own fr1 σ1 a w hR _ hops hσ next Q hnx _
            subst hσ
            obtain ⟨i, z, e1, e2, e3, e4, z2, z3⟩ := zig (hX _ te hte) hz
            have hu := vv (hX t ti ht) hsl
            have hzc := kp (hX _ te hte) hzl hz
            have hrl : Rep M F (a.eval l) (.sc (.int k n)) := by rw [← hl, ← hops l (by simp [ho, Op.operands])]; exact zd hR l
            have hrc : Rep M F (a.eval c) (.sc (.int k' m)) := by rw [← hc, ← hops c (by simp [ho, Op.operands])]; exact zd hR c
            generalize hvl : a.eval l = vl at hrl
            generalize hvc : a.eval c = vc at hrc
            cases hrl; cases hrc
            have hrun := run_make (P := X.P) w t ti.elem i z hu e1 e4 k k' n m c1 c2 (by rw [e3]; omega) c4
            have hrow := zc3 (M := M) (te := te) m.toNat z2 z3 hzc h1
            have hob : ObRep M FM.no (w.alloc (.cells (madeCells z.cells (m.toNat * i.size)) ti.elem)) (.row w.heap.size n.toNat m.toNat) (.arr ti.elem te.size m.toNat (List.replicate n.toNat z')) := by
              refine ⟨rfl, by simp, _, heap_alloc_new w _, by simp [madeCells, e2], by omega, fun i' x hx => ?_, fun i' x j c' hx hcc => ?_, R.new_at hR.toRg⟩
              · rw [List.getElem?_replicate] at hx
                split at hx
                · cases hx; exact hzl'
                · cases hx
              · rw [List.getElem?_replicate] at hx
                split at hx
                · cases hx
                  rename_i hlt
                  refine zfr (F := FM.no) hzs (by rw [hzl, hzl']) (vs := fun j => (madeCells z.cells (m.toNat * i.size)).getD (i' * te.size + j) undef) (fun j c hc => ?_) j c' hcc
                  have := hrow.rep i' (wd te) j c (by rw [List.getElem?_replicate, if_pos (by omega)]) hc
                  rw [e2]; exact this
                · cases hx
            obtain ⟨t1, t2⟩ := hR.touchG w.heap.size (.row w.heap.size n.toNat m.toNat) _ (zaa hR.toRg _ _ (.cells (madeCells z.cells (m.toNat * i.size)) ti.elem) rfl) rfl hob
            refine xg ?_ (hnx _ _ _ _ _ _ _ _ (.inr ⟨rfl, (Sub.refl _).upd hR.freshL⟩) (h.h _ hR.freshL) t1 (.grow _ _ _) t2 (FM.le.refl _))
            simp [execOp, ho, hvl, hvc, hrun]
          · exact h.elim
        obtain ⟨d, hd, hlo, h⟩ := zdm h
        refine .inl (.inl ⟨_, _, _, h, ?_⟩)
        refine ⟨fun _ e => (by cases e), ?_⟩
        intro M F own fr1 σ1 a w hR hn hops hloc _ next Q hk
        obtain ⟨i, z, e1, e2, e3, e4, z2, z3⟩ := zig (hX _ te hte) hz
        have hu := vv (hX t ti ht) hsl
        have hzc := kp (hX _ te hte) hzl hz
        have hrl : Rep M F (a.eval l) (.sc (.int k n)) := by rw [← hl, ← hops l (by simp [ho, Op.operands])]; exact zd hR l
        have hrc : Rep M F (a.eval c) (.sc (.int k' m)) := by rw [← hc, ← hops c (by simp [ho, Op.operands])]; exact zd hR c
        generalize hvl : a.eval l = vl at hrl
        generalize hvc : a.eval c = vc at hrc
        cases hrl; cases hrc
        have hrun := run_make (P := X.P) w t ti.elem i z hu e1 e4 k k' n m c1 c2 (by rw [e3]; omega) c4
        have hno : F d = none := hR.dom d (by rw [hloc d rfl]; exact hlo)
        have hrow := zc3 (M := M) (te := te) m.toNat z2 z3 hzc h1
        have hob : ObRep M (zfv F d (.row w.heap.size n.toNat m.toNat)) (w.alloc (.cells (madeCells z.cells (m.toNat * i.size)) ti.elem)) (.row w.heap.size n.toNat m.toNat) (.rows te.size (List.replicate n.toNat (wd te))) := by
          refine ⟨ti.elem, _, heap_alloc_new w _, by simp [madeCells, e2], by simp, by omega, fun i' x hx => ?_, fun i' x j c' hx hcc => ?_, R.new_at hR.toRg⟩
          · rw [List.getElem?_replicate] at hx
            split at hx
            · cases hx; exact hzl
            · cases hx
          · rw [List.getElem?_replicate] at hx
            split at hx
            · cases hx
              rename_i hlt
              have := hrow.rep i' (wd te) j c' (by rw [List.getElem?_replicate, if_pos (by omega)]) hcc
              rw [e2]; exact this
            · cases hx
        obtain ⟨t1, t2, t3⟩ := hR.touch (fr' := fr1.app (.new d (.rows te.size (List.replicate n.toNat (wd te))))) d (.row w.heap.size n.toNat m.toNat) (.rows te.size (List.replicate n.toNat (wd te)))
          (zaa hR.toRg _ _ (.cells (madeCells z.cells (m.toNat * i.size)) ti.elem) rfl) (fun fo0 e => by rw [hno] at e; cases e) hob ⟨rfl, rfl, fun x => wg _ _ _ _⟩
        refine xg ?_ (hk _ _ _ _ _ t1 (.row d w.heap.size n.toNat m.toNat (by simp [zfv])) t2 t3)
        simp [execOp, ho, hvl, hvc, hrun]
      · exact h.elim
    · exact h.elim
  · exact h.elim
theorem zcq {c : CV} {k : List CV → LE → Prop} (h : zbp fr c k) : ∃ xs le, k xs le ∧ ((le = .no ∧ ∀ {M : Mem} {F : FM} {v : Value}, Rep M F v c → Rep M F v (.vec xs)) ∨
    ∃ d sz, c = .row d ∧ le = .rd d ∧ z6 fr.locs d = some (.rows sz xs)) := by
  unfold zbp at h
  split at h
  · exact ⟨_, _, h, .inl ⟨rfl, fun hr => hr⟩⟩
  · exact ⟨_, _, h, .inl ⟨rfl, fun hr => by cases hr; assumption⟩⟩
  · exact ⟨_, _, h, .inl ⟨rfl, fun hr => by cases hr; exact .nilvec⟩⟩
  · split at h
    · exact ⟨_, _, h, .inr ⟨_, _, rfl, rfl, ‹_›⟩⟩
    · exact h.elim
  · exact h.elim
theorem zdu {v : Value} {xs : List CV} (h : Rep M F v (.vec xs)) : ∃ ad cap, v = .slice ad xs.length cap := by
  cases h with
  | nilvec => exact ⟨_, _, rfl⟩
  | vec _ _ _ _ _ _ _ hn => subst hn; exact ⟨_, _, rfl⟩
theorem z20 {c : Call} (hX : X.ok) (ho : o.op = .call c) (hb : c.callee = .builtin .len) {x : CV}
    (h : (match c.argTypes.toList with
    | [t] => match lkT X.tt t with
      | some ti => match x with
        | .sc (.string s) => isT ti.str (K (.sc (.int .i64 s.size)) .no .no)
        | .grow _ n _ => isT ti.sl (K (.sc (.int .i64 n)) .no .no)
        | x => isT ti.sl (zbp fr x fun xs le => K (.sc (.int .i64 xs.length)) le .no)
      | none => False
    | _ => False)) (hx : c.args.toList.map (zk fr) = [x]) : Got X o fr σ K KP := by
  obtain ⟨y, hy, hyx⟩ : ∃ y, c.args.toList = [y] ∧ zk fr y = x := by
    cases hq : c.args.toList with
    | nil => rw [hq] at hx; simp at hx
    | cons y r =>
      rw [hq] at hx
      simp only [List.map_cons, List.cons.injEq, List.map_eq_nil_iff] at hx
      exact ⟨y, by rw [hx.2], hx.1⟩
  have hargs : c.args = #[y] := by rw [← Array.toArray_toList (xs := c.args), hy]
  have hmy : y ∈ o.op.operands.toList := by simp [ho, Op.operands, Call.operands, hargs]
  split at h
  · rename_i t ht
    have hts : c.argTypes = #[t] := by rw [← Array.toArray_toList (xs := c.argTypes), ht]
    split at h
    · rename_i ti hti
      have hexec : ∀ (a : Act) (w : World) (v : Value), (Builtin.len_ #[t] o.type #[a.eval y]).run X.P w = .ok v w → (execOp a.eval o).run X.P w = .ok (.value v) w := fun a w v e => by
        simp [execOp, ho, resolve, hb, invoke, builtin, hts, hargs, e]
      split at h
      · rename_i s
        obtain ⟨hstr, h⟩ := zf h
        have hu : X.P.underlying t = some .string := by
          obtain ⟨i, d, hi, hd, rfl⟩ := zt (hX t ti hti)
          cases d <;> first | exact hd | simp at hstr
        refine .inl ⟨_, _, _, h, zo fun {M F own fr1 σ1 a w} _ hop => ⟨_, ?_, .sc _⟩⟩
        have h1 := hop y hmy
        rw [hyx] at h1
        generalize hv : a.eval y = v at h1
        cases h1
        exact hexec a w _ (by simp [Builtin.len_, run_underlying hu, hv, goInt])
      · rename_i l n cp
        obtain ⟨hsl, h⟩ := zf h
        have hu := vv (hX t ti hti) hsl
        refine .inl ⟨_, _, _, h, zo fun {M F own fr1 σ1 a w} _ hop => ⟨_, ?_, .sc _⟩⟩
        have h1 := hop y hmy
        rw [hyx] at h1
        generalize hv : a.eval y = v at h1
        cases h1
        exact hexec a w _ (by simp [Builtin.len_, run_underlying hu, hv, goInt])
      · obtain ⟨hsl, h⟩ := zf h
        have hu := vv (hX t ti hti) hsl
        obtain ⟨xs, le, hK, hrest⟩ := zcq h
        rcases hrest with ⟨rfl, hr⟩ | ⟨d, sz, e1, rfl, hl⟩
        · refine .inl ⟨_, _, _, hK, zo fun {M F own fr1 σ1 a w} _ hop => ⟨_, ?_, .sc _⟩⟩
          have h1 := hop y hmy
          rw [hyx] at h1
          obtain ⟨ad, cap, hv⟩ := zdu (hr h1)
          exact hexec a w _ (by simp [Builtin.len_, run_underlying hu, hv, goInt])
        · subst e1
          refine .inl ⟨_, _, _, hK, ?_⟩
          refine ⟨fun _ e => (by cases e), ?_⟩
          intro M F own fr1 σ1 a w hR hn hops hloc _ next Q hk
          have hrx : Rep M F (a.eval y) (.row d) := by rw [← hyx, ← hops y hmy]; exact zd hR y
          obtain ⟨fo, hF, hob, _⟩ := hR.locs d _ ((hloc d rfl).trans hl)
          generalize hv : a.eval y = v at hrx
          cases hrx with
          | row _ b n cap ho' =>
            have : fo = .row b n cap := by rw [hF] at ho'; exact Option.some.inj ho'
            subst this
            obtain ⟨T, vs, _, _, hn', _⟩ := hob
            subst hn'
            refine xg (hexec a w _ ?_) (hk (.int .i64 xs.length) M F own w hR (.sc _) (KExt.refl _ _ _) (FM.le.refl _))
            simp [Builtin.len_, run_underlying hu, hv, goInt]
    · exact h.elim
  · exact h.elim
theorem z21 {c : Call} (hX : X.ok) (ho : o.op = .call c) (hb : c.callee = .builtin .cap) {x : CV}
    (h : (match c.argTypes.toList with
    | [t] => match lkT X.tt t with
      | some ti => match x with
        | .grow _ _ c => isT ti.sl (K (.sc (.int .i64 c)) .no .no)
        | .nil => isT ti.sl (K (.sc (.int .i64 0)) .no .no)
        | _ => False
      | none => False
    | _ => False)) (hx : c.args.toList.map (zk fr) = [x]) : Got X o fr σ K KP := by
  obtain ⟨y, hy, hyx⟩ : ∃ y, c.args.toList = [y] ∧ zk fr y = x := by
    cases hq : c.args.toList with
    | nil => rw [hq] at hx; simp at hx
    | cons y r =>
      rw [hq] at hx
      simp only [List.map_cons, List.cons.injEq, List.map_eq_nil_iff] at hx
      exact ⟨y, by rw [hx.2], hx.1⟩
  have hargs : c.args = #[y] := by rw [← Array.toArray_toList (xs := c.args), hy]
  have hmy : y ∈ o.op.operands.toList := by simp [ho, Op.operands, Call.operands, hargs]
  split at h
  · rename_i t ht
    have hts : c.argTypes = #[t] := by rw [← Array.toArray_toList (xs := c.argTypes), ht]
    split at h
    · rename_i ti hti
      have hexec : ∀ (a : Act) (w : World) (v : Value), (Builtin.cap_ #[t] o.type #[a.eval y]).run X.P w = .ok v w → (execOp a.eval o).run X.P w = .ok (.value v) w := fun a w v e => by
        simp [execOp, ho, resolve, hb, invoke, builtin, hts, hargs, e]
      split at h
      · obtain ⟨hsl, h⟩ := zf h
        have hu := vv (hX t ti hti) hsl
        refine .inl ⟨_, _, _, h, zo fun {M F own fr1 σ1 a w} _ hop => ⟨_, ?_, .sc _⟩⟩
        have h1 := hop y hmy
        rw [hyx] at h1
        generalize hv : a.eval y = v at h1
        cases h1
        exact hexec a w _ (by simp [Builtin.cap_, run_underlying hu, hv, goInt])
      · obtain ⟨hsl, h⟩ := zf h
        have hu := vv (hX t ti hti) hsl
        refine .inl ⟨_, _, _, h, zo fun {M F own fr1 σ1 a w} _ hop => ⟨_, ?_, .sc _⟩⟩
        have h1 := hop y hmy
        rw [hyx] at h1
        generalize hv : a.eval y = v at h1
        cases h1
        exact hexec a w _ (by simp [Builtin.cap_, run_underlying hu, hv, goInt])
      · exact h.elim
    · exact h.elim
  · exact h.elim
theorem zhq {v : Value} {ys : List CV} {sz : Nat} (hR : Rg M own σ w) (hr : Rep M F v (.vec ys)) (hel : ∀ (i : Nat) (x : CV), ys[i]? = some x → x.cells.length = sz) (hne : 1 ≤ ys.length) :
    ∃ (b off cap : Nat) (news : List Value), v = .slice (some ⟨b, off, none⟩) ys.length cap ∧ ys.length ≤ cap ∧ news.length = ys.length * sz ∧ (∀ (j : Nat) u, news[j]? = some u → M b (off + j) = some u) ∧ RowRep M news.toArray sz ys := by
  cases hr with
  | nilvec => simp at hne
  | vec sz' b off n cap _ vs hn hc hs hm hr =>
    subst hn
    have hszz : sz' = sz := by
      have h0 : ys[0]? = some ys[0] := by simp
      rw [← hs 0 _ h0, ← hel 0 _ h0]
    subst hszz
    by_cases hsz0 : sz' = 0
    · subst hsz0
      refine ⟨b, off, cap, [], rfl, hc, by simp, by simp, ⟨by simp, hs, fun i x j c hx hcc => ?_⟩⟩
      have := hs i x hx
      have hj := (List.getElem?_eq_some_iff.1 hcc).1
      omega
    · let news : List Value := (List.range (ys.length * sz')).map fun k => vs (k / sz') (k % sz')
      have hget : ∀ (i : Nat) x (j : Nat) c, ys[i]? = some x → x.cells[j]? = some c → i * sz' + j < ys.length * sz' ∧ (i * sz' + j) / sz' = i ∧ (i * sz' + j) % sz' = j := by
        intro i x j c hx hcc
        have hi := (List.getElem?_eq_some_iff.1 hx).1
        have hj : j < sz' := by rw [← hs i x hx]; exact (List.getElem?_eq_some_iff.1 hcc).1
        have := zz (sz := sz') hi
        refine ⟨by omega, ?_, ?_⟩
        · rw [Nat.add_comm, Nat.add_mul_div_right _ _ (by omega), Nat.div_eq_of_lt hj]; omega
        · rw [Nat.add_comm, Nat.add_mul_mod_self_right, Nat.mod_eq_of_lt hj]
      refine ⟨b, off, cap, news, rfl, hc, by simp [news], fun j u hu => ?_, ⟨by simp [news], hs, fun i x j c hx hcc => ?_⟩⟩
      · simp only [news, List.getElem?_map, Option.map_eq_some_iff] at hu
        obtain ⟨k, hk, rfl⟩ := hu
        obtain ⟨hlt, rfl⟩ := List.getElem?_eq_some_iff.1 hk
        simp only [List.length_range] at hlt
        simp only [List.getElem_range]
        have hi : j / sz' < ys.length := Nat.div_lt_of_lt_mul (by rw [Nat.mul_comm]; exact hlt)
        have hx : ys[j / sz']? = some ys[j / sz'] := by simp [hi]
        have hjm : j % sz' < ys[j / sz'].cells.length := by rw [hs _ _ hx]; exact Nat.mod_lt _ (by omega)
        have := hm _ _ (j % sz') _ hx (List.getElem?_eq_getElem hjm)
        rw [show off + j / sz' * sz' + j % sz' = off + j by have := Nat.div_add_mod j sz'; rw [Nat.mul_comm] at this; omega] at this
        exact this
      · obtain ⟨h1, h2, h3⟩ := hget i x j c hx hcc
        have e : news.toArray.getD (i * sz' + j) undef = vs i j := by
          simp [news, Array.getD_eq_getD_getElem?, h1, h2, h3]
        rw [e]; exact hr i x j c hx hcc
theorem zju {news : List Value} {sz : Nat} {ys : List CV} (h : RowRep M news.toArray sz ys) (hl : news.length = ys.length * sz) (ho : ∀ x ∈ ys, x.cells.all CV.one = true) : ∀ u ∈ news, u.oneCell' = true := by
  intro u hu
  obtain ⟨k, hk, rfl⟩ := List.mem_iff_getElem.1 hu
  have hk' : k < ys.length * sz := by omega
  have hsz : 0 < sz := by
    rcases Nat.eq_zero_or_pos sz with h0 | h0
    · subst h0; simp at hk'
    · exact h0
  have hi : k / sz < ys.length := Nat.div_lt_of_lt_mul (by rw [Nat.mul_comm]; exact hk')
  have hx : ys[k / sz]? = some ys[k / sz] := by simp [hi]
  have hj : k % sz < ys[k / sz].cells.length := by rw [h.len _ _ hx]; exact Nat.mod_lt _ hsz
  have hr := h.rep _ _ (k % sz) _ hx (List.getElem?_eq_getElem hj)
  rw [show k / sz * sz + k % sz = k by have := Nat.div_add_mod k sz; rw [Nat.mul_comm] at this; omega] at hr
  have hone := ho _ (List.mem_of_getElem? hx)
  rw [List.all_eq_true] at hone
  have := zjw hr (hone _ (List.getElem_mem hj))
  simpa [Array.getD_eq_getD_getElem?, hk] using this
theorem RowRep.app {vs us : Array Value} {sz : Nat} {xs ys : List CV} (h : RowRep M vs sz xs) (k : RowRep M us sz ys) : RowRep M (vs ++ us) sz (xs ++ ys) := by
  refine ⟨by simp [h.size, k.size, Nat.add_mul], fun i x hx => ?_, fun i x j c hx hcc => ?_⟩
  · by_cases hi : i < xs.length
    · rw [List.getElem?_append_left hi] at hx; exact h.len i x hx
    · rw [List.getElem?_append_right (by omega)] at hx; exact k.len _ x hx
  · by_cases hi : i < xs.length
    · rw [List.getElem?_append_left hi] at hx
      have hj : j < sz := by rw [← h.len i x hx]; exact (List.getElem?_eq_some_iff.1 hcc).1
      have := zz (sz := sz) hi
      rw [Array.getD_eq_getD_getElem?, Array.getElem?_append_left (by rw [h.size]; omega), ← Array.getD_eq_getD_getElem?]
      exact h.rep i x j c hx hcc
    · rw [List.getElem?_append_right (by omega)] at hx
      have hle : xs.length * sz ≤ i * sz := Nat.mul_le_mul_right _ (by omega)
      rw [Array.getD_eq_getD_getElem?, Array.getElem?_append_right (by rw [h.size]; omega), ← Array.getD_eq_getD_getElem?, h.size]
      have := k.rep _ x j c hx hcc
      rw [Nat.sub_mul] at this
      rw [show i * sz + j - xs.length * sz = i * sz - xs.length * sz + j by omega]
      exact this
end
end Go.CL
