/-
  A symbolic run of the model, its soundness, and steps by which it is used.
-/
import Derived.Test.YthllnbfkfobcjaaGreatFwa
import Derived.Shelf.Sort.Plain
import Derived.Shelf.Slices.In.CompactS
set_option linter.unusedVariables false
set_option linter.unusedSimpArgs false
namespace Go.CL
open Go Go.RowKit
section
variable {X : Ctx} {fr : Fr} {σ : Heap}
variable {M : Mem} {F : FM} {own : Owns} {a : Act} {w : World} {Ds : List Nat} {M0 : Mem} {own0 : Owns} {w0 : World} {ro : Option Nat}
theorem leaves_marks {fn : Func} {tmps : Array Value} {RR : Ending → World → Prop} {u : FrameMode} (hu : u ≠ .run) {Inv : World → Prop}
    (hI : ∀ D w, Inv w → w.heap[D]? = some (.deferred (some [])) → own D = none → w0.heap.size ≤ D → Inv (w.putObj D (.deferred none)))
    (hfin : ∀ w, Inv w → LeavesIn (Wd none) 0 X.P fn tmps RR [] u w) : ∀ (Ds : List Nat) (w : World), Ds.Nodup → (∀ D ∈ Ds, w.heap[D]? = some (.deferred (some [])) ∧ own D = none ∧ w0.heap.size ≤ D) → Inv w →
    LeavesInM (Wd none) 0 X.P fn tmps RR (Ds.map fun D => { target := .collected D, args := #[] }) u w
  | [], w, _, _, h => hfin w h
  | D :: Ds, w, hn, hd, h => by
    obtain ⟨h1, h2, h3⟩ := hd D (List.mem_cons_self ..)
    obtain ⟨n1, n2⟩ := List.nodup_cons.1 hn
    refine ⟨hu, .inl ⟨D, _, rfl, run_takeDeferred h1, leaves_marks hu hI hfin Ds _ n2 (fun D' hD' => ?_) (hI D w h h1 h2 h3)⟩⟩
    obtain ⟨k1, k2, k3⟩ := hd D' (List.mem_cons_of_mem _ hD')
    exact ⟨(World.putObj_heap_other (fun e => n1 (by rw [← e]; exact hD'))).trans k1, k2, k3⟩
theorem crun_ofF (hX : X.ok) (hD : DrawSat X) {f : FuncId} {fn : Func} {body : Code} {args : List CV} {σ : Heap} {post : COut → Prop} (hf : X.P.funcs[f]? = some fn) (hb : fn.body = some body)
    (hn : (fn.name == "runtime.NumGoroutine") = false) (hs : Nat.ble args.length fn.ntmps = true)
    (h : ExF X body ⟨fn.ntmps, envOf 0 args, []⟩ σ (exEnd X fn post)) : CRun X.P f args σ post := by
  have hs := Nat.le_of_ble_eq_true hs
  refine ⟨⟨fn, hf, by simp [hb], hn⟩, fun M own w vals hRg hvs hr => ?_⟩
  refine (wd_calls (ro := none) (m := 0)).1 (callsIn_of_wp_marks hf hb trivial ?_ rfl)
  have hR : R M FM.no own ⟨fn.ntmps, envOf 0 args, []⟩ σ { tmps := vals ++ Array.replicate (fn.ntmps - vals.size) undef, defers := [] } w := by
    refine ⟨hRg, by simp; omega, fun t => ?_, fun d ob hd => by simp [lookO] at hd, fun d _ => rfl⟩
    rw [look_envOf]
    by_cases ht : t < args.length
    · rw [if_pos (by omega)]
      have := hr t args[t] (by simp [ht])
      have hv : t < vals.size := by omega
      rw [Array.getD_eq_getD_getElem?, Array.getElem?_append_left hv, ← Array.getD_eq_getD_getElem?]
      simpa [List.getD_eq_getElem?_getD, ht] using this
    · rw [if_neg (by omega)]; exact .junk
  refine Code.wpIn_mono ?_ (ExF_sat (ro := none) hX hD body (.inl rfl) h hR (KExt.refl M own w) (Ds := []) ⟨rfl, by simp, List.nodup_nil⟩)
  rintro e a' w' ⟨Ds, x', M', F', own', fr', σ', hx, hq, hR', hk', hm'⟩
  have fin : R M' F' own' fr' σ' a' w' → (exRes X fr' σ' fn.results.toList fun raw => exArgs true raw fun vs => match vs with
    | [v] => Fin raw v σ' post
    | vs => Fin raw (.tup vs) σ' post) → LeavesInM (Wd none) 0 X.P fn a'.tmps (OutRel M own w post) a'.defers .returning w' := by
    intro hR' h
    rw [hm'.d]
    refine leaves_marks (own := own') (w0 := w) (by simp) (Inv := fun w' => R M' F' own' fr' σ' a' w' ∧ KExt M own w M' own' w') (fun D w2 ⟨i1, i2⟩ k1 k2 k3 => ⟨i1.shut k1 k2 i2 k3, (shut_mark i1.toRg k1 k2 i2 k3).2⟩) ?_ Ds w' hm'.nd hm'.at_ ⟨hR', hk'⟩
    rintro w2 ⟨i1, i2⟩
    obtain ⟨vs, us, h1, h2, h3, h4⟩ := exRes_sat hX i1 _ h
    obtain ⟨vs', h5, h6⟩ := exArgs_got _ h1
    refine ⟨_, run_results h2, ?_⟩
    split at h5
    · exact h5.out rfl i1.toRg h6 h3 h4 i2
    · rename_i hne
      refine h5.out (vs' := vs') ?_ i1.toRg h6 h3 h4 i2
      unfold packV
      split
      · rename_i v; exact absurd rfl (hne v)
      · rfl
  cases e with
  | normal =>
    cases x' with
    | normal => exact fin hR' hq
    | _ => exact hx.elim
  | ret =>
    cases x' with
    | ret => exact fin hR' hq
    | _ => exact hx.elim
  | exit i =>
    cases x' with
    | exit j => exact hq.elim
    | _ => exact hx.elim
  | panic ch =>
    cases x' with
    | pan c =>
      rcases ch with _ | ⟨p, _ | ⟨q, r⟩⟩
      · exact hx.elim
      · obtain ⟨e1, e2, e3⟩ := hx
        obtain ⟨τ, hs, hp⟩ := hq
        show LeavesInM (Wd none) 0 X.P fn a'.tmps (OutRel M own w post) a'.defers (.panicking [p]) w'
        rw [hm'.d]
        refine leaves_marks (own := own') (w0 := w) (by simp) (Inv := fun w' => Rg M' own' σ' w' ∧ KExt M own w M' own' w') (fun D w2 ⟨i1, i2⟩ k1 k2 k3 => shut_mark i1 k1 k2 i2 k3) ?_ Ds w' hm'.nd hm'.at_ ⟨hR'.1, hk'⟩
        rintro w2 ⟨i1, i2⟩
        exact ⟨_, M', own', hp, i2, e1, e2, e3, i1.mem, fun l ob hl => i1.glob l ob (hs l ob hl), i1.fresh⟩
      · exact hx.elim
    | _ => rcases ch with _ | ⟨p, _ | ⟨q, r⟩⟩ <;> exact hx.elim
  | goto l => exact hx.elim
  | outgrown => exact hx.elim
def putsE : List Tmp → List CV → List (Nat × CV) → List (Nat × CV)
  | t :: ts, c :: cs, env => putsE ts cs ((t, c) :: env)
  | _, _, env => env
theorem puts_rep {n : Nat} : ∀ (ts : List Tmp) (cs : List CV) (vs : List Value) (env : List (Nat × CV)) (tmps : Array Value), cs.length = ts.length → vs.length = ts.length → (∀ t ∈ ts, t < n) → tmps.size = n →
    (∀ (i : Nat) c, cs[i]? = some c → Rep M F (vs.getD i undef) c) → (∀ t, Rep M F (tmps.getD t undef) (look env t)) →
    ((ts.zip vs).foldl (fun tmps (p : Tmp × Value) => tmps.setIfInBounds p.1 p.2) tmps).size = n ∧ ∀ t, Rep M F (((ts.zip vs).foldl (fun tmps (p : Tmp × Value) => tmps.setIfInBounds p.1 p.2) tmps).getD t undef) (look (putsE ts cs env) t)
  | [], _, _, env, tmps, _, _, _, hs, _, he => by cases ‹List CV› <;> exact ⟨hs, he⟩
  | t :: ts, [], _, _, _, h, _, _, _, _, _ => by simp at h
  | t :: ts, c :: cs, [], _, _, _, h, _, _, _, _ => by simp at h
  | t :: ts, c :: cs, v :: vs, env, tmps, h1, h2, h3, hs, hr, he => by
    simp only [List.zip_cons_cons, List.foldl_cons, putsE]
    refine puts_rep ts cs vs _ _ (by simpa using h1) (by simpa using h2) (fun t ht => h3 t (List.mem_cons_of_mem _ ht)) (by simpa using hs) (fun i c hc => by simpa using hr (i + 1) c (by simpa using hc)) fun t' => ?_
    have hlt := h3 t (List.mem_cons_self ..)
    rw [look_cons]
    split
    · rename_i e; subst e
      have := hr 0 c rfl
      simp [Array.getD_eq_getD_getElem?, Array.getElem?_setIfInBounds, hs, hlt] at this ⊢
      exact this
    · rename_i e
      have := he t'
      rw [Array.getD_eq_getD_getElem?, Array.getElem?_setIfInBounds_ne e, ← Array.getD_eq_getD_getElem?]; exact this
structure RndN (l : Nat) (ob ob' : Ob) (σ : Heap) (v : CV) (post : COut → Prop) : Prop where
  at_ : σ l = some ob
  h : ∃ τ, Sub τ (upd σ l ob') ∧ post (.ret v τ)
def rndEnd (l : Nat) (f : FuncId) (n : Nat) (env : List (Nat × CV)) (ps : Array Tmp) (asg body : Code) (post : COut → Prop) (x : Xt) (_fr : Fr) (σ : Heap) : Prop := match x with
  | .normal => RndN l (.loop f n env ps asg body .busy none) (.loop f n env ps asg body .ready none) σ (.sc (.bool true)) post
  | .ret => RndN l (.loop f n env ps asg body .busy none) (.loop f n env ps asg body .done (some .ret)) σ (.sc (.bool false)) post
  | .exit i => RndN l (.loop f n env ps asg body .busy none) (.loop f n env ps asg body .done (some (.exit i))) σ (.sc (.bool false)) post
  | .pan _ => False
structure AsgN (X : Ctx) (l : Nat) (f : FuncId) (n : Nat) (env : List (Nat × CV)) (ps : Array Tmp) (asg body : Code) (post : COut → Prop) (fr : Fr) (σ : Heap) : Prop where
  at_ : σ l = some (.loop f n env ps asg body .ready none)
  h : ∀ τ, τ = upd σ l (.loop f n env ps asg body .busy none) → ExF X body fr τ (rndEnd l f n env ps asg body post)
def asgEnd (X : Ctx) (l : Nat) (f : FuncId) (n : Nat) (env : List (Nat × CV)) (ps : Array Tmp) (asg body : Code) (post : COut → Prop) (x : Xt) (fr : Fr) (σ : Heap) : Prop := match x with
  | .normal => AsgN X l f n env ps asg body post fr σ
  | _ => False
theorem yrun_of (hX : X.ok) (hD : DrawSat X) {l : Nat} {f : FuncId} {n : Nat} {env : List (Nat × CV)} {ps : Array Tmp} {asg body : Code} {args : List CV} {post : COut → Prop} (hl : σ l = some (.loop f n env ps asg body .ready none))
    (hn : Nat.beq args.length ps.size = true) (hlt : ps.toList.all (fun t => Nat.blt t n) = true) (hp : (plainC asg && plainC body) = true)
    (h : ExF X asg ⟨n, putsE ps.toList args env, []⟩ σ (asgEnd X l f n env ps asg body post)) : YRun X.P l args σ post := by
  intro M own w vals hRg hvs hr
  have hn := Nat.eq_of_beq_eq_true hn
  simp only [Bool.and_eq_true] at hp
  obtain ⟨r, h1, h2, h3, h4, h5, h6, h7, h8, h9, _⟩ := put_loop (st' := .busy) (pend' := none) hRg hl
  have hy := run_yield (P := X.P) (args := vals) h1 (by rw [h5]; omega)
  rw [h4, h5, h6, h7] at hy
  refine ⟨_, _, _, _, hy, roundIn_of_wpIn trivial ?_⟩
  have hz : (ps.zip vals).foldl (fun tmps (t, a) => tmps.setIfInBounds t a) r.tmps = (ps.toList.zip vals.toList).foldl (fun tmps (p : Tmp × Value) => tmps.setIfInBounds p.1 p.2) r.tmps := by
    rw [← Array.foldl_toList, Array.toList_zip]
  obtain ⟨p1, p2⟩ := puts_rep (M := M) (F := FM.no) (n := n) ps.toList args vals.toList env r.tmps (by simpa using hn) (by simp; omega) (fun t ht => by
    have := List.all_eq_true.1 hlt t ht
    simpa using this) h8 (fun i c hc => by simpa [Array.getD_eq_getD_getElem?, List.getD_eq_getElem?_getD] using hr i c hc) h9
  have hR : R M FM.no own ⟨n, putsE ps.toList args env, []⟩ σ { tmps := (ps.zip vals).foldl (fun tmps (t, a) => tmps.setIfInBounds t a) r.tmps, defers := [] } w := by
    refine ⟨hRg, ?_, fun t => ?_, fun d ob hd => by simp [lookO] at hd, fun d _ => rfl⟩
    · show ((ps.zip vals).foldl _ r.tmps).size = n
      rw [hz]; exact p1
    · show Rep _ _ (((ps.zip vals).foldl _ r.tmps).getD t undef) _
      rw [hz]; exact p2 t
  refine Code.wpIn_mono ?_ (ExF_sat (ro := some l) hX hD asg (.inr hp.1) h hR (KExt.refl M own w) (Ds := []) ⟨rfl, by simp, List.nodup_nil⟩)
  rintro e a1 w1 ⟨Ds, x', M', F', own', fr', σ', hx, hq, hR', hk', hm'⟩
  cases x' with
  | normal =>
    cases e with
    | normal =>
      obtain ⟨hat, hq⟩ := (hq : AsgN X l f n env ps asg body post fr' σ')
      obtain ⟨r1, g1, g2, _, _, _, _, _, _, _, g3⟩ := put_loop (st' := .busy) (pend' := none) hR'.toRg hat
      obtain ⟨own2, hR2, hk2⟩ := g3 hR'
      have hbr := run_beginRound (P := X.P) g1 g2
      have e1 : ({ r1 with state := LoopState.busy } : Loop) = { r1 with state := .busy, pending := none } := by
        have : r1.pending = none := ‹r1.pending = none›
        rw [← this]
      rw [e1] at hbr
      refine ⟨_, hbr, ?_⟩
      refine Code.wpIn_mono ?_ (ExF_sat (ro := some l) hX hD body (.inr hp.2) (hq _ rfl) hR2 (hk'.trans hk2) (Ds := Ds) (hm'.step hk2))
      rintro e2 a2 w2 ⟨Ds2, x2, M2, F2, own2', fr2, σ2, hx2, hq2, hR3, hk3, hm3⟩
      have fin : ∀ {jump : Option Code} {v : CV} {b : Bool} {ob' : Ob}, ob' = .loop f n env ps asg body (if jump.isNone then .ready else .done) jump → b = jump.isNone → v = .sc (.bool b) → R M2 F2 own2' fr2 σ2 a2 w2 → RndN l (.loop f n env ps asg body .busy none) ob' σ2 v post →
          ∃ v' w3, (Instr.endRound l jump).run X.P w2 = .ok v' w3 ∧ OutRel M own w post (.returned v') w3 := by
        rintro jump v b ob' rfl rfl rfl hR3 ⟨hat2, τ, hs, hpost⟩
        obtain ⟨r2, k1, k2, _, _, _, _, _, _, _, k3⟩ := put_loop (st' := if jump.isNone then .ready else .done) (pend' := jump) hR3.toRg hat2
        obtain ⟨own4, hR4, hk4⟩ := k3 hR3
        exact ⟨_, _, run_endRound (P := X.P) jump k1, .ret (.sc (.bool jump.isNone)) τ, M2, own4, hpost, hk3.trans hk4, .sc _, hR4.mem, fun x ob hx => hR4.glob x ob (hs _ _ hx), hR4.fresh⟩
      cases x2 with
      | normal =>
        cases e2 with
        | normal => exact fin rfl rfl rfl hR3 hq2
        | panic ch => rcases ch with _ | ⟨p, _ | ⟨q, r⟩⟩ <;> exact hx2.elim
        | _ => exact hx2.elim
      | ret =>
        cases e2 with
        | ret => exact fin rfl rfl rfl hR3 hq2
        | panic ch => rcases ch with _ | ⟨p, _ | ⟨q, r⟩⟩ <;> exact hx2.elim
        | _ => exact hx2.elim
      | exit i =>
        cases e2 with
        | exit j =>
          have hx2 : j = i := hx2
          subst hx2
          exact fin rfl rfl rfl hR3 hq2
        | panic ch => rcases ch with _ | ⟨p, _ | ⟨q, r⟩⟩ <;> exact hx2.elim
        | _ => exact hx2.elim
      | pan c => exact (hq2 : False).elim
    | panic ch => rcases ch with _ | ⟨p, _ | ⟨q, r⟩⟩ <;> exact hx.elim
    | _ => exact hx.elim
  | _ => exact (hq : False).elim
def del (σ : Heap) (l : Nat) : Heap := fun x => if x = l then none else σ x
theorem del_same (σ : Heap) (l : Nat) : del σ l l = none := by simp [del]
theorem del_ne (σ : Heap) {l x : Nat} (h : x ≠ l) : del σ l x = σ x := by simp [del, h]
theorem del_sub (σ : Heap) (l : Nat) : Sub (del σ l) σ := fun x ob h => by
  by_cases e : x = l
  · subst e; rw [del_same] at h; cases h
  · rwa [del_ne _ e] at h
theorem RngN.all {P : Program} {n : Nat} {env : List (Nat × CV)} {ps : Array Tmp} {asg body : Code} {k : Xt → Heap → Prop} {id : Nat} {caps caps' : List CV} (hc : CV.strips true caps = some caps')
    (h : ∀ f lr ob, ob = Ob.loop f n env ps asg body .ready none → σ lr = none → ∃ J : Heap → Prop, CRun P id ([.fn (.yield lr) [] []] ++ caps') (upd σ lr ob) (fun out => ∃ τ v, J τ ∧ out = .ret v τ) ∧
      (∀ τ, J τ → τ lr = some ob) ∧ ∀ τ τ', J τ → τ' = del τ lr → k .normal τ') : RngN P n env (.fn (.func id) [] caps) ps asg body σ k := by
  refine ⟨⟨id, [], caps, [], caps', rfl, rfl, hc, fun f l hl => ?_⟩⟩
  obtain ⟨J, h1, h2, h3⟩ := h f l _ rfl hl
  refine ⟨_, h1, ?_⟩
  rintro _ ⟨τ, v, hJ, rfl⟩
  exact ⟨.ready, none, del τ l, h2 τ hJ, by simp, del_sub _ _, del_same _ _, h3 τ _ hJ rfl⟩
end
end Go.CL
namespace Go.CL
open Go Go.RowKit Go.Proofs Go.Shelf Go.Sort
def strV (s : List UInt8) : CV := .sc (encStr s)
section
variable {M : Mem} {own : Owns} {σ : Heap} {w : World}
theorem holds_arr {l e n cap : Nat} {ss : List (List UInt8)} (hR : Rg M own σ w) (hl : σ l = some (.arr e 1 cap (ss.map strV))) :
    Holds encStr w l 0 ss.toArray ∧ l < w.heap.size ∧ ss.length ≤ cap ∧ own l = some (.g l) ∧ (∀ o, M l o = none) ∧ ∃ vs, w.heap[l]? = some (.cells vs e (0, 0)) ∧ vs.size = cap := by
  obtain ⟨h1, fo, h2, h3⟩ := hR.glob l _ hl
  cases fo with
  | row b n cap' =>
    simp [FO.block] at h3; subst h3
    obtain ⟨rfl, hn, vs, k1, k2, k3, k4, k5, k6⟩ := h2
    refine ⟨fun j hj => ?_, (Array.getElem?_eq_some_iff.1 k1).1, by simpa [hn] using k3, h1, k6, vs, k1, by simpa using k2⟩
    have hj : j < ss.length := by simpa using hj
    have := k5 j (strV ss[j]) 0 (strV ss[j]) (by simp [hj]) rfl
    refine ⟨?_, by simp [World.frozen?, k1]⟩
    have hsz : j < vs.size := by simp at hn; omega
    simp only [World.cell?, k1, Nat.zero_add]
    have hv : vs.getD j undef = encStr ss[j] := by
      simp only [Nat.mul_one, Nat.add_zero, strV] at this
      generalize vs.getD j undef = v at this
      cases this; rfl
    simp [hsz, hj] at hv ⊢
    exact hv
  | blk b => exact h2.elim
  | tok s n sz => exact h2.elim
theorem put_arr {l e cap n : Nat} {ss zs rest : List (List UInt8)} (hR : Rg M own σ w) (hl : σ l = some (.arr e 1 cap (ss.map strV))) (hz : (zs ++ rest).length = ss.length) {w' : World} {os : Array Obj}
    (hw : w' = grow (putRow encStr (Sort.ahead w n) l 0 (zs ++ rest).toArray) os) :
    ∃ own', Rg M own' (upd σ l (.arr e 1 cap (zs.map strV))) w' ∧ KExt M own w M own' w' := by
  obtain ⟨h1, h2, h3, h4, h5, vs, k1, k2⟩ := holds_arr (n := 0) hR hl
  have hb : ∀ b, b < w.heap.size → b ≠ l → w'.heap[b]? = w.heap[b]? := fun b hb hne => by
    rw [hw]
    show ((putRow encStr (Sort.ahead w n) l 0 (zs ++ rest).toArray).heap ++ os)[b]? = _
    rw [Array.getElem?_append_left (by simp [putRow, mapBlock, Sort.ahead, hb])]
    simp [putRow, mapBlock, Sort.ahead, Array.getElem?_modify, Ne.symm hne]
  have hlw : w'.heap[l]? = some (.cells (putCells encStr 0 (zs ++ rest).toArray vs) e (0, 0)) := by
    rw [hw]
    show ((putRow encStr (Sort.ahead w n) l 0 (zs ++ rest).toArray).heap ++ os)[l]? = _
    rw [Array.getElem?_append_left (by simp [putRow, mapBlock, Sort.ahead, h2])]
    simp [putRow, mapBlock, Sort.ahead, Array.getElem?_modify, k1, onCells]
  have hsz : w.heap.size ≤ w'.heap.size := by rw [hw]; simp [grow, putRow, mapBlock, Sort.ahead]
  have hT : Touch M own w (.g l) (.row l zs.length cap) M w' := by
    refine ⟨hsz, by rw [hw]; rfl, by rw [hw]; rfl, by rw [hw]; rfl, fun b hb' ho => ⟨hb b hb' (fun e => ho (by rw [e]; exact h4)), fun _ => rfl⟩, fun _ _ _ h => h, fun b o v hbo h => ?_, fun b h => ?_⟩
    · have hne : b ≠ l := fun e => by subst e; rw [h5] at h; cases h
      by_cases hlt : b < w.heap.size
      · rw [cell_keep (hb b hlt hne)]; exact hR.mem _ _ _ h
      · have := hR.mem _ _ _ h
        simp [World.cell?, Array.getElem?_eq_none (Nat.le_of_not_lt hlt)] at this
    · simp [FO.block] at h; subst h; exact ⟨.inl h4, by omega⟩
  have hob : ObRep M FM.no w' (.row l zs.length cap) (.arr e 1 cap (zs.map strV)) := by
    refine ⟨rfl, by simp, _, hlw, by simp [putCells, k2], by simp at hz; omega, fun i x hx => ?_, fun i x j c hx hc => ?_, h5⟩
    · simp at hx; obtain ⟨s, _, rfl⟩ := hx; rfl
    · simp at hx; obtain ⟨s, hs, rfl⟩ := hx
      cases j with
      | succ j => simp [strV, CV.cells] at hc
      | zero =>
        simp [strV, CV.cells] at hc; subst hc
        have hi : i < zs.length := (List.getElem?_eq_some_iff.1 hs).1
        have hz' : i < ss.length := by simp at hz; omega
        have hv : i < vs.size := by omega
        have : (putCells encStr 0 (zs ++ rest).toArray vs).getD (i * 1 + 0) undef = encStr s := by
          have hs' : zs[i] = s := (List.getElem?_eq_some_iff.1 hs).2
          simp [putCells, Array.getD_eq_getD_getElem?, Array.getElem?_mapIdx, hv]
          rw [if_pos (by omega)]
          simp [List.getElem?_append_left hi, hs, hi, hs']
        rw [this]; exact .sc _
  have hR0 : R M FM.no own ⟨0, [], []⟩ σ { tmps := #[], defers := [] } w := ⟨hR, rfl, fun t => by simp [look]; exact .junk, fun d ob hd => by simp [lookO] at hd, fun d _ => rfl⟩
  obtain ⟨t1, t2⟩ := hR0.touchG l _ _ hT rfl hob
  exact ⟨_, t1.toRg, t2⟩
variable {P : Program} {ρ : Ren}
theorem crun_sort (Ly : Lays.n190 P ρ) (hb : (Body.n190 ρ).body.isSome = true) (hn : ((Body.n190 ρ).name == "runtime.NumGoroutine") = false) {l e cap n : Nat} {ss : List (List UInt8)} (hl : σ l = some (.arr e 1 cap (ss.map strV))) (hN : n = ss.length) (hs : ss.length < 4611686018427387904) :
    CRun P (ρ.f 190) [.grow l n cap] σ (· = .ret (.tup []) (upd σ l (.arr e 1 cap ((ss.mergeSort fun x y => decide (x ≤ y)).map strV)))) := by
  subst hN
  refine ⟨⟨_, Ly.f190, hb, hn⟩, fun M own w vals hR hvs hr => ?_⟩
  obtain ⟨h1, h2, h3, _⟩ := holds_arr (n := 0) hR hl
  have h0 := hr 0 _ rfl
  obtain rfl : vals = #[.slice (some ⟨l, 0, none⟩) ss.length cap] := by
    apply Array.ext (by simpa using hvs)
    intro i hi1 hi2
    have : i = 0 := by simp at hi2; omega
    subst this
    generalize hv : vals.getD 0 undef = v at h0
    cases h0
    simp [Array.getD_eq_getD_getElem?, hi1] at hv
    simpa using hv
  refine (Any.slices_Sort_string Ly l 0 cap ss w h1 h2 hs).mono ?_
  rintro _ w' ⟨rfl, n, os, hw⟩
  obtain ⟨own', g1, g2⟩ := put_arr (zs := ss.mergeSort fun x y => decide (x ≤ y)) (rest := []) (n := n) (os := os) hR hl (by simp) (by simpa using hw)
  exact ⟨.ret (.tup []) _, M, own', rfl, g2, .tup #[] [] rfl (fun i c hc => by simp at hc), g1⟩
theorem crun_compact (Ly : Lays.n194 P ρ) (hb : (Body.n194 ρ).body.isSome = true) (hn : ((Body.n194 ρ).name == "runtime.NumGoroutine") = false) {l e cap n : Nat} {ss : List (List UInt8)} (hl : σ l = some (.arr e 1 cap (ss.map strV))) (hN : n = ss.length) (hs : ss.length < 4611686018427387904)
    (hc : (Lib.compact ss).length ≤ ss.length) :
    CRun P (ρ.f 194) [.grow l n cap] σ (· = .ret (.grow l (Lib.compact ss).length cap) (upd σ l (.arr e 1 cap ((Lib.compact ss).map strV)))) := by
  subst hN
  refine ⟨⟨_, Ly.f194, hb, hn⟩, fun M own w vals hR hvs hr => ?_⟩
  obtain ⟨h1, h2, h3, _⟩ := holds_arr (n := 0) hR hl
  have h0 := hr 0 _ rfl
  obtain rfl : vals = #[.slice (some ⟨l, 0, none⟩) ss.length cap] := by
    apply Array.ext (by simpa using hvs)
    intro i hi1 hi2
    have : i = 0 := by simp at hi2; omega
    subst this
    generalize hv : vals.getD 0 undef = v at h0
    cases h0
    simp [Array.getD_eq_getD_getElem?, hi1] at hv
    simpa using hv
  refine (calls_of_every_depth fun D => AnyS.slices_Compact_string_in Ly D l 0 cap ss w h1 (by omega) h3).mono ?_
  rintro _ w' ⟨rfl, q, hw⟩
  obtain ⟨own', g1, g2⟩ := put_arr (zs := Lib.compact ss) (rest := List.replicate (ss.length - (Lib.compact ss).length) []) (n := q) (os := #[]) (w' := w') hR hl (by simp; omega) (by rw [grow_empty]; exact hw)
  exact ⟨.ret _ _, M, own', rfl, g2, .grow _ _ _, g1⟩
theorem crun_compact_nil (Ly : Lays.n194 P ρ) (hb : (Body.n194 ρ).body.isSome = true) (hn : ((Body.n194 ρ).name == "runtime.NumGoroutine") = false) : CRun P (ρ.f 194) [.vec []] σ (· = .ret (.vec []) σ) := by
  refine ⟨⟨_, Ly.f194, hb, hn⟩, fun M own w vals hR hvs hr => ?_⟩
  have h0 := hr 0 _ rfl
  obtain ⟨a, cap, rfl, hc⟩ : ∃ a cap, vals = #[.slice a 0 cap] ∧ Rep M FM.no (.slice a 0 cap) (.vec []) := by
    have : vals = #[vals.getD 0 undef] := by
      apply Array.ext (by simpa using hvs)
      intro i hi1 hi2
      have : i = 0 := by simp at hi2; omega
      subst this
      simp [Array.getD_eq_getD_getElem?, hi1]
    rw [this]
    generalize vals.getD 0 undef = v at h0
    have h0' := h0
    cases h0 with
    | nilvec => exact ⟨_, _, rfl, h0'⟩
    | vec sz b off n cap _ vs hn => simp at hn; subst hn; exact ⟨_, _, rfl, h0'⟩
  refine (calls_of_every_depth fun D => AnyS.slices_Compact_string_empty_in Ly D a cap w).mono ?_
  rintro _ w' ⟨rfl, rfl⟩
  exact ⟨.ret _ _, M, own, rfl, KExt.refl _ _ _, hc, hR⟩
end
end Go.CL
