/-
  A symbolic run of the model, its soundness, and steps by which it is used.
-/
import Derived.Test.YtlamgfimgadnmaaGreatFwa
import Derived.Lib.AppendZeros
import Derived.MapKept
set_option linter.unusedVariables false
set_option linter.unusedSimpArgs false
namespace Go.CL
open Go Go.MapKept
section
variable {X : Ctx} {o : Oper} {fr : Fr} {σ : Heap} {K : CV → LE → HE → Prop} {KP : CV → Heap → Prop}
variable {M : Mem} {F : FM} {own : Owns} {a : Act} {w : World}
theorem zr2 {ts : Array TypeId} {k : Nat → TI → Prop} (hX : X.ok) (h : z33 X ts k) :
    ∃ t e te i z, ts = #[t, t] ∧ X.P.underlying t = some (.slice e) ∧ X.P.info? e = some i ∧ i.size = te.size ∧ i.bytes = te.bytes ∧ i.zero = some z ∧ z.cells.size = te.size ∧ 1 ≤ te.size ∧ k e te := by
  unfold z33 at h
  split at h
  · rename_i t u hts
    obtain ⟨e, h1⟩ := zw h
    subst e
    split at h1
    · rename_i ti ht
      split at h1
      · rename_i te hte
        obtain ⟨hsl, h2⟩ := zf h1
        obtain ⟨hz, h3⟩ := zf h2
        obtain ⟨hs, h4⟩ := vz h3
        obtain ⟨i, z, e1, e2, e3, e4, _, z3⟩ := zig (hX _ te hte) hz
        exact ⟨t, ti.elem, te, i, z, by rw [← Array.toArray_toList (xs := ts), hts], vv (hX t ti ht) hsl, e1, e2, e3, e4, z3, hs, h4⟩
      · exact h1.elim
    · exact h1.elim
  · exact h.elim
theorem zkn {vs us : Array Value} {n : Nat} (h : vs.size = n) : (vs ++ us).extract 0 n = vs := by
  apply Array.ext'
  simp [← h]
theorem zgf {x y : CV} {p q : Operand} {t e : TypeId} {te : TI} {i : TypeInfo} {z : Value} {ys : List CV}
    (hC : match x with
    | .nil => Need (1 ≤ ys.length ∧ ys.length * te.bytes ≤ 140737488355328 ∧ ys.length ≤ 9223372036854775807 ∧ ElsOk te.size ys) <|
        zg8 fr o.dst fun d => K (.avec d ys) (.new d (.tok e te.size ys.length)) .no
    | .avec d xs => match z6 fr.locs d with
      | some (.tok e' sz n) => eqN e' e <| eqN sz te.size <|
          Need (n = xs.length ∧ 1 ≤ ys.length ∧ (xs.length + ys.length) * te.bytes ≤ 140737488355328 ∧ xs.length + ys.length ≤ 9223372036854775807 ∧ ElsOk te.size ys) <|
          K (.avec d (xs ++ ys)) (.wr d (.tok e' sz (xs.length + ys.length))) .no
      | _ => False
    | _ => False)
    (hpx : zk fr p = x) (hqy : zk fr q = y) (hmp : p ∈ o.op.operands.toList) (hmq : q ∈ o.op.operands.toList)
    (hu : X.P.underlying t = some (.slice e)) (hi : X.P.info? e = some i) (hsz : i.size = te.size) (hby : i.bytes = te.bytes) (hzz : i.zero = some z) (hzs : z.cells.size = te.size) (h1 : 1 ≤ te.size)
    (hyv : ∀ {M : Mem} {F : FM} {v : Value}, Rep M F v y → Rep M F v (.vec ys))
    (hexec : ∀ (a : Act) (w w' : World) (v : Value), (Builtin.append_ #[t, t] o.type #[a.eval p, a.eval q]).run X.P w = .ok v w' → (execOp a.eval o).run X.P w = .ok (.value v) w') : Got X o fr σ K KP := by
  split at hC
  · -- behind nothing
    obtain ⟨c1, c2, c3, c4⟩ := hC.c
    obtain ⟨d, hd, hlo, h⟩ := zdm hC.t
    refine .inl ⟨_, _, _, h, ?_⟩
    refine ⟨fun _ e => (by cases e), ?_⟩
    intro M F own fr1 σ1 a w hR hn hops hloc _ next Q hk
    have hrp : Rep M F (a.eval p) .nil := by rw [← hpx, ← hops p hmp]; exact zd hR p
    have hrq : Rep M F (a.eval q) (.vec ys) := hyv (by rw [← hqy, ← hops q hmq]; exact zd hR q)
    obtain ⟨b, off, cap, news, e1, e2, e3, e4, e5⟩ := zhq hR.toRg hrq (fun i x hx => (c4 x (List.mem_of_getElem? hx)).1) c1
    generalize hvp : a.eval p = vp at hrp
    cases hrp
    have hrun := run_append_nil (P := X.P) w t o.type e i z hu hi hzz ⟨b, off, none⟩ ys.length cap news (by rw [e3, hsz]) (fun j u hu => by rw [qs]; exact hR.mem _ _ _ (e4 j u hu)) (by omega) (by omega) (by rw [hby]; omega)
    have hno : F d = none := hR.dom d (by rw [hloc d rfl]; exact hlo)
    have hns : news.toArray.size = ys.length * te.size := by simp [e3]
    have hge := grownCap_ge w ys.length 0 e
    obtain ⟨M', F', own', r1, r2, r3, r4⟩ := hR.newTok (w' := w.drew.alloc (.cells (news.toArray ++ Builtin.zeroCells z.cells (grownCap w ys.length 0 e - ys.length)) e)) (cap := grownCap w ys.length 0 e) (d := d) (xs := ys) (sz := te.size) (.inl hno) rfl rfl rfl rfl
      (by rw [Array.size_append, hns, size_zeroCells, hzs, ← Nat.add_mul]; congr 1; omega) hge (by rw [zkn hns]; exact e5) (fr' := fr1.app (.new d (.tok e te.size ys.length))) ⟨rfl, rfl, fun x => wg _ _ _ _⟩
    exact xg (hexec a w _ _ (by rw [hvp, e1]; exact hrun)) (hk _ M' F' own' _ r1 r4 r2 r3)
  · -- behind what one may append to
    rename_i d xs
    split at hC
    · rename_i e' sz n hl
      obtain ⟨h2, hD⟩ := zw hC
      obtain ⟨h3, hE⟩ := zw hD
      clear hC hD
      obtain ⟨c0, c1, c2, c3, c4⟩ := hE.c
      refine .inl ⟨_, _, _, hE.t, ?_⟩
      subst h2; subst h3; subst c0
      refine ⟨fun _ e => (by cases e), ?_⟩
      intro M F own fr1 σ1 a w hR hn hops hloc _ next Q hk
      have hrp : Rep M F (a.eval p) (.avec d xs) := by rw [← hpx, ← hops p hmp]; exact zd hR p
      have hrq : Rep M F (a.eval q) (.vec ys) := hyv (by rw [← hqy, ← hops q hmq]; exact zd hR q)
      obtain ⟨b, off, cap, news, e1, e2, e3, e4, e5⟩ := zhq hR.toRg hrq (fun i x hx => (c4 x (List.mem_of_getElem? hx)).1) c1
      obtain ⟨fo, hF, hob, hown⟩ := hR.locs d _ ((hloc d rfl).trans hl)
      have hnm : ∀ (j : Nat) u, news[j]? = some u → w.cell? ((⟨b, off, none⟩ : Addr).add j) = some u := fun j u hu => by rw [qs]; exact hR.mem _ _ _ (e4 j u hu)
      have hnl : news.length = ys.length * i.size := by rw [e3, hsz]
      have hns : news.toArray.size = ys.length * te.size := by simp [e3]
      have hlen : (xs ++ ys).length = xs.length + ys.length := by simp
      generalize hvp : a.eval p = vp at hrp
      cases hrp with
      | avec _ _ s m szz hv ho' hzl hml hval =>
        rw [hF] at ho'
        cases ho'
        obtain ⟨o1, o2, o3⟩ := hob
        subst o1; subst o2
        have hval := hval rfl
        cases s with
        | none =>
          have hx0 : xs = [] := List.eq_nil_of_length_eq_zero o3
          subst hx0
          have hval : vp = .slice none 0 0 := hval
          have hrun := run_append_nil (P := X.P) w t o.type e' i z hu hi hzz ⟨b, off, none⟩ ys.length cap news hnl hnm (by omega) (by simp at c3; omega) (by rw [hby]; simp at c2; omega)
          have hge := grownCap_ge w ys.length 0 e'
          obtain ⟨M', F', own', r1, r2, r3, r4⟩ := hR.newTok (w' := w.drew.alloc (.cells (news.toArray ++ Builtin.zeroCells z.cells (grownCap w ys.length 0 e' - ys.length)) e')) (cap := grownCap w ys.length 0 e') (d := d) (xs := [] ++ ys) (sz := te.size)
            (.inr ⟨none, _, hF, by simp; omega⟩) rfl rfl rfl rfl
            (by rw [Array.size_append, hns, size_zeroCells, hzs, ← Nat.add_mul]; congr 1; omega) hge (by simp only [List.nil_append]; rw [zkn hns]; exact e5) (fr' := fr1.app (.wr d (.tok e' te.size (([] : List CV).length + ys.length)))) ⟨rfl, rfl, fun x => by simp only [Fr.app]; rw [km]; simp⟩
          exact xg (hexec a w _ _ (by rw [hvp, hval, e1]; exact hrun)) (hk _ M' F' own' _ r1 (by simpa using r4) r2 r3)
        | some bc =>
          obtain ⟨g, gc⟩ := bc
          obtain ⟨vs, v1, v2, v3, v4, v5⟩ := o3
          have hval : vp = .slice (some ⟨g, 0, none⟩) xs.length gc := hval
          have hgown := hown g rfl
          have hglt := (Array.getElem?_eq_some_iff.1 v1).1
          have hcut := Nat.mul_le_mul_right te.size v3
          by_cases hroom : xs.length + ys.length ≤ gc
          · -- there is room
            have hfit : xs.length * i.size + news.length ≤ vs.size := by rw [e3, hsz, v2, ← Nat.add_mul]; exact Nat.mul_le_mul_right _ hroom
            have hrun := run_append_room (P := X.P) w t o.type e' i hu hi g xs.length gc vs v1 ⟨b, off, none⟩ ys.length cap news hnl hnm (zju e5 e3 (fun x hx => (c4 x hx).2)) hroom hfit
            rw [hsz] at hrun hfit
            generalize hrow : (vs.toList.take (xs.length * te.size) ++ news ++ vs.toList.drop (xs.length * te.size + news.length)).toArray = row at hrun
            have hrsz : row.size = vs.size := by rw [← hrow]; simp; omega
            have hrold : ∀ k, k < xs.length * te.size → row[k]? = vs[k]? := by
              intro k hk'
              rw [← hrow, List.getElem?_toArray, List.append_assoc, List.getElem?_append_left (by simp; omega), List.getElem?_take_of_lt hk', Array.getElem?_toList]
            have hrnew : ∀ k, k < ys.length * te.size → row[xs.length * te.size + k]? = news[k]? := by
              intro k hk'
              have : (vs.toList.take (xs.length * te.size)).length = xs.length * te.size := by simp; omega
              rw [← hrow, List.getElem?_toArray, List.append_assoc, List.getElem?_append_right (by omega), this, List.getElem?_append_left (by omega)]
              congr 1; omega
            let M' : Mem := fun b' o => if b' = g then (if o < (xs.length + ys.length) * te.size then row[o]? else none) else M b' o
            have hmul : (xs.length + ys.length) * te.size = xs.length * te.size + ys.length * te.size := Nat.add_mul _ _ _
            have hM : Mem.le M M' := by
              intro b' k v hk'
              by_cases hbg : b' = g
              · subst hbg
                have hlt : k < xs.length * te.size := by
                  rcases Nat.lt_or_ge k (xs.length * te.size) with h | h
                  · exact h
                  · rw [v5 k h] at hk'; cases hk'
                simp only [M', if_true]
                rw [if_pos (by omega), hrold k hlt, ← v4 k hlt]; exact hk'
              · simp [M', hbg, hk']
            have hnew : (w.setRow g row).heap[g]? = some (.cells row e' (0, 0)) := setRow_heap w g vs row e' _ v1
            have hT : Touch M own w (.f d) (.tok (some (g, gc)) (xs.length + ys.length) te.size) M' (w.setRow g row) := by
              refine ⟨by simp, rfl, rfl, rfl, fun b' _ hne => ⟨setRow_other w g b' row (fun e => by subst e; exact hne hgown), fun k => ?_⟩, hM, fun b' k v _ hk' => ?_, fun b' hb' => ?_⟩
              · have : b' ≠ g := fun e => by subst e; exact hne hgown
                simp [M', this]
              · by_cases hbg : b' = g
                · subst hbg
                  simp only [M', if_true] at hk'
                  split at hk'
                  · simp [World.cell?, hnew, hk']
                  · cases hk'
                · simp only [M', hbg, if_false] at hk'
                  rw [yv (setRow_other w g b' row hbg)]; exact hR.mem _ _ _ hk'
              · simp [FO.block] at hb'; subst hb'; exact ⟨.inl hgown, by simpa using hglt⟩
            have hob' : ObRep M' (zfv F d (.tok (some (g, gc)) (xs.length + ys.length) te.size)) (w.setRow g row) (.tok (some (g, gc)) (xs.length + ys.length) te.size) (.tok e' te.size (xs.length + ys.length)) := by
              refine ⟨rfl, rfl, row, hnew, by rw [hrsz, v2], hroom, fun k hk' => by simp [M', hk'], fun k hk' => ?_⟩
              have : ¬ k < (xs.length + ys.length) * te.size := by omega
              simp [M', this]
            obtain ⟨t1, t2, t3⟩ := hR.touch (fr' := fr1.app (.wr d (.tok e' te.size (xs.length + ys.length)))) d _ _ hT (fun fo0 e0 => by rw [hF] at e0; cases e0; exact .tok _ _ _ _ _ (by omega)) hob' ⟨rfl, rfl, fun x => km _ _ _ _⟩
            have hxr : ∀ (k : Nat) (x : CV) (j : Nat) c, xs[k]? = some x → x.cells[j]? = some c → Rep M' FM.no (row.getD (k * te.size + j) undef) c ∧ x.cells.length = te.size := by
              intro k x j c hx hcc
              rw [hval] at hv
              cases hv with
              | vec sz' _ _ _ _ _ us hn' hc' hs' hm' hr' =>
                have hss : sz' = te.size := by rw [← hs' k x hx, hzl k x hx]
                subst hss
                have hk := (List.getElem?_eq_some_iff.1 hx).1
                have hj : j < te.size := by rw [← hzl k x hx]; exact (List.getElem?_eq_some_iff.1 hcc).1
                have hlt := zz (sz := te.size) hk
                have hm := hm' k x j c hx hcc
                rw [Nat.zero_add, v4 _ (by omega), ← hrold _ (by omega)] at hm
                have : row.getD (k * te.size + j) undef = us k j := by simp [Array.getD_eq_getD_getElem?, hm]
                rw [this]
                exact ⟨(hr' k x j c hx hcc).mono hM (FM.le.refl _), hzl k x hx⟩
            have hrr : RowRep M' (row.extract 0 ((xs ++ ys).length * te.size)) te.size (xs ++ ys) := by
              have hexg : ∀ k, k < (xs.length + ys.length) * te.size → (row.extract 0 ((xs ++ ys).length * te.size)).getD k undef = row.getD k undef := by
                intro k hk'
                rw [hlen, Array.getD_eq_getD_getElem?, Array.getElem?_extract, if_pos (by rw [hrsz, v2]; have := Nat.mul_le_mul_right te.size hroom; omega), Nat.zero_add, ← Array.getD_eq_getD_getElem?]
              refine ⟨by rw [hlen, Array.size_extract, hrsz, v2]; have := Nat.mul_le_mul_right te.size hroom; omega, fun k x hx => ?_, fun k x j c hx hcc => ?_⟩
              · by_cases hk : k < xs.length
                · rw [List.getElem?_append_left hk] at hx; exact hzl k x hx
                · rw [List.getElem?_append_right (by omega)] at hx; exact e5.len _ x hx
              · by_cases hk : k < xs.length
                · rw [List.getElem?_append_left hk] at hx
                  have hj : j < te.size := by rw [← hzl k x hx]; exact (List.getElem?_eq_some_iff.1 hcc).1
                  have hlt := zz (sz := te.size) hk
                  rw [hexg _ (by omega)]
                  exact (hxr k x j c hx hcc).1
                · rw [List.getElem?_append_right (by omega)] at hx
                  have hk2 := (List.getElem?_eq_some_iff.1 hx).1
                  have hj : j < te.size := by rw [← e5.len _ x hx]; exact (List.getElem?_eq_some_iff.1 hcc).1
                  have hlt := zz (sz := te.size) hk2
                  have hsub : k * te.size = xs.length * te.size + (k - xs.length) * te.size := by rw [← Nat.add_mul]; congr 1; omega
                  rw [hexg _ (by omega)]
                  have hre := (e5.rep _ x j c hx hcc).mono hM (FM.le.refl _)
                  have : row.getD (k * te.size + j) undef = news.toArray.getD ((k - xs.length) * te.size + j) undef := by
                    rw [Array.getD_eq_getD_getElem?, hsub, Nat.add_assoc, hrnew _ (by omega)]
                    simp [Array.getD_eq_getD_getElem?]
                  rw [this]; exact hre
            refine xg (hexec a w _ _ (by rw [hvp, hval, e1]; exact hrun)) (hk _ M' _ _ _ t1 ?_ t2 t3)
            refine .avec d (xs ++ ys) (some (g, gc)) (xs.length + ys.length) te.size ?_ (by simp [zfv]) hrr.len (by omega) (fun _ => rfl)
            rw [← hlen]
            refine zhp hrr (Mem.le.refl _) (fun k hk' => ?_) (by omega)
            rw [hlen] at hk' ⊢
            simp only [M', if_true, if_pos hk']
            rw [Array.getElem?_extract, if_pos (by rw [hrsz, v2]; have := Nat.mul_le_mul_right te.size hroom; omega), Nat.zero_add]
          · -- a new row
            have hold : ∃ olds : List Value, olds.length = xs.length * te.size ∧ (∀ (j : Nat) u, olds[j]? = some u → M g (0 + j) = some u) ∧ RowRep M olds.toArray te.size xs := by
              by_cases hx0 : xs.length = 0
              · have : xs = [] := List.eq_nil_of_length_eq_zero hx0
                subst this
                exact ⟨[], by simp, by simp, ⟨by simp, by simp, by simp⟩⟩
              · obtain ⟨b0, off0, cap0, olds, q1, q2, q3, q4, q5⟩ := zhq hR.toRg hv hzl (by omega)
                rw [hval] at q1
                cases q1
                exact ⟨olds, q3, q4, q5⟩
            · obtain ⟨olds, q3, q4, q5⟩ := hold
              have hrun := run_append_grow (P := X.P) w t o.type e' i z hu hi hzz ⟨g, 0, none⟩ xs.length gc olds (by rw [q3, hsz]) (fun j u hu => by rw [qs]; exact hR.mem _ _ _ (q4 j u hu)) ⟨b, off, none⟩ ys.length cap news hnl hnm (by omega) (by omega)
                (growslice_fits (by omega) (by rw [hby]; exact c2))
              have hge := grownCap_ge w (xs.length + ys.length) gc e'
              have hos : (olds.toArray ++ news.toArray).size = (xs ++ ys).length * te.size := by simp [q3, e3, Nat.add_mul]
              obtain ⟨M', F', own', r1, r2, r3, r4⟩ := hR.newTok (w' := w.drew.alloc (.cells (olds.toArray ++ news.toArray ++ Builtin.zeroCells z.cells (grownCap w (xs.length + ys.length) gc e' - (xs.length + ys.length))) e')) (cap := grownCap w (xs.length + ys.length) gc e') (d := d) (xs := xs ++ ys) (sz := te.size)
                (.inr ⟨some (g, gc), _, hF, by simp; omega⟩) rfl rfl rfl rfl
                (by rw [Array.size_append, hos, size_zeroCells, hzs, hlen, ← Nat.add_mul]; congr 1; omega) (by rw [hlen]; exact hge) (by rw [zkn hos]; exact q5.app e5) (fr' := fr1.app (.wr d (.tok e' te.size (xs.length + ys.length)))) ⟨rfl, rfl, fun x => by simp only [Fr.app]; rw [km, hlen]⟩
              exact xg (hexec a w _ _ (by rw [hvp, hval, e1]; exact hrun)) (hk _ M' F' own' _ r1 (by rw [hlen] at r4; exact r4) r2 r3)
    · exact hC.elim
  · exact hC.elim
theorem yn {P : Program} (w : World) (t ty e : TypeId) (i : TypeInfo) (hu : P.underlying t = some (.slice e)) (hi : P.info? e = some i) (b : Option (Nat × Nat)) (n cap c : Nat) (ad : Option Addr) (hn : n ≤ cap) :
    (Builtin.append_ #[t, t] ty #[.slice (b.map fun p => ⟨p.1, p.2, none⟩) n cap, .slice ad 0 c]).run P w = .ok (.slice (b.map fun p => ⟨p.1, p.2, none⟩) n cap) w := by
  cases b <;> cases ad <;> simp [Builtin.append_, run_underlying hu, sizeOf, typeInfo, hi, Builtin.lenOf, Builtin.firstCells, hn, loadCells, storeCells, loadCellsFrom]
theorem zxh {M : Mem} {vs : Array Value} {sz n : Nat} {xs ys : List CV} {news : List Value} (hlens : ∀ (i : Nat) (x : CV), xs[i]? = some x → x.cells.length = sz)
    (hr : ∀ (i : Nat) (x : CV) (j : Nat) c, xs[i]? = some x → x.cells[j]? = some c → Rep M FM.no (vs.getD (i * sz + j) undef) c) (hn : n ≤ xs.length) (hnews : RowRep M news.toArray sz ys) (hvs : n * sz + news.length ≤ vs.size) :
    (∀ (i : Nat) (x : CV), (xs.take n ++ ys ++ xs.drop (n + ys.length))[i]? = some x → x.cells.length = sz) ∧
    ∀ (i : Nat) (x : CV) (j : Nat) c, (xs.take n ++ ys ++ xs.drop (n + ys.length))[i]? = some x → x.cells[j]? = some c →
      Rep M FM.no ((vs.toList.take (n * sz) ++ news ++ vs.toList.drop (n * sz + news.length)).toArray.getD (i * sz + j) undef) c := by
  have hto : (xs.take n).length = n := by simp; omega
  have hnl : news.length = ys.length * sz := by simpa using hnews.size
  have hlen2 : ∀ (i : Nat) (x : CV), (xs.take n ++ ys ++ xs.drop (n + ys.length))[i]? = some x → (i < n ∧ xs[i]? = some x) ∨ (n ≤ i ∧ i < n + ys.length ∧ ys[i - n]? = some x) ∨ (n + ys.length ≤ i ∧ xs[i]? = some x) := by
    intro i x hx
    by_cases h1 : i < n
    · rw [List.append_assoc, List.getElem?_append_left (by omega), List.getElem?_take_of_lt h1] at hx
      exact .inl ⟨h1, hx⟩
    · rw [List.append_assoc, List.getElem?_append_right (by omega), hto] at hx
      by_cases h2 : i < n + ys.length
      · rw [List.getElem?_append_left (by omega)] at hx
        exact .inr (.inl ⟨by omega, h2, hx⟩)
      · rw [List.getElem?_append_right (by omega), List.getElem?_drop] at hx
        refine .inr (.inr ⟨by omega, ?_⟩)
        rw [← hx]; congr 1; omega
  refine ⟨fun i x hx => ?_, fun i x j c hx hc => ?_⟩
  · rcases hlen2 i x hx with h | h | h
    · exact hlens i x h.2
    · exact hnews.len _ x h.2.2
    · exact hlens i x h.2
  · rw [zt8 _ _ _ _ (by simp; omega)]
    rcases hlen2 i x hx with h | h | h
    · have hj : j < sz := by rw [← hlens i x h.2]; exact (List.getElem?_eq_some_iff.1 hc).1
      have := zz (sz := sz) h.1
      rw [if_pos (by omega)]; exact hr i x j c h.2 hc
    · have hj : j < sz := by rw [← hnews.len _ x h.2.2]; exact (List.getElem?_eq_some_iff.1 hc).1
      have h3 : n * sz ≤ i * sz := Nat.mul_le_mul_right _ h.1
      have h4 := zz (sz := sz) h.2.1
      rw [Nat.add_mul] at h4
      have := hnews.rep _ x j c h.2.2 hc
      rw [Nat.sub_mul] at this
      rw [if_neg (by omega), if_pos (by omega), show i * sz + j - n * sz = i * sz - n * sz + j by omega]
      simpa [Array.getD_eq_getD_getElem?, List.getD_eq_getElem?_getD] using this
    · have h3 : (n + ys.length) * sz ≤ i * sz := Nat.mul_le_mul_right _ h.1
      rw [Nat.add_mul] at h3
      rw [if_neg (by omega), if_neg (by omega)]; exact hr i x j c h.2 hc
theorem R.newArrG {M : Mem} {F : FM} {own : Owns} {fr : Fr} {σ : Heap} {a : Act} {w w' : World} {vs : Array Value} {e : TypeId} {sz cap : Nat} {xs : List CV} (hR : R M F own fr σ a w)
    (hw : w'.heap = w.heap.push (.cells vs e (0, 0))) (h1 : w'.os = w.os) (h2 : w'.tape = w.tape) (h3 : w'.output = w.output) (hsz : vs.size = cap * sz) (hc : xs.length ≤ cap)
    (hlens : ∀ (i : Nat) (x : CV), xs[i]? = some x → x.cells.length = sz)
    (hr : ∀ (i : Nat) (x : CV) (j : Nat) c, xs[i]? = some x → x.cells[j]? = some c → Rep M FM.no (vs.getD (i * sz + j) undef) c) :
    ∃ own', R M F own' fr (upd σ w.heap.size (.arr e sz cap xs)) a w' ∧ KExt M own w M own' w' := by
  have hnew : w'.heap[w.heap.size]? = some (.cells vs e (0, 0)) := by rw [hw]; simp
  obtain ⟨t1, t2⟩ := hR.touchG w.heap.size (.row w.heap.size xs.length cap) (.arr e sz cap xs) (zhc hR.toRg _ _ _ rfl hw h1 h2 h3 (fun _ _ _ => rfl) (fun o v h => by rw [R.new_at hR.toRg] at h; cases h)) rfl
    ⟨rfl, rfl, vs, hnew, hsz, hc, hlens, hr, R.new_at hR.toRg⟩
  exact ⟨_, t1, t2⟩
theorem ztb {det : Bool} {c : Call} (hX : X.ok) (ho : o.op = .call c) (hb : c.callee = .builtin .append) {x y : CV}
    (h : z33 X c.argTypes fun e te => zbp fr y fun ys le => isT (match le with | .no => true | _ => false) <| match x with
    | .nil => Fork ys.isEmpty (K .nil .no .no) <| match zx0 X o.dst with
      | true => Need (ys.length * te.bytes ≤ 140737488355328 ∧ ys.length ≤ 9223372036854775807 ∧ ElsOk te.size ys) <|
          AllocC det σ ys.length fun l cap => K (.grow l ys.length cap) .no (.ext (upd σ l (.arr e te.size cap ys)))
      | false => Need (1 ≤ ys.length ∧ ys.length * te.bytes ≤ 140737488355328 ∧ ys.length ≤ 9223372036854775807 ∧ ElsOk te.size ys) <|
        zg8 fr o.dst fun d => K (.avec d ys) (.new d (.tok e te.size ys.length)) .no
    | .avec d xs => match z6 fr.locs d with
      | some (.tok e' sz n) => eqN e' e <| eqN sz te.size <| Fork ys.isEmpty (Need (n = xs.length) (K (.avec d xs) .no .no)) <|
          Need (n = xs.length ∧ 1 ≤ ys.length ∧ (xs.length + ys.length) * te.bytes ≤ 140737488355328 ∧ xs.length + ys.length ≤ 9223372036854775807 ∧ ElsOk te.size ys) <|
          K (.avec d (xs ++ ys)) (.wr d (.tok e' sz (xs.length + ys.length))) .no
      | _ => False
    | .grow l n cap => Fork ys.isEmpty (Need (n ≤ cap) (K (.grow l n cap) .no .no)) <| GetN σ l fun ob => match ob with
      | .arr e' sz cap' xs => eqN e' e <| eqN sz te.size <|
        Need (cap' = cap ∧ n ≤ xs.length ∧ (n + ys.length) * te.bytes ≤ 140737488355328 ∧ n + ys.length ≤ 9223372036854775807 ∧ ElsOk te.size ys) <|
          Fork (decide (n + ys.length ≤ cap)) (K (.grow l (n + ys.length) cap) .no (.wr (upd σ l (.arr e' sz cap' (xs.take n ++ ys ++ xs.drop (n + ys.length))))))
            (AllocC det σ (n + ys.length) fun l' cap'' => K (.grow l' (n + ys.length) cap'') .no (.ext (upd σ l' (.arr e' sz cap'' (xs.take n ++ ys)))))
      | _ => False
    | .vec xs => Fork ys.isEmpty (K (.vec xs) .no .no) False
    | _ => False) (hx : c.args.toList.map (zk fr) = [x, y]) : Got X o fr σ K KP ∨ (det = false ∧ TriN X o fr σ K KP) := by
  obtain ⟨p, q, hpq, hpx, hqy⟩ : ∃ p q, c.args.toList = [p, q] ∧ zk fr p = x ∧ zk fr q = y := by
    cases hq : c.args.toList with
    | nil => rw [hq] at hx; simp at hx
    | cons p r =>
      rw [hq] at hx
      cases r with
      | nil => simp at hx
      | cons q r' =>
        simp only [List.map_cons, List.cons.injEq, List.map_eq_nil_iff] at hx
        exact ⟨p, q, by rw [hx.2.2], hx.1, hx.2.1⟩
  have hargs : c.args = #[p, q] := by rw [← Array.toArray_toList (xs := c.args), hpq]
  have hmp : p ∈ o.op.operands.toList := by simp [ho, Op.operands, Call.operands, hargs]
  have hmq : q ∈ o.op.operands.toList := by simp [ho, Op.operands, Call.operands, hargs]
  have h0 := h
  obtain ⟨t, e, te, i, z, hts, hu, hi, hsz, hby, hzz, hzs, h1, hA⟩ := zr2 hX h
  obtain ⟨ys, le, hB, hys⟩ := zcq hA
  obtain ⟨hle, hC⟩ := zf hB
  clear hB hA
  have hyv : ∀ {M : Mem} {F : FM} {v : Value}, Rep M F v y → Rep M F v (.vec ys) := by
    rcases hys with ⟨rfl, hr⟩ | ⟨d, sz, _, rfl, _⟩
    · exact hr
    · simp at hle
  have hexec : ∀ (a : Act) (w w' : World) (v : Value), (Builtin.append_ #[t, t] o.type #[a.eval p, a.eval q]).run X.P w = .ok v w' → (execOp a.eval o).run X.P w = .ok (.value v) w' := fun a w w' v e => by
    simp [execOp, ho, resolve, hb, invoke, builtin, hts, hargs, e]
  cases hem : ys.isEmpty with
  | true =>
    have hy0 : ys = [] := by simpa using hem
    subst hy0
    left
    split at hC
    · refine .inl ⟨_, _, _, hC.t rfl, zo fun {M F own fr1 σ1 a w} _ hop => ⟨.slice none 0 0, ?_, .nil⟩⟩
      have hrp := hop p hmp
      rw [hpx] at hrp
      have hrq := hyv (hqy ▸ hop q hmq)
      obtain ⟨ad, cap, hvq⟩ := zdu hrq
      generalize hvp : a.eval p = vp at hrp
      cases hrp
      exact hexec a w w _ (by rw [hvp, hvq]; exact yn w t o.type e i hu hi none 0 0 cap ad (Nat.le_refl _))
    · rename_i d xs
      split at hC
      · rename_i e' sz n hl
        obtain ⟨h2, hD⟩ := zw hC
        obtain ⟨h3, hE⟩ := zw hD
        refine .inl ⟨_, _, _, (hE.t rfl).t, zo fun {M F own fr1 σ1 a w} _ hop => ⟨a.eval p, ?_, by rw [← hpx]; exact hop p hmp⟩⟩
        have hrp := hop p hmp
        rw [hpx] at hrp
        have hrq := hyv (hqy ▸ hop q hmq)
        obtain ⟨ad, cap, hvq⟩ := zdu hrq
        generalize hvp : a.eval p = vp at hrp
        cases hrp with
        | avec _ _ s m szz hv ho' hzl hml hval =>
          cases hv with
          | nilvec => exact hexec a w w _ (by rw [hvp, hvq]; exact yn w t o.type e i hu hi none 0 0 cap ad (Nat.le_refl _))
          | vec sz' b off n' cap' _ us hn' hc' hs' hm' hr' => exact hexec a w w _ (by rw [hvp, hvq]; exact yn w t o.type e i hu hi (some (b, off)) n' cap' cap ad hc')
      · exact hC.elim
    · rename_i l n cap
      have hE := hC.t rfl
      refine .inl ⟨_, _, _, hE.t, zo fun {M F own fr1 σ1 a w} _ hop => ⟨.slice (some ⟨l, 0, none⟩) n cap, ?_, .grow l n cap⟩⟩
      have hrp := hop p hmp
      rw [hpx] at hrp
      have hrq := hyv (hqy ▸ hop q hmq)
      obtain ⟨ad, cap', hvq⟩ := zdu hrq
      generalize hvp : a.eval p = vp at hrp
      cases hrp
      exact hexec a w w _ (by rw [hvp, hvq]; exact yn w t o.type e i hu hi (some (l, 0)) n cap cap' ad hE.c)
    · rename_i xs
      refine .inl ⟨_, _, _, hC.t rfl, zo fun {M F own fr1 σ1 a w} _ hop => ⟨a.eval p, ?_, by rw [← hpx]; exact hop p hmp⟩⟩
      have hrp := hop p hmp
      rw [hpx] at hrp
      have hrq := hyv (hqy ▸ hop q hmq)
      obtain ⟨ad, cap, hvq⟩ := zdu hrq
      generalize hvp : a.eval p = vp at hrp
      cases hrp with
      | nilvec => exact hexec a w w _ (by rw [hvp, hvq]; exact yn w t o.type e i hu hi none 0 0 cap ad (Nat.le_refl _))
      | vec sz' b off n' cap' _ us hn' hc' hs' hm' hr' => exact hexec a w w _ (by rw [hvp, hvq]; exact yn w t o.type e i hu hi (some (b, off)) n' cap' cap ad hc')
    · exact hC.elim
  | false =>
    have hne : 1 ≤ ys.length := by
      cases ys with
      | nil => cases hem
      | cons _ _ => simp
    split at hC
    · have hD := hC.e hem
      split at hD
      · obtain ⟨c1, c2, c3⟩ := hD.c
        refine .inr ⟨hD.t.d, ?_⟩
        intro M F own fr1 σ1 a w hR _ hops hσ next Q hnx _
        subst hσ
        have hrp : Rep M F (a.eval p) .nil := by rw [← hpx, ← hops p hmp]; exact zd hR p
        have hrq : Rep M F (a.eval q) (.vec ys) := hyv (by rw [← hqy, ← hops q hmq]; exact zd hR q)
        obtain ⟨b, off, cap, news, e1, e2, e3, e4, e5⟩ := zhq hR.toRg hrq (fun i x hx => (c3 x (List.mem_of_getElem? hx)).1) hne
        generalize hvp : a.eval p = vp at hrp
        cases hrp
        have hrun := run_append_nil (P := X.P) w t o.type e i z hu hi hzz ⟨b, off, none⟩ ys.length cap news (by rw [e3, hsz]) (fun j u hu => by rw [qs]; exact hR.mem _ _ _ (e4 j u hu)) (by omega) (by omega) (by rw [hby]; omega)
        have hge := grownCap_ge w ys.length 0 e
        have hns : news.toArray.size = ys.length * te.size := by simp [e3]
        obtain ⟨own', t1, t2⟩ := hR.newArrG (w' := w.drew.alloc (.cells (news.toArray ++ Builtin.zeroCells z.cells (grownCap w ys.length 0 e - ys.length)) e)) (cap := grownCap w ys.length 0 e) (xs := ys) (sz := te.size) rfl rfl rfl rfl
          (by rw [Array.size_append, hns, size_zeroCells, hzs, ← Nat.add_mul]; congr 1; omega) hge e5.len (fun k x j c hx hcc => by
            have hk := (List.getElem?_eq_some_iff.1 hx).1
            have hj : j < te.size := by rw [← e5.len k x hx]; exact (List.getElem?_eq_some_iff.1 hcc).1
            have := zz (sz := te.size) hk
            rw [Array.getD_eq_getD_getElem?, Array.getElem?_append_left (by omega), ← Array.getD_eq_getD_getElem?]
            exact e5.rep k x j c hx hcc)
        exact xg (hexec a w _ _ (by rw [hvp, e1]; exact hrun)) (hnx _ _ _ _ _ _ _ _ (.inr ⟨rfl, (Sub.refl _).upd hR.freshL⟩) (hD.t.h _ _ hR.freshL hge) t1 (.grow _ _ _) t2 (FM.le.refl _))
      · exact .inl (zgf hD hpx hqy hmp hmq hu hi hsz hby hzz hzs h1 hyv hexec)
    · rename_i d xs
      refine .inl (zgf ?_ hpx hqy hmp hmq hu hi hsz hby hzz hzs h1 hyv hexec)
      dsimp only
      split at hC
      · obtain ⟨h2, hD⟩ := zw hC
        obtain ⟨h3, hE⟩ := zw hD
        subst h2; subst h3
        simp only [eqN, Nat.beq_refl]
        exact hE.e hem
      · exact hC.elim
    · rename_i l n cap
      obtain ⟨ob, hl, hE⟩ := (hC.e hem).h
      split at hE
      · rename_i e' sz cap' xs
        obtain ⟨h2, hF1⟩ := zw hE
        obtain ⟨h3, hF2⟩ := zw hF1
        clear hC hE hF1
        obtain ⟨c0, c1, c2, c3, c4⟩ := hF2.c
        subst h2; subst h3; subst c0
        have hG := hF2.t
        clear hF2 h0 h
        have hgrow : ∀ {M : Mem} {F : FM} {own : Owns} {fr1 : Fr} {σ1 : Heap} {a : Act} {w : World}, R M F own fr1 σ1 a w → (∀ x ∈ o.op.operands.toList, zk fr1 x = zk fr x) → a.eval p = .slice (some ⟨l, 0, none⟩) n cap' ∧
            ∃ (b off cp : Nat) (news : List Value), a.eval q = .slice (some ⟨b, off, none⟩) ys.length cp ∧ news.length = ys.length * te.size ∧ (∀ (j : Nat) u, news[j]? = some u → w.cell? ((⟨b, off, none⟩ : Addr).add j) = some u) ∧ RowRep M news.toArray te.size ys := by
          intro M F own fr1 σ1 a w hR hops
          have hrp : Rep M F (a.eval p) (.grow l n cap') := by rw [← hpx, ← hops p hmp]; exact zd hR p
          have hrq : Rep M F (a.eval q) (.vec ys) := hyv (by rw [← hqy, ← hops q hmq]; exact zd hR q)
          obtain ⟨b, off, cp, news, e1, e2, e3, e4, e5⟩ := zhq hR.toRg hrq (fun i x hx => (c4 x (List.mem_of_getElem? hx)).1) hne
          refine ⟨?_, b, off, cp, news, e1, e3, fun j u hu => by rw [qs]; exact hR.mem _ _ _ (e4 j u hu), e5⟩
          generalize a.eval p = vp at hrp
          cases hrp; rfl
        by_cases hroom : n + ys.length ≤ cap'
        · left
          refine .inl ⟨_, _, _, hG.t (decide_eq_true hroom), ?_⟩
          refine ⟨fun _ e => (by cases e), ?_⟩
          intro M F own fr1 σ1 a w hR hn hops hloc hhe next Q hk
          have hσ : σ1 = σ := hhe
          subst hσ
          obtain ⟨g1, b, off, cp, news, g2, g3, g4, g5⟩ := hgrow hR hops
          obtain ⟨vs, hb1, hvs, hnc, hlens, hr, hM⟩ := zay hR.toRg hl
          have hfit : n * i.size + news.length ≤ vs.size := by
            rw [g3, hsz, hvs, ← Nat.add_mul]; exact Nat.mul_le_mul_right _ hroom
          have hrun := run_append_room (P := X.P) w t o.type e' i hu hi l n cap' vs hb1 ⟨b, off, none⟩ ys.length cp news (by rw [g3, hsz]) g4 (zju g5 g3 (fun x hx => (c4 x hx).2)) hroom hfit
          rw [hsz] at hrun hfit
          obtain ⟨a1, a2⟩ := zxh hlens hr c1 g5 hfit
          have hlt := (Array.getElem?_eq_some_iff.1 hb1).1
          have hlen : (xs.take n ++ ys ++ xs.drop (n + ys.length)).length ≤ cap' := by simp; omega
          obtain ⟨t1, t2⟩ := hR.touchG l (.row l (xs.take n ++ ys ++ xs.drop (n + ys.length)).length cap') (.arr e' te.size cap' (xs.take n ++ ys ++ xs.drop (n + ys.length))) (q0 hR.toRg (.g l) (.row l _ cap') l (vs.toList.take (n * te.size) ++ news ++ vs.toList.drop (n * te.size + news.length)).toArray rfl (hR.glob l _ hl).1 hM hlt) rfl
            ⟨rfl, rfl, _, setRow_heap w l vs _ e' _ hb1, by simp; omega, hlen, a1, a2, hM⟩
          exact xg (hexec a w _ _ (by rw [g1, g2]; exact hrun)) (hk _ _ _ _ _ t1 (.grow _ _ _) t2 (FM.le.refl _))
        · have hH := hG.e (decide_eq_false hroom)
          refine .inr ⟨hH.d, ?_⟩
          intro M F own fr1 σ1 a w hR _ hops hσ next Q hnx _
          subst hσ
          obtain ⟨g1, b, off, cp, news, g2, g3, g4, g5⟩ := hgrow hR hops
          obtain ⟨vs, hb1, hvs, hnc, hlens, hr, hM⟩ := zay hR.toRg hl
          have hcap := Nat.mul_le_mul_right te.size hnc
          have hnx1 := Nat.mul_le_mul_right te.size c1
          let olds : List Value := vs.toList.take (n * te.size)
          have ho1 : olds.length = n * te.size := by simp [olds]; omega
          have hrun := run_append_grow (P := X.P) w t o.type e' i z hu hi hzz ⟨l, 0, none⟩ n cap' olds (by rw [ho1, hsz]) (fun j u hu => by
              have hj : j < n * te.size := by rw [← ho1]; exact (List.getElem?_eq_some_iff.1 hu).1
              simp only [olds] at hu
              rw [List.getElem?_take_of_lt hj] at hu
              rw [qs, Nat.zero_add]
              simpa [World.cell?, hb1] using hu) ⟨b, off, none⟩ ys.length cp news (by rw [g3, hsz]) g4 (by omega) (by omega)
            (growslice_fits (by omega) (by rw [hby]; exact c2))
          have hge := grownCap_ge w (n + ys.length) cap' e'
          have hos : (olds.toArray ++ news.toArray).size = (n + ys.length) * te.size := by simp [ho1, g3, Nat.add_mul]
          have hlx : (xs.take n ++ ys).length = n + ys.length := by simp; omega
          have hold : RowRep M olds.toArray te.size (xs.take n) := by
            refine ⟨by simp only [List.size_toArray, ho1, List.length_take, Nat.min_eq_left c1], fun k x hx => ?_, fun k x j c hx hcc => ?_⟩
            · have hk : k < n := by have := (List.getElem?_eq_some_iff.1 hx).1; simp at this; omega
              rw [List.getElem?_take_of_lt hk] at hx; exact hlens k x hx
            · have hk : k < n := by have := (List.getElem?_eq_some_iff.1 hx).1; simp at this; omega
              rw [List.getElem?_take_of_lt hk] at hx
              have hj : j < te.size := by rw [← hlens k x hx]; exact (List.getElem?_eq_some_iff.1 hcc).1
              have h5 := zz (sz := te.size) hk
              have := hr k x j c hx hcc
              simp only [olds, Array.getD_eq_getD_getElem?, List.getElem?_toArray]
              rw [List.getElem?_take_of_lt (by omega)]
              simpa [Array.getD_eq_getD_getElem?] using this
          have hall := hold.app g5
          obtain ⟨own', t1, t2⟩ := hR.newArrG (w' := w.drew.alloc (.cells (olds.toArray ++ news.toArray ++ Builtin.zeroCells z.cells (grownCap w (n + ys.length) cap' e' - (n + ys.length))) e')) (cap := grownCap w (n + ys.length) cap' e') (xs := xs.take n ++ ys) (sz := te.size) rfl rfl rfl rfl
            (by rw [Array.size_append, hos, size_zeroCells, hzs, ← Nat.add_mul]; congr 1; omega) (by rw [hlx]; exact hge) hall.len (fun k x j c hx hcc => by
              have hk := (List.getElem?_eq_some_iff.1 hx).1
              have hj : j < te.size := by rw [← hall.len k x hx]; exact (List.getElem?_eq_some_iff.1 hcc).1
              have := zz (sz := te.size) hk
              rw [hlx] at this
              rw [Array.getD_eq_getD_getElem?, Array.getElem?_append_left (by omega), ← Array.getD_eq_getD_getElem?]
              exact hall.rep k x j c hx hcc)
          exact xg (hexec a w _ _ (by rw [g1, g2]; exact hrun)) (hnx _ _ _ _ _ _ _ _ (.inr ⟨rfl, (Sub.refl _).upd hR.freshL⟩) (hH.h _ _ hR.freshL hge) t1 (.grow _ _ _) t2 (FM.le.refl _))
      · exact hE.elim
    · exact (hC.e hem).elim
    · exact hC.elim
theorem zpq {det : Bool} {c : Call} {k : IntKind} {n : Int} (hX : X.ok) (ho : o.op = .call c) (hb : c.callee = .builtin .append) (h : zwt X det σ o.dst c.argTypes n K) (hx : c.args.toList.map (zk fr) = [.nil, .sc (.int k n)]) :
    Got X o fr σ K KP ∨ (det = false ∧ TriN X o fr σ K KP) := by
  obtain ⟨p, q, hpq, hpx, hqy⟩ : ∃ p q, c.args.toList = [p, q] ∧ zk fr p = .nil ∧ zk fr q = .sc (.int k n) := by
    cases hq : c.args.toList with
    | nil => rw [hq] at hx; simp at hx
    | cons p r =>
      rw [hq] at hx
      cases r with
      | nil => simp at hx
      | cons q r' =>
        simp only [List.map_cons, List.cons.injEq, List.map_eq_nil_iff] at hx
        exact ⟨p, q, by rw [hx.2.2], hx.1, hx.2.1⟩
  have hargs : c.args = #[p, q] := by rw [← Array.toArray_toList (xs := c.args), hpq]
  have hmp : p ∈ o.op.operands.toList := by simp [ho, Op.operands, Call.operands, hargs]
  have hmq : q ∈ o.op.operands.toList := by simp [ho, Op.operands, Call.operands, hargs]
  unfold zwt at h
  split at h
  · rename_i t u hts
    have hts : c.argTypes = #[t, u] := by rw [← Array.toArray_toList (xs := c.argTypes), hts]
    split at h
    · rename_i ti tu ht htu
      split at h
      · rename_i te kk hte hik
        obtain ⟨hsl, h⟩ := zf h
        obtain ⟨hz, h⟩ := zf h
        obtain ⟨h1, h⟩ := vz h
        obtain ⟨hzl, h⟩ := zw h
        split at h
        · rename_i z' hzs
          obtain ⟨hzl', h⟩ := zw h
          obtain ⟨c1, c2, c3⟩ := h.c
          obtain ⟨_, h⟩ := zf h.t
          refine .inr ⟨h.d, ?_⟩
          intro M F own fr1 σ1 a w hR _ hops hσ next Q hnx _
          subst hσ
          obtain ⟨i, z, e1, e2, e3, e4, z2, z3⟩ := zig (hX _ te hte) hz
          have hu := vv (hX t ti ht) hsl
          have hui : X.P.underlying u = some (.int kk) := by
            obtain ⟨i, d, hi, hd, rfl⟩ := zt (hX u tu htu)
            simp only at hik
            split at hik
            · rename_i k' ; cases hik; exact hd
            · cases hik
          have hzc := kp (hX _ te hte) hzl hz
          have hrp : Rep M F (a.eval p) .nil := by rw [← hpx, ← hops p hmp]; exact zd hR p
          have hrq : Rep M F (a.eval q) (.sc (.int k n)) := by rw [← hqy, ← hops q hmq]; exact zd hR q
          generalize hvp : a.eval p = vp at hrp
          generalize hvq : a.eval q = vq at hrq
          cases hrp; cases hrq
          obtain ⟨m, rfl⟩ : ∃ m : Nat, n = m := ⟨n.toNat, by omega⟩
          have hrun := Lib.run_append_nil_zeros (P := X.P) w t u o.type ti.elem i z k kk hu hui e1 e4 m (by omega) (by omega) (by omega) (by rw [e3]; omega)
          have hge := grownCap_ge w m 0 ti.elem
          have hrow := zc3 (M := M) (te := te) m z2 z3 hzc h1
          have hzm : (Builtin.zeroCells z.cells m).size = m * te.size := by rw [size_zeroCells, z3]
          obtain ⟨own', t1, t2⟩ := hR.newArrG (w' := w.drew.alloc (.cells (Builtin.zeroCells z.cells m ++ Builtin.zeroCells z.cells (grownCap w m 0 ti.elem - m)) ti.elem)) (cap := grownCap w m 0 ti.elem) (xs := List.replicate m z') (sz := te.size) rfl rfl rfl rfl
            (by rw [Array.size_append, hzm, size_zeroCells, z3, ← Nat.add_mul]; congr 1; omega) (by simpa using hge) (fun i' x hx => by
              rw [List.getElem?_replicate] at hx
              split at hx
              · cases hx; exact hzl'
              · cases hx) (fun i' x j c' hx hcc => by
              rw [List.getElem?_replicate] at hx
              split at hx
              · cases hx
                rename_i hlt
                refine zfr (F := FM.no) hzs (by rw [hzl, hzl']) (vs := fun j => (Builtin.zeroCells z.cells m ++ Builtin.zeroCells z.cells (grownCap w m 0 ti.elem - m)).getD (i' * te.size + j) undef) (fun j c hc => ?_) j c' hcc
                have hj : j < te.size := by rw [← hzl]; exact (List.getElem?_eq_some_iff.1 hc).1
                have hlt2 := zz (sz := te.size) hlt
                have := hrow.rep i' (wd te) j c (by rw [List.getElem?_replicate, if_pos (by omega)]) hc
                rw [Array.getD_eq_getD_getElem?, Array.getElem?_append_left (by omega), ← Array.getD_eq_getD_getElem?]
                have hzz : Builtin.zeroCells z.cells m = madeCells z.cells (m * te.size) := by unfold Builtin.zeroCells madeCells; rw [z3]
                rw [hzz]; exact this
              · cases hx)
          refine xg ?_ (hnx _ _ _ _ _ _ _ _ (.inr ⟨rfl, (Sub.refl _).upd hR.freshL⟩) (h.h _ _ hR.freshL hge) t1 (.grow _ _ _) t2 (FM.le.refl _))
          simp [execOp, ho, resolve, hb, invoke, builtin, hts, hargs, hvp, hvq, hrun]
        · exact h.elim
      · exact h.elim
    · exact h.elim
  · exact h.elim
theorem zop {P : Program} (w : World) (t ty e : TypeId) (i : TypeInfo) (ht : P.underlying t = some (.slice e)) (hi : P.info? e = some i)
    (g n cap : Nat) (cur : Array Value) (hg : w.heap[g]? = some (.cells cur e (0, 0)))
    (a : Addr) (m c : Nat) (news : List Value) (hl : news.length = m * i.size) (hnews : ∀ j u, news[j]? = some u → w.cell? (a.add j) = some u) (h1 : ∀ u ∈ news, u.oneCell' = true)
    (hm : m ≤ n) (hfit : 0 * i.size + news.length ≤ cur.size) :
    (Builtin.copy_ #[t, t] ty #[.slice (some ⟨g, 0, none⟩) n cap, .slice (some a) m c]).run P w =
      .ok (goInt m) (w.setRow g (cur.toList.take (0 * i.size) ++ news ++ cur.toList.drop (0 * i.size + news.length)).toArray) := by
  have hf := run_firstCells_some (P := P) w i.size m a m c news hl hnews
  have hst := run_storeCells_at P g (0 * i.size) e news 0 cur w hg (by simpa using hfit) h1
  simp only [Nat.add_zero, Nat.zero_mul] at hst
  simp [Builtin.copy_, run_underlying ht, sizeOf, typeInfo, hi, Builtin.lenOf, Nat.min_eq_left hm, hf, hst]
theorem zil {P : Program} (w : World) (t ty e : TypeId) (i : TypeInfo) (ht : P.underlying t = some (.slice e)) (hi : P.info? e = some i) (g n cap c : Nat) (ad : Option Addr) :
    (Builtin.copy_ #[t, t] ty #[.slice (some ⟨g, 0, none⟩) n cap, .slice ad 0 c]).run P w = .ok (goInt 0) w := by
  cases ad with
  | none => simp [Builtin.copy_, run_underlying ht, sizeOf, typeInfo, hi, Builtin.lenOf, Builtin.firstCells, storeCells]
  | some ad =>
    have hf := run_firstCells_some (P := P) w i.size 0 ad 0 c [] (by simp) (fun j u h => by simp at h)
    simp [Builtin.copy_, run_underlying ht, sizeOf, typeInfo, hi, Builtin.lenOf, hf, storeCells]
theorem zzf {c : Call} (hX : X.ok) (ho : o.op = .call c) (hb : c.callee = .builtin .copy) {x y : CV}
    (h : z33 X c.argTypes fun e te => zbp fr y fun ys le => isT (match le with | .no => true | _ => false) <| match x with
    | .grow l n cap => Fork ys.isEmpty (K (.sc (.int .i64 0)) .no .no) <| GetN σ l fun ob => match ob with
      | .arr e' sz cap' xs => eqN e' e <| eqN sz te.size <| Need (cap' = cap ∧ ys.length ≤ n ∧ n ≤ xs.length ∧ ElsOk te.size ys) <|
          K (.sc (.int .i64 ys.length)) .no (.wr (upd σ l (.arr e' sz cap' (ys ++ xs.drop ys.length))))
      | _ => False
    | _ => False) (hx : c.args.toList.map (zk fr) = [x, y]) : Got X o fr σ K KP := by
  obtain ⟨p, q, hpq, hpx, hqy⟩ : ∃ p q, c.args.toList = [p, q] ∧ zk fr p = x ∧ zk fr q = y := by
    cases hq : c.args.toList with
    | nil => rw [hq] at hx; simp at hx
    | cons p r =>
      rw [hq] at hx
      cases r with
      | nil => simp at hx
      | cons q r' =>
        simp only [List.map_cons, List.cons.injEq, List.map_eq_nil_iff] at hx
        exact ⟨p, q, by rw [hx.2.2], hx.1, hx.2.1⟩
  have hargs : c.args = #[p, q] := by rw [← Array.toArray_toList (xs := c.args), hpq]
  have hmp : p ∈ o.op.operands.toList := by simp [ho, Op.operands, Call.operands, hargs]
  have hmq : q ∈ o.op.operands.toList := by simp [ho, Op.operands, Call.operands, hargs]
  obtain ⟨t, e, te, i, z, hts, hu, hi, hsz, hby, hzz, hzs, h1, hA⟩ := zr2 hX h
  obtain ⟨ys, le, hB, hys⟩ := zcq hA
  obtain ⟨hle, hC⟩ := zf hB
  clear hB hA
  have hyv : ∀ {M : Mem} {F : FM} {v : Value}, Rep M F v y → Rep M F v (.vec ys) := by
    rcases hys with ⟨rfl, hr⟩ | ⟨d, sz, _, rfl, _⟩
    · exact hr
    · simp at hle
  have hexec : ∀ (a : Act) (w w' : World) (v : Value), (Builtin.copy_ #[t, t] o.type #[a.eval p, a.eval q]).run X.P w = .ok v w' → (execOp a.eval o).run X.P w = .ok (.value v) w' := fun a w w' v e => by
    simp [execOp, ho, resolve, hb, invoke, builtin, hts, hargs, e]
  split at hC
  · rename_i l n cap
    cases hem : ys.isEmpty with
    | true =>
      have hy0 : ys = [] := by simpa using hem
      subst hy0
      refine .inl ⟨_, _, _, hC.t rfl, zo fun {M F own fr1 σ1 a w} _ hop => ⟨goInt 0, ?_, .sc _⟩⟩
      have hrp := hop p hmp
      rw [hpx] at hrp
      have hrq := hyv (hqy ▸ hop q hmq)
      obtain ⟨ad, cap', hvq⟩ := zdu hrq
      generalize hvp : a.eval p = vp at hrp
      cases hrp
      exact hexec a w w _ (by rw [hvp, hvq]; exact zil w t o.type e i hu hi l n cap cap' ad)
    | false =>
      have hne : 1 ≤ ys.length := by
        cases ys with
        | nil => cases hem
        | cons _ _ => simp
      obtain ⟨ob, hl, hE⟩ := (hC.e hem).h
      split at hE
      · rename_i e' sz cap' xs
        obtain ⟨h2, hF1⟩ := zw hE
        obtain ⟨h3, hF2⟩ := zw hF1
        clear hC hE hF1
        obtain ⟨c0, c1, c2, c4⟩ := hF2.c
        subst h2; subst h3; subst c0
        refine .inl ⟨_, _, _, hF2.t, ?_⟩
        refine ⟨fun _ e => (by cases e), ?_⟩
        intro M F own fr1 σ1 a w hR hn hops hloc hhe next Q hk
        have hσ : σ1 = σ := hhe
        subst hσ
        have hrp : Rep M F (a.eval p) (.grow l n cap') := by rw [← hpx, ← hops p hmp]; exact zd hR p
        have hrq : Rep M F (a.eval q) (.vec ys) := hyv (by rw [← hqy, ← hops q hmq]; exact zd hR q)
        obtain ⟨b, off, cp, news, g2, _, g3, e4, g5⟩ := zhq hR.toRg hrq (fun i x hx => (c4 x (List.mem_of_getElem? hx)).1) hne
        have g4 : ∀ (j : Nat) u, news[j]? = some u → w.cell? ((⟨b, off, none⟩ : Addr).add j) = some u := fun j u hu => by rw [qs]; exact hR.mem _ _ _ (e4 j u hu)
        generalize hvp : a.eval p = vp at hrp
        cases hrp
        obtain ⟨vs, hb1, hvs, hnc, hlens, hr, hM⟩ := zay hR.toRg hl
        have hroom : 0 + ys.length ≤ cap' := by omega
        have hfit : 0 * i.size + news.length ≤ vs.size := by
          rw [g3, hsz, hvs, ← Nat.add_mul]; exact Nat.mul_le_mul_right _ hroom
        have hrun := zop (P := X.P) w t o.type e' i hu hi l n cap' vs hb1 ⟨b, off, none⟩ ys.length cp news (by rw [g3, hsz]) g4 (zju g5 g3 (fun x hx => (c4 x hx).2)) c1 hfit
        rw [hsz] at hrun hfit
        obtain ⟨a1, a2⟩ := zxh hlens hr (Nat.zero_le _) g5 hfit
        have hq : xs.take 0 ++ ys ++ xs.drop (0 + ys.length) = ys ++ xs.drop ys.length := by simp
        rw [hq] at a1 a2
        have hlt := (Array.getElem?_eq_some_iff.1 hb1).1
        have hlen : (ys ++ xs.drop ys.length).length ≤ cap' := by simp; omega
        obtain ⟨t1, t2⟩ := hR.touchG l (.row l (ys ++ xs.drop ys.length).length cap') (.arr e' te.size cap' (ys ++ xs.drop ys.length)) (q0 hR.toRg (.g l) (.row l _ cap') l (vs.toList.take (0 * te.size) ++ news ++ vs.toList.drop (0 * te.size + news.length)).toArray rfl (hR.glob l _ hl).1 hM hlt) rfl
          ⟨rfl, rfl, _, setRow_heap w l vs _ e' _ hb1, by simp; omega, hlen, a1, a2, hM⟩
        exact xg (hexec a w _ _ (by rw [hvp, g2]; exact hrun)) (hk _ _ _ _ _ t1 (.sc _) t2 (FM.le.refl _))
      · exact hE.elim
  · exact hC.elim
theorem zpn {det : Bool} {t : TypeId} {r : Option Operand}
    (h : match r, lkT X.tt t with
    | none, some ti => match ti.mkv with
      | some (kt, _) => match lkT X.tt kt with
        | some tk => AllocN det σ fun l => K (.map l) .no (.ext (upd σ l (.mp tk.str [])))
        | none => False
      | none => False
    | _, _ => False) (ho : o.op = .makeMap t r) : Got X o fr σ K KP ∨ (det = false ∧ TriN X o fr σ K KP) := by
  cases r with
  | some r => exact h.elim
  | none =>
  cases ht : lkT X.tt t with
  | none => rw [ht] at h; exact h.elim
  | some ti =>
  · rw [ht] at h
    dsimp only at h
    split at h
    · split at h
      · rename_i tk _
        refine .inr ⟨h.d, ?_⟩
        intro M F own fr1 σ1 a w hR _ hops hσ next Q hnx _
        subst hσ
        have hob : ObRep M FM.no (w.alloc (.map #[] 0)) (.blk w.heap.size) (.mp tk.str []) := ⟨#[], heap_alloc_new w _, by simp, by simp, by simp, R.new_at hR.toRg⟩
        obtain ⟨t1, t2⟩ := hR.touchG w.heap.size (.blk w.heap.size) _ (zaa hR.toRg _ _ (.map #[] 0) rfl) rfl hob
        refine xg ?_ (hnx _ _ _ _ _ _ _ _ (.inr ⟨rfl, (Sub.refl _).upd hR.freshL⟩) (h.h _ hR.freshL) t1 (.map _) t2 (FM.le.refl _))
        simp [execOp, ho, Instr.makeMap]
      · exact h.elim
    · exact h.elim
theorem zkk {l : Nat} {str : Bool} {es : List (MK × Value)} (hR : Rg M own σ w) (h : σ l = some (.mp str es)) : ∃ arr : Array MapEntry, w.heap[l]? = some (.map arr arr.size) ∧ arr.toList.map (fun e => (e.key, e.val)) = es.map (fun p => (p.1.val, p.2)) ∧
    (∀ p ∈ es, p.1.isS = str) ∧ (∀ (i : Nat) e, arr[i]? = some e → e.born = i) ∧ ∀ o, M l o = none := by
  obtain ⟨_, fo, ho, hb⟩ := hR.glob l _ h
  cases fo with
  | blk b => cases hb; exact ho
  | row b n cap => exact ho.elim
  | tok s n sz => exact ho.elim
theorem zkj {l : Nat} {q str : Bool} {es : List (MK × Value)} (hR : Rg M own σ w) (h : σ l = some (obM q str es)) : ∃ (arr : Array MapEntry) (clock : Nat), w.heap[l]? = some (.map arr clock) ∧
    arr.toList.map (fun e => (e.key, e.val)) = es.map (fun p => (p.1.val, p.2)) ∧ (∀ p ∈ es, p.1.isS = str) ∧ (q = false → clock = arr.size ∧ ∀ (i : Nat) e, arr[i]? = some e → e.born = i) ∧ ∀ o, M l o = none := by
  cases q with
  | false =>
    obtain ⟨arr, h1, h2, h3, h4, h5⟩ := zkk hR h
    exact ⟨arr, _, h1, h2, h3, fun _ => ⟨rfl, h4⟩, h5⟩
  | true =>
    obtain ⟨_, fo, ho, hb⟩ := hR.glob l _ h
    cases fo with
    | blk b =>
      cases hb
      obtain ⟨arr, clock, h1, h2, h3, h4⟩ := ho
      exact ⟨arr, clock, h1, h2, h3, fun e => (by cases e), h4⟩
    | row b n cap => exact ho.elim
    | tok s n sz => exact ho.elim
theorem zj3 {c : CV} {k : MK} (h : z6m c = some k) {v : Value} (hr : Rep M F v c) : v = k.val := by
  unfold z6m at h
  split at h
  · cases h; cases hr; rfl
  · cases h; cases hr; rfl
  · cases h
theorem zzj {P : Program} {t : TypeId} {ti : TI} {k : MK} (h : zhd P t = some ti) (hf : k.fits ti = true) : ∃ d, P.underlying t = some d ∧ ∀ k' : MK, k'.isS = k.isS → IsKey d k'.val := by
  obtain ⟨i, d, hi, hd, rfl⟩ := zt h
  refine ⟨d, hd, fun k' hk => ?_⟩
  cases k with
  | s t =>
    cases k' with
    | i n => cases hk
    | s t' => cases d <;> simp [MK.fits] at hf; simp [IsKey, MK.val]
  | i n =>
    cases k' with
    | s t' => cases hk
    | i n' =>
      cases d with
      | int kk =>
        simp only [MK.fits] at hf
        split at hf
        · rename_i e; cases e; simp [IsKey, MK.val]
        · cases hf
      | _ => simp [MK.fits] at hf
theorem zsw {a b : MK} (h : a.val = b.val) : a = b := by
  cases a <;> cases b <;> simp [MK.val] at h <;> subst h <;> rfl
theorem zeb {d : TypeDesc} {k : MK} (hd : ∀ k' : MK, k'.isS = k.isS → IsKey d k'.val) : ∀ (l : List MapEntry) (es : List (MK × Value)) (j : Nat), l.map (fun e => (e.key, e.val)) = es.map (fun p => (p.1.val, p.2)) → (∀ p ∈ es, p.1.isS = k.isS) →
    Instr.findNow d k.val l j = some (ze k es j)
  | [], [], j, _, _ => rfl
  | [], _ :: _, _, h, _ => by simp at h
  | _ :: _, [], _, h, _ => by simp at h
  | e :: l, (q, v) :: es, j, h, hs => by
    simp only [List.map_cons, List.cons.injEq, Prod.mk.injEq] at h
    obtain ⟨⟨h1, h2⟩, h3⟩ := h
    have ih := zeb hd l es (j + 1) h3 (fun p hp => hs p (by simp [hp]))
    obtain ⟨r, hr, hi⟩ := sameNow_of_keys (hd k rfl) (hd q (hs (q, v) (by simp)))
    rw [Instr.findNow, h1, hr]
    by_cases hkq : k = q
    · have : r = true := hi.2 (by rw [hkq])
      subst this
      simp only [ze, if_pos hkq, h2]
    · have : r = false := by rw [← Bool.not_eq_true, hi]; exact fun e => hkq (zsw e)
      subst this
      simp only [ze, if_neg hkq]; exact ih
theorem zha {P : Program} {t : TypeId} {te : TI} {z : Value} (h : zhd P t = some te) (hz : z1i te = some z) (w : World) : (zeroValue t).run P w = .ok z w := by
  have key : ∀ c : CV, te.hz = true → te.isAgg = false → te.zero = [c] → (∀ z0 : Value, zqz z0 = c → z0 = z) → (zeroValue t).run P w = .ok z w := by
    intro c h1 h2 h3 hc0
    obtain ⟨i, d, hi, hd, rfl⟩ := zt h
    simp only at h1 h2 h3
    cases e4 : i.zero with
    | none => rw [e4] at h1; cases h1
    | some z0 =>
      rw [e4] at h1 h3
      simp only at h1 h3
      have hz0 : z0 = z := by
        rw [h2] at h1
        have hc : z0.cells = #[z0] := by cases z0 <;> first | rfl | simp [zok] at h1
        rw [hc] at h3
        simp only [List.map_cons, List.map_nil, List.cons.injEq, and_true] at h3
        exact hc0 z0 h3
      subst hz0
      simp [zeroValue, typeInfo, hi, e4]
  unfold z1i at hz
  split at hz
  · rename_i h1 h2 h3
    cases hz
    refine key _ h1 h2 h3 fun z0 e => ?_
    unfold zqz at e
    split at e
    · cases e
    · exact CV.sc.inj e
  · rename_i h1 h2 h3
    cases hz
    refine key _ h1 h2 h3 fun z0 e => ?_
    unfold zqz at e
    split at e
    · rfl
    · cases e
  · cases hz
theorem zpm {M : Mem} {F : FM} {v : Value} {sl : Bool} : Rep M F v (grV sl v) := by
  unfold grV
  split
  · exact .sc v
  · split
    · exact .nil
    · exact .grow _ _ _
    · exact .sc _
theorem zt1 {M : Mem} {F : FM} {v x : Value} {c : CV} (h : Rep M F v c) (hx : vGr c = some x) : v = x := by
  unfold vGr at hx
  split at hx
  · cases hx; cases h; rfl
  · cases hx; cases h; rfl
  · cases hx; cases h; rfl
  · cases hx
theorem zgi {t : TypeId} {m k : CV} {G : Nat → Bool → Bool → List (MK × Value) → MK → Value → Bool → Prop} (hX : X.ok) (h : znp X σ t m k G) : ∃ kt et d l kk z q str es sl, X.P.underlying t = some (.map kt et) ∧ X.P.underlying kt = some d ∧
    (∀ k' : MK, k'.isS = kk.isS → IsKey d k'.val) ∧ (∀ w, (zeroValue et).run X.P w = .ok z w) ∧ m = .map l ∧ z6m k = some kk ∧ σ l = some (obM q str es) ∧ kk.isS = str ∧ G l q str es kk z sl := by
  unfold znp at h
  split at h
  · rename_i ti ht
    split at h
    · rename_i kt et hmk
      split at h
      · rename_i tk te htk hte
        split at h
        · rename_i z l kk hz hk
          obtain ⟨hf, h⟩ := zf h
          obtain ⟨ob, hl, h⟩ := h.h
          have hu : X.P.underlying t = some (.map kt et) := by
            obtain ⟨i, d', hi, hd', rfl⟩ := zt (hX t ti ht)
            cases d' <;> simp at hmk
            obtain ⟨rfl, rfl⟩ := hmk
            exact hd'
          obtain ⟨d, hd, hkey⟩ := zzj (hX _ tk htk) hf
          split at h
          · rename_i str es
            obtain ⟨hs, h⟩ := zf h
            exact ⟨kt, et, d, l, kk, z, false, str, es, te.sl, hu, hd, hkey, zha (hX _ te hte) hz, rfl, hk, hl, by simpa using hs, h⟩
          · rename_i str es
            obtain ⟨hs, h⟩ := zf h
            exact ⟨kt, et, d, l, kk, z, true, str, es, te.sl, hu, hd, hkey, zha (hX _ te hte) hz, rfl, hk, hl, by simpa using hs, h⟩
          · exact h.elim
        · exact h.elim
      · exact h.elim
    · exact h.elim
  · exact h.elim
theorem zs8 {t : TypeId} {m k : Operand} {ok : Bool} (hX : X.ok) (h : znp X σ t (zk fr m) (zk fr k) fun _ _ _ es kk z sl => MapN (ze kk es 0) fun r => match ok with
    | true => K (.tup [grV sl ((r.map (·.2)).getD z), .sc (.bool r.isSome)]) .no .rd
    | false => K (grV sl ((r.map (·.2)).getD z)) .no .rd) (ho : o.op = .lookup t m k ok) : Got X o fr σ K KP := by
  obtain ⟨kt, et, d, l, kk, z, q, str, es, sl, hu, hd, hkey, hz, hm, hk, hl, hs, h⟩ := zgi hX h
  have h := h.h
  have hc : ∃ c, K c .no .rd ∧ c = (match ok with | true => .tup [grV sl (((ze kk es 0).map (·.2)).getD z), .sc (.bool (ze kk es 0).isSome)] | false => grV sl (((ze kk es 0).map (·.2)).getD z)) := by
    cases ok
    · exact ⟨_, h, rfl⟩
    · exact ⟨_, h, rfl⟩
  obtain ⟨c, hK, hc⟩ := hc
  refine .inl ⟨c, .no, .rd, hK, ?_⟩
  refine ⟨fun _ e => (by cases e), ?_⟩
  intro M F own fr1 σ1 a w hR hn hops hloc hhe next Q hnx
  have hl1 : σ1 l = some (obM q str es) := hhe _ _ hl
  have hrm : Rep M F (a.eval m) (.map l) := by rw [← hm, ← hops m (by simp [ho, Op.operands])]; exact zd hR m
  have hrk : Rep M F (a.eval k) (zk fr k) := by rw [← hops k (by simp [ho, Op.operands])]; exact zd hR k
  have hvk := zj3 hk hrk
  generalize hvm : a.eval m = vm at hrm
  cases hrm
  obtain ⟨arr, clock, b1, b2, b3, b4, b5⟩ := zkj hR.toRg hl1
  have hfk := run_findKey (w := w) hd (zeb hkey arr.toList es 0 b2 (fun p hp => by rw [hs]; exact b3 p hp))
  have hck : ∀ e, (Instr.checkKey e 10000 kt kk.val).run X.P w = .ok () w := fun e => run_checkKey hd (hkey kk rfl) e 9999
  have hrun : (Instr.lookup t (.map (some l)) kk.val ok).run X.P w = .ok (if ok then .tuple #[((ze kk es 0).map (·.2)).getD z, .bool (ze kk es 0).isSome] else ((ze kk es 0).map (·.2)).getD z) w := by
    have hg := MapKept.run_getObj_map (P := X.P) b1
    unfold Instr.lookup
    simp only [Sem.run_bind, run_underlying hu, Result.andThen, hg, Sem.run_pure, hck, hfk]
    cases hmf : ze kk es 0 with
    | none => cases ok <;> simp [hz]
    | some p => cases ok <;> simp
  refine xg (v := if ok then .tuple #[((ze kk es 0).map (·.2)).getD z, .bool (ze kk es 0).isSome] else ((ze kk es 0).map (·.2)).getD z) ?_ (hnx _ M F own w hR ?_ (KExt.refl _ _ _) (FM.le.refl _))
  · simp [execOp, ho, hvm, hvk, hrun]
  · subst hc
    cases ok
    · exact zpm
    · refine .tup _ _ rfl fun i c hc => ?_
      match i, hc with
      | 0, hc => cases hc; exact zpm
      | 1, hc => cases hc; exact .sc _
theorem zf7 {k : MK} : ∀ {es : List (MK × Value)} {j i : Nat} {v : Value}, ze k es j = some (i, v) → j ≤ i ∧ es[i - j]? = some (k, v)
  | [], _, _, _, h => by cases h
  | (q, u) :: es, j, i, v, h => by
    unfold ze at h
    split at h
    · rename_i e
      cases h
      subst e
      simp
    · obtain ⟨h1, h2⟩ := zf7 h
      refine ⟨by omega, ?_⟩
      rw [show i - j = (i - (j + 1)) + 1 by omega, List.getElem?_cons_succ]; exact h2
theorem zoo (k : MK) (n : Nat) : Instr.sameBits n k.val k.val = true := by
  cases k <;> cases n <;> simp [Instr.sameBits, MK.val, bytes_beq]
theorem zlj (k : MK) (P : Program) (w : World) : (Instr.keyThatStays k.val k.val).run P w = .ok k.val w := by
  unfold Instr.keyThatStays; rw [if_pos (zoo k _)]; rfl
theorem R.putMap {l : Nat} {str : Bool} {es es' : List (MK × Value)} {arr arr' : Array MapEntry} (hR : R M F own fr σ a w) (hl : σ l = some (.mp str es)) (hb : w.heap[l]? = some (.map arr arr.size)) (hM : ∀ o, M l o = none)
    (h1 : arr'.toList.map (fun e => (e.key, e.val)) = es'.map (fun p => (p.1.val, p.2))) (h2 : ∀ p ∈ es', p.1.isS = str) (h3 : ∀ (i : Nat) e, arr'[i]? = some e → e.born = i) :
    ∃ own', R M F own' fr (upd σ l (.mp str es')) a { w with heap := w.heap.setIfInBounds l (.map arr' arr'.size) } ∧ KExt M own w M own' { w with heap := w.heap.setIfInBounds l (.map arr' arr'.size) } := by
  have hlt := (Array.getElem?_eq_some_iff.1 hb).1
  have hown := (hR.glob l _ hl).1
  have hT : Touch M own w (.g l) (.blk l) M { w with heap := w.heap.setIfInBounds l (.map arr' arr'.size) } := by
    refine ⟨by simp, rfl, rfl, rfl, fun b _ ho => ⟨?_, fun _ => rfl⟩, fun _ _ _ h => h, fun b o v _ h => ?_, fun b h => ?_⟩
    · have hne : l ≠ b := fun e => by subst e; exact ho hown
      simp [Array.getElem?_setIfInBounds, hne]
    · have hne : l ≠ b := fun e => by subst e; rw [hM] at h; cases h
      rw [yv (w := w) (by simp [Array.getElem?_setIfInBounds, hne])]; exact hR.mem _ _ _ h
    · simp [FO.block] at h; subst h; exact ⟨.inl hown, by simpa using hlt⟩
  have hob : ObRep M FM.no { w with heap := w.heap.setIfInBounds l (.map arr' arr'.size) } (.blk l) (.mp str es') := ⟨arr', by simp [Array.getElem?_setIfInBounds, hlt], h1, h2, h3, hM⟩
  obtain ⟨t1, t2⟩ := hR.touchG l (.blk l) _ hT rfl hob
  exact ⟨_, t1, t2⟩
theorem R.putMapQ {l clock clock' : Nat} {q str : Bool} {es es' : List (MK × Value)} {arr arr' : Array MapEntry} (hR : R M F own fr σ a w) (hl : σ l = some (obM q str es)) (hb : w.heap[l]? = some (.map arr clock)) (hM : ∀ o, M l o = none)
    (h1 : arr'.toList.map (fun e => (e.key, e.val)) = es'.map (fun p => (p.1.val, p.2))) (h2 : ∀ p ∈ es', p.1.isS = str) (h3 : q = false → clock' = arr'.size ∧ ∀ (i : Nat) e, arr'[i]? = some e → e.born = i) :
    ∃ own', R M F own' fr (upd σ l (obM q str es')) a { w with heap := w.heap.setIfInBounds l (.map arr' clock') } ∧ KExt M own w M own' { w with heap := w.heap.setIfInBounds l (.map arr' clock') } := by
  have hlt := (Array.getElem?_eq_some_iff.1 hb).1
  have hown := (hR.glob l _ hl).1
  have hT : Touch M own w (.g l) (.blk l) M { w with heap := w.heap.setIfInBounds l (.map arr' clock') } := by
    refine ⟨by simp, rfl, rfl, rfl, fun b _ ho => ⟨?_, fun _ => rfl⟩, fun _ _ _ h => h, fun b o v _ h => ?_, fun b h => ?_⟩
    · have hne : l ≠ b := fun e => by subst e; exact ho hown
      simp [Array.getElem?_setIfInBounds, hne]
    · have hne : l ≠ b := fun e => by subst e; rw [hM] at h; cases h
      rw [yv (w := w) (by simp [Array.getElem?_setIfInBounds, hne])]; exact hR.mem _ _ _ h
    · simp [FO.block] at h; subst h; exact ⟨.inl hown, by simpa using hlt⟩
  have hat : ({ w with heap := w.heap.setIfInBounds l (.map arr' clock') } : World).heap[l]? = some (.map arr' clock') := by simp [Array.getElem?_setIfInBounds, hlt]
  have hob : ObRep M FM.no { w with heap := w.heap.setIfInBounds l (.map arr' clock') } (.blk l) (obM q str es') := by
    cases q with
    | false =>
      obtain ⟨ec, hborn⟩ := h3 rfl
      subst ec
      exact ⟨arr', hat, h1, h2, hborn, hM⟩
    | true => exact ⟨arr', clock', hat, h1, h2, hM⟩
  obtain ⟨t1, t2⟩ := hR.touchG l (.blk l) _ hT rfl hob
  exact ⟨_, t1, t2⟩
theorem znz {arr : Array MapEntry} {k v : Value} (h : ∀ (i : Nat) e, arr[i]? = some e → e.born = i) : ∀ (i : Nat) e, (arr.push { key := k, val := v, born := arr.size })[i]? = some e → e.born = i := by
  intro i e he
  rw [Array.getElem?_push] at he
  split at he
  · rename_i e'; cases he; exact e'.symm
  · exact h i e he
theorem zcr {arr : Array MapEntry} {f : MapEntry → MapEntry} (hf : ∀ e, (f e).born = e.born) (h : ∀ (i : Nat) e, arr[i]? = some e → e.born = i) (j : Nat) : ∀ (i : Nat) e, (arr.modify j f)[i]? = some e → e.born = i := by
  intro i e he
  rw [Array.getElem?_modify] at he
  split at he
  · cases hh : arr[i]? with
    | none => rw [hh] at he; cases he
    | some e0 => rw [hh] at he; cases he; rw [hf]; exact h i e0 hh
  · exact h i e he
theorem zon {arr : Array MapEntry} {es : List (MK × Value)} (h : arr.toList.map (fun e => (e.key, e.val)) = es.map (fun p => (p.1.val, p.2))) : arr.size = es.length := by
  have := congrArg List.length h
  simpa using this
theorem z3h {arr : Array MapEntry} {es : List (MK × Value)} (h : arr.toList.map (fun e => (e.key, e.val)) = es.map (fun p => (p.1.val, p.2))) {i : Nat} {p : MK × Value} (hp : es[i]? = some p) : ∃ e, arr[i]? = some e ∧ e.key = p.1.val ∧ e.val = p.2 := by
  have := congrArg (·[i]?) h
  simp only [List.getElem?_map, Array.getElem?_toList, hp, Option.map_some] at this
  cases he : arr[i]? with
  | none => rw [he] at this; cases this
  | some e => rw [he] at this; simp at this; exact ⟨e, rfl, this.1, this.2⟩
theorem zq2 {arr : Array MapEntry} {es : List (MK × Value)} (h : arr.toList.map (fun e => (e.key, e.val)) = es.map (fun p => (p.1.val, p.2))) (k : MK) (v : Value) (n : Nat) :
    (arr.push { key := k.val, val := v, born := n }).toList.map (fun e => (e.key, e.val)) = (es ++ [(k, v)]).map (fun p => (p.1.val, p.2)) := by
  simp [h]
theorem zd8 {arr : Array MapEntry} {es es' : List (MK × Value)} {f : MapEntry → MapEntry} {i : Nat} (h : arr.toList.map (fun e => (e.key, e.val)) = es.map (fun p => (p.1.val, p.2))) (hl : es'.length = es.length)
    (hs : ∀ j, j ≠ i → es'[j]? = es[j]?) (hi : ∀ e, arr[i]? = some e → ∀ p, es'[i]? = some p → ((f e).key, (f e).val) = (p.1.val, p.2)) :
    (arr.modify i f).toList.map (fun e => (e.key, e.val)) = es'.map (fun p => (p.1.val, p.2)) := by
  have hsz := zon h
  apply List.ext_getElem?
  intro j
  have hj := congrArg (·[j]?) h
  simp only [List.getElem?_map, Array.getElem?_toList] at hj
  simp only [List.getElem?_map, Array.getElem?_toList, Array.getElem?_modify]
  by_cases hij : i = j
  · subst hij
    rw [if_pos rfl]
    cases he : arr[i]? with
    | none =>
      have : es'[i]? = none := List.getElem?_eq_none (by have := Array.getElem?_eq_none_iff.1 he; omega)
      simp [this]
    | some e =>
      have hlt := (Array.getElem?_eq_some_iff.1 he).1
      have : es'[i]? = some (es'[i]'(by omega)) := List.getElem?_eq_getElem _
      rw [this]
      simp only [Option.map_some]
      rw [hi e he _ this]
  · rw [if_neg hij, hj, hs j (Ne.symm hij)]
theorem zne {t : TypeId} {m k : Operand} (hX : X.ok) (ho : o.op = .mapEntry t m k) (h : znp X σ t (zk fr m) (zk fr k) fun l q str es kk z sl => isT (!q) <| MapN (ze kk es 0) fun r => match r with
    | some (i, v) => K (.tup [grV sl v, .sc (.int .i64 i)]) .no (.wr (upd σ l (.mp str es)))
    | none => K (.tup [grV sl z, .sc (.int .i64 es.length)]) .no (.wr (upd σ l (.mp str (es ++ [(kk, z)]))))) : Got X o fr σ K KP := by
  obtain ⟨kt, et, d, l, kk, z, q, str, es, sl, hu, hd, hkey, hz, hm, hk, hl, hs, h⟩ := zgi hX h
  obtain ⟨hq, h⟩ := zf h
  obtain rfl : q = false := by simpa using hq
  replace hl : σ l = some (.mp str es) := hl
  have h := h.h
  have hpre : ∀ {M : Mem} {F : FM} {own : Owns} {fr1 : Fr} {σ1 : Heap} {a : Act} {w : World}, R M F own fr1 σ1 a w → (∀ x ∈ o.op.operands.toList, zk fr1 x = zk fr x) → a.eval m = .map (some l) ∧ a.eval k = kk.val := by
    intro M F own fr1 σ1 a w hR hops
    have hrm : Rep M F (a.eval m) (.map l) := by rw [← hm, ← hops m (by simp [ho, Op.operands])]; exact zd hR m
    have hrk : Rep M F (a.eval k) (zk fr k) := by rw [← hops k (by simp [ho, Op.operands])]; exact zd hR k
    refine ⟨?_, zj3 hk hrk⟩
    generalize a.eval m = vm at hrm
    cases hrm; rfl
  have hrep : ∀ {M : Mem} {F : FM} (v : Value) (i : Nat), Rep M F (.tuple #[v, goInt i]) (.tup [grV sl v, .sc (.int .i64 i)]) := fun v i => .tup _ _ rfl fun j c hc => by
    match j, hc with
    | 0, hc => cases hc; exact zpm
    | 1, hc => cases hc; exact .sc _
  cases hmf : ze kk es 0 with
  | some p =>
    obtain ⟨i, v⟩ := p
    rw [hmf] at h
    refine .inl ⟨_, _, _, h, ?_⟩
    refine ⟨fun _ e => (by cases e), ?_⟩
    intro M F own fr1 σ1 a w hR hn hops hloc hhe next Q hnx
    have hσ : σ1 = σ := hhe
    subst hσ
    obtain ⟨hvm, hvk⟩ := hpre hR hops
    obtain ⟨arr, b1, b2, b3, b4, b5⟩ := zkk hR.toRg hl
    have hfk := run_findKey (w := w) hd (zeb hkey arr.toList es 0 b2 (fun p hp => by rw [hs]; exact b3 p hp))
    rw [hmf] at hfk
    have hck : ∀ e, (Instr.checkKey e 10000 kt kk.val).run X.P w = .ok () w := fun e => run_checkKey hd (hkey kk rfl) e 9999
    have hg := MapKept.run_getObj_map (P := X.P) b1
    obtain ⟨_, hat⟩ := zf7 hmf
    rw [Nat.sub_zero] at hat
    obtain ⟨e, he, hek, hev⟩ := z3h b2 hat
    have hset := run_setObj_map (P := X.P) (.map (arr.modify i fun e => { e with key := kk.val }) arr.size) b1
    have hborn := b4 i e he
    have hsz : (arr.modify i fun e => { e with key := kk.val }).size = arr.size := by simp
    have hrun : (Instr.mapEntry t (.map (some l)) kk.val).run X.P w = .ok (.tuple #[v, goInt i]) { w with heap := w.heap.setIfInBounds l (.map (arr.modify i fun e => { e with key := kk.val }) (arr.modify i fun e => { e with key := kk.val }).size) } := by
      unfold Instr.mapEntry
      simp only [Sem.run_bind, run_underlying hu, Result.andThen, hg, hck, hfk, he, Option.map_some, Option.getD_some, hek, zlj, hset, hsz, hborn, Sem.run_pure]
    obtain ⟨own', r1, r2⟩ := hR.putMap (arr' := arr.modify i fun e => { e with key := kk.val }) hl b1 b5 (zd8 b2 rfl (fun _ _ => rfl) (fun e' he' p hp => by
      rw [hat] at hp; cases hp; rw [he] at he'; cases he'; simp [hev])) b3 (by refine zcr ?_ b4 i; exact fun _ => rfl)
    exact xg (by simp [execOp, ho, hvm, hvk, hrun]) (hnx _ _ _ _ _ r1 (hrep v i) r2 (FM.le.refl _))
  | none =>
    rw [hmf] at h
    refine .inl ⟨_, _, _, h, ?_⟩
    refine ⟨fun _ e => (by cases e), ?_⟩
    intro M F own fr1 σ1 a w hR hn hops hloc hhe next Q hnx
    have hσ : σ1 = σ := hhe
    subst hσ
    obtain ⟨hvm, hvk⟩ := hpre hR hops
    obtain ⟨arr, b1, b2, b3, b4, b5⟩ := zkk hR.toRg hl
    have hfk := run_findKey (w := w) hd (zeb hkey arr.toList es 0 b2 (fun p hp => by rw [hs]; exact b3 p hp))
    rw [hmf] at hfk
    have hck : ∀ e, (Instr.checkKey e 10000 kt kk.val).run X.P w = .ok () w := fun e => run_checkKey hd (hkey kk rfl) e 9999
    have hg := MapKept.run_getObj_map (P := X.P) b1
    have hset := run_setObj_map (P := X.P) (.map (arr.push { key := kk.val, val := z, born := arr.size }) (arr.size + 1)) b1
    have hsz : (arr.push { key := kk.val, val := z, born := arr.size }).size = arr.size + 1 := by simp
    have hrun : (Instr.mapEntry t (.map (some l)) kk.val).run X.P w = .ok (.tuple #[z, goInt es.length]) { w with heap := w.heap.setIfInBounds l (.map (arr.push { key := kk.val, val := z, born := arr.size }) (arr.push { key := kk.val, val := z, born := arr.size }).size) } := by
      unfold Instr.mapEntry
      simp only [Sem.run_bind, run_underlying hu, Result.andThen, hg, hck, hfk, hz, hset, hsz, Sem.run_pure, ← zon b2]
    obtain ⟨own', r1, r2⟩ := hR.putMap (arr' := arr.push { key := kk.val, val := z, born := arr.size }) hl b1 b5 (zq2 b2 kk z _) (fun p hp => by
      rcases List.mem_append.1 hp with hp | hp
      · exact b3 p hp
      · rw [List.mem_singleton.1 hp]; exact hs) (znz b4)
    exact xg (by simp [execOp, ho, hvm, hvk, hrun]) (hnx _ _ _ _ _ r1 (hrep z _) r2 (FM.le.refl _))
theorem zke {t : TypeId} {m k v : Operand} (hX : X.ok) (ho : o.op = .mapUpdate t m k v) (h : znp X σ t (zk fr m) (zk fr k) fun l q str es kk _ _ => match vGr (zk fr v) with
    | some x => MapN (ze kk es 0) fun r => match r, q with
      | some (i, _), false => K (.sc undef) .no (.wr (upd σ l (.mp str (es.set i (kk, x)))))
      | none, false => K (.sc undef) .no (.wr (upd σ l (.mp str (es ++ [(kk, x)]))))
      | some (i, _), true => K (.sc undef) .no (.wr (upd σ l (.mq str (es.set i (kk, x)))))
      | none, true => K (.sc undef) .no (.wr (upd σ l (.mq str (es ++ [(kk, x)]))))
    | _ => False) : Got X o fr σ K KP := by
  obtain ⟨kt, et, d, l, kk, z, q, str, es, sl, hu, hd, hkey, hz, hm, hk, hl, hs, h⟩ := zgi hX h
  split at h
  · rename_i x hx
    have h := h.h
    have hpre : ∀ {M : Mem} {F : FM} {own : Owns} {fr1 : Fr} {σ1 : Heap} {a : Act} {w : World}, R M F own fr1 σ1 a w → (∀ x ∈ o.op.operands.toList, zk fr1 x = zk fr x) → a.eval m = .map (some l) ∧ a.eval k = kk.val ∧ a.eval v = x := by
      intro M F own fr1 σ1 a w hR hops
      have hrm : Rep M F (a.eval m) (.map l) := by rw [← hm, ← hops m (by simp [ho, Op.operands])]; exact zd hR m
      have hrk : Rep M F (a.eval k) (zk fr k) := by rw [← hops k (by simp [ho, Op.operands])]; exact zd hR k
      have hrv : Rep M F (a.eval v) (zk fr v) := by rw [← hops v (by simp [ho, Op.operands])]; exact zd hR v
      refine ⟨?_, zj3 hk hrk, zt1 hrv hx⟩
      · generalize a.eval m = vm at hrm
        cases hrm; rfl
    cases hmf : ze kk es 0 with
    | some p =>
      obtain ⟨i, v0⟩ := p
      rw [hmf] at h
      replace h : K (.sc undef) .no (.wr (upd σ l (obM q str (es.set i (kk, x))))) := by cases q <;> exact h
      refine .inl ⟨_, _, _, h, ?_⟩
      refine ⟨fun _ e => (by cases e), ?_⟩
      intro M F own fr1 σ1 a w hR hn hops hloc hhe next Q hnx
      have hσ : σ1 = σ := hhe
      subst hσ
      obtain ⟨hvm, hvk, hvv⟩ := hpre hR hops
      obtain ⟨arr, clock, b1, b2, b3, b4, b5⟩ := zkj hR.toRg hl
      have hfk := run_findKey (w := w) hd (zeb hkey arr.toList es 0 b2 (fun p hp => by rw [hs]; exact b3 p hp))
      rw [hmf] at hfk
      have hck : ∀ e, (Instr.checkKey e 10000 kt kk.val).run X.P w = .ok () w := fun e => run_checkKey hd (hkey kk rfl) e 9999
      have hg := MapKept.run_getObj_map (P := X.P) b1
      obtain ⟨_, hat⟩ := zf7 hmf
      rw [Nat.sub_zero] at hat
      obtain ⟨e, he, hek, hev⟩ := z3h b2 hat
      have hset := run_setObj_map (P := X.P) (.map (arr.modify i fun e => { e with key := kk.val, val := x }) clock) b1
      have hsz : (arr.modify i fun e => { e with key := kk.val, val := x }).size = arr.size := by simp
      have hrun : (Instr.mapUpdate t (.map (some l)) kk.val x).run X.P w = .ok () { w with heap := w.heap.setIfInBounds l (.map (arr.modify i fun e => { e with key := kk.val, val := x }) clock) } := by
        unfold Instr.mapUpdate
        simp only [Sem.run_bind, run_underlying hu, Result.andThen, hg, hck, hfk, he, Option.map_some, Option.getD_some, hek, zlj, hset, hsz]
      have hil : i < es.length := (List.getElem?_eq_some_iff.1 hat).1
      obtain ⟨own', r1, r2⟩ := hR.putMapQ (clock' := clock) (arr' := arr.modify i fun e => { e with key := kk.val, val := x }) (es' := es.set i (kk, x)) hl b1 b5 (zd8 b2 (by simp) (fun j hj => by rw [List.getElem?_set_ne (Ne.symm hj)]) (fun e' he' p hp => by
        rw [List.getElem?_set_self hil] at hp; cases hp; rfl)) (fun p hp => by
        rcases List.mem_or_eq_of_mem_set hp with hp | rfl
        · exact b3 p hp
        · exact hs) (fun hq => ⟨by rw [(b4 hq).1]; simp, by refine zcr ?_ (b4 hq).2 i; exact fun _ => rfl⟩)
      exact zfl (by simp [execOp, ho, hvm, hvk, hvv, hrun]) (hnx _ _ _ _ _ r1 (.sc _) r2 (FM.le.refl _))
    | none =>
      rw [hmf] at h
      replace h : K (.sc undef) .no (.wr (upd σ l (obM q str (es ++ [(kk, x)])))) := by cases q <;> exact h
      refine .inl ⟨_, _, _, h, ?_⟩
      refine ⟨fun _ e => (by cases e), ?_⟩
      intro M F own fr1 σ1 a w hR hn hops hloc hhe next Q hnx
      have hσ : σ1 = σ := hhe
      subst hσ
      obtain ⟨hvm, hvk, hvv⟩ := hpre hR hops
      obtain ⟨arr, clock, b1, b2, b3, b4, b5⟩ := zkj hR.toRg hl
      have hfk := run_findKey (w := w) hd (zeb hkey arr.toList es 0 b2 (fun p hp => by rw [hs]; exact b3 p hp))
      rw [hmf] at hfk
      have hck : ∀ e, (Instr.checkKey e 10000 kt kk.val).run X.P w = .ok () w := fun e => run_checkKey hd (hkey kk rfl) e 9999
      have hg := MapKept.run_getObj_map (P := X.P) b1
      have hset := run_setObj_map (P := X.P) (.map (arr.push { key := kk.val, val := x, born := clock }) (clock + 1)) b1
      have hrun : (Instr.mapUpdate t (.map (some l)) kk.val x).run X.P w = .ok () { w with heap := w.heap.setIfInBounds l (.map (arr.push { key := kk.val, val := x, born := clock }) (clock + 1)) } := by
        unfold Instr.mapUpdate
        simp only [Sem.run_bind, run_underlying hu, Result.andThen, hg, hck, hfk, hset]
      obtain ⟨own', r1, r2⟩ := hR.putMapQ (clock' := clock + 1) (arr' := arr.push { key := kk.val, val := x, born := clock }) hl b1 b5 (zq2 b2 kk x _) (fun p hp => by
        rcases List.mem_append.1 hp with hp | hp
        · exact b3 p hp
        · rw [List.mem_singleton.1 hp]; exact hs) (fun hq => by
        obtain ⟨c1, c2⟩ := b4 hq
        subst c1
        exact ⟨by simp, znz c2⟩)
      exact zfl (by simp [execOp, ho, hvm, hvk, hvv, hrun]) (hnx _ _ _ _ _ r1 (.sc _) r2 (FM.le.refl _))
  · exact h.elim
theorem zg6 {t : TypeId} {m s v : Operand} (ho : o.op = .entryStore t m s v) (h : match zk fr m, zk fr s, vGr (zk fr v) with
    | .map l, .sc (.int _ n), some x => GetN σ l fun ob => match ob with
      | .mp str es => Need (0 ≤ n ∧ n.toNat < es.length) (K (.sc undef) .no (.wr (upd σ l (.mp str (es.modify n.toNat fun p => (p.1, x))))))
      | _ => False
    | _, _, _ => False) : Got X o fr σ K KP := by
  split at h
  · rename_i l kk n x hm hs hv
    obtain ⟨ob, hl, h⟩ := h.h
    split at h
    · rename_i str es
      obtain ⟨c1, c2⟩ := h.c
      refine .inl ⟨_, _, _, h.t, ?_⟩
      refine ⟨fun _ e => (by cases e), ?_⟩
      intro M F own fr1 σ1 a w hR hn hops hloc hhe next Q hnx
      have hσ : σ1 = σ := hhe
      subst hσ
      have hrm : Rep M F (a.eval m) (.map l) := by rw [← hm, ← hops m (by simp [ho, Op.operands])]; exact zd hR m
      have hrs : Rep M F (a.eval s) (.sc (.int kk n)) := by rw [← hs, ← hops s (by simp [ho, Op.operands])]; exact zd hR s
      have hrv : a.eval v = x := zt1 (M := M) (F := F) (by rw [← hops v (by simp [ho, Op.operands])]; exact zd hR v) hv
      generalize hvm : a.eval m = vm at hrm
      generalize hvs : a.eval s = vs at hrs
      have hvv := hrv
      cases hrm; cases hrs
      obtain ⟨arr, b1, b2, b3, b4, b5⟩ := zkk hR.toRg hl
      have hg := MapKept.run_getObj_map (P := X.P) b1
      obtain ⟨i, rfl⟩ : ∃ i : Nat, n = i := ⟨n.toNat, by omega⟩
      rw [Int.toNat_natCast] at c2
      rw [Int.toNat_natCast] at hnx
      have hsz0 := zon b2
      have hfi : arr.findIdx? (fun e => (e.born : Int) == (i : Int)) = some i := by
        rw [Array.findIdx?_eq_some_iff_getElem]
        refine ⟨by omega, ?_, fun j hj => ?_⟩
        · have := b4 i arr[i] (Array.getElem?_eq_getElem _); simp [this]
        · have := b4 j arr[j] (Array.getElem?_eq_getElem _)
          simp [this]; omega
      have hset := run_setObj_map (P := X.P) (.map (arr.modify i fun e => { e with val := x }) arr.size) b1
      have hsz : (arr.modify i fun e => { e with val := x }).size = arr.size := by simp
      have hrun : (Instr.entryStore t (.map (some l)) (.int kk i) x).run X.P w = .ok () { w with heap := w.heap.setIfInBounds l (.map (arr.modify i fun e => { e with val := x }) (arr.modify i fun e => { e with val := x }).size) } := by
        unfold Instr.entryStore
        simp only [Sem.run_bind, Result.andThen, hg, hfi, hset, hsz, asInt, asIntOf, Sem.run_pure]
      obtain ⟨p0, hp0⟩ : ∃ p, es[i]? = some p := ⟨_, List.getElem?_eq_getElem c2⟩
      obtain ⟨own', r1, r2⟩ := hR.putMap (arr' := arr.modify i fun e => { e with val := x }) (es' := es.modify i fun p => (p.1, x)) hl b1 b5 (zd8 b2 (by simp) (fun j hj => by rw [List.getElem?_modify]; simp [Ne.symm hj]) (fun e' he' p hp => by
        rw [List.getElem?_modify, hp0] at hp
        simp at hp
        subst hp
        obtain ⟨e, he, hek, hev⟩ := z3h b2 hp0
        rw [he] at he'; cases he'
        simp [hek])) (fun p hp => by
        obtain ⟨j, hj, e⟩ := List.getElem_of_mem hp
        have := List.getElem?_eq_getElem hj
        rw [e, List.getElem?_modify] at this
        cases hej : es[j]? with
        | none => rw [hej] at this; simp at this
        | some q =>
          rw [hej] at this
          have hq := b3 q (List.mem_of_getElem? hej)
          simp at this
          rw [← this]
          split <;> exact hq) (by refine zcr ?_ b4 i; exact fun _ => rfl)
      exact zfl (by simp [execOp, ho, hvm, hvs, hvv, hrun]) (hnx _ _ _ _ _ r1 (.sc _) r2 (FM.le.refl _))
    · exact h.elim
  · exact h.elim
theorem R.clearMap {l clock : Nat} {arr : Array MapEntry} {str : Bool} {ob : Ob} (hR : R M F own fr σ a w) (hl : σ l = some ob) (hb : w.heap[l]? = some (.map arr clock)) (hM : ∀ o, M l o = none) :
    ∃ own', R M F own' fr (upd σ l (.mq str [])) a { w with heap := w.heap.setIfInBounds l (.map #[] clock) } ∧ KExt M own w M own' { w with heap := w.heap.setIfInBounds l (.map #[] clock) } := by
  have hlt := (Array.getElem?_eq_some_iff.1 hb).1
  have hown := (hR.glob l _ hl).1
  have hT : Touch M own w (.g l) (.blk l) M { w with heap := w.heap.setIfInBounds l (.map #[] clock) } := by
    refine ⟨by simp, rfl, rfl, rfl, fun b _ ho => ⟨?_, fun _ => rfl⟩, fun _ _ _ h => h, fun b o v _ h => ?_, fun b h => ?_⟩
    · have hne : l ≠ b := fun e => by subst e; exact ho hown
      simp [Array.getElem?_setIfInBounds, hne]
    · have hne : l ≠ b := fun e => by subst e; rw [hM] at h; cases h
      rw [yv (w := w) (by simp [Array.getElem?_setIfInBounds, hne])]; exact hR.mem _ _ _ h
    · simp [FO.block] at h; subst h; exact ⟨.inl hown, by simpa using hlt⟩
  have hob : ObRep M FM.no { w with heap := w.heap.setIfInBounds l (.map #[] clock) } (.blk l) (.mq str []) := ⟨#[], clock, by simp [Array.getElem?_setIfInBounds, hlt], by simp, by simp, hM⟩
  obtain ⟨t1, t2⟩ := hR.touchG l (.blk l) _ hT rfl hob
  exact ⟨_, t1, t2⟩
theorem zwb {c : Call} {l : Nat} (hX : X.ok) (ho : o.op = .call c) (hb : c.callee = .builtin .clear) (h : match c.argTypes.toList with
    | [t] => match lkT X.tt t with
      | some _ => GetN σ l fun ob => match ob with
        | .mp str _ => K (.sc (.tuple #[])) .no (.wr (upd σ l (.mq str [])))
        | .mq str _ => K (.sc (.tuple #[])) .no (.wr (upd σ l (.mq str [])))
        | _ => False
      | none => False
    | _ => False) (hx : c.args.toList.map (zk fr) = [.map l]) : Got X o fr σ K KP := by
  obtain ⟨y, hy, hyx⟩ : ∃ y, c.args.toList = [y] ∧ zk fr y = .map l := by
    cases hq : c.args.toList with
    | nil => rw [hq] at hx; simp at hx
    | cons y r =>
      rw [hq] at hx
      simp only [List.map_cons, List.cons.injEq, List.map_eq_nil_iff] at hx
      exact ⟨y, by rw [hx.2], hx.1⟩
  have hargs : c.args = #[y] := by rw [← Array.toArray_toList (xs := c.args), hy]
  have hmy : y ∈ o.op.operands.toList := by simp [ho, Op.operands, Call.operands, hargs]
  split at h
  · rename_i t ht
    have hts : c.argTypes = #[t] := by rw [← Array.toArray_toList (xs := c.argTypes), ht]
    split at h
    · rename_i ti hti
      obtain ⟨i, d, hi, hd, _⟩ := zt (hX t ti hti)
      have key : ∀ (q str : Bool) (es : List (MK × Value)), σ l = some (obM q str es) → K (.sc (.tuple #[])) .no (.wr (upd σ l (.mq str []))) → Got X o fr σ K KP := by
        intro q str es hl h
        refine .inl ⟨_, _, _, h, ?_⟩
        refine ⟨fun _ e => (by cases e), ?_⟩
        intro M F own fr1 σ1 a w hR hn hops hloc hhe next Q hnx
        have hσ : σ1 = σ := hhe
        subst hσ
        have hrm : Rep M F (a.eval y) (.map l) := by rw [← hyx, ← hops y hmy]; exact zd hR y
        generalize hvm : a.eval y = vm at hrm
        cases hrm
        obtain ⟨arr, clock, b1, b2, b3, b4, b5⟩ := zkj hR.toRg hl
        have hg := MapKept.run_getObj_map (P := X.P) b1
        have hset := run_setObj_map (P := X.P) (.map #[] clock) b1
        have hrun : (Builtin.clear_ #[t] o.type #[.map (some l)]).run X.P w = .ok (.tuple #[]) { w with heap := w.heap.setIfInBounds l (.map #[] clock) } := by
          unfold Builtin.clear_
          simp only [Sem.run_bind, run_underlying hd, Result.andThen, hg, hset, Sem.run_pure, List.getElem?_toArray, List.getElem?_cons_zero]
        obtain ⟨own', r1, r2⟩ := hR.clearMap (str := str) hl b1 b5
        exact xg (by simp [execOp, ho, resolve, hb, invoke, builtin, hts, hargs, hvm, hrun]) (hnx _ _ _ _ _ r1 (.sc _) r2 (FM.le.refl _))
      obtain ⟨ob, hl, h⟩ := h.h
      split at h
      · exact key false _ _ hl h
      · exact key true _ _ hl h
      · exact h.elim
    · exact h.elim
  · exact h.elim
end
end Go.CL
namespace Go.CL
open Go
section
variable {X : Ctx} {o : Oper} {fr : Fr} {σ : Heap} {K : CV → LE → HE → Prop} {KP : CV → Heap → Prop}
variable {M : Mem} {F : FM} {own : Owns} {a : Act} {w : World}
theorem zdl {det : Bool} (hX : X.ok) (h : zg0 X det o fr σ K KP) : Got X o fr σ K KP ∨ (det = false ∧ TriN X o fr σ K KP) := by
  unfold zg0 at h
  split at h
  · exact .inl (zzd ‹_› h)
  · exact .inl (zta ‹_› h)
  · exact .inl (z22 hX ‹_› h)
  · exact .inl (zzc ‹_› h)
  · exact .inl (z5l h ‹_›)
  · rename_i t ho
    split at h
    · rename_i ti ht
      obtain ⟨hz, h⟩ := zf h
      exact znr h (zxc hX ho ht hz)
    · exact h.elim
  · rename_i t x ho
    obtain ⟨hc, h⟩ := zf h
    exact znr h (z3e ho hc)
  · exact .inl (zwc hX ‹_› h)
  · exact zg7 hX ‹_› h
  · exact .inl (zze hX ‹_› h)
  · exact .inl (zv6 hX ‹_› h)
  · exact .inl (znd ‹_› h)
  · exact .inl (zkh hX ‹_› h)
  · exact .inl (zwa hX ‹_› h)
  · exact .inl (zkg hX ‹_› h)
  · rename_i t x i ho
    split at h
    · exact h.elim
    · rename_i ti ht
      obtain ⟨hstr, h⟩ := zf h
      have hu : X.P.underlying t = some .string := by
        obtain ⟨i, d, hi, hd, rfl⟩ := zt (hX t ti ht)
        cases d <;> first | exact hd | simp at hstr
      exact .inl (zv9 ho hu h)
  · exact .inl (zv7 hX h ‹_›)
  · exact zkf hX ‹_› h
  · exact .inl (zpp hX ‹_› h)
  · exact .inl (zpo ‹_› h)
  · exact .inl (zd9 hX ‹_› h)
  · exact .inl (znf ‹_› h)
  · exact .inl (zg5 hX h ‹_›)
  · exact .inl (zv8 ‹_› h)
  · exact zpn h ‹_›
  · exact .inl (zs8 hX h ‹_›)
  · exact .inl (zke hX ‹_› h)
  · exact .inl (zne hX ‹_› h)
  · exact .inl (zg6 ‹_› h)
  · rename_i c ho
    split at h
    · rename_i b hb
      unfold znq at h
      split at h
      · exact zpq hX ho hb h ‹_›
      · exact .inl (z20 hX ho hb h ‹_›)
      · exact .inl (z21 hX ho hb h ‹_›)
      · exact .inl (zwb hX ho hb h ‹_›)
      · exact ztb hX ho hb h ‹_›
      · exact .inl (zzf hX ho hb h ‹_›)
      · exact h.elim
    · exact zki ho ‹_› h
    · exact zs9 ho ‹_› h
  · exact h.elim
theorem zno (hX : X.ok) (h : zg0 X false o fr σ K KP) : z7n X o fr σ K KP := by
  rcases zdl hX h with h | ⟨_, h⟩
  · exact h.here
  · exact h.here
def z7m (M : Mem) : Exit → Xt → Prop
  | .normal, .normal => True
  | .exit i, .exit j => i = j
  | .ret, .ret => True
  | .panic [p], .pan c => p.recovered = false ∧ p.goexit = false ∧ Rep M FM.no p.v c
  | _, _ => False
def RX (x : Xt) (M : Mem) (F : FM) (own : Owns) (fr : Fr) (σ : Heap) (a : Act) (w : World) : Prop :=
  match x with
  | .pan _ => Rg M own σ w ∧ ∀ t c, CV.strip true (look fr.env t) = some c → Rep M FM.no (a.tmps.getD t undef) c
  | _ => R M F own fr σ a w
theorem R.pan {v : CV} (hR : R M F own fr σ a w) : RX (.pan v) M F own fr σ a w := ⟨hR.toRg, fun t _ h => xi (hR.env t) h⟩
theorem zbx (a : Act) (d : Option Tmp) (v : Value) : (a.put d v).defers = a.defers := by cases d <;> rfl
structure KD (D : List Deferred) (a : Act) (M0 : Mem) (own0 : Owns) (w0 : World) (M : Mem) (own : Owns) (w : World) : Prop where
  k : KExt M0 own0 w0 M own w
  d : a.defers = D
theorem KD.trans {D : List Deferred} {a a' : Act} {M0 : Mem} {own0 : Owns} {w0 : World} {M M' : Mem} {own own' : Owns} {w w' : World} (h : KD D a M0 own0 w0 M own w) (k : KExt M own w M' own' w') (ha : a'.defers = a.defers := by first | rfl | exact zbx _ _ _) :
    KD D a' M0 own0 w0 M' own' w' := ⟨h.k.trans k, ha.trans h.d⟩
theorem KD.put {D : List Deferred} {a : Act} {M0 : Mem} {own0 : Owns} {w0 : World} {M : Mem} {own : Owns} {w : World} (h : KD D a M0 own0 w0 M own w) (d : Option Tmp) (v : Value) : KD D (a.put d v) M0 own0 w0 M own w := ⟨h.k, (zbx a d v).trans h.d⟩
def ztw (D : List Deferred) (M0 : Mem) (own0 : Owns) (w0 : World) (Q : Xt → Fr → Heap → Prop) (e : Exit) (a : Act) (w : World) : Prop :=
  ∃ x M F own fr σ, z7m M e x ∧ Q x fr σ ∧ RX x M F own fr σ a w ∧ KD D a M0 own0 w0 M own w
variable {D : List Deferred} {M0 : Mem} {own0 : Owns} {w0 : World}
theorem zby {d : Option Tmp} {c : CV} {k : Fr → Prop} (h : putN fr d c k) (hR : R M F own fr σ a w) {v : Value} (hv : Rep M F v c) : ∃ fr', k fr' ∧ R M F own fr' σ (a.put d v) w := by
  obtain ⟨n, env, locs⟩ := fr
  unfold putN at h
  dsimp only at h
  split at h
  · exact ⟨_, h, hR⟩
  · rename_i t
    split at h
    · rename_i hlt
      have hlt : t < n := Nat.le_of_ble_eq_true hlt
      exact ⟨_, h, hR.put hlt hv⟩
    · exact h.elim
theorem vg {ops : Array Oper} {j : Nat} {want : Bool} (hR : R M F own fr σ a w) (hg : o.guard = some (j, want)) {c : CV} (h : y4 ops fr j = some c) :
    ∃ v, Rep M F v c ∧ (∀ b, v = .bool b → Region.wanted o (yielded ops a.tmps) = (b == want)) ∧ (∀ vs, v = .tuple vs → Region.wanted o (yielded ops a.tmps) = false) := by
  unfold y4 at h
  cases hd : (ops[j]?).bind (·.dst) with
  | none => rw [hd] at h; simp at h
  | some t =>
    rw [hd] at h
    simp only [Option.map_some, Option.some.injEq] at h
    subst h
    refine ⟨a.tmps.getD t undef, hR.env t, fun b hb => ?_, fun vs hvs => ?_⟩
    · have ht : a.tmps[t]? = some (.bool b) := by
        cases hq : a.tmps[t]? with
        | none => simp [Array.getD_eq_getD_getElem?, hq, undef] at hb
        | some u => simp [Array.getD_eq_getD_getElem?, hq] at hb; rw [hb]
      simp only [Region.wanted, hg, yielded, hd, Option.bind_some, ht]
      cases b <;> cases want <;> rfl
    · have : yielded ops a.tmps j = none := by
        simp only [yielded, hd, Option.bind_some]
        cases hq : a.tmps[t]? with
        | none => rfl
        | some u =>
          simp [Array.getD_eq_getD_getElem?, hq] at hvs
          subst hvs; rfl
      simp [Region.wanted, hg, this]
theorem zbn (hX : X.ok) {ops : Array Oper} : ∀ (l : List Oper) (ds : List Did) {fr : Fr} {σ : Heap} {Q : List Did → Xt → Fr → Heap → Prop}, ze1 X false ops l ds fr σ Q →
    ∀ {M : Mem} {F : FM} {own : Owns} {a : Act} {w : World}, R M F own fr σ a w → KD D a M0 own0 w0 M own w → wpList X.P ops (ztw D M0 own0 w0 (fun x fr σ => ∃ ds, Q ds x fr σ)) l a w
  | [], ds, fr, σ, Q, h, M, F, own, a, w, hR, hk => ⟨.normal, M, F, own, fr, σ, trivial, ⟨ds, h⟩, hR, hk⟩
  | o :: l, ds, fr, σ, Q, h, M, F, own, a, w, hR, hk => by
    rw [zti] at h
    have hgo : (zg0 X false o fr σ (fun v le he => putN (fr.app le) o.dst v fun fr => ze1 X false ops l (⟨o.dst, le, he⟩ :: ds) fr (he.app σ) Q) (fun v τ => Q (⟨none, .no, .wr τ⟩ :: ds) (.pan v) fr τ)) →
        o.wp X.P a w (wpList X.P ops (ztw D M0 own0 w0 (fun x fr σ => ∃ ds, Q ds x fr σ)) l) (ztw D M0 own0 w0 (fun x fr σ => ∃ ds, Q ds x fr σ)) := by
      intro h
      refine zno hX h hR (fun v c le he M' F' own' w' hK hR' hv hk' _ => ?_) (fun p c τ M' own' w' hK hR' e1 e2 hv hk' => ?_)
      · obtain ⟨fr', h1, h2⟩ := zby hK hR' hv
        exact zbn hX l _ h1 h2 (hk.trans hk')
      · exact ⟨.pan c, M', F, own', fr, τ, ⟨e1, e2, hv⟩, ⟨_, hK⟩, hR'.pan, hk.trans hk'⟩
    have hskip : (putN fr o.dst (.sc undef) fun fr => ze1 X false ops l (⟨o.dst, .no, .no⟩ :: ds) fr σ Q) → wpList X.P ops (ztw D M0 own0 w0 (fun x fr σ => ∃ ds, Q ds x fr σ)) l (a.put o.dst undef) w := by
      intro h
      obtain ⟨fr', h1, h2⟩ := zby h hR (.sc undef)
      exact zbn hX l _ h1 h2 (hk.put _ _)
    unfold wpList
    split at h
    · rename_i hg
      rw [if_pos (by simp [Region.wanted, hg])]
      exact .inl (hgo h)
    · rename_i j want hg
      split at h
      · rename_i b hb
        obtain ⟨v, hv, hw, _⟩ := vg (w := w) hR hg hb
        cases hv
        have hw := hw b rfl
        cases hbw : (b == want) with
        | true =>
          rw [if_pos (by rw [hw, hbw])]
          exact .inl (hgo (h.t hbw))
        | false =>
          rw [if_neg (by rw [hw, hbw]; simp)]
          exact hskip (h.e hbw)
      · rename_i vs hb
        obtain ⟨v, hv, _, hw⟩ := vg (w := w) hR hg hb
        cases hv
        rw [if_neg (by rw [hw _ rfl]; simp)]
        exact hskip h
      · exact h.elim
theorem zs1 {l l' : List (Nat × Ob)} {env env' : List (Nat × CV)} (h : EnvLe l l' env env') (t : Nat) : CVle l l' (look env t) (look env' t) := by
  induction h with
  | nil => exact .junk _
  | cons s c r h hr ih =>
    rw [xa]
    split
    · rename_i e; subst e; exact h
    · exact ih
theorem zpj {l l' m : List (Nat × Ob)} (h : LocsLe l l' m) {d : Nat} {ob : Ob} (hd : z6 m d = some ob) : ObLe l l' d ob := by
  induction h with
  | nil => simp [z6] at hd
  | cons s c r h hr ih =>
    rw [wg] at hd
    split at hd
    · rename_i e; subst e; cases hd; exact h
    · exact ih hd
mutual
theorem zin {M : Mem} {F F' : FM} {D : Nat → Bool} (hF : ∀ d, D d = true → ∀ fo, F d = some fo → F' d = some fo) {c : CV} {v : Value} (h : Rep M F v c) (ho : CV.only D c = true) : Rep M F' v c := by
  cases c with
  | sc u => cases h; exact .sc _
  | nil => cases h; exact .nil
  | agg cs =>
    simp only [CV.only] at ho
    cases h with
    | agg vs _ hs h => exact .agg vs cs hs fun i c hc => zag hF ho (fun i c hc => h i c hc) i c hc
  | vec xs =>
    cases h with
    | nilvec => exact .nilvec
    | vec sz b off n cap _ vs hn hc hs hm hr => exact .vec sz b off n cap xs vs hn hc hs hm hr
  | avec d xs =>
    simp only [CV.only] at ho
    cases h with
    | avec _ _ s n sz h h1 h2 h3 h4 =>
      refine .avec d xs s n sz ?_ (hF d ho _ h1) h2 h3 h4
      cases h with
      | nilvec => exact .nilvec
      | vec sz b off n cap _ vs hn hc hs hm hr => exact .vec sz b off n cap xs vs hn hc hs hm hr
  | row d =>
    simp only [CV.only] at ho
    cases h with
    | row _ b n cap h1 => exact .row d b n cap (hF d ho _ h1)
  | grow l n cap => cases h; exact .grow l n cap
  | ptr o off =>
    cases o with
    | f d => simp only [CV.only] at ho; cases h with | ptr _ _ b h1 => exact .ptr d off b (hF d ho _ h1)
    | g l => cases h; exact .gptr l off
  | eptr o sz i off =>
    cases o with
    | f d => simp only [CV.only] at ho; cases h with | eptr _ _ _ _ b n cap h1 => exact .eptr d sz i off b n cap (hF d ho _ h1)
    | g l => cases h; exact .geptr l sz i off
  | ref x off => cases h with | ref _ _ b base vs hm hr => exact .ref x off b base vs hm hr
  | iface t x =>
    simp only [CV.only] at ho
    cases h with | iface _ u _ h => exact .iface t u x (zin hF h ho)
  | fn f p q =>
    simp only [CV.only] at ho
    split at ho
    · rename_i hp
      cases h with
      | fn _ vs us _ _ h1 h2 h3 h4 => exact .fn f vs us p q h1 (fun i c hc => zag hF hp (fun i c hc => h2 i c hc) i c hc) h3 (fun i c hc => zag hF ho (fun i c hc => h4 i c hc) i c hc)
    · cases ho
  | tup cs =>
    simp only [CV.only] at ho
    cases h with
    | tup vs _ hs h => exact .tup vs cs hs fun i c hc => zag hF ho (fun i c hc => h i c hc) i c hc
  | map l => cases h; exact .map l
  | opq x => cases h with | opq _ _ h1 h => exact .opq _ _ h1 h
  | junk => exact .junk
theorem zag {M : Mem} {F F' : FM} {D : Nat → Bool} (hF : ∀ d, D d = true → ∀ fo, F d = some fo → F' d = some fo) {cs : List CV} (ho : CV.onlys D cs = true) {vs : Nat → Value}
    (h : ∀ (i : Nat) c, cs[i]? = some c → Rep M F (vs i) c) : ∀ (i : Nat) c, cs[i]? = some c → Rep M F' (vs i) c := by
  cases cs with
  | nil => intro i c hc; simp at hc
  | cons x r =>
    simp only [CV.onlys] at ho
    split at ho
    · rename_i hx
      intro i c hc
      cases i with
      | zero => simp at hc; subst hc; exact zin hF (h 0 x rfl) hx
      | succ i => simp at hc; exact zag hF ho (vs := fun i => vs (i + 1)) (fun i c hc => h (i + 1) c (by simpa using hc)) i c hc
    · cases ho
end
theorem R.weaken {fr' : Fr} {σ' : Heap} (hR : R M F own fr σ a w) (hw : Wk fr σ fr' σ') : ∃ F', R M F' own fr' σ' a w := by
  let F' : FM := fun d => match z6 fr'.locs d with
    | some ob => match F d with
      | some fo => some fo
      | none => match ob with
        | .tok _ sz _ => some (.tok none 0 sz)
        | _ => none
    | none => none
  have hF : ∀ d, z32 fr'.locs d = true → ∀ fo, F d = some fo → F' d = some fo := fun d hd fo hfo => by
    simp only [z32, Option.isSome_iff_exists] at hd
    obtain ⟨ob, hob⟩ := hd
    simp [F', hob, hfo]
  have key : ∀ {c c' : CV} {v : Value}, CVle fr.locs fr'.locs c c' → Rep M F v c → Rep M F' v c' := by
    intro c c' v h hr
    cases h with
    | junk => exact .junk
    | same _ ho => exact zin hF hr ho
    | vec d xs =>
      cases hr with
      | avec _ _ s n sz h =>
        cases h with
        | nilvec => exact .nilvec
        | vec sz b off n cap _ vs hn hc hs hm hr => exact .vec sz b off n cap xs vs hn hc hs hm hr
    | nil => cases hr; exact .nilvec
    | tok d e sz h h' =>
      cases hr
      exact .avec d [] none 0 sz .nilvec (by simp [F', h', hR.dom d h]) (by simp) (Nat.le_refl _) (fun _ => rfl)
  have keys : ∀ {cs cs' : List CV} (_ : CVles fr.locs fr'.locs cs cs') {vs : Nat → Value}, (∀ (i : Nat) c, cs[i]? = some c → Rep M F (vs i) c) → ∀ (i : Nat) c, cs'[i]? = some c → Rep M F' (vs i) c := by
    intro cs cs' h
    induction h with
    | nil => intro vs _ i c hc; simp at hc
    | cons h _ ih =>
      intro vs hv i c hc
      cases i with
      | zero => simp at hc; subst hc; exact key h (hv 0 _ rfl)
      | succ i => simp at hc; exact ih (vs := fun i => vs (i + 1)) (fun i c hc => hv (i + 1) c (by simpa using hc)) i c hc
  have keyl : ∀ {cs cs' : List CV}, CVles fr.locs fr'.locs cs cs' → cs.length = cs'.length := by
    intro cs cs' h
    induction h with
    | nil => rfl
    | cons _ _ ih => simp [ih]
  refine ⟨F', ⟨hR.mem, fun l ob hl => hR.glob l ob (hw.heap l ob hl), hR.fresh⟩, hR.size.trans hw.n.symm, fun t => key (zs1 hw.env t) (hR.env t), fun d ob hd => ?_, fun d hd => by simp [F', hd]⟩
  · cases zpj hw.locs hd with
    | cells h hc =>
      obtain ⟨fo, h1, h2, h3⟩ := hR.locs d _ h
      refine ⟨fo, by simp [F', hd, h1], ?_, h3⟩
      cases fo with
      | blk b =>
        obtain ⟨T, vs, k1, k2, k3, k4⟩ := h2
        exact ⟨T, vs, k1, k2.trans (keyl hc), fun j c hj => keys hc (vs := fun j => vs.getD j undef) (fun i c hc => k3 i c hc) j c hj, k4⟩
      | row b n cap => exact h2.elim
      | tok s n sz => exact h2.elim
    | same _ h h' =>
      obtain ⟨fo, h1, h2, h3⟩ := hR.locs d ob h
      refine ⟨fo, by simp [F', hd, h1], ?_, h3⟩
      cases fo with
      | blk b =>
        cases ob with
        | cells cs =>
          obtain ⟨T, vs, k1, k2, k3, k4⟩ := h2
          exact ⟨T, vs, k1, k2, fun j c hc => zag hF h' (vs := fun j => vs.getD j undef) (fun i c hc => k3 i c hc) j c hc, k4⟩
        | mp str es => exact h2
        | mq str es => exact h2
        | loop f n env ps asg body st pend => exact h2
        | _ => exact h2.elim
      | row b n cap => cases ob <;> exact h2
      | tok s n sz => cases ob <;> exact h2
    | tok e sz h =>
      exact ⟨.tok none 0 sz, by simp [F', hd, hR.dom d h], ⟨rfl, rfl, rfl⟩, by simp [FO.block]⟩
end
section
variable {X : Ctx} {fr : Fr} {σ : Heap}
variable {M : Mem} {F : FM} {own : Owns} {a : Act} {w : World} {D : List Deferred} {M0 : Mem} {own0 : Owns} {w0 : World}
def ji (X : Ctx) : Prop := ∀ (id : Nat) (ops : Array Oper) {fr : Fr} {σ : Heap} {Q : Xt → Fr → Heap → Prop}, Ex X (.region id ops true) fr σ Q →
  ∀ {M : Mem} {F : FM} {own : Owns} {a : Act} {w : World} {D : List Deferred} {M0 : Mem} {own0 : Owns} {w0 : World}, R M F own fr σ a w → KD D a M0 own0 w0 M own w → (Code.region id ops true).wp X.P (ztw D M0 own0 w0 Q) a w
theorem zr7 (hX : X.ok) (hD : ji X) : ∀ (c : Code) {fr : Fr} {σ : Heap} {Q : Xt → Fr → Heap → Prop}, Ex X c fr σ Q →
    ∀ {M : Mem} {F : FM} {own : Owns} {a : Act} {w : World} {D : List Deferred} {M0 : Mem} {own0 : Owns} {w0 : World}, R M F own fr σ a w → KD D a M0 own0 w0 M own w → c.wp X.P (ztw D M0 own0 w0 Q) a w := by
  intro c
  induction c with
  | skip => intro fr σ Q h M F own a w D M0 own0 w0 hR hk; exact wp_skip ⟨.normal, M, F, own, fr, σ, trivial, h, hR, hk⟩
  | region id ops draw =>
    intro fr σ Q h M F own a w D M0 own0 w0 hR hk
    cases draw with
    | true => exact hD id ops h hR hk
    | false =>
      refine Code.wp_mono ?_ (wp_region_list (id := id) (zbn hX ops.toList [] h hR hk))
      rintro e a' w' ⟨x', M', F', own', fr', σ', hx, ⟨_, hq⟩, hR', hk'⟩
      exact ⟨x', M', F', own', fr', σ', hx, hq, hR', hk'⟩
  | seq x y ihx ihy =>
    intro fr σ Q h M F own a w D M0 own0 w0 hR hk
    refine wp_seq (Code.wp_mono ?_ (ihx h hR hk))
    rintro e a' w' ⟨x', M', F', own', fr', σ', hx, hq, hR', hk'⟩
    cases e with
    | normal =>
      cases x' with
      | normal => exact ihy hq hR' hk'
      | _ => exact hx.elim
    | exit i =>
      cases x' with
      | exit j => exact ⟨.exit j, M', F', own', fr', σ', hx, hq, hR', hk'⟩
      | _ => exact hx.elim
    | ret =>
      cases x' with
      | ret => exact ⟨.ret, M', F', own', fr', σ', hx, hq, hR', hk'⟩
      | _ => exact hx.elim
    | panic ch =>
      cases x' with
      | pan c => exact ⟨.pan c, M', F', own', fr', σ', hx, hq, hR', hk'⟩
      | _ => rcases ch with _ | ⟨p, _ | ⟨q, r⟩⟩ <;> exact hx.elim
    | goto l => exact hx.elim
    | outgrown => exact hx.elim
  | cond c t e iht ihe =>
    intro fr σ Q h M F own a w D M0 own0 w0 hR hk
    change (match zk fr c with | .sc (.bool b) => selB b (Ex X t fr σ Q) (Ex X e fr σ Q) | _ => False) at h
    split at h
    · rename_i b hb
      have hr := zd hR c
      rw [hb] at hr
      generalize hv : a.eval c = v at hr
      cases hr
      exact wp_cond_split hv (fun hb => iht (h.t hb) hR hk) (fun hb => ihe (h.e hb) hR hk)
    · exact h.elim
  | block id c ih =>
    intro fr σ Q h M F own a w D M0 own0 w0 hR hk
    refine wp_block (Code.wp_mono ?_ (ih h hR hk))
    rintro e a' w' ⟨x', M', F', own', fr', σ', hx, hq, hR', hk'⟩
    cases e with
    | normal =>
      cases x' with
      | normal => exact ⟨.normal, M', F', own', fr', σ', trivial, hq, hR', hk'⟩
      | _ => exact hx.elim
    | exit i =>
      cases x' with
      | exit j =>
        have hx : i = j := hx
        subst hx
        simp only at hq
        split at hq
        · rename_i he
          have he := Nat.eq_of_beq_eq_true he
          simp only [Exit.inBlock, if_pos he]
          exact ⟨.normal, M', F', own', fr', σ', trivial, hq, hR', hk'⟩
        · rename_i he
          have he : ¬ i = id := fun e => by subst e; simp at he
          simp only [Exit.inBlock, if_neg he]
          exact ⟨.exit i, M', F', own', fr', σ', rfl, hq, hR', hk'⟩
      | _ => exact hx.elim
    | ret =>
      cases x' with
      | ret => exact ⟨.ret, M', F', own', fr', σ', hx, hq, hR', hk'⟩
      | _ => exact hx.elim
    | panic ch =>
      cases x' with
      | pan c => exact ⟨.pan c, M', F', own', fr', σ', hx, hq, hR', hk'⟩
      | _ => rcases ch with _ | ⟨p, _ | ⟨q, r⟩⟩ <;> exact hx.elim
    | goto l => exact hx.elim
    | outgrown => exact hx.elim
  | loop c ih =>
    intro fr σ Q h M F own a w D M0 own0 w0 hR hk
    obtain ⟨n, h'⟩ := h.h
    clear h
    refine wp_loop_rounds n ?_
    induction n generalizing fr σ M F own a w with
    | zero => exact h'.elim
    | succ n ihn =>
      obtain ⟨fr', σ', hw, h⟩ := h'
      obtain ⟨F', hR'⟩ := hR.weaken hw
      refine Code.wp_mono ?_ (ih h hR' hk)
      rintro e a' w' ⟨x', M', F', own', fr', σ', hx, hq, hR', hk'⟩
      cases e with
      | normal =>
        cases x' with
        | normal => exact ihn hR' hk' (by exact hq)
        | _ => exact hx.elim
      | exit i =>
        cases x' with
        | exit j => exact ⟨.exit j, M', F', own', fr', σ', hx, hq, hR', hk'⟩
        | _ => exact hx.elim
      | ret =>
        cases x' with
        | ret => exact ⟨.ret, M', F', own', fr', σ', hx, hq, hR', hk'⟩
        | _ => exact hx.elim
      | panic ch =>
        cases x' with
        | pan c => exact ⟨.pan c, M', F', own', fr', σ', hx, hq, hR', hk'⟩
        | _ => rcases ch with _ | ⟨p, _ | ⟨q, r⟩⟩ <;> exact hx.elim
      | goto l => exact hx.elim
      | outgrown => exact hx.elim
  | exit id => intro fr σ Q h M F own a w D M0 own0 w0 hR hk; exact wp_exit ⟨.exit id, M, F, own, fr, σ, rfl, h, hR, hk⟩
  | ret => intro fr σ Q h M F own a w D M0 own0 w0 hR hk; exact wp_ret ⟨.ret, M, F, own, fr, σ, trivial, h, hR, hk⟩
  | _ => intro fr σ Q h; exact h.elim
theorem zhn {P : Program} {b off : Nat} (w : World) : (asAddr (.pointer (some ⟨b, off, none⟩))).run P w = .ok ⟨b, off, none⟩ w := rfl
def zll (tmps : Array Value) : ResultVar → Sem Value
  | .tmp t => pure (tmps.getD t undef)
  | .cell a t => do loadVar t (← asAddr (tmps.getD a undef))
theorem zbm (hX : X.ok) (hR : R M F own fr σ a w) : ∀ (l : List ResultVar) {K : List CV → Prop}, zko X fr σ l K →
    ∃ vs us, K vs ∧ (l.mapM (zll a.tmps)).run X.P w = .ok us w ∧ us.length = vs.length ∧ ∀ (i : Nat) c, vs[i]? = some c → Rep M F (us.getD i undef) c
  | [], K, h => ⟨[], [], h, by simp, rfl, by simp⟩
  | .tmp t :: r, K, h => by
    rw [zwm] at h
    obtain ⟨vs, us, h1, h2, h3, h4⟩ := zbm hX hR r h
    refine ⟨_, a.tmps.getD t undef :: us, h1, by rw [List.mapM_cons, Sem.run_bind]; simp [zll, h2], by simp [h3], fun i c hc => ?_⟩
    cases i with
    | zero => simp at hc; subst hc; simpa using hR.env t
    | succ i => simp at hc; simpa using h4 i c hc
  | .cell p t :: r, K, h => by
    rw [zth] at h
    split at h
    · rename_i ti ht
      obtain ⟨cs, off, le, he, hs, hp⟩ := zew h
      obtain ⟨c, hc, hsub⟩ := zgh hs
      obtain ⟨vs, us, h1, h2, h3, h4⟩ := zbm hX hR r hc
      obtain ⟨b, base, e1, e2⟩ := hp.sound hR (hR.env p)
      obtain ⟨v, e3, e4⟩ := hsub (hX t ti ht) e2
      refine ⟨_, v :: us, h1, by rw [List.mapM_cons, Sem.run_bind]; simp only [zll, e1, Sem.run_bind, zhn, Result.andThen_ok, e3, h2, Sem.run_pure], by simp [h3], fun i c' hc' => ?_⟩
      cases i with
      | zero => simp at hc'; subst hc'; simpa using e4
      | succ i => simp at hc'; simpa using h4 i c' hc'
    · exact h.elim
theorem kq {P : Program} {fn : Func} {tmps : Array Value} {us : List Value} (h : (fn.results.toList.mapM (zll tmps)).run P w = .ok us w) :
    (results fn tmps).run P w = .ok (if h : us.length = 1 then us[0] else .tuple us.toArray) w := by
  unfold results
  rw [Sem.run_bind]
  have e2 : (fn.results.mapM (zll tmps)).run P w = .ok us.toArray w := by
    rw [Array.mapM_eq_mapM_toList, Sem.run_map, h]; rfl
  change ((Sem.run P (Array.mapM (zll tmps) fn.results) w).andThen _) = _
  rw [e2]
  simp
theorem zb4 (l : List CV) : ∀ (k t : Nat), look (zdn k l) t = if k ≤ t ∧ t < k + l.length then l.getD (t - k) .junk else .junk := by
  induction l with
  | nil => intro k t; simp [zdn, look]
  | cons c r ih =>
    intro k t
    rw [zdn, xa]
    by_cases h : k = t
    · subst h; simp
    · rw [if_neg h, ih]
      by_cases h2 : k + 1 ≤ t ∧ t < k + 1 + r.length
      · rw [if_pos h2, if_pos (by simp; omega)]
        rw [show t - k = (t - (k + 1)) + 1 by omega]; simp
      · rw [if_neg h2, if_neg (by simp; omega)]
theorem zfa {M M' : Mem} {own own' : Owns} {w w' : World} {σ' τ : Heap} {post : COut → Prop} (hR : Rg M' own' σ' w') {vs' : List CV} {us : List Value} (hlen : us.length = vs'.length)
    (hrep : ∀ (i : Nat) c, vs'[i]? = some c → Rep M' FM.no (us.getD i undef) c) (hs : Sub τ σ') (hp : post (.ret (zez vs') τ)) (hk : KExt M own w M' own' w') :
    za7 M own w post (.returned (if h : us.length = 1 then us[0] else .tuple us.toArray)) w' := by
  have sub : Rg M' own' τ w' := ⟨hR.mem, fun l ob hl => hR.glob l ob (hs l ob hl), hR.fresh⟩
  by_cases hv : ∃ v, vs' = [v]
  · obtain ⟨v, rfl⟩ := hv
    have h1' : us.length = 1 := by simpa using hlen
    refine ⟨.ret v τ, M', own', hp, hk, ?_⟩
    rw [dif_pos h1']
    have := hrep 0 v rfl
    rw [List.getD_eq_getElem?_getD, List.getElem?_eq_getElem (by omega)] at this
    exact ⟨this, sub⟩
  · have e : zez vs' = .tup vs' := by
      unfold zez
      split
      · rename_i v; exact absurd ⟨v, rfl⟩ hv
      · rfl
    rw [e] at hp
    have h1' : ¬ us.length = 1 := by
      intro e
      rw [e] at hlen
      obtain ⟨v, hv'⟩ := List.length_eq_one_iff.1 hlen.symm
      exact hv ⟨v, hv'⟩
    refine ⟨.ret (.tup vs') τ, M', own', hp, hk, ?_⟩
    rw [dif_neg h1']
    refine ⟨.tup us.toArray vs' (by simpa using hlen) fun i c hc => ?_, sub⟩
    have := hrep i c hc
    simpa [Array.getD_eq_getD_getElem?, List.getD_eq_getElem?_getD] using this
theorem Fin.out {raw vs' : List CV} {v : CV} {M M' : Mem} {F' : FM} {own own' : Owns} {w w' : World} {σ' : Heap} {post : COut → Prop} (h : Fin raw v σ' post) (hv : v = zez vs') (hR : Rg M' own' σ' w') {us : List Value} (h6 : CV.strips true raw = some vs')
    (h3 : us.length = raw.length) (h4 : ∀ (i : Nat) c, raw[i]? = some c → Rep M' F' (us.getD i undef) c) (hk : KExt M own w M' own' w') :
    za7 M own w post (.returned (if h : us.length = 1 then us[0] else .tuple us.toArray)) w' := by
  have conv : ∀ {l : List CV}, (raw.length = l.length ∧ ∀ (vs : Array Value), (∀ (i : Nat) c, raw[i]? = some c → Rep M' F' (vs.getD i undef) c) → ∀ (i : Nat) c, l[i]? = some c → Rep M' FM.no (vs.getD i undef) c) →
      us.length = l.length ∧ ∀ (i : Nat) c, l[i]? = some c → Rep M' FM.no (us.getD i undef) c := by
    rintro l ⟨k1, k2⟩
    refine ⟨h3.trans k1, fun i c hc => ?_⟩
    have := k2 us.toArray (fun i c hc => by
      have := h4 i c hc
      simpa [Array.getD_eq_getD_getElem?, List.getD_eq_getElem?_getD] using this) i c hc
    simpa [Array.getD_eq_getD_getElem?, List.getD_eq_getElem?_getD] using this
  cases h with
  | ret τ hs hp =>
    obtain ⟨k1, k2⟩ := conv (zv (M := M') (F := F') h6)
    subst hv
    exact zfa hR k1 k2 hs hp hk
  | ret0 τ vs hs0 hs hp =>
    obtain ⟨k1, k2⟩ := conv (xh (M := M') (F := F') hs0)
    exact zfa hR k1 k2 hs hp hk
theorem jh (hX : X.ok) (hD : ji X) {f : FuncId} {fn : Func} {body : Code} {args : List CV} {σ : Heap} {post : COut → Prop} (hf : X.P.funcs[f]? = some fn) (hb : fn.body = some body)
    (hn : (fn.name == "runtime.NumGoroutine") = false) (hs : Nat.ble args.length fn.ntmps = true)
    (h : Ex X body ⟨fn.ntmps, zdn 0 args, []⟩ σ (zwp X fn post)) : CRun X.P f args σ post := by
  have hs := Nat.le_of_ble_eq_true hs
  refine ⟨⟨fn, hf, by simp [hb], hn⟩, fun M own w vals hRg hvs hr => ?_⟩
  refine calls_of_wp hf hb ?_
  have hR : R M FM.no own ⟨fn.ntmps, zdn 0 args, []⟩ σ { tmps := vals ++ Array.replicate (fn.ntmps - vals.size) undef, defers := [] } w := by
    refine ⟨hRg, by simp; omega, fun t => ?_, fun d ob hd => by simp [z6] at hd, fun d _ => rfl⟩
    rw [zb4]
    by_cases ht : t < args.length
    · rw [if_pos (by omega)]
      have := hr t args[t] (by simp [ht])
      have hv : t < vals.size := by omega
      rw [Array.getD_eq_getD_getElem?, Array.getElem?_append_left hv, ← Array.getD_eq_getD_getElem?]
      simpa [List.getD_eq_getElem?_getD, ht] using this
    · rw [if_neg (by omega)]; exact .junk
  refine Code.wp_mono ?_ (zr7 hX hD body h hR (D := []) ⟨KExt.refl M own w, rfl⟩)
  rintro e a' w' ⟨x', M', F', own', fr', σ', hx, hq, hR', hk'⟩
  have fin : R M' F' own' fr' σ' a' w' → (zko X fr' σ' fn.results.toList fun raw => vh true raw fun vs => match vs with
    | [v] => Fin raw v σ' post
    | vs => Fin raw (.tup vs) σ' post) → ∃ v, (results fn a'.tmps).run X.P w' = .ok v w' ∧ za7 M own w post (.returned v) w' := by
    intro hR' h
    obtain ⟨vs, us, h1, h2, h3, h4⟩ := zbm hX hR' _ h
    obtain ⟨vs', h5, h6⟩ := wh _ h1
    refine ⟨_, kq h2, ?_⟩
    split at h5
    · exact h5.out rfl hR'.toRg h6 h3 h4 hk'.k
    · rename_i hne
      refine h5.out (vs' := vs') ?_ hR'.toRg h6 h3 h4 hk'.k
      unfold zez
      split
      · rename_i v; exact absurd rfl (hne v)
      · rfl
  cases e with
  | normal =>
    cases x' with
    | normal =>
      obtain ⟨v, h1, h2⟩ := fin hR' hq
      exact ⟨hk'.d, v, h1, h2⟩
    | _ => exact hx.elim
  | ret =>
    cases x' with
    | ret =>
      obtain ⟨v, h1, h2⟩ := fin hR' hq
      exact ⟨hk'.d, v, h1, h2⟩
    | _ => exact hx.elim
  | exit i =>
    cases x' with
    | exit j => exact hq.elim
    | _ => exact hx.elim
  | panic ch =>
    cases x' with
    | pan c =>
      rcases ch with _ | ⟨p, _ | ⟨q, r⟩⟩
      · exact hx.elim
      · obtain ⟨e1, e2, e3⟩ := hx
        obtain ⟨τ, hs, hp⟩ := hq
        exact ⟨hk'.d, _, M', own', hp, hk'.k, e1, e2, e3, hR'.1.mem, fun l ob hl => hR'.1.glob l ob (hs l ob hl), hR'.1.fresh⟩
      · exact hx.elim
    | _ => rcases ch with _ | ⟨p, _ | ⟨q, r⟩⟩ <;> exact hx.elim
  | goto l => exact hx.elim
  | outgrown => exact hx.elim
end
inductive Anc (ops : Array Oper) : Nat → Nat → Prop
  | edge {j k : Nat} {o : Oper} {e : Edge} (h : ops[k]? = some o) (he : e ∈ o.after.toList) (hb : Region.binds .any e = true) (hj : e.on = j) : Anc ops j k
  | trans {i j k : Nat} (h : Anc ops i j) (h' : Anc ops j k) : Anc ops i k
theorem z3o {ops : Array Oper} {acc : List Nat} {k : Nat} {o : Oper} (ho : ops[k]? = some o) (hacc : ∀ m j, (acc.getD m 0).testBit j = true → Anc ops j m) :
    ∀ (es : List Edge), (∀ e ∈ es, e ∈ o.after.toList) → ∀ (s : Nat), (∀ j, s.testBit j = true → Anc ops j k) →
      ∀ j, (es.foldl (fun s e => match Region.binds .any e with
      | true => s ||| 2 ^ e.on ||| acc.getD e.on 0
      | false => s) s).testBit j = true → Anc ops j k := by
  intro es
  induction es with
  | nil => intro _ s hs j h; exact hs j h
  | cons e r ih =>
    intro hm s hs j h
    simp only [List.foldl_cons] at h
    refine ih (fun e' he' => hm e' (by simp [he'])) _ ?_ j h
    intro j hj
    split at hj
    · rename_i hb
      simp only [Nat.testBit_or, Bool.or_eq_true] at hj
      rcases hj with (hj | hj) | hj
      · exact hs j hj
      · rw [Nat.testBit_two_pow] at hj
        exact .edge ho (hm e (by simp)) hb (by simpa using hj)
      · exact .trans (hacc _ _ hj) (.edge ho (hm e (by simp)) hb rfl)
    · exact hs j hj
theorem zgy {ops : Array Oper} : ∀ (l : List Oper) (acc : List Nat), (∀ i, l[i]? = ops[acc.length + i]?) → (∀ m j, (acc.getD m 0).testBit j = true → Anc ops j m) →
    ∀ m j, ((zqa ops l acc).getD m 0).testBit j = true → Anc ops j m
  | [], acc, _, hacc, m, j, h => hacc m j h
  | o :: r, acc, hl, hacc, m, j, h => by
    simp only [zqa] at h
    have ho : ops[acc.length]? = some o := by have := hl 0; simpa using this.symm
    refine zgy r _ (fun i => ?_) ?_ m j h
    · have := hl (i + 1)
      simp only [List.getElem?_cons_succ] at this
      rw [this, List.length_append]; congr 1; simp; omega
    · intro m j h
      by_cases hm : m < acc.length
      · rw [List.getD_eq_getElem?_getD, List.getElem?_append_left hm, ← List.getD_eq_getElem?_getD] at h
        exact hacc m j h
      · by_cases hm2 : m = acc.length
        · subst hm2
          rw [List.getD_eq_getElem?_getD, List.getElem?_append_right (by omega)] at h
          simp only [Nat.sub_self, List.getElem?_cons_zero, Option.getD_some] at h
          exact z3o ho hacc o.after.toList (fun e he => he) 0 (fun j hj => by simp at hj) j h
        · rw [List.getD_eq_getElem?_getD, List.getElem?_eq_none (by simp; omega)] at h
          simp at h
theorem zgx {ops : Array Oper} {m j : Nat} (h : ((zqa ops ops.toList []).getD m 0).testBit j = true) : Anc ops j m :=
  zgy ops.toList [] (fun i => by simp) (fun m j h => by simp at h) m j h
inductive Good (A : Nat → Nat → Prop) : List Nat → Prop
  | nil : Good A []
  | cons {i : Nat} {l : List Nat} (hi : i ∉ l) (ha : ∀ j, A j i → j ∈ l) (h : Good A l) : Good A (i :: l)
theorem Good.closed {A : Nat → Nat → Prop} {l : List Nat} (h : Good A l) : ∀ {i j : Nat}, i ∈ l → A j i → j ∈ l := by
  induction h with
  | nil => intro i j hi; simp at hi
  | cons hi ha h ih =>
    intro i j hm hj
    rcases List.mem_cons.1 hm with rfl | hm
    · exact List.mem_cons_of_mem _ (ha _ hj)
    · exact List.mem_cons_of_mem _ (ih hm hj)
theorem Good.sorted {A : Nat → Nat → Prop} {l : List Nat} {n : Nat} (h : Good A l) (W : Nat → Bool) (hb : ∀ j ∈ l, j < n) (hW : ∀ j ∈ l, ∀ k ∈ l, W j = true → W k = true → j ≠ k → A j k ∨ A k j)
    (hlt : ∀ j k, j < n → k < n → A j k → j < k) : (l.filter W).Pairwise (· > ·) := by
  induction h with
  | nil => simp
  | @cons i l hi ha h ih =>
    have ih := ih (fun j hj => hb j (List.mem_cons_of_mem _ hj)) (fun j hj k hk => hW j (List.mem_cons_of_mem _ hj) k (List.mem_cons_of_mem _ hk))
    by_cases hwi : W i = true
    · rw [List.filter_cons_of_pos hwi, List.pairwise_cons]
      refine ⟨fun j hj => ?_, ih⟩
      obtain ⟨hj, hwj⟩ := List.mem_filter.1 hj
      have hne : j ≠ i := fun e => by subst e; exact hi hj
      rcases hW j (List.mem_cons_of_mem _ hj) i (by simp) hwj hwi hne with hc | hc
      · exact hlt _ _ (hb j (List.mem_cons_of_mem _ hj)) (hb i (by simp)) hc
      · exact absurd (h.closed hj hc) hi
    · rw [List.filter_cons_of_neg hwi]; exact ih
theorem zbb : ∀ {l m : List Nat}, l.Pairwise (· > ·) → m.Pairwise (· > ·) → (∀ x, x ∈ l ↔ x ∈ m) → l = m
  | [], [], _, _, _ => rfl
  | [], b :: m, _, _, h => absurd ((h b).2 (by simp)) (by simp)
  | a :: l, [], _, _, h => absurd ((h a).1 (by simp)) (by simp)
  | a :: l, b :: m, hl, hm, h => by
    rw [List.pairwise_cons] at hl hm
    have hab : a = b := by
      have h1 := (h a).1 (by simp)
      have h2 := (h b).2 (by simp)
      rcases List.mem_cons.1 h1 with e | e
      · exact e
      · rcases List.mem_cons.1 h2 with e' | e'
        · exact e'.symm
        · have := hm.1 a e; have := hl.1 b e'; omega
    subst hab
    congr 1
    refine zbb hl.2 hm.2 fun x => ⟨fun hx => ?_, fun hx => ?_⟩
    · rcases List.mem_cons.1 ((h x).1 (by simp [hx])) with e | e
      · subst e; have := hl.1 x hx; omega
      · exact e
    · rcases List.mem_cons.1 ((h x).2 (by simp [hx])) with e | e
      · subst e; have := hm.1 x hx; omega
      · exact e
def yk : Nat → List Nat
  | 0 => []
  | n + 1 => n :: yk n
theorem mem_canon {n i : Nat} : i ∈ yk n ↔ i < n := by
  induction n with
  | zero => simp [yk]
  | succ n ih => simp [yk, ih]; omega
theorem qq (n : Nat) : (yk n).Pairwise (· > ·) := by
  induction n with
  | zero => simp [yk]
  | succ n ih => rw [yk, List.pairwise_cons]; exact ⟨fun j hj => mem_canon.1 hj, ih⟩
theorem Good.writers {A : Nat → Nat → Prop} {l : List Nat} (h : Good A l) (W : Nat → Bool) {i n N : Nat} (hlt : ∀ j k, j < N → k < N → A j k → j < k) (hnN : n ≤ N) (hiN : i < N) (hn : ∀ j ∈ l, j < n)
    (hi : i ∉ l) (hanc : ∀ j, A j i → j ∈ l) (hWi : ∀ k, k < n → W k = true → k ≠ i → A k i ∨ A i k)
    (hW : ∀ j k, j < n → k < n → W j = true → W k = true → j ≠ k → A j k ∨ A k j) (hin : i ≤ n) : l.filter W = (yk i).filter W := by
  refine zbb (h.sorted W (fun j hj => Nat.lt_of_lt_of_le (hn j hj) hnN) (fun j hj k hk => hW j k (hn j hj) (hn k hk)) hlt) ((qq i).filter _) fun x => ?_
  rw [List.mem_filter, List.mem_filter, mem_canon]
  constructor
  · rintro ⟨hx, hw⟩
    refine ⟨?_, hw⟩
    have hne : x ≠ i := fun e => by subst e; exact hi hx
    rcases hWi x (hn x hx) hw hne with hc | hc
    · exact hlt _ _ (Nat.lt_of_lt_of_le (hn x hx) hnN) hiN hc
    · exact absurd (h.closed hx hc) hi
  · rintro ⟨hx, hw⟩
    refine ⟨?_, hw⟩
    rcases hWi x (by omega) hw (by omega) with hc | hc
    · exact hanc _ hc
    · have := hlt _ _ hiN (by omega) hc; omega
structure Stp where
  o : Oper
  fr : Fr
  σ : Heap
  ran : Bool
  c : CV
  le : LE
  he : HE
def Stp.did (s : Stp) : Did := ⟨s.o.dst, s.le, s.he⟩
noncomputable def Stp.nextFr (s : Stp) : Fr := (s.fr.app s.le).put s.o.dst s.c
def Stp.nextσ (s : Stp) : Heap := s.he.app s.σ
def GuardAt (ops : Array Oper) (o : Oper) (fr : Fr) (ran : Bool) : Prop :=
  match o.guard with
  | none => ran = true
  | some (j, want) => (∃ b, y4 ops fr j = some (.sc (.bool b)) ∧ ran = (b == want)) ∨ (∃ vs, y4 ops fr j = some (.sc (.tuple vs)) ∧ ran = false)
structure Stp.ok (X : Ctx) (ops : Array Oper) (s : Stp) : Prop where
  dst : ∀ t, s.o.dst = some t → t < s.fr.n
  run : s.ran = true → Tri X s.o s.fr s.σ s.c s.le s.he
  skip : s.ran = false → s.c = .sc undef ∧ s.le = .no ∧ s.he = .no
  guard : GuardAt ops s.o s.fr s.ran
theorem Stp.ok.ext {X : Ctx} {ops : Array Oper} {s : Stp} (h : s.ok X ops) : ∀ τ, s.he = .ext τ → Sub s.σ τ := fun τ e => by
  cases hr : s.ran with
  | true => exact (h.run hr).1 τ e
  | false => have := (h.skip hr).2.2; rw [e] at this; cases this
inductive Chain (X : Ctx) (ops : Array Oper) : Fr → Heap → List Stp → Fr → Heap → Prop
  | nil (fr : Fr) (σ : Heap) : Chain X ops fr σ [] fr σ
  | cons {s : Stp} {r : List Stp} {fr' : Fr} {σ' : Heap} (h : s.ok X ops) (hr : Chain X ops s.nextFr s.nextσ r fr' σ') : Chain X ops s.fr s.σ (s :: r) fr' σ'
theorem zbf {fr : Fr} {d : Option Tmp} {c : CV} {k : Fr → Prop} (h : putN fr d c k) : (∀ t, d = some t → t < fr.n) ∧ k (fr.put d c) := by
  obtain ⟨n, env, locs⟩ := fr
  unfold putN at h
  dsimp only at h
  split at h
  · exact ⟨by simp, h⟩
  · rename_i t
    split at h
    · rename_i hlt
      exact ⟨fun t' e => by cases e; exact Nat.le_of_ble_eq_true hlt, h⟩
    · exact h.elim
theorem ztt (fr : Fr) (le : LE) : (fr.app le).n = fr.n := by cases le <;> rfl
theorem zxj (fr : Fr) (le : LE) : (fr.app le).env = fr.env := by cases le <;> rfl
def zap (l : List Stp) (ds : List Did) : List Did := (l.map Stp.did).reverse ++ ds
inductive Stop (X : Ctx) (ops : Array Oper) (ord : List Nat) (Q : Xt → Fr → Heap → Prop) : List Oper → List Did → Fr → Heap → Prop
  | done (ds : List Did) (fr : Fr) (σ : Heap) (hd : yh ops ord ds.reverse ops.size = true) (hl : ds.length = ops.size) (hQ : Q .normal fr σ) : Stop X ops ord Q [] ds fr σ
  | tail (ds : List Did) (fr : Fr) (σ : Heap) (ht : zqi ops ord ds.length = true) (hd : yh ops ord ds.reverse ds.length = true) (hl : ds.length < ops.size) (hQ : zrq X ops (ops.size - ds.length) (ord.take ds.length) fr σ Q) : Stop X ops ord Q [] ds fr σ
  | pan (o : Oper) (r : List Oper) (ds : List Did) (fr : Fr) (σ : Heap) (v : CV) (τ : Heap) (hg : GuardAt ops o fr true) (hT : z7y X o fr σ v τ) (hp : zaj ops ord ds.length = true)
      (hd : yh ops ord (ds.reverse ++ [⟨none, .no, .ext σ⟩]) (ds.length + 1) = true) (hQ : Q (.pan v) (zey ops fr) τ) : Stop X ops ord Q (o :: r) ds fr σ
  | nd (o : Oper) (r : List Oper) (ds : List Did) (fr : Fr) (σ : Heap) (hg : GuardAt ops o fr true) (hp : zaj ops ord ds.length = true)
      (hd : yh ops ord (ds.reverse ++ [⟨o.dst, .no, .ext σ⟩]) (ds.length + 1) = true)
      (hT : TriN X o fr σ (fun v le he => putN (fr.app le) o.dst v fun fr => zj9 σ he ds (qo X ops ord r (⟨o.dst, le, he⟩ :: ds) fr (he.app σ) Q))
        (fun v τ => Need (zaj ops ord ds.length = true ∧ yh ops ord (ds.reverse ++ [⟨none, .no, .ext σ⟩]) (ds.length + 1) = true) (Q (.pan v) (zey ops fr) τ))) : Stop X ops ord Q (o :: r) ds fr σ
def KeepC : List Did → List Stp → Prop
  | _, [] => True
  | ds, s :: r => (∀ τ, s.he = .wrk τ → zs7 s.σ τ ds) ∧ KeepC (s.did :: ds) r
theorem KeepC.app : ∀ {a b : List Stp} {ds : List Did}, KeepC ds (a ++ b) ↔ KeepC ds a ∧ KeepC ((a.map Stp.did).reverse ++ ds) b
  | [], b, ds => by simp [KeepC]
  | s :: r, b, ds => by
    simp only [List.cons_append, KeepC, List.map_cons, List.reverse_cons, List.append_assoc, List.nil_append]
    rw [KeepC.app (a := r), and_assoc]
theorem zvu {σ : Heap} {he : HE} {ds : List Did} {T : Prop} (h : zj9 σ he ds T) : (∀ τ, he = .wrk τ → zs7 σ τ ds) ∧ T := by
  cases he with
  | wrk τ => exact ⟨fun τ' e => by cases e; exact h.c, h.t⟩
  | _ => exact ⟨fun τ' e => (by cases e), h⟩
theorem zcp {X : Ctx} (hX : X.ok) {ops : Array Oper} {ord : List Nat} {Q : Xt → Fr → Heap → Prop} : ∀ (l : List Oper) (ds : List Did) {fr : Fr} {σ : Heap}, qo X ops ord l ds fr σ Q →
    ∃ ss fr' σ' l', l = ss.map Stp.o ++ l' ∧ Chain X ops fr σ ss fr' σ' ∧ Stop X ops ord Q l' (zap ss ds) fr' σ' ∧ KeepC ds ss
  | [], ds, fr, σ, h => by
    rw [ztl] at h
    split at h
    · exact ⟨[], fr, σ, [], rfl, .nil fr σ, .done ds fr σ h.c.1 h.c.2 h.t, trivial⟩
    · exact ⟨[], fr, σ, [], rfl, .nil fr σ, .tail ds fr σ h.c.1 h.c.2.1 (Nat.le_of_ble_eq_true h.c.2.2) h.t, trivial⟩
  | o :: l, ds, fr, σ, h => by
    rw [zpz] at h
    simp only [zas, zgv] at h
    have cont : ∀ (c : CV) (le : LE) (he : HE) (ran : Bool), (putN (fr.app le) o.dst c fun fr => zj9 σ he ds (qo X ops ord l (⟨o.dst, le, he⟩ :: ds) fr (he.app σ) Q)) → (ran = true → Tri X o fr σ c le he) → (ran = false → c = .sc undef ∧ le = .no ∧ he = .no) → GuardAt ops o fr ran →
        ∃ ss fr' σ' l', o :: l = ss.map Stp.o ++ l' ∧ Chain X ops fr σ ss fr' σ' ∧ Stop X ops ord Q l' (zap ss ds) fr' σ' ∧ KeepC ds ss := by
      intro c le he ran hp hrun hskip hg
      obtain ⟨h1, h2⟩ := zbf hp
      have hok : Stp.ok X ops ⟨o, fr, σ, ran, c, le, he⟩ := ⟨fun t e => by have := h1 t e; rwa [ztt] at this, hrun, hskip, hg⟩
      obtain ⟨hk, h2⟩ := zvu h2
      obtain ⟨ss, fr', σ', l', e1, e2, e3, e4⟩ := zcp hX l _ h2
      exact ⟨⟨o, fr, σ, ran, c, le, he⟩ :: ss, fr', σ', l', by simp [e1], .cons hok e2, by simpa [zap, Stp.did] using e3, hk, e4⟩
    have go : ∀ (det : Bool), zg0 X det o fr σ (fun v le he => putN (fr.app le) o.dst v fun fr => zj9 σ he ds (qo X ops ord l (⟨o.dst, le, he⟩ :: ds) fr (he.app σ) Q))
        (fun v τ => Need (zaj ops ord ds.length = true ∧ yh ops ord (ds.reverse ++ [⟨none, .no, .ext σ⟩]) (ds.length + 1) = true) (Q (.pan v) (zey ops fr) τ)) → GuardAt ops o fr true →
        (det = false → zaj ops ord ds.length = true ∧ yh ops ord (ds.reverse ++ [⟨o.dst, .no, .ext σ⟩]) (ds.length + 1) = true) →
        ∃ ss fr' σ' l', o :: l = ss.map Stp.o ++ l' ∧ Chain X ops fr σ ss fr' σ' ∧ Stop X ops ord Q l' (zap ss ds) fr' σ' ∧ KeepC ds ss := by
      intro det h hg hdet
      rcases zdl hX h with (⟨c, le, he, hK, hT⟩ | ⟨c, τ, hK, hT⟩) | ⟨e, hT⟩
      · exact cont c le he true hK (fun _ => hT) (fun e => by cases e) hg
      · exact ⟨[], fr, σ, o :: l, by simp, .nil fr σ, by simpa [zap] using Stop.pan o l ds fr σ c τ hg hT hK.c.1 hK.c.2 hK.t, trivial⟩
      · obtain ⟨d1, d2⟩ := hdet e
        exact ⟨[], fr, σ, o :: l, by simp, .nil fr σ, by simpa [zap] using Stop.nd o l ds fr σ hg d1 d2 hT, trivial⟩
    have both : (match isN X o with
      | true => OrdN (zaj ops ord ds.length = true ∧ yh ops ord (ds.reverse ++ [⟨o.dst, .no, .ext σ⟩]) (ds.length + 1) = true)
          (zg0 X false o fr σ (fun v le he => putN (fr.app le) o.dst v fun fr => zj9 σ he ds (qo X ops ord l (⟨o.dst, le, he⟩ :: ds) fr (he.app σ) Q))
        (fun v τ => Need (zaj ops ord ds.length = true ∧ yh ops ord (ds.reverse ++ [⟨none, .no, .ext σ⟩]) (ds.length + 1) = true) (Q (.pan v) (zey ops fr) τ)))
          (zg0 X true o fr σ (fun v le he => putN (fr.app le) o.dst v fun fr => zj9 σ he ds (qo X ops ord l (⟨o.dst, le, he⟩ :: ds) fr (he.app σ) Q))
        (fun v τ => Need (zaj ops ord ds.length = true ∧ yh ops ord (ds.reverse ++ [⟨none, .no, .ext σ⟩]) (ds.length + 1) = true) (Q (.pan v) (zey ops fr) τ)))
      | false => zg0 X true o fr σ (fun v le he => putN (fr.app le) o.dst v fun fr => zj9 σ he ds (qo X ops ord l (⟨o.dst, le, he⟩ :: ds) fr (he.app σ) Q))
        (fun v τ => Need (zaj ops ord ds.length = true ∧ yh ops ord (ds.reverse ++ [⟨none, .no, .ext σ⟩]) (ds.length + 1) = true) (Q (.pan v) (zey ops fr) τ))) → GuardAt ops o fr true →
        ∃ ss fr' σ' l', o :: l = ss.map Stp.o ++ l' ∧ Chain X ops fr σ ss fr' σ' ∧ Stop X ops ord Q l' (zap ss ds) fr' σ' ∧ KeepC ds ss := by
      intro h hg
      split at h
      · rcases h.h with ⟨hc, h⟩ | h
        · exact go false h hg (fun _ => hc)
        · exact go true h hg (fun e => by cases e)
      · exact go true h hg (fun e => by cases e)
    split at h
    · rename_i hg
      exact both h (by simp [GuardAt, hg])
    · rename_i j want hg
      split at h
      · rename_i b hb
        cases hbw : (b == want) with
        | true => exact both (h.t hbw) (by simp only [GuardAt, hg]; exact .inl ⟨b, hb, hbw.symm⟩)
        | false => exact cont (.sc undef) .no .no false (h.e hbw) (fun e => by cases e) (fun _ => ⟨rfl, rfl, rfl⟩) (by simp only [GuardAt, hg]; exact .inl ⟨b, hb, hbw.symm⟩)
      · rename_i vs hb
        exact cont (.sc undef) .no .no false h (fun e => by cases e) (fun _ => ⟨rfl, rfl, rfl⟩) (by unfold GuardAt; rw [hg]; exact .inr ⟨vs, hb, rfl⟩)
      · exact h.elim
def za8 (ss : List Stp) (fr : Fr) : List Nat → Nat → CV
  | [], t => look fr.env t
  | i :: l, t => match ss[i]? with
    | some s => if s.o.dst = some t then s.c else za8 ss fr l t
    | none => za8 ss fr l t
def z69 : LE → Option (Nat × Ob)
  | .wr d ob => some (d, ob)
  | .new d ob => some (d, ob)
  | _ => none
def zcb (ss : List Stp) (fr : Fr) : List Nat → Nat → Option Ob
  | [], d => z6 fr.locs d
  | i :: l, d => match (ss[i]?).bind (fun s => z69 s.le) with
    | some (d', ob) => if d' = d then some ob else zcb ss fr l d
    | none => zcb ss fr l d
def wv (ss : List Stp) (σ : Heap) : List Nat → Heap
  | [] => σ
  | i :: l => match (ss[i]?).map Stp.he with
    | some (HE.wr τ) => τ
    | some (HE.ext τ) => τ
    | some (HE.wrk τ) => τ
    | _ => wv ss σ l
def z0m (ss : List Stp) (t : Nat) (i : Nat) : Bool := match ss[i]? with | some s => decide (s.o.dst = some t) | none => false
def z0l (ss : List Stp) (d : Nat) (i : Nat) : Bool := match ss[i]? with | some s => decide (zau s.le = some d) | none => false
def HE.isW : HE → Bool
  | .wr _ => true
  | .ext _ => true
  | .wrk _ => true
  | _ => false
def qu (ss : List Stp) (i : Nat) : Bool := match (ss[i]?).map Stp.he with | some (HE.wr _) => true | some (HE.ext _) => true | some (HE.wrk _) => true | _ => false
theorem yy (ss : List Stp) (fr : Fr) (t : Nat) : ∀ l, za8 ss fr l t = za8 ss fr (l.filter (z0m ss t)) t
  | [] => rfl
  | i :: l => by
    by_cases h : z0m ss t i = true
    · rw [List.filter_cons_of_pos h]
      simp only [za8]
      rw [yy ss fr t l]
    · rw [List.filter_cons_of_neg h, ← yy ss fr t l]
      simp only [za8]
      simp only [z0m] at h
      split
      · rename_i s hs; simp [hs] at h; rw [if_neg h]
      · rfl
theorem yw (ss : List Stp) (fr : Fr) (d : Nat) : ∀ l, zcb ss fr l d = zcb ss fr (l.filter (z0l ss d)) d
  | [] => rfl
  | i :: l => by
    by_cases h : z0l ss d i = true
    · rw [List.filter_cons_of_pos h]
      simp only [zcb]
      rw [yw ss fr d l]
    · rw [List.filter_cons_of_neg h, ← yw ss fr d l]
      simp only [zcb]
      simp only [z0l] at h
      split
      · rename_i d' ob hs
        cases hq : ss[i]? with
        | none => simp [hq] at hs
        | some s =>
          simp only [hq, Option.bind_some] at hs
          simp only [hq, decide_eq_true_eq] at h
          have : ¬ d' = d := fun e => h (by subst e; cases hle : s.le <;> simp_all [z69, zau])
          rw [if_neg this]
      · rfl
theorem zy (ss : List Stp) (σ : Heap) : ∀ l, wv ss σ l = wv ss σ (l.filter (qu ss))
  | [] => rfl
  | i :: l => by
    by_cases h : qu ss i = true
    · rw [List.filter_cons_of_pos h]
      simp only [wv]
      rw [zy ss σ l]
    · rw [List.filter_cons_of_neg h, ← zy ss σ l]
      simp only [wv]
      simp only [qu] at h
      split
      · rename_i τ hs; simp [hs] at h
      · rename_i τ hs; simp [hs] at h
      · rename_i τ hs; simp [hs] at h
      · rfl
theorem zq4 (fr : Fr) (d : Option Tmp) (c : CV) (t : Nat) : look (fr.put d c).env t = if d = some t then c else look fr.env t := by
  cases d with
  | none => simp [Fr.put]
  | some d => simp only [Fr.put, xa, Option.some.injEq]
theorem zm8 (fr : Fr) (le : LE) (d : Nat) : z6 (fr.app le).locs d = match z69 le with
    | some (d', ob) => if d' = d then some ob else z6 fr.locs d
    | none => z6 fr.locs d := by
  cases le with
  | no => rfl
  | rd _ => rfl
  | wr d' ob => exact km _ _ _ _
  | new d' ob => exact wg _ _ _ _
theorem qd (fr : Fr) (d : Option Tmp) (c : CV) : (fr.put d c).locs = fr.locs := by cases d <;> rfl
theorem zg2 (fr : Fr) (d : Option Tmp) (c : CV) : (fr.put d c).n = fr.n := by cases d <;> rfl
theorem Chain.at_ {X : Ctx} {ops : Array Oper} {fr0 : Fr} {σ0 : Heap} {all : List Stp} : ∀ {ss : List Stp} {fr fr' : Fr} {σ σ' : Heap} (k : Nat), Chain X ops fr σ ss fr' σ' → (∀ i, ss[i]? = all[k + i]?) →
    (fr.n = fr0.n ∧ (∀ t, look fr.env t = za8 all fr0 (yk k) t) ∧ (∀ d, z6 fr.locs d = zcb all fr0 (yk k) d) ∧ σ = wv all σ0 (yk k)) →
    (∀ i s, ss[i]? = some s → s.ok X ops ∧ s.fr.n = fr0.n ∧ (∀ t, look s.fr.env t = za8 all fr0 (yk (k + i)) t) ∧ (∀ d, z6 s.fr.locs d = zcb all fr0 (yk (k + i)) d) ∧ s.σ = wv all σ0 (yk (k + i))) ∧
    (fr'.n = fr0.n ∧ (∀ t, look fr'.env t = za8 all fr0 (yk (k + ss.length)) t) ∧ (∀ d, z6 fr'.locs d = zcb all fr0 (yk (k + ss.length)) d) ∧ σ' = wv all σ0 (yk (k + ss.length)))
  | [], fr, fr', σ, σ', k, h, _, hst => by cases h; exact ⟨by simp, hst⟩
  | s :: r, _, fr', _, σ', k, h, hss, hst => by
    cases h with
    | cons hok hr =>
      have hk : all[k]? = some s := by have := hss 0; simpa using this.symm
      have hnext : s.nextFr.n = fr0.n ∧ (∀ t, look s.nextFr.env t = za8 all fr0 (yk (k + 1)) t) ∧ (∀ d, z6 s.nextFr.locs d = zcb all fr0 (yk (k + 1)) d) ∧ s.nextσ = wv all σ0 (yk (k + 1)) := by
        obtain ⟨e0, e1, e2, e3⟩ := hst
        refine ⟨by rw [Stp.nextFr, zg2, ztt]; exact e0, fun t => ?_, fun d => ?_, ?_⟩
        · rw [Stp.nextFr, zq4, zxj]
          simp only [yk, za8, hk]
          split <;> first | rfl | exact e1 t
        · rw [Stp.nextFr, qd, zm8]
          simp only [yk, zcb, hk, Option.bind_some]
          split <;> first | (split <;> first | rfl | exact e2 d) | exact e2 d
        · simp only [yk, wv, hk, Option.map_some, Stp.nextσ]
          cases hhe : s.he <;> simp only [HE.app] <;> exact e3
      obtain ⟨h1, h2⟩ := Chain.at_ (k + 1) hr (fun i => by have := hss (i + 1); simp only [List.getElem?_cons_succ] at this; rw [this]; congr 1; omega) hnext
      refine ⟨fun i s' hi => ?_, ?_⟩
      · cases i with
        | zero => simp at hi; subst hi; exact ⟨hok, hst⟩
        | succ i =>
          simp only [List.getElem?_cons_succ] at hi
          have := h1 i s' hi
          rw [show k + 1 + i = k + (i + 1) by omega] at this
          exact this
      · rw [List.length_cons, show k + (r.length + 1) = k + 1 + r.length by omega]; exact h2
structure Ords (ops : Array Oper) (ord : List Nat) (r : Nat → Nat) : Prop where
  len : ord.length = ops.size
  back : ∀ i, i < ops.size → r i < ops.size ∧ ord.getD (r i) 0 = i
  at_ : ∀ p, p < ops.size → ord.getD p 0 < ops.size ∧ r (ord.getD p 0) = p
  edge : ∀ k o e, ops[k]? = some o → e ∈ o.after.toList → Region.binds .any e = true → e.on < ops.size ∧ r e.on < r k
theorem zkm {l : List Nat} {p d d' : Nat} (h : p < l.length) : l.getD p d = l.getD p d' := by
  rw [List.getD_eq_getElem?_getD, List.getD_eq_getElem?_getD, List.getElem?_eq_getElem h]; rfl
theorem v8 {ops : Array Oper} {ord : List Nat} (h : zyp ops ord = true) : ∃ r, Ords ops ord r := by
  simp only [zyp, Bool.and_eq_true, List.all_eq_true, List.mem_range] at h
  obtain ⟨⟨h0, h1⟩, h2⟩ := h
  have hlen := Nat.eq_of_beq_eq_true h0
  refine ⟨fun i => ((List.range ops.size).map fun i => ord.findIdx (Nat.beq i)).getD i ops.size, hlen, fun i hi => ?_, fun p hp => ?_, fun k o e ho he hb => ?_⟩
  · obtain ⟨⟨⟨a, b⟩, c⟩, d⟩ := h1 i hi
    have a := Nat.le_of_ble_eq_true a
    exact ⟨a, by rw [zkm (d' := ops.size) (by omega)]; exact Nat.eq_of_beq_eq_true b⟩
  · obtain ⟨⟨⟨a, b⟩, c⟩, d⟩ := h1 p hp
    have c := Nat.le_of_ble_eq_true c
    rw [zkm (d' := ops.size) (by omega : p < ord.length)]
    exact ⟨c, Nat.eq_of_beq_eq_true d⟩
  · have hk : k < ops.size := by
      rcases Nat.lt_or_ge k ops.size with h' | h'
      · exact h'
      · rw [Array.getElem?_eq_none h'] at ho; cases ho
    have := h2 k hk
    rw [ho] at this
    simp only [List.all_eq_true] at this
    have := this e he
    rw [hb] at this
    simp only [Bool.not_true, Bool.false_or, Bool.and_eq_true] at this
    exact ⟨Nat.le_of_ble_eq_true this.1, Nat.le_of_ble_eq_true this.2⟩
def zg1 (ops : Array Oper) (ord : List Nat) (p q : Nat) : Prop := p < ops.size ∧ Anc ops (ord.getD p 0) (ord.getD q 0)
theorem Ords.anc {ops : Array Oper} {ord : List Nat} {r : Nat → Nat} (h : Ords ops ord r) {j k : Nat} (ha : Anc ops j k) : j < ops.size ∧ r j < r k := by
  induction ha with
  | edge ho he hb hj => subst hj; exact h.edge _ _ _ ho he hb
  | trans _ _ h1 h2 => exact ⟨h1.1, Nat.lt_trans h1.2 h2.2⟩
theorem Ords.lt {ops : Array Oper} {ord : List Nat} {r : Nat → Nat} (h : Ords ops ord r) {p q : Nat} (hq : q < ops.size) (ha : zg1 ops ord p q) : p < q := by
  have := (h.anc ha.2).2
  rw [(h.at_ p ha.1).2, (h.at_ q hq).2] at this
  exact this
theorem xd {ops : Array Oper} {ord : List Nat} {ds : List Did} {n : Nat} (h : yh ops ord ds n = true) : zyp ops ord = true ∧ n ≤ ops.size := by
  simp only [yh, Bool.and_eq_true] at h; exact ⟨h.1.1, Nat.le_of_ble_eq_true h.1.2⟩
theorem qa {ops : Array Oper} {ord : List Nat} {ds : List Did} {n : Nat} (h : yh ops ord ds n = true) {i j : Nat} (hij : i < j) (hj : j < n) {o p : Oper} {x y : Did}
    (ho : ops[ord.getD i 0]? = some o) (hp : ops[ord.getD j 0]? = some p) (hx : ds[i]? = some x) (hy : ds[j]? = some y) : zg1 ops ord i j ∨ Did.meets ops o p x y = false := by
  obtain ⟨h0, hn⟩ := xd h
  obtain ⟨r, hr⟩ := v8 h0
  simp only [yh, Bool.and_eq_true, List.all_eq_true, List.mem_range] at h
  have := h.2 j hj i hij
  rw [zkm (d := ops.size) (d' := 0) (by rw [hr.len]; omega), zkm (d := ops.size) (d' := 0) (by rw [hr.len]; omega), ho, hp, hx, hy] at this
  simp only [Bool.or_eq_true, Bool.not_eq_true'] at this
  rcases this with h | h
  · exact .inl ⟨by omega, zgx h⟩
  · exact .inr h
theorem held {ops : Array Oper} {ord : List Nat} {ds : List Did} {n : Nat} (h : yh ops ord ds n = true) {i j : Nat} (hi : i < n) (hj : j < n) (hne : i ≠ j) {o p : Oper} {x y : Did}
    (ho : ops[ord.getD i 0]? = some o) (hp : ops[ord.getD j 0]? = some p) (hx : ds[i]? = some x) (hy : ds[j]? = some y) (hm : Did.meets ops o p x y = true) (hm' : Did.meets ops p o y x = true) : zg1 ops ord i j ∨ zg1 ops ord j i := by
  rcases Nat.lt_or_ge i j with h' | h'
  · rcases qa h h' hj ho hp hx hy with h | h
    · exact .inl h
    · rw [hm] at h; cases h
  · rcases qa h (by omega : j < i) hi hp ho hy hx with h | h
    · exact .inr h
    · rw [hm'] at h; cases h
theorem zsk {ops : Array Oper} {ord : List Nat} {m : Nat} (h : zaj ops ord m = true) {p : Nat} (hp : p < ops.size) : p ≤ m ∨ Anc ops (ord.getD m 0) (ord.getD p 0) := by
  simp only [zaj, List.all_eq_true, List.mem_range, Bool.or_eq_true] at h
  rcases h p hp with h | h
  · exact .inl (Nat.le_of_ble_eq_true h)
  · exact .inr (zgx h)
theorem zce {ops : Array Oper} {o p : Oper} {x y : Did} {t : Nat} (hx : x.dst = some t) (hy : y.dst = some t) : Did.meets ops o p x y = true := by
  simp [Did.meets, hx, hy, zd3]
theorem zsy {ops : Array Oper} {o p : Oper} {x y : Did} {t : Nat} (hx : x.dst = some t) (hy : t ∈ Oper.reads ops p) : Did.meets ops o p x y = true := by
  simp [Did.meets, hx, hy]
theorem zpg {ops : Array Oper} {o p : Oper} {x y : Did} {t : Nat} (hx : y.dst = some t) (hy : t ∈ Oper.reads ops o) : Did.meets ops o p x y = true := by
  simp [Did.meets, hx, hy]
theorem zhv {le : LE} {d : Nat} (h : zau le = some d) : zav le = some d := by
  cases le <;> simp_all [zau, zav]
theorem zf9 {ops : Array Oper} {o p : Oper} {x y : Did} {d : Nat} (hx : zau x.le = some d) (hy : zav y.le = some d) : Did.meets ops o p x y = true := by
  simp [Did.meets, hx, hy, zd3]
theorem zsz {ops : Array Oper} {o p : Oper} {x y : Did} {d : Nat} (hx : zav x.le = some d) (hy : zau y.le = some d) : Did.meets ops o p x y = true := by
  simp [Did.meets, hx, hy, zd3]
theorem zak {ops : Array Oper} {o p : Oper} {x y : Did} (hx : x.he.isW = true) (hy : y.he ≠ .no) : Did.meets ops o p x y = true := by
  have : zhz x.he y.he = true := by cases h : x.he <;> cases h' : y.he <;> simp_all [zhz, HE.isW]
  simp [Did.meets, this]
theorem zpi {ops : Array Oper} {o p : Oper} {x y : Did} {τ : Heap} (hx : y.he = .wrk τ) (hy : x.he = .rd) : Did.meets ops o p x y = true := by
  have : zhz x.he y.he = true := by rw [hx, hy]; rfl
  simp [Did.meets, this]
theorem zph {ops : Array Oper} {o p : Oper} {x y : Did} {τ : Heap} (hx : y.he = .wr τ) (hy : x.he ≠ .no) : Did.meets ops o p x y = true := by
  have : zhz x.he y.he = true := by rw [hx]; cases h : x.he <;> simp_all [zhz]
  simp [Did.meets, this]
theorem zci : ∀ (n : Nat) (l : List Nat), l.Nodup → (∀ x ∈ l, x < n) → l.length ≤ n
  | 0, l, _, h => by
    cases l with
    | nil => simp
    | cons x r => exact absurd (h x (by simp)) (by omega)
  | n + 1, l, hn, h => by
    by_cases hm : n ∈ l
    · have h1 := zci n (l.erase n) (hn.erase n) (fun x hx => by
        have := h x (List.mem_of_mem_erase hx)
        have hne : x ≠ n := fun e => by subst e; exact (hn.mem_erase_iff.1 hx).1 rfl
        omega)
      rw [List.length_erase_of_mem hm] at h1
      omega
    · exact Nat.le_succ_of_le (zci n l hn (fun x hx => by have := h x hx; have hne : x ≠ n := fun e => hm (e ▸ hx); omega))
theorem zbg : ∀ (n : Nat) (l : List Nat), l.Nodup → (∀ x ∈ l, x < n) → l.length = n → ∀ i, i < n → i ∈ l
  | 0, l, _, _, _, i, hi => absurd hi (by omega)
  | n + 1, l, hn, h, hl, i, hi => by
    by_cases hm : n ∈ l
    · by_cases hin : i = n
      · exact hin ▸ hm
      · have := zbg n (l.erase n) (hn.erase n) (fun x hx => by
          have := h x (List.mem_of_mem_erase hx)
          have hne : x ≠ n := fun e => by subst e; exact (hn.mem_erase_iff.1 hx).1 rfl
          omega) (by rw [List.length_erase_of_mem hm]; omega) i (by omega)
        exact List.mem_of_mem_erase this
    · have := zci n l hn (fun x hx => by have := h x hx; have hne : x ≠ n := fun e => hm (e ▸ hx); omega)
      omega
theorem Good.nodup {A : Nat → Nat → Prop} {l : List Nat} (h : Good A l) : l.Nodup := by
  induction h with
  | nil => simp
  | cons hi _ _ ih => exact List.nodup_cons.2 ⟨hi, ih⟩
theorem mem_ready {md : Region.Mode} {ops : Array Oper} {listed : Array Bool} {i : Nat} : i ∈ Region.ready md ops listed ↔
    i < ops.size ∧ listed.getD i true = false ∧ ∃ o, ops[i]? = some o ∧ ∀ e ∈ o.after.toList, Region.binds md e = true → listed.getD e.on false = true := by
  simp only [Region.ready, List.mem_filter, List.mem_range, Bool.and_eq_true, Bool.not_eq_true']
  refine and_congr_right fun hi => and_congr_right fun _ => ?_
  have : ops[i]? = some ops[i] := Array.getElem?_eq_getElem hi
  rw [this]
  simp only [Option.map_some, Option.getD_some, Option.some.injEq, exists_eq_left']
  rw [← Array.all_toList, List.all_eq_true]
  refine forall_congr' fun e => forall_congr' fun _ => ?_
  cases Region.binds md e <;> simp
structure Lst (ops : Array Oper) (ord : List Nat) (listed : Array Bool) (l : List Nat) : Prop where
  size : listed.size = ops.size
  iff : ∀ p, p < ops.size → (listed.getD (ord.getD p 0) true = true ↔ p ∈ l)
  good : Good (zg1 ops ord) l
  lt : ∀ i ∈ l, i < ops.size
theorem zdf {l : Array Bool} {i : Nat} (h : i < l.size) : l.getD i true = l.getD i false := by
  simp [Array.getD, h]
theorem Lst.anc {ops : Array Oper} {ord : List Nat} {r : Nat → Nat} (hO : Ords ops ord r) {listed : Array Bool} {l : List Nat} (h : Lst ops ord listed l) {p : Nat} (hp : p < ops.size)
    (hi : ord.getD p 0 ∈ Region.ready .any ops listed) {q : Nat} (ha : zg1 ops ord q p) : q ∈ l := by
  obtain ⟨hq, ha⟩ := ha
  have key : ∀ j k, Anc ops j k → k ∈ Region.ready .any ops listed → r j ∈ l := by
    intro j k ha
    induction ha with
    | @edge j k o' e ho' hm hbd hj =>
      intro hi
      obtain ⟨hi, _, o, ho, he⟩ := mem_ready.1 hi
      rw [ho] at ho'; cases ho'
      subst hj
      obtain ⟨hlt, _⟩ := hO.edge _ _ _ ho hm hbd
      have := he e hm hbd
      obtain ⟨b1, b2⟩ := hO.back _ hlt
      exact (h.iff _ b1).1 (by rw [b2, zdf (by rw [h.size]; exact hlt)]; exact this)
    | @trans i j k h1 h2 _ ih2 =>
      intro hi
      refine h.good.closed (ih2 hi) ⟨(hO.back _ (hO.anc h1).1).1, ?_⟩
      rw [(hO.back _ (hO.anc h1).1).2, (hO.back _ (hO.anc h2).1).2]
      exact h1
  have := key _ _ ha hi
  rwa [(hO.at_ q hq).2] at this
theorem Lst.step {ops : Array Oper} {ord : List Nat} {r : Nat → Nat} (hO : Ords ops ord r) {listed : Array Bool} {l : List Nat} (h : Lst ops ord listed l) {p : Nat} (hp : p < ops.size)
    (hi : ord.getD p 0 ∈ Region.ready .any ops listed) : Lst ops ord (listed.setIfInBounds (ord.getD p 0) true) (p :: l) := by
  obtain ⟨hlt, hn, _⟩ := mem_ready.1 hi
  have hni : p ∉ l := fun hm => by rw [(h.iff p hp).2 hm] at hn; cases hn
  refine ⟨by simp [h.size], fun k hk => ?_, .cons hni (fun j hj => h.anc hO hp hi hj) h.good, fun k hk => ?_⟩
  · by_cases hik : p = k
    · subst hik
      rw [Array.getD_eq_getD_getElem?, Array.getElem?_setIfInBounds, if_pos rfl, if_pos (by rw [h.size]; exact hlt)]
      simp
    · have hne : ¬ ord.getD p 0 = ord.getD k 0 := fun e => hik (by rw [← (hO.at_ p hp).2, ← (hO.at_ k hk).2, e])
      rw [show (listed.setIfInBounds (ord.getD p 0) true).getD (ord.getD k 0) true = listed.getD (ord.getD k 0) true by
        rw [Array.getD_eq_getD_getElem?, Array.getElem?_setIfInBounds, if_neg hne, ← Array.getD_eq_getD_getElem?]]
      rw [h.iff k hk, List.mem_cons]
      constructor
      · exact .inr
      · rintro (e | e)
        · exact absurd e.symm hik
        · exact e
  · rcases List.mem_cons.1 hk with rfl | hk
    · exact hp
    · exact h.lt k hk
theorem Lst.none {ops : Array Oper} {ord : List Nat} {r : Nat → Nat} (hO : Ords ops ord r) {listed : Array Bool} {l : List Nat} (h : Lst ops ord listed l) (hr : Region.ready .any ops listed = []) : ∀ p, p < ops.size → p ∈ l := by
  intro p
  induction p using Nat.strongRecOn with
  | _ p ih =>
    intro hp
    refine Classical.byContradiction fun hn => ?_
    have hi := (hO.at_ p hp).1
    have : ord.getD p 0 ∈ Region.ready .any ops listed := by
      refine mem_ready.2 ⟨hi, ?_, ops[ord.getD p 0], Array.getElem?_eq_getElem hi, fun e he hbd => ?_⟩
      · cases hq : listed.getD (ord.getD p 0) true with
        | false => rfl
        | true => exact absurd ((h.iff p hp).1 hq) hn
      · obtain ⟨hlt, hrl⟩ := hO.edge _ _ _ (Array.getElem?_eq_getElem hi) he hbd
        rw [(hO.at_ p hp).2] at hrl
        obtain ⟨b1, b2⟩ := hO.back _ hlt
        have := (h.iff (r e.on) b1).2 (ih _ hrl b1)
        rw [b2, zdf (by rw [h.size]; exact hlt)] at this
        exact this
    rw [hr] at this
    simp at this
theorem Lst.full {ops : Array Oper} {ord : List Nat} {r : Nat → Nat} (hO : Ords ops ord r) {listed : Array Bool} {l : List Nat} (h : Lst ops ord listed l) (hl : ∀ i, i < ops.size → i ∈ l) : Region.ready .any ops listed = [] := by
  cases hr : Region.ready .any ops listed with
  | nil => rfl
  | cons i rr =>
    have : i ∈ Region.ready .any ops listed := by rw [hr]; simp
    obtain ⟨hlt, hn, _⟩ := mem_ready.1 this
    obtain ⟨b1, b2⟩ := hO.back _ hlt
    have := (h.iff _ b1).2 (hl _ b1)
    rw [b2] at this
    rw [this] at hn
    cases hn
theorem Lst.init (ops : Array Oper) (ord : List Nat) {r : Nat → Nat} (hO : Ords ops ord r) : Lst ops ord (Array.replicate ops.size false) [] := by
  refine ⟨by simp, fun p hp => ?_, .nil, by simp⟩
  have := (hO.at_ p hp).1
  rw [Array.getD_eq_getD_getElem?, Array.getElem?_replicate, if_pos this]
  simp
theorem R.ext {M : Mem} {F : FM} {own : Owns} {fr fr' : Fr} {σ : Heap} {a : Act} {w : World} (hR : R M F own fr σ a w) (h1 : fr.n = fr'.n) (h2 : ∀ t, look fr.env t = look fr'.env t) (h3 : ∀ d, z6 fr.locs d = z6 fr'.locs d) :
    R M F own fr' σ a w :=
  ⟨hR.toRg, by rw [← h1]; exact hR.size, fun t => by rw [← h2]; exact hR.env t, fun d ob h => hR.locs d ob (by rw [h3]; exact h), fun d h => hR.dom d (by rw [h3]; exact h)⟩
theorem R.drawn {M : Mem} {F : FM} {own : Owns} {fr : Fr} {σ : Heap} {a : Act} {w : World} (hR : R M F own fr σ a w) (n : Nat) : R M F own fr σ a { w with drawn := n } :=
  ⟨⟨hR.mem, hR.glob, hR.fresh⟩, hR.size, hR.env, hR.locs, hR.dom⟩
structure AtL (ss : List Stp) (fr0 : Fr) (σ0 : Heap) (l : List Nat) (fr : Fr) (σ : Heap) : Prop where
  n : fr.n = fr0.n
  env : ∀ t, look fr.env t = za8 ss fr0 l t
  loc : ∀ d, z6 fr.locs d = zcb ss fr0 l d
  heap : σ = wv ss σ0 l
structure Dr (X : Ctx) (ops : Array Oper) (ord : List Nat) (ss : List Stp) (fr0 : Fr) (σ0 : Heap) (l : List Nat) : Prop where
  at_ : ∀ (i : Nat) (s : Stp), ss[i]? = some s → (∀ t, s.o.dst = some t → t < fr0.n) ∧ AtL ss fr0 σ0 (yk i) s.fr s.σ ∧ (i ∉ l → s.ok X ops) ∧ ∀ τ, s.he = .ext τ → Sub s.σ τ
  op : ∀ (i : Nat) (s : Stp), ss[i]? = some s → ops[ord.getD i 0]? = some s.o
  keep : KeepC [] ss
theorem z2p {ss : List Stp} (h : KeepC [] ss) {i j l : Nat} {s s' : Stp} {τ : Heap} (hi : ss[i]? = some s) (he : s.he = .wrk τ) (hji : j < i) (hj : ss[j]? = some s') (hr : s'.he = .rdl l) : τ l = s.σ l := by
  have hlt := (List.getElem?_eq_some_iff.1 hi).1
  have e : ss = ss.take i ++ s :: ss.drop (i + 1) := by
    conv => lhs; rw [← List.take_append_drop i ss, List.drop_eq_getElem_cons hlt]
    rw [(List.getElem?_eq_some_iff.1 hi).2]
  rw [e] at h
  have h2 := (KeepC.app.1 h).2.1 τ he
  refine zj8 h2 (d := s'.did) ?_ hr
  rw [List.append_nil, List.mem_reverse]
  refine List.mem_map.2 ⟨s', ?_, rfl⟩
  have hjl := (List.getElem?_eq_some_iff.1 hj).1
  exact List.mem_take_iff_getElem.2 ⟨j, by omega, (List.getElem?_eq_some_iff.1 hj).2⟩
structure Tch (ops : Array Oper) (ord : List Nat) (ss : List Stp) (D : List Did) (nD : Nat) : Prop where
  did : ∀ (i : Nat) (s : Stp), ss[i]? = some s → D[i]? = some s.did
  ok : yh ops ord D nD = true
  le : ss.length ≤ nD
theorem wEnv_iff {ss : List Stp} {t i : Nat} : z0m ss t i = true ↔ ∃ s, ss[i]? = some s ∧ s.o.dst = some t := by
  unfold z0m; cases h : ss[i]? <;> simp
theorem wLoc_iff {ss : List Stp} {t i : Nat} : z0l ss t i = true ↔ ∃ s, ss[i]? = some s ∧ zau s.le = some t := by
  unfold z0l; cases h : ss[i]? <;> simp
theorem wHeap_iff {ss : List Stp} {i : Nat} : qu ss i = true ↔ ∃ s, ss[i]? = some s ∧ s.he.isW = true := by
  unfold qu
  cases h : ss[i]? with
  | none => simp
  | some s => cases h' : s.he <;> simp [HE.isW, h']
theorem zq9 {he : HE} (h : he.isW = true) : he ≠ .no := by intro e; subst e; cases h
section
variable {X : Ctx} {ops : Array Oper} {ord : List Nat} {ss : List Stp} {fr0 : Fr} {σ0 : Heap} {D : List Did} {nD : Nat} {l : List Nat}
theorem zox (h : Dr X ops ord ss fr0 σ0 l) (ht : Tch ops ord ss D nD) (t : Nat) (j k : Nat) (hj : j < ss.length) (hk : k < ss.length) (wj : z0m ss t j = true) (wk : z0m ss t k = true) (hne : j ≠ k) : zg1 ops ord j k ∨ zg1 ops ord k j := by
  obtain ⟨s, hs, ds⟩ := wEnv_iff.1 wj
  obtain ⟨s', hs', ds'⟩ := wEnv_iff.1 wk
  exact held ht.ok (Nat.lt_of_lt_of_le hj ht.le) (Nat.lt_of_lt_of_le hk ht.le) hne (h.op _ _ hs) (h.op _ _ hs') (ht.did _ _ hs) (ht.did _ _ hs') (zce ds ds') (zce ds' ds)
theorem zow (h : Dr X ops ord ss fr0 σ0 l) (ht : Tch ops ord ss D nD) (t : Nat) (j k : Nat) (hj : j < ss.length) (hk : k < ss.length) (wj : z0l ss t j = true) (wk : z0l ss t k = true) (hne : j ≠ k) : zg1 ops ord j k ∨ zg1 ops ord k j := by
  obtain ⟨s, hs, ds⟩ := wLoc_iff.1 wj
  obtain ⟨s', hs', ds'⟩ := wLoc_iff.1 wk
  exact held ht.ok (Nat.lt_of_lt_of_le hj ht.le) (Nat.lt_of_lt_of_le hk ht.le) hne (h.op _ _ hs) (h.op _ _ hs') (ht.did _ _ hs) (ht.did _ _ hs') (zf9 ds (zhv ds')) (zf9 ds' (zhv ds))
theorem ze9 (h : Dr X ops ord ss fr0 σ0 l) (ht : Tch ops ord ss D nD) (j k : Nat) (hj : j < ss.length) (hk : k < ss.length) (wj : qu ss j = true) (wk : qu ss k = true) (hne : j ≠ k) : zg1 ops ord j k ∨ zg1 ops ord k j := by
  obtain ⟨s, hs, ds⟩ := wHeap_iff.1 wj
  obtain ⟨s', hs', ds'⟩ := wHeap_iff.1 wk
  exact held ht.ok (Nat.lt_of_lt_of_le hj ht.le) (Nat.lt_of_lt_of_le hk ht.le) hne (h.op _ _ hs) (h.op _ _ hs') (ht.did _ _ hs) (ht.did _ _ hs') (zak ds (zq9 ds')) (zak ds' (zq9 ds))
theorem Dr.grows (h : Dr X ops ord ss fr0 σ0 l) {i : Nat} : ∀ (n : Nat), i ≤ n → n ≤ ss.length → (∀ k s, i ≤ k → k < n → ss[k]? = some s → ∀ τ, s.he ≠ .wr τ ∧ s.he ≠ .wrk τ) → Sub (wv ss σ0 (yk i)) (wv ss σ0 (yk n)) := by
  intro n
  induction n with
  | zero => intro hi _ _; have : i = 0 := by omega
            subst this; exact Sub.refl _
  | succ n ih =>
    intro hi hn hk
    by_cases he : i = n + 1
    · subst he; exact Sub.refl _
    · have ih := ih (by omega) (by omega) (fun k s h1 h2 => hk k s h1 (by omega))
      have hs : ss[n]? = some (ss[n]'(by omega)) := List.getElem?_eq_getElem _
      generalize ss[n]'(by omega) = s at hs
      obtain ⟨_, hat, _, hext⟩ := h.at_ _ _ hs
      simp only [yk, wv, hs, Option.map_some]
      cases hhe : s.he with
      | no => exact ih
      | rd => exact ih
      | rdl l => exact ih
      | wr τ => exact absurd hhe (hk n s (by omega) (by omega) hs τ).1
      | wrk τ => exact absurd hhe (hk n s (by omega) (by omega) hs τ).2
      | ext τ =>
        have h2 := hext τ hhe
        rw [hat.heap] at h2
        exact fun a b c => h2 a b (ih a b c)
theorem Dr.stays (h : Dr X ops ord ss fr0 σ0 l) {i lx : Nat} {s0 : Stp} {ob : Ob} (hs0 : ss[i]? = some s0) (hr0 : s0.he = .rdl lx) (h0 : wv ss σ0 (yk i) lx = some ob) : ∀ (n : Nat), i ≤ n → n ≤ ss.length → (∀ k s, i ≤ k → k < n → ss[k]? = some s → ∀ τ, s.he ≠ .wr τ) → wv ss σ0 (yk n) lx = some ob := by
  intro n
  induction n with
  | zero => intro hi _ _; have : i = 0 := by omega
            subst this; exact h0
  | succ n ih =>
    intro hi hn hk
    by_cases he : i = n + 1
    · subst he; exact h0
    · have ih := ih (by omega) (by omega) (fun k s h1 h2 => hk k s h1 (by omega))
      have hs : ss[n]? = some (ss[n]'(by omega)) := List.getElem?_eq_getElem _
      generalize ss[n]'(by omega) = s at hs
      obtain ⟨_, hat, _, hext⟩ := h.at_ _ _ hs
      simp only [yk, wv, hs, Option.map_some]
      cases hhe : s.he with
      | no => exact ih
      | rd => exact ih
      | rdl l => exact ih
      | wr τ => exact absurd hhe (hk n s (by omega) (by omega) hs τ)
      | wrk τ =>
        have hne : i ≠ n := fun e => by subst e; rw [hs0] at hs; cases hs; rw [hr0] at hhe; cases hhe
        have h2 := z2p h.keep hs hhe (by omega : i < n) hs0 hr0
        rw [hat.heap] at h2
        show τ lx = some ob
        rw [h2]; exact ih
      | ext τ =>
        have h2 := hext τ hhe
        rw [hat.heap] at h2
        exact h2 lx ob ih
theorem Dr.above (h : Dr X ops ord ss fr0 σ0 l) (ht : Tch ops ord ss D nD) (hg : Good (zg1 ops ord) l) (hlt : ∀ j ∈ l, j < ss.length) {i : Nat} (hi : i ∉ l)
    {o : Oper} {y : Did} (ho : ops[ord.getD i 0]? = some o) (hy : D[i]? = some y) (hin : i < nD) (hhe : y.he ≠ .no) : ∀ k s, i ≤ k → k ∈ l → ss[k]? = some s → ∀ τ, s.he ≠ .wr τ := fun k s hk hkl hs τ e => by
  have hne : i ≠ k := fun e => hi (e ▸ hkl)
  have hkn := hlt k hkl
  rcases qa ht.ok (by omega : i < k) (Nat.lt_of_lt_of_le hkn ht.le) ho (h.op _ _ hs) hy (ht.did _ _ hs) with h1 | h1
  · exact hi (hg.closed hkl h1)
  · have h2 : Did.meets ops o s.o y s.did = true := zph (y := s.did) e hhe
    rw [h2] at h1; cases h1
theorem Dr.key (h : Dr X ops ord ss fr0 σ0 l) (ht : Tch ops ord ss D nD) (hg : Good (zg1 ops ord) l) (hlt : ∀ j ∈ l, j < ss.length) {i : Nat} (hi : i ∉ l) (ha : ∀ j, zg1 ops ord j i → j ∈ l) (hil : i ≤ ss.length) (hin : i < nD)
    {o : Oper} {y : Did} (ho : ops[ord.getD i 0]? = some o) (hy : D[i]? = some y) (hhe : y.he ≠ .no) : ∃ n, i ≤ n ∧ n ≤ ss.length ∧ l.filter (qu ss) = (yk n).filter (qu ss) ∧ ∀ k, i ≤ k → k < n → qu ss k = true → k ∈ l := by
      obtain ⟨h0, hnn⟩ := xd ht.ok
      obtain ⟨r, hO⟩ := v8 h0
      have hb : ∀ j k, j < ops.size → k < ops.size → zg1 ops ord j k → j < k := fun j k _ hk hjk => hO.lt hk hjk
      have hnN : ss.length ≤ ops.size := Nat.le_trans ht.le hnn
      have pair := ze9 h ht
      have hbelow : ∀ k, k < i → qu ss k = true → k ∈ l := fun k hk wk => by
        obtain ⟨s, hs, ds⟩ := wHeap_iff.1 wk
        rcases qa ht.ok hk hin (h.op _ _ hs) ho (ht.did _ _ hs) hy with h1 | h1
        · exact ha _ h1
        · have h2 : Did.meets ops s.o o s.did y = true := zak (x := s.did) ds hhe
          rw [h2] at h1; cases h1
      have hsort := hg.sorted (n := ss.length) (qu ss) hlt (fun j hj k hk => pair j k (hlt j hj) (hlt k hk)) (fun j k hj hk => hb j k (by omega) (by omega))
      have hmem : ∀ x, x ∈ l.filter (qu ss) ↔ x ∈ l ∧ qu ss x = true := fun x => List.mem_filter
      cases hf : l.filter (qu ss) with
      | nil =>
        refine ⟨i, Nat.le_refl _, hil, ?_, fun k h1 h2 => by omega⟩
        symm
        rw [List.filter_eq_nil_iff]
        intro x hx wx
        have : x ∈ l.filter (qu ss) := (hmem x).2 ⟨hbelow x (mem_canon.1 hx) wx, wx⟩
        rw [hf] at this; simp at this
      | cons m r =>
        have hm : m ∈ l ∧ qu ss m = true := (hmem m).1 (by rw [hf]; simp)
        have htop : ∀ x, x ∈ l → qu ss x = true → x ≤ m := fun x hx wx => by
          have : x ∈ l.filter (qu ss) := (hmem x).2 ⟨hx, wx⟩
          rw [hf] at this hsort
          rcases List.mem_cons.1 this with rfl | h'
          · exact Nat.le_refl _
          · exact Nat.le_of_lt ((List.pairwise_cons.1 hsort).1 x h')
        have hdown : ∀ x, x ≤ m → qu ss x = true → x ∈ l := fun x hx wx => by
          by_cases hxm : x = m
          · exact hxm ▸ hm.1
          · have hml := hlt m hm.1
            rcases pair x m (by omega) hml wx hm.2 hxm with h1 | h1
            · exact hg.closed hm.1 h1
            · have := hb _ _ (by omega) (by omega) h1; omega
        by_cases hmi : m < i
        · refine ⟨i, Nat.le_refl _, hil, ?_, fun k h1 h2 => by omega⟩
          rw [← hf]
          refine zbb hsort ((qq i).filter _) fun x => ?_
          rw [List.mem_filter, List.mem_filter, mem_canon]
          exact ⟨fun ⟨h1, h2⟩ => ⟨by have := htop x h1 h2; omega, h2⟩, fun ⟨h1, h2⟩ => ⟨hbelow x h1 h2, h2⟩⟩
        · refine ⟨m + 1, by omega, hlt m hm.1, ?_, fun k h1 h2 wk => hdown k (by omega) wk⟩
          rw [← hf]
          refine zbb hsort ((qq (m + 1)).filter _) fun x => ?_
          rw [List.mem_filter, List.mem_filter, mem_canon]
          exact ⟨fun ⟨h1, h2⟩ => ⟨by have := htop x h1 h2; omega, h2⟩, fun ⟨h1, h2⟩ => ⟨hdown x (by omega) h2, h2⟩⟩
theorem Dr.agree (h : Dr X ops ord ss fr0 σ0 l) (ht : Tch ops ord ss D nD) (hg : Good (zg1 ops ord) l) (hlt : ∀ j ∈ l, j < ss.length) {i : Nat} (hi : i ∉ l) (ha : ∀ j, zg1 ops ord j i → j ∈ l) (hil : i ≤ ss.length) (hin : i < nD)
    {o : Oper} {y : Did} (ho : ops[ord.getD i 0]? = some o) (hy : D[i]? = some y) {frl fri : Fr} {σl σi : Heap} (hL : AtL ss fr0 σ0 l frl σl) (hI : AtL ss fr0 σ0 (yk i) fri σi) :
    frl.n = fri.n ∧ (∀ t ∈ Oper.reads ops o, look frl.env t = look fri.env t) ∧ (∀ d, zav y.le = some d → z6 frl.locs d = z6 fri.locs d) ∧ HAgree y.he σi σl := by
  obtain ⟨h0, hnn⟩ := xd ht.ok
  obtain ⟨r, hO⟩ := v8 h0
  have hb : ∀ j k, j < ops.size → k < ops.size → zg1 ops ord j k → j < k := fun j k _ hk hjk => hO.lt hk hjk
  have hnN : ss.length ≤ ops.size := Nat.le_trans ht.le hnn
  have hiN : i < ops.size := Nat.lt_of_lt_of_le hin hnn
  have hwr : y.he.isW = true → σl = σi := fun hh => by
    rw [hL.heap, hI.heap, zy, zy _ _ (yk i), hg.writers (qu ss) hb hnN hiN hlt hi ha (fun k hk wk hne => ?_) (ze9 h ht) hil]
    obtain ⟨s, hs, ds⟩ := wHeap_iff.1 wk
    exact held ht.ok (Nat.lt_of_lt_of_le hk ht.le) hin hne (h.op _ _ hs) ho (ht.did _ _ hs) hy (zak ds (zq9 hh)) (zak hh (zq9 ds))
  refine ⟨hL.n.trans hI.n.symm, fun t htr => ?_, fun d hd => ?_, ?_⟩
  · rw [hL.env, hI.env, yy, yy _ _ _ (yk i), hg.writers (z0m ss t) hb hnN hiN hlt hi ha (fun k hk wk hne => ?_) (zox h ht t) hil]
    obtain ⟨s, hs, ds⟩ := wEnv_iff.1 wk
    exact held ht.ok (Nat.lt_of_lt_of_le hk ht.le) hin hne (h.op _ _ hs) ho (ht.did _ _ hs) hy (zsy ds htr) (zpg ds htr)
  · rw [hL.loc, hI.loc, yw, yw _ _ _ (yk i), hg.writers (z0l ss d) hb hnN hiN hlt hi ha (fun k hk wk hne => ?_) (zow h ht d) hil]
    obtain ⟨s, hs, ds⟩ := wLoc_iff.1 wk
    exact held ht.ok (Nat.lt_of_lt_of_le hk ht.le) hin hne (h.op _ _ hs) ho (ht.did _ _ hs) hy (zf9 ds hd) (zsz hd ds)
  · cases hhe : y.he with
    | no => exact True.intro
    | wr τ => exact hwr (by rw [hhe]; rfl)
    | ext τ => exact hwr (by rw [hhe]; rfl)
    | wrk τ => exact hwr (by rw [hhe]; rfl)
    | rdl lx =>
      show ∀ ob, σi lx = some ob → σl lx = some ob
      intro ob hob
      obtain ⟨n, n1, n2, n3, n4⟩ := h.key ht hg hlt hi ha hil hin ho hy (by rw [hhe]; simp)
      rw [hL.heap, zy _ _ l, n3, ← zy]
      rw [hI.heap] at hob
      rcases Nat.lt_or_ge i ss.length with hlt' | hge
      · have hs : ss[i]? = some ss[i] := List.getElem?_eq_getElem hlt'
        generalize ss[i] = s0 at hs
        have hd := ht.did _ _ hs
        rw [hy] at hd; cases hd
        refine h.stays hs hhe hob n n1 n2 fun k s h1 h2 hs τ e => ?_
        exact h.above ht hg hlt hi ho hy hin (by rw [hhe]; simp) k s h1 (n4 k h1 h2 (wHeap_iff.2 ⟨s, hs, by rw [e]; rfl⟩)) hs τ e
      · have : n = i := by omega
        subst this; exact hob
    | rd =>
      show Sub σi σl
      obtain ⟨n, n1, n2, n3, n4⟩ := h.key ht hg hlt hi ha hil hin ho hy (by rw [hhe]; simp)
      rw [hL.heap, hI.heap, zy _ _ l, n3, ← zy]
      refine h.grows n n1 n2 fun k s h1 h2 hs τ => ⟨fun e => ?_, fun e => ?_⟩
      · exact h.above ht hg hlt hi ho hy hin (by rw [hhe]; simp) k s h1 (n4 k h1 h2 (wHeap_iff.2 ⟨s, hs, by rw [e]; rfl⟩)) hs τ e
      · have hkl := n4 k h1 h2 (wHeap_iff.2 ⟨s, hs, by rw [e]; rfl⟩)
        have hne : i ≠ k := fun e => hi (e ▸ hkl)
        have hkn := hlt k hkl
        rcases qa ht.ok (by omega : i < k) (Nat.lt_of_lt_of_le hkn ht.le) ho (h.op _ _ hs) hy (ht.did _ _ hs) with h1 | h1
        · exact hi (hg.closed hkl h1)
        · have h2 : Did.meets ops o s.o y s.did = true := zpi (y := s.did) e hhe
          rw [h2] at h1; cases h1
theorem zm6 {ops : Array Oper} {o : Oper} {t : Nat} (h : Operand.tmp t ∈ o.op.operands.toList) : t ∈ Oper.reads ops o := by
  unfold Oper.reads
  exact List.mem_append_left _ (List.mem_filterMap.2 ⟨.tmp t, h, rfl⟩)
theorem zf8 {ops : Array Oper} {o : Oper} {j : Nat} {want : Bool} {t : Nat} (hg : o.guard = some (j, want)) (h : (ops[j]?).bind (·.dst) = some t) : t ∈ Oper.reads ops o := by
  unfold Oper.reads
  exact List.mem_append_right _ (by rw [hg]; simp only [h]; simp)
theorem zd4 {ops : Array Oper} {o : Oper} {frl fri : Fr} (h : ∀ t ∈ Oper.reads ops o, look frl.env t = look fri.env t) : ∀ x ∈ o.op.operands.toList, zk frl x = zk fri x := by
  intro x hx
  cases x with
  | tmp t => exact h t (zm6 hx)
  | _ => rfl
theorem zco {o : Oper} {frl fri : Fr} (h : ∀ t ∈ Oper.reads ops o, look frl.env t = look fri.env t) {ran : Bool} (hg : GuardAt ops o fri ran) : GuardAt ops o frl ran := by
  unfold GuardAt at hg ⊢
  split
  · rename_i e; rw [e] at hg; exact hg
  · rename_i j want e
    rw [e] at hg
    have : y4 ops frl j = y4 ops fri j := by
      unfold y4
      cases hd : (ops[j]?).bind (·.dst) with
      | none => rfl
      | some t => simp only [Option.map_some]; rw [h t (zf8 e hd)]
    rw [this]; exact hg
theorem GuardAt.wanted {M : Mem} {F : FM} {own : Owns} {fr : Fr} {σ : Heap} {a : Act} {w : World} {o : Oper} {ran : Bool} (hR : R M F own fr σ a w) (hg : GuardAt ops o fr ran) : Region.wanted o (yielded ops a.tmps) = ran := by
  unfold GuardAt at hg
  split at hg
  · rename_i e; subst hg; simp [Region.wanted, e]
  · rename_i j want e
    rcases hg with ⟨b, hb, rfl⟩ | ⟨vs, hb, rfl⟩
    · obtain ⟨v, hv, hw, _⟩ := vg (w := w) hR e hb
      cases hv
      exact hw b rfl
    · obtain ⟨v, hv, _, hw⟩ := vg (w := w) hR e hb
      cases hv
      exact hw _ rfl
theorem AtL.cons {frl : Fr} {σl : Heap} (h : AtL ss fr0 σ0 l frl σl) {i : Nat} {s : Stp} (hs : ss[i]? = some s) : AtL ss fr0 σ0 (i :: l) ((frl.app s.le).put s.o.dst s.c) (s.he.app σl) := by
  refine ⟨by rw [zg2, ztt]; exact h.n, fun t => ?_, fun d => ?_, ?_⟩
  · rw [zq4, zxj]
    simp only [za8, hs]
    split <;> first | rfl | exact h.env t
  · rw [qd, zm8]
    simp only [zcb, hs, Option.bind_some]
    split <;> first | (split <;> first | rfl | exact h.loc d) | exact h.loc d
  · simp only [wv, hs, Option.map_some]
    cases hhe : s.he <;> simp only [HE.app] <;> exact h.heap
end
theorem Fork.yes {b : Bool} {T E : Prop} (hb : b = true) (h : T) : Fork b T E := ⟨fun _ => h, fun e => absurd (hb.symm.trans e) (by decide)⟩
theorem Fork.no {b : Bool} {T E : Prop} (hb : b = false) (h : E) : Fork b T E := ⟨fun e => absurd (hb.symm.trans e) (by decide), fun _ => h⟩
theorem GetN.of {σ : Heap} {l : Nat} {k : Ob → Prop} {ob : Ob} (h : σ l = some ob) (hk : k ob) : GetN σ l k := ⟨⟨ob, h, hk⟩⟩
theorem ElemN.of {xs : List CV} {i : Nat} {k : CV → Prop} {x : CV} (h : xs[i]? = some x) (hk : k x) : ElemN xs i k := ⟨⟨x, h, hk⟩⟩
theorem zvk {P : Program} : ∀ {tt : List (Nat × TI)} {t : Nat} {ti : TI}, (tt.map fun p => zhd P p.1) = tt.map (fun p => some p.2) → lkT tt t = some ti → zhd P t = some ti
  | [], _, _, _, h => by simp [lkT] at h
  | (s, c) :: r, t, ti, hm, h => by
    simp only [List.map_cons, List.cons.injEq] at hm
    simp only [lkT] at h
    split at h
    · rename_i e
      have e := Nat.eq_of_beq_eq_true e
      subst e
      rw [hm.1, ← h]
    · exact zvk hm.2 h
theorem Ctx.ok_of {X : Ctx} (h : (X.tt.map fun p => zhd X.P p.1) = X.tt.map (fun p => some p.2)) : X.ok := fun _ _ => zvk h
theorem AtL.nil (ss : List Stp) (fr : Fr) (σ : Heap) : AtL ss fr σ [] fr σ := ⟨rfl, fun _ => rfl, fun _ => rfl, rfl⟩
theorem zgk {ss ss2 : List Stp} (fr : Fr) (t : Nat) : ∀ (l : List Nat), (∀ i ∈ l, ss2[i]? = ss[i]?) → za8 ss2 fr l t = za8 ss fr l t
  | [], _ => rfl
  | i :: l, h => by simp only [za8]; rw [h i (by simp), zgk fr t l (fun j hj => h j (by simp [hj]))]
theorem zgb {ss ss2 : List Stp} (fr : Fr) (t : Nat) : ∀ (l : List Nat), (∀ i ∈ l, ss2[i]? = ss[i]?) → zcb ss2 fr l t = zcb ss fr l t
  | [], _ => rfl
  | i :: l, h => by simp only [zcb]; rw [h i (by simp), zgb fr t l (fun j hj => h j (by simp [hj]))]
theorem zes {ss ss2 : List Stp} (σ : Heap) : ∀ (l : List Nat), (∀ i ∈ l, ss2[i]? = ss[i]?) → wv ss2 σ l = wv ss σ l
  | [], _ => rfl
  | i :: l, h => by simp only [wv]; rw [h i (by simp), zes σ l (fun j hj => h j (by simp [hj]))]
theorem AtL.congr {ss ss2 : List Stp} {fr0 fr : Fr} {σ0 σ : Heap} {l : List Nat} (h : AtL ss fr0 σ0 l fr σ) (hc : ∀ i ∈ l, ss2[i]? = ss[i]?) : AtL ss2 fr0 σ0 l fr σ :=
  ⟨h.n, fun t => by rw [zgk fr0 t l hc]; exact h.env t, fun d => by rw [zgb fr0 d l hc]; exact h.loc d, by rw [zes σ0 l hc]; exact h.heap⟩
theorem zdj {ops : Array Oper} : ∀ (ord : List Nat), (∀ i ∈ ord, i < ops.size) → (ord.filterMap fun i => ops[i]?).length = ord.length ∧ ∀ (p : Nat), (ord.filterMap fun i => ops[i]?)[p]? = (ord[p]?).bind fun i => ops[i]?
  | [], _ => ⟨rfl, fun p => by simp⟩
  | i :: r, h => by
    have hib : i < ops.size := h i (by simp)
    have hi : ops[i]? = some ops[i] := Array.getElem?_eq_getElem hib
    obtain ⟨h1, h2⟩ := zdj r (fun j hj => h j (by simp [hj]))
    rw [List.filterMap_cons_some hi]
    refine ⟨by simp [h1], fun p => ?_⟩
    cases p with
    | zero => simp [hi]
    | succ p => simp only [List.getElem?_cons_succ]; exact h2 p
section
variable {X : Ctx} {ops : Array Oper} {ord : List Nat} {fr0 : Fr} {σ0 : Heap} {Q : Xt → Fr → Heap → Prop} {DD : List Deferred} {M0 : Mem} {own0 : Owns} {w0 : World}
theorem zec {ss : List Stp} {l : List Nat} {n N : Nat} {A : Nat → Nat → Prop} (hg : Good A l) (hm : ∀ j, j ∈ l ↔ j < n) (W : Nat → Bool) (hlt : ∀ j k, j < N → k < N → A j k → j < k) (hnN : n ≤ N)
    (hW : ∀ j k, j < n → k < n → W j = true → W k = true → j ≠ k → A j k ∨ A k j) : l.filter W = (yk n).filter W := by
  refine zbb (hg.sorted W (fun j hj => Nat.lt_of_lt_of_le ((hm j).1 hj) hnN) (fun j hj k hk => hW j k ((hm j).1 hj) ((hm k).1 hk)) hlt) ((qq n).filter _) fun x => ?_
  rw [List.mem_filter, List.mem_filter, mem_canon, hm]
theorem Stop.tch {l' : List Oper} {ss : List Stp} {fr : Fr} {σ : Heap} (h : Stop X ops ord Q l' ((ss.map Stp.did).reverse) fr σ) :
    ∃ D nD, Tch ops ord ss D nD := by
  have hd : ∀ (x : List Did) (i : Nat) (s : Stp), ss[i]? = some s → (ss.map Stp.did ++ x)[i]? = some s.did := by
    intro x i s hs
    rw [List.getElem?_append_left (by rw [List.length_map]; exact (List.getElem?_eq_some_iff.1 hs).1), List.getElem?_map, hs]; rfl
  generalize he : (ss.map Stp.did).reverse = ds at h
  have he' : ds.reverse = ss.map Stp.did := by rw [← he, List.reverse_reverse]
  have hl : ds.length = ss.length := by rw [← he]; simp
  cases h with
  | done ds fr σ hd' hl' hQ => rw [he'] at hd'; exact ⟨_, _, fun i s hs => by simpa using hd [] i s hs, hd', by omega⟩
  | tail ds fr σ ht hd' hlt hQ => rw [he', hl] at hd'; exact ⟨_, _, fun i s hs => by simpa using hd [] i s hs, hd', by omega⟩
  | pan o r ds fr σ v τ hg hT hp hd' hQ => rw [he', hl] at hd'; exact ⟨_, _, hd _, hd', by omega⟩
  | nd o r ds fr σ hg hp hd' hT => rw [he', hl] at hd'; exact ⟨_, _, hd _, hd', by omega⟩
theorem zb7 {ss : List Stp} {fr : Fr} {t : Nat} (h : ∀ (i : Nat) (s : Stp), ss[i]? = some s → s.o.dst ≠ some t) : ∀ l, za8 ss fr l t = look fr.env t
  | [] => rfl
  | i :: l => by
    simp only [za8]
    cases hs : ss[i]? with
    | none => simp only [zb7 h l]
    | some s => simp only [if_neg (h i s hs), zb7 h l]
theorem zcn (p : Nat → Bool) (t : Nat) : ∀ (env : List (Nat × CV)), look (env.filter fun q => p q.1) t = if p t = true then look env t else .junk
  | [] => by simp [look]
  | (s, c) :: r => by
    rw [List.filter_cons, xa]
    by_cases hs : p s = true
    · rw [if_pos hs, xa, zcn p t r]
      by_cases he : s = t
      · subst he; rw [if_pos rfl, if_pos rfl, if_pos hs]
      · rw [if_neg he, if_neg he]
    · rw [if_neg hs, zcn p t r]
      by_cases he : s = t
      · subst he; rw [if_neg hs, if_neg hs]
      · rw [if_neg he]
theorem zuv {ss : List Stp} {l : List Nat} {frl frE : Fr} {σl σE τ : Heap} {M : Mem} {F : FM} {own : Owns} {a : Act} {w : World} (hDr : Dr X ops ord ss fr0 σ0 l) (hA : AtL ss fr0 σ0 l frl σl) {m : List Nat} (hE : AtL ss fr0 σ0 m frE σE)
    (hR : R M F own frl τ a w) : ∀ t c, CV.strip true (look (zey ops frE).env t) = some c → Rep M FM.no (a.tmps.getD t undef) c := by
  intro t c h
  simp only [zey] at h
  rw [zcn (fun s => !zwe ops s) t] at h
  split at h
  · rename_i hn
    have hno : ∀ (i : Nat) (s : Stp), ss[i]? = some s → s.o.dst ≠ some t := fun i s hs e => by
      have hop := hDr.op i s hs
      rw [Bool.not_eq_true', ← Bool.not_eq_true, zwe, Array.any_eq_true] at hn
      obtain ⟨hlt, hx⟩ := Array.getElem?_eq_some_iff.1 hop
      exact hn ⟨_, hlt, by rw [hx, e]; simp⟩
    rw [hE.env, zb7 hno, ← zb7 (fr := fr0) hno l, ← hA.env] at h
    exact xi (hR.env t) h
  · simp [CV.strip] at h
theorem zoh {k : Nat} (h : zqi ops ord k = true) {p : Nat} (hp : p < ops.size) (hk : k ≤ p) {j : Nat} (hj : j < k) : Anc ops (ord.getD j 0) (ord.getD p 0) := by
  simp only [zqi, List.all_eq_true, List.mem_range, Bool.or_eq_true] at h
  rcases h p hp with h | h
  · have : p < k := Nat.le_of_ble_eq_true h
    omega
  · exact zgx (h j hj)
theorem zuz {r : Nat → Nat} (hO : Ords ops ord r) {i j : Nat} (hi : i < ord.length) (hj : j < ord.length) (e : ord[i] = ord[j]) : i = j := by
  have h1 := (hO.at_ i (by rw [← hO.len]; exact hi)).2
  have h2 := (hO.at_ j (by rw [← hO.len]; exact hj)).2
  rw [List.getD_eq_getElem?_getD, List.getElem?_eq_getElem hi] at h1
  rw [List.getD_eq_getElem?_getD, List.getElem?_eq_getElem hj] at h2
  simp only [Option.getD_some] at h1 h2
  rw [← h1, ← h2, e]
theorem zuy {r : Nat → Nat} (hO : Ords ops ord r) : ord.Nodup :=
  List.pairwise_iff_getElem.2 fun i j hi hj hij e => by have := zuz hO hi hj e; omega
theorem z0p {r : Nat → Nat} (hO : Ords ops ord r) : ∀ j ∈ ord, j < ops.size := fun j hj => by
  obtain ⟨p, hp, rfl⟩ := List.mem_iff_getElem.1 hj
  have := (hO.at_ p (by rw [← hO.len]; exact hp)).1
  rwa [List.getD_eq_getElem?_getD, List.getElem?_eq_getElem hp] at this
theorem zm5 {r : Nat → Nat} (hO : Ords ops ord r) {p k : Nat} (hp : p < ops.size) (hk : k ≤ ops.size) : ord.getD p 0 ∈ ord.take k ↔ p < k := by
  have hp' : p < ord.length := by rw [hO.len]; exact hp
  have e : ord.getD p 0 = ord[p] := by rw [List.getD_eq_getElem?_getD, List.getElem?_eq_getElem hp']; rfl
  rw [e, List.mem_take_iff_getElem]
  constructor
  · rintro ⟨i, hi, hx⟩
    have : i = p := zuz hO (by omega) hp' hx
    omega
  · intro h; exact ⟨p, by omega, rfl⟩
theorem zs2 {l : List Nat} {n : Nat} (hn : l.Nodup) (h : ∀ j, j ∈ l ↔ j < n) : l.length = n := by
  have h1 := List.Nodup.length_le_of_subset hn (l₂ := List.range n) fun x hx => List.mem_range.2 ((h x).1 hx)
  have h2 := List.Nodup.length_le_of_subset (List.nodup_range (n := n)) (l₂ := l) fun x hx => (h x).2 (List.mem_range.1 hx)
  rw [List.length_range] at h1 h2
  omega
theorem zfw {listed : Array Bool} {done : List Nat} (hs : listed.size = ops.size) (hd : ∀ j, j < ops.size → (listed.getD j true = true ↔ j ∈ done)) (hlt : ∀ j ∈ done, j < ops.size) (i : Nat) :
    i ∈ Region.ready .any ops listed ↔ i ∈ zc4 ops done := by
  have hon : ∀ k, (listed.getD k false = true ↔ k ∈ done) := by
    intro k
    rcases Nat.lt_or_ge k ops.size with h | h
    · rw [← zdf (by omega)]; exact hd k h
    · constructor
      · intro e; simp [Array.getD, show ¬ k < listed.size by omega] at e
      · intro e; exact absurd (hlt k e) (by omega)
  have hany : ∀ k, (done.any (Nat.beq k) = true ↔ k ∈ done) := by
    intro k
    rw [List.any_eq_true]
    constructor
    · rintro ⟨x, hx, e⟩; rw [Nat.eq_of_beq_eq_true e]; exact hx
    · intro h; exact ⟨k, h, Nat.beq_refl k⟩
  rw [mem_ready]
  unfold zc4
  rw [List.mem_filter, List.mem_range]
  refine and_congr_right fun hi => ?_
  have ho : ops[i]? = some ops[i] := Array.getElem?_eq_getElem hi
  unfold zui
  rw [ho]
  simp only [Bool.and_eq_true, Bool.not_eq_true', Option.some.injEq, exists_eq_left', List.all_eq_true, Bool.or_eq_true]
  constructor
  · rintro ⟨h0, h1⟩
    refine ⟨?_, fun e he => ?_⟩
    · rw [← Bool.not_eq_true, hany]; intro hm; rw [(hd i hi).2 hm] at h0; cases h0
    · cases hb : Region.binds .any e with
      | false => exact .inl rfl
      | true => exact .inr ((hany _).2 ((hon _).1 (h1 e he hb)))
  · rintro ⟨h0, h1⟩
    refine ⟨?_, fun e he hb => ?_⟩
    · rw [← Bool.not_eq_true, hd i hi, ← hany, h0]; exact Bool.false_ne_true
    · rcases h1 e he with h | h
      · rw [hb] at h; cases h
      · exact (hon _).2 ((hany _).1 h)
theorem zds {f : Nat → Prop} : ∀ {l : List Nat}, z3p f l → l ≠ [] ∧ ∀ i ∈ l, f i
  | [], h => h.elim
  | [i], h => ⟨by simp, fun j hj => by rw [List.mem_singleton.1 hj]; exact h⟩
  | i :: j :: r, h => by
    have h : AndN (f i) (z3p f (j :: r)) := h
    refine ⟨by simp, fun k hk => ?_⟩
    rcases List.mem_cons.1 hk with rfl | hk
    · exact h.l
    · exact (zds h.r).2 k hk
theorem Tail.run (hX : X.ok) : ∀ (n : Nat) (done : List Nat) {fr : Fr} {σ : Heap}, zrq X ops n done fr σ Q → done.Nodup → (∀ j ∈ done, j < ops.size) → done.length + n = ops.size → ∀ {listed : Array Bool}, listed.size = ops.size →
    (∀ j, j < ops.size → (listed.getD j true = true ↔ j ∈ done)) → ∀ {M : Mem} {F : FM} {own : Owns} {a : Act} {w : World}, R M F own fr σ a w → KD DD a M0 own0 w0 M own w → wpAny X.P .any ops (ztw DD M0 own0 w0 Q) n listed a w := by
  intro n
  induction n with
  | zero =>
    intro done fr σ h hnd hlt hl listed hs hd M F own a w hR hk
    refine ⟨List.eq_nil_iff_forall_not_mem.2 fun i hi => ?_, ⟨.normal, M, F, own, fr, σ, trivial, h, hR, hk⟩⟩
    obtain ⟨h1, h2, _⟩ := mem_ready.1 hi
    have := zbg ops.size done hnd hlt (by omega) i h1
    rw [(hd i h1).2 this] at h2
    cases h2
  | succ n ih =>
    intro done fr σ h hnd hlt hl listed hs hd M F own a w hR hk
    have h : zeu (zc4 ops done) (fun rd => z3p (fun i => match ops[i]? with
      | some o => match o.guard with
        | none => zg0 X true o fr σ (fun v le he => qx fr le o.dst v fun fr => zxk σ he fun σ => zrq X ops n (i :: done) fr σ Q) (fun _ _ => False)
        | some _ => False
      | none => False) rd) := h
    rw [zdg] at h
    obtain ⟨hne, hall⟩ := zds h
    refine ⟨fun hr => ?_, fun i hi => ?_⟩
    · obtain ⟨i, hi⟩ := List.exists_mem_of_ne_nil _ hne
      have := (zfw hs hd hlt i).2 hi
      rw [hr] at this
      simp at this
    · have hx := hall i ((zfw hs hd hlt i).1 hi)
      obtain ⟨h1, h2, o, ho, _⟩ := mem_ready.1 hi
      rw [ho] at hx
      dsimp only at hx
      split at hx
      · rename_i hg
        have hw : Region.wanted o (yielded ops a.tmps) = true := by simp [Region.wanted, hg]
        simp only [zas, zgv] at hx
        simp only [wpOp, ho]
        rw [if_pos hw]
        rcases zdl hX hx with (⟨c, le, he, hK, hT⟩ | ⟨c, τ, hK, hT⟩) | ⟨e, _⟩
        · obtain ⟨hdst, hK⟩ := zbf hK
          refine .inl (hT.2 hR rfl (fun _ _ => rfl) (fun _ _ => rfl) (HAgree.refl he σ) fun v M' F' own' w' g1 g2 g3 _ => ?_)
          have hni : i ∉ done := fun hm => by rw [(hd i h1).2 hm] at h2; cases h2
          have hR2 : R M' F' own' ((fr.app le).put o.dst c) (he.app σ) (a.put o.dst v) w' := by
            cases hdo : o.dst with
            | none => exact g1
            | some t => exact g1.put (hdst t hdo) g2
          refine ih (i :: done) hK (List.nodup_cons.2 ⟨hni, hnd⟩) (fun j hj => ?_) (by simp; omega) (by simpa using hs) (fun j hj => ?_) hR2 ?_
          · rcases List.mem_cons.1 hj with rfl | hj
            · exact h1
            · exact hlt j hj
          · rw [List.mem_cons]
            by_cases hji : j = i
            · subst hji; simp [Array.getD, hs, hj]
            · simp only [hji, false_or]
              rw [← hd j hj]
              simp [Array.getD, hs, hj, Array.getElem_setIfInBounds, Ne.symm hji]
          · exact (hk.trans g3).put _ _
        · exact hK.elim
        · cases e
      · exact hx.elim
theorem Dr.run (hX : X.ok) {full : List Oper} (hfull : ∀ p, p < full.length → full[p]? = ops[ord.getD p 0]?) (hflen : full.length ≤ ops.size) :
    ∀ (fuel : Nat) (listed : Array Bool) (l : List Nat) (ss : List Stp) {frE : Fr} {σE : Heap} {l' : List Oper}, Lst ops ord listed l → l.length + fuel = ops.size → (∀ j ∈ l, j < ss.length) → Dr X ops ord ss fr0 σ0 l →
      full = ss.map Stp.o ++ l' → Stop X ops ord Q l' ((ss.map Stp.did).reverse) frE σE → AtL ss fr0 σ0 (yk ss.length) frE σE → ∀ {frl : Fr} {σl : Heap} {M : Mem} {F : FM} {own : Owns} {a : Act} {w : World},
      AtL ss fr0 σ0 l frl σl → R M F own frl σl a w → KD DD a M0 own0 w0 M own w → wpAny X.P .any ops (ztw DD M0 own0 w0 Q) fuel listed a w := by
  have fin : ∀ {listed : Array Bool} {l : List Nat} {ss : List Stp} {frE : Fr} {σE : Heap} {l' : List Oper}, Lst ops ord listed l → (∀ i, i < ops.size → i ∈ l) → (∀ j ∈ l, j < ss.length) → Dr X ops ord ss fr0 σ0 l →
      Stop X ops ord Q l' ((ss.map Stp.did).reverse) frE σE → AtL ss fr0 σ0 (yk ss.length) frE σE → ∀ {frl : Fr} {σl : Heap} {M : Mem} {F : FM} {own : Owns} {a : Act} {w : World},
      AtL ss fr0 σ0 l frl σl → R M F own frl σl a w → KD DD a M0 own0 w0 M own w → ztw DD M0 own0 w0 Q .normal a w := by
    intro listed l ss frE σE l' hl hall hlt hDr hS hE frl σl M F own a w hA hR hk
    obtain ⟨D, nD, hT⟩ := hS.tch
    obtain ⟨h0, hnn⟩ := xd hT.ok
    obtain ⟨r, hO⟩ := v8 h0
    have hlen : ops.size ≤ ss.length := by
      rcases Nat.lt_or_ge ss.length ops.size with h' | h'
      · have := hlt _ (hall _ h'); omega
      · exact h'
    have hss : ss.length = ops.size := by have := hT.le; omega
    have hml : ∀ j, j ∈ l ↔ j < ss.length := fun j => ⟨fun hj => hlt j hj, fun hj => hall j (by omega)⟩
    have hb : ∀ j k, j < ops.size → k < ops.size → zg1 ops ord j k → j < k := fun j k _ hk hjk => hO.lt hk hjk
    have hσ : σl = σE := by rw [hA.heap, hE.heap, zy, zy _ _ (yk _), zec (ss := ss) hl.good hml _ hb (by omega) (ze9 hDr hT)]
    have hQ : Q .normal frE σE := by
      generalize he : (ss.map Stp.did).reverse = ds at hS
      have hdl : ds.length = ss.length := by rw [← he]; simp
      cases hS with
      | done ds fr σ hd' hl' hQ => exact hQ
      | tail ds fr σ ht hd' hl' hQ => omega
      | pan o r ds fr σ v τ hg hT' hp hd' hQ => have := (xd hd').2; omega
      | nd o r ds fr σ hg hp hd' hT' => have := (xd hd').2; omega
    subst hσ
    exact ⟨.normal, M, F, own, frE, σl, trivial, hQ, hR.ext (hA.n.trans hE.n.symm) (fun t => by rw [hA.env, hE.env, yy, yy _ _ _ (yk _), zec (ss := ss) hl.good hml _ hb (by omega) (zox hDr hT t)])
      (fun d => by rw [hA.loc, hE.loc, yw, yw _ _ _ (yk _), zec (ss := ss) hl.good hml _ hb (by omega) (zow hDr hT d)]), hk⟩
  intro fuel
  induction fuel with
  | zero =>
    intro listed l ss frE σE l' hl hf hlt hDr _ hS hE frl σl M F own a w hA hR hk
    obtain ⟨D, nD, hT⟩ := hS.tch
    obtain ⟨r, hO⟩ := v8 (xd hT.ok).1
    have hall := zbg ops.size l hl.good.nodup hl.lt (by omega)
    exact ⟨hl.full hO hall, fin hl hall hlt hDr hS hE hA hR hk⟩
  | succ fuel ih =>
    intro listed l ss frE σE l' hl hf hlt hDr hfs hS hE frl σl M F own a w hA hR hk
    obtain ⟨D, nD, hT⟩ := hS.tch
    obtain ⟨h0, hnn⟩ := xd hT.ok
    obtain ⟨r, hO⟩ := v8 h0
    refine ⟨fun hr => fin hl (hl.none hO hr) hlt hDr hS hE hA hR hk, fun i hi => ?_⟩
    obtain ⟨his, hin, _⟩ := mem_ready.1 hi
    obtain ⟨hp, hpi⟩ := hO.back i his
    generalize r i = p at hp hpi
    subst hpi
    have hni : p ∉ l := fun hm => by rw [(hl.iff p hp).2 hm] at hin; cases hin
    have hanc : ∀ j, zg1 ops ord j p → j ∈ l := fun j hj => hl.anc hO hp hi hj
    have hl' := hl.step hO hp hi
    rcases Nat.lt_or_ge p ss.length with hlt' | hge
    · have hs : ss[p]? = some ss[p] := List.getElem?_eq_getElem hlt'
      generalize ss[p] = s at hs
      have hos := hDr.op _ _ hs
      obtain ⟨hdst, hAi, hok, hext⟩ := hDr.at_ _ _ hs
      have hok := hok hni
      obtain ⟨an, ae, al, ah⟩ := hDr.agree hT hl.good hlt hni hanc (Nat.le_of_lt hlt') (Nat.lt_of_lt_of_le hlt' hT.le) hos (hT.did _ _ hs) hA hAi
      have hlt2 : ∀ j ∈ p :: l, j < ss.length := fun j hj => by
        rcases List.mem_cons.1 hj with rfl | hj
        · exact hlt'
        · exact hlt j hj
      have hDr2 : Dr X ops ord ss fr0 σ0 (p :: l) := ⟨fun i s hs => by
        obtain ⟨a, b, c, d⟩ := hDr.at_ i s hs
        exact ⟨a, b, fun hm => c (fun hm' => hm (by simp [hm'])), d⟩, hDr.op, hDr.keep⟩
      have hw := GuardAt.wanted hR (zco ae hok.guard)
      have put : ∀ {fr1 : Fr} {σ1 : Heap} {M : Mem} {F : FM} {own : Owns} {w : World} {v : Value}, fr1.n = fr0.n → R M F own fr1 σ1 a w → Rep M F v s.c → R M F own (fr1.put s.o.dst s.c) σ1 (a.put s.o.dst v) w := by
        intro fr1 σ1 M F own w v hn hR hv
        cases hd : s.o.dst with
        | none => exact hR
        | some t => exact hR.put (by rw [hn]; exact hdst t hd) hv
      simp only [wpOp, hos]
      split
      · rename_i hwt
        rw [hwt] at hw
        have hTri : Tri X s.o s.fr s.σ s.c s.le s.he := hok.run hw.symm
        refine .inl ?_
        refine hTri.2 hR an (zd4 ae) al ah fun v M' F' own' w' h1 h2 h3 _ => ?_
        have hR2 : R M' F' own' ((frl.app s.le).put s.o.dst s.c) (s.he.app σl) (a.put s.o.dst v) w' := put (by rw [ztt]; exact hA.n) h1 h2
        exact ih _ _ ss hl' (by simp; omega) hlt2 hDr2 hfs hS hE (hA.cons hs) hR2 (hk.trans h3)
      · rename_i hwt
        have hran : s.ran = false := by
          cases hr : s.ran with
          | false => rfl
          | true => exact absurd (hw.trans hr) hwt
        obtain ⟨e1, e2, e3⟩ := hok.skip hran
        have hc := hA.cons hs
        rw [e2, e3] at hc
        have hR2 : R M F own (frl.put s.o.dst s.c) σl (a.put s.o.dst undef) w := put hA.n hR (by rw [e1]; exact .sc _)
        exact ih _ _ ss hl' (by simp; omega) hlt2 hDr2 hfs hS hE hc hR2 (hk.put _ _)
    · -- the operation at which the reading stood still
      have hpm : zaj ops ord ss.length = true → p = ss.length := by
        intro h
        rcases zsk h hp with h | h
        · omega
        · have := hlt _ (hanc ss.length ⟨by omega, h⟩); omega
      generalize he : (ss.map Stp.did).reverse = ds at hS
      have he' : ds.reverse = ss.map Stp.did := by rw [← he, List.reverse_reverse]
      have hdl : ds.length = ss.length := by rw [← he]; simp
      have hhead : ∀ {o : Oper} {rr : List Oper}, l' = o :: rr → ss.length < ops.size → ops[ord.getD ss.length 0]? = some o := by
        intro o rr e hlt
        rw [← hfull _ (by rw [hfs, e]; simp), hfs, e, List.getElem?_append_right (by simp)]; simp
      cases hS with
      | done ds fr σ hd' hl'' hQ => omega
      | tail ds fr σ ht hd' hl'' hQ =>
        rw [hdl] at ht hQ hl''
        have hml : ∀ j, j ∈ l ↔ j < ss.length := fun j => ⟨fun hj => hlt j hj, fun hj => hanc j ⟨by omega, zoh ht hp hge hj⟩⟩
        have hb : ∀ j k, j < ops.size → k < ops.size → zg1 ops ord j k → j < k := fun j k _ hk hjk => hO.lt hk hjk
        have hσ : σl = σE := by rw [hA.heap, hE.heap, zy, zy _ _ (yk _), zec (ss := ss) hl.good hml _ hb (by omega) (ze9 hDr hT)]
        subst hσ
        have hRE := hR.ext (hA.n.trans hE.n.symm) (fun t => by rw [hA.env, hE.env, yy, yy _ _ _ (yk _), zec (ss := ss) hl.good hml _ hb (by omega) (zox hDr hT t)])
          (fun d => by rw [hA.loc, hE.loc, yw, yw _ _ _ (yk _), zec (ss := ss) hl.good hml _ hb (by omega) (zow hDr hT d)])
        have hln : l.length = ss.length := zs2 hl.good.nodup hml
        have hdone : ∀ j, j < ops.size → (listed.getD j true = true ↔ j ∈ ord.take ss.length) := fun j hj => by
          obtain ⟨-, hq⟩ := hO.back j hj
          have hrq : r j < ops.size := (hO.back j hj).1
          rw [← hq, hl.iff _ hrq, hml]
          exact (zm5 hO hrq (by omega)).symm
        have hnd : (ord.take ss.length).Nodup := List.Nodup.sublist (List.take_sublist _ _) (zuy hO)
        have hlt3 : ∀ j ∈ ord.take ss.length, j < ops.size := fun j hj => z0p hO j (List.mem_of_mem_take hj)
        have hlen3 : (ord.take ss.length).length = ss.length := by rw [List.length_take, hO.len]; omega
        have hfu : fuel + 1 = ops.size - ss.length := by omega
        have := Tail.run (M0 := M0) (own0 := own0) (w0 := w0) hX (ops.size - ss.length) _ hQ hnd hlt3 (by omega) hl.size hdone hRE hk
        rw [← hfu] at this
        exact this.2 _ hi
      | pan o rr ds fr σ v τ hg hTp hpk hd' hQ =>
        rw [hdl] at hpk
        have hpe := hpm hpk
        subst hpe
        have ho := hhead rfl hp
        rw [he', hdl] at hd'
        have hT2 : Tch ops ord ss (ss.map Stp.did ++ [⟨none, .no, .ext σE⟩]) (ss.length + 1) := ⟨fun i s hs => by
          rw [List.getElem?_append_left (by rw [List.length_map]; exact (List.getElem?_eq_some_iff.1 hs).1), List.getElem?_map, hs]; rfl, hd', by omega⟩
        have hDm : (ss.map Stp.did ++ [(⟨none, .no, .ext σE⟩ : Did)])[ss.length]? = some ⟨none, .no, .ext σE⟩ := by
          rw [List.getElem?_append_right (by simp)]; simp
        obtain ⟨an, ae, al, ah⟩ := hDr.agree hT2 hl.good hlt hni hanc (Nat.le_refl _) (by omega) ho hDm hA hE
        have hw := GuardAt.wanted hR (zco ae hg)
        simp only [wpOp, ho]
        rw [if_pos hw]
        refine .inl (hTp hR an (zd4 ae) ah fun p M' own' w' h1 h2 h3 h4 h5 => ?_)
        exact ⟨.pan v, M', F, own', zey ops frE, τ, ⟨h2, h3, h4⟩, hQ, ⟨h1.toRg, zuv hDr hA hE h1⟩, hk.trans h5⟩
      | nd o rr ds fr σ hg hpk hd' hTn =>
        rw [hdl] at hpk
        have hpe := hpm hpk
        subst hpe
        have ho := hhead rfl hp
        rw [he', hdl] at hd'
        have hT2 : Tch ops ord ss (ss.map Stp.did ++ [⟨o.dst, .no, .ext σE⟩]) (ss.length + 1) := ⟨fun i s hs => by
          rw [List.getElem?_append_left (by rw [List.length_map]; exact (List.getElem?_eq_some_iff.1 hs).1), List.getElem?_map, hs]; rfl, hd', by omega⟩
        have hDm : (ss.map Stp.did ++ [(⟨o.dst, .no, .ext σE⟩ : Did)])[ss.length]? = some ⟨o.dst, .no, .ext σE⟩ := by
          rw [List.getElem?_append_right (by simp)]; simp
        obtain ⟨an, ae, al, ah⟩ := hDr.agree hT2 hl.good hlt hni hanc (Nat.le_refl _) (by omega) ho hDm hA hE
        have hw := GuardAt.wanted hR (zco ae hg)
        have hσE : σl = σE := ah
        simp only [wpOp, ho]
        rw [if_pos hw]
        refine .inl (hTn hR an (zd4 ae) hσE (fun v c τ he' M' F' own' w' hNew hK h1 h2 h3 _ => ?_) (fun p c τ M' own' w' hK h1 h2 h3 h4 h5 => ?_))
        · obtain ⟨hdst, hK⟩ := zbf hK
          obtain ⟨hkp, hK⟩ := zvu hK
          obtain ⟨ss', fr', σ', l2, e1, hC, hS2, hkc⟩ := zcp hX rr _ hK
          let ns : Stp := ⟨o, frE, σE, true, c, .no, he'⟩
          have hap : he'.app σl = τ := by rcases hNew with (rfl | rfl) | ⟨rfl, _⟩ <;> rfl
          have e2 : ∀ i, i < ss.length → (ss ++ ns :: ss')[i]? = ss[i]? := fun i hi => List.getElem?_append_left hi
          have en : (ss ++ ns :: ss')[ss.length]? = some ns := by rw [List.getElem?_append_right (Nat.le_refl _)]; simp
          have hE2 := hE.congr (ss2 := ss ++ ns :: ss') (fun i hi => e2 i (mem_canon.1 hi))
          have hn0 := hE2.cons en
          obtain ⟨c1, c2⟩ := Chain.at_ (all := ss ++ ns :: ss') (fr0 := fr0) (σ0 := σ0) (ss.length + 1) hC (fun i => by
            rw [List.getElem?_append_right (by omega), show ss.length + 1 + i - ss.length = i + 1 by omega]; simp) ⟨hn0.n, hn0.env, hn0.loc, hn0.heap⟩
          have hA2 := (hA.congr (ss2 := ss ++ ns :: ss') (fun i hi => e2 i (hlt i hi))).cons en
          have hlt2 : ∀ j ∈ ss.length :: l, j < (ss ++ ns :: ss').length := fun j hj => by
            rcases List.mem_cons.1 hj with rfl | hj
            · simp
            · have := hlt j hj; simp; omega
          have hat2 : ∀ (i : Nat) (s : Stp), (ss ++ ns :: ss')[i]? = some s → (∀ t, s.o.dst = some t → t < fr0.n) ∧ AtL (ss ++ ns :: ss') fr0 σ0 (yk i) s.fr s.σ ∧ (i ∉ ss.length :: l → s.ok X ops) ∧ ∀ τ, s.he = .ext τ → Sub s.σ τ := fun i s hs => by
            rcases Nat.lt_or_ge i ss.length with hi | hi
            · rw [e2 i hi] at hs
              obtain ⟨a1, a2, a3, a4⟩ := hDr.at_ i s hs
              exact ⟨a1, a2.congr (fun j hj => e2 j (by have := mem_canon.1 hj; omega)), fun hm => a3 (fun hm' => hm (by simp [hm'])), a4⟩
            · by_cases hie : i = ss.length
              · subst hie
                rw [en] at hs
                cases hs
                exact ⟨fun t ht => by have := hdst t ht; rw [ztt, hE.n] at this; exact this, hE2, fun hm => absurd (by simp) hm, fun τ' e => by
                  have e : he' = .ext τ' := e
                  rcases hNew with (h | h) | ⟨h, hs⟩
                  · rw [h] at e; cases e
                  · rw [h] at e; cases e
                  · rw [h] at e; cases e; exact hs⟩
              · rw [List.getElem?_append_right hi, show i - ss.length = (i - ss.length - 1) + 1 by omega, List.getElem?_cons_succ] at hs
                obtain ⟨a1, a2, a3, a4, a5⟩ := c1 _ s hs
                rw [show ss.length + 1 + (i - ss.length - 1) = i by omega] at a3 a4 a5
                exact ⟨fun t ht => by rw [← a2]; exact a1.dst t ht, ⟨a2, a3, a4, a5⟩, fun _ => a1, a1.ext⟩
          have hmap2 : full = (ss ++ ns :: ss').map Stp.o ++ l2 := by rw [hfs, e1]; simp [ns]
          have hop2 : ∀ (i : Nat) (s : Stp), (ss ++ ns :: ss')[i]? = some s → ops[ord.getD i 0]? = some s.o := fun i s hs => by
            have h1 := (List.getElem?_eq_some_iff.1 hs).1
            have h2 : full.length = (ss ++ ns :: ss').length + l2.length := by rw [hmap2]; simp; omega
            rw [← hfull _ (by omega), hmap2, List.getElem?_append_left (by rw [List.length_map]; exact h1), List.getElem?_map, hs]; rfl
          have hS3 : Stop X ops ord Q l2 (((ss ++ ns :: ss').map Stp.did).reverse) fr' σ' := by
            simp only [zap] at hS2
            rw [← he] at hS2
            simpa [ns, Stp.did] using hS2
          have hE3 : AtL (ss ++ ns :: ss') fr0 σ0 (yk (ss ++ ns :: ss').length) fr' σ' := by
            have : (ss ++ ns :: ss').length = ss.length + 1 + ss'.length := by simp; omega
            rw [this]
            exact ⟨c2.1, c2.2.1, c2.2.2.1, c2.2.2.2⟩
          have hR2 : R M' F' own' (frl.put o.dst c) τ (a.put o.dst v) w' := by
            cases hd : o.dst with
            | none => exact h1
            | some t => exact h1.put (by have := hdst t hd; rw [ztt, hE.n] at this; rw [hA.n]; exact this) h2
          exact ih _ _ (ss ++ ns :: ss') hl' (by simp; omega) hlt2 ⟨hat2, hop2, KeepC.app.2 ⟨hDr.keep, by rw [List.append_nil, he]; exact ⟨hkp, hkc⟩⟩⟩ hmap2 hS3 hE3 hA2 (by rw [show ns.he.app σl = τ from hap]; exact hR2) (hk.trans h3)
        · exact ⟨.pan c, M', F, own', zey ops frE, τ, ⟨h2, h3, h4⟩, hK.t, ⟨h1.toRg, zuv hDr hA hE h1⟩, hk.trans h5⟩
structure Told (X : Ctx) (ops : Array Oper) (fr : Fr) (p : Nat) : Prop where
  h : ∃ o c le he frp σp, ops[p]? = some o ∧ o.guard = none ∧ qLE le = true ∧ qHE he = true ∧ Tri X o frp σp c le he ∧ (∀ t, o.dst = some t → t < fr.n ∧ look fr.env t = c) ∧ fr.n = frp.n ∧ fr.locs = frp.locs ∧ ∀ x ∈ o.op.operands.toList, zk fr x = zk frp x
theorem zir {le : LE} (h : qLE le = true) (fr : Fr) : fr.app le = fr := by cases le <;> first | rfl | cases h
theorem z4n {he : HE} (h : qHE he = true) : he = .no := by cases he <;> first | rfl | cases h
theorem zkc {l : List Tmp} {d : Option Tmp} (h : z2v l d = false) {t : Tmp} (hd : d = some t) : ¬ t ∈ l := by
  subst hd
  intro hm
  simp only [z2v] at h
  have := List.any_eq_false.1 h t hm
  simp at this
theorem zaq {fr : Fr} {d : Option Tmp} {c : CV} {t : Nat} (h : d ≠ some t) : look (fr.put d c).env t = look fr.env t := by
  cases d with
  | none => rfl
  | some s =>
    show look ((s, c) :: fr.env) t = _
    rw [xa, if_neg (fun e => h (by rw [e]))]
theorem zoz {fr fr' : Fr} {o : Oper} (h : ∀ t, Operand.tmp t ∈ o.op.operands.toList → look fr'.env t = look fr.env t) : ∀ x ∈ o.op.operands.toList, zk fr' x = zk fr x := by
  intro x hx
  cases x with
  | tmp t => exact h t hx
  | const v => rfl
  | global g => rfl
  | func f => rfl
theorem zdd {o : Oper} {t : Nat} (h : Operand.tmp t ∈ o.op.operands.toList) : t ∈ Oper.reads ops o := by
  unfold Oper.reads
  refine List.mem_append.2 (.inl (List.mem_filterMap.2 ⟨_, h, rfl⟩))
theorem zuj {p : Nat} {o : Oper} (h : ops[p]? = some o) : zd0 ops p = Oper.reads ops o := by unfold zd0; rw [h]
theorem zgn {p : Nat} {o : Oper} (h : ops[p]? = some o) : k7 ops p = o.dst := by unfold k7; rw [h]; rfl
theorem Told.put {fr : Fr} {p : Nat} (h : Told X ops fr p) {d : Option Tmp} {c : CV} (h1 : ∀ t, d = some t → ¬ t ∈ zd0 ops p) (h2 : ∀ t, d = some t → k7 ops p ≠ some t) : Told X ops (fr.put d c) p := by
  obtain ⟨o, c0, le, he, frp, σp, a1, a0, a2, a3, a4, a5, a6, a7, a8⟩ := h.h
  refine ⟨⟨o, c0, le, he, frp, σp, a1, a0, a2, a3, a4, fun t ht => ?_, by rw [zg2]; exact a6, by rw [qd]; exact a7, fun x hx => ?_⟩⟩
  · rw [zg2, zaq (fun e => h2 t e (by rw [zgn a1]; exact ht))]; exact a5 t ht
  · rw [← a8 x hx]
    refine zoz (fun t ht => zaq fun e => ?_) x hx
    exact h1 t e (by rw [zuj a1]; exact zdd ht)
theorem zev (hX : X.ok) {σ : Heap} {k : Fr → Prop} {q : List Nat} (hd : ∀ i ∈ q, ∀ j ∈ q, i ≠ j → ∀ t, k7 ops i = some t → k7 ops j ≠ some t) : ∀ (l before : List Nat) {fr : Fr}, zkp X ops σ k l fr → zem ops l before = true → l.Nodup → (∀ i ∈ l, i ∈ q) →
    ∃ fr', k fr' ∧ fr'.n = fr.n ∧ fr'.locs = fr.locs ∧ (∀ p ∈ l, Told X ops fr' p) ∧ ∀ t, (∀ p ∈ l, k7 ops p ≠ some t) → look fr'.env t = look fr.env t
  | [], _, fr, h, _, _, _ => ⟨fr, h, rfl, rfl, by simp, fun _ _ => rfl⟩
  | i :: r, before, fr, h, hq, hn, hm => by
    have h : (match ops[i]? with
      | some o => zg0 X true o fr σ (fun v le he => isT (qLE le) <| isT (qHE he) <| qx fr le o.dst v (zkp X ops σ k r)) (fun _ _ => False)
      | none => False) := h
    simp only [zem, Bool.and_eq_true] at hq
    obtain ⟨hg, _, hr, hq'⟩ := hq
    cases ho : ops[i]? with
    | none => rw [ho] at h; exact h.elim
    | some o =>
      rw [ho] at h hg
      dsimp only at h hg
      have hgn : o.guard = none := by
        simp only [Bool.and_eq_true] at hg
        simpa using hg.1
      rcases zdl hX h with (⟨c, le, he, hK, hT⟩ | ⟨c, τ, hK, hT⟩) | ⟨e, _⟩
      · obtain ⟨h1, hK⟩ := zf hK
        obtain ⟨h2, hK⟩ := zf hK
        rw [zas, zir h1] at hK
        obtain ⟨hdst, hK⟩ := zbf hK
        have hnr := List.nodup_cons.1 hn
        obtain ⟨fr', b1, b2, b3, b4, b5⟩ := zev hX hd r _ hK hq' hnr.2 (fun j hj => hm j (by simp [hj]))
        have hno : ∀ t, t ∈ Oper.reads ops o → ∀ j ∈ i :: r, k7 ops j ≠ some t := fun t ht j hj e => by
          have := List.all_eq_true.1 hr j hj
          rw [zuj ho] at this
          exact zkc (by simpa using this) e ht
        refine ⟨fr', b1, by rw [b2, zg2], by rw [b3, qd], fun p hp => ?_, fun t ht => ?_⟩
        · rcases List.mem_cons.1 hp with rfl | hp
          · refine ⟨⟨o, c, le, he, fr, σ, ho, hgn, h1, h2, hT, fun t ht => ⟨by rw [b2, zg2]; exact hdst t ht, ?_⟩, by rw [b2, zg2], by rw [b3, qd], ?_⟩⟩
            · rw [b5 t (fun j hj => hd p (hm p (by simp)) j (hm j (by simp [hj])) (fun e => hnr.1 (e ▸ hj)) t (by rw [zgn ho]; exact ht)), ht]
              show look ((t, c) :: fr.env) t = c
              rw [xa, if_pos rfl]
            · refine zoz fun t ht => ?_
              rw [b5 t (fun j hj => hno t (zdd ht) j (by simp [hj])), zaq (by rw [← zgn ho]; exact hno t (zdd ht) p (by simp))]
          · exact b4 p hp
        · rw [b5 t (fun j hj => ht j (by simp [hj])), zaq (by rw [← zgn ho]; exact ht i (by simp))]
      · exact hK.elim
      · cases e
theorem R.sameFr {fr1 fr : Fr} {σ : Heap} {M : Mem} {F : FM} {own : Owns} {a : Act} {w : World} (h : R M F own fr1 σ a w) (hn : fr1.n = fr.n) (hl : fr1.locs = fr.locs) (he : ∀ t, look fr1.env t = look fr.env t) : R M F own fr σ a w :=
  ⟨h.toRg, by rw [← hn]; exact h.size, fun t => by rw [← he]; exact h.env t, by rw [← hl]; exact h.locs, by rw [← hl]; exact h.dom⟩
theorem zfx : ∀ (l before : List Nat), zem ops l before = true → l.Nodup ∧ (∀ i ∈ l, i < ops.size ∧ ¬ i ∈ before) ∧ ∀ (k : Nat) i, l[k]? = some i → ∀ o, ops[i]? = some o → ∀ e ∈ o.after.toList, Region.binds .any e = true → e.on ∈ before ∨ e.on ∈ l.take k
  | [], _, _ => ⟨List.nodup_nil, by simp, fun k i h => by simp at h⟩
  | i :: r, before, h => by
    simp only [zem, Bool.and_eq_true] at h
    obtain ⟨hg, hb, hr, hq'⟩ := h
    obtain ⟨n1, n2, n3⟩ := zfx r _ hq'
    cases ho : ops[i]? with
    | none => rw [ho] at hg; cases hg
    | some o =>
      rw [ho] at hg
      simp only [Bool.and_eq_true, List.all_eq_true] at hg
      refine ⟨List.nodup_cons.2 ⟨fun hm => (n2 i hm).2 (by simp), n1⟩, fun j hj => ?_, fun k j hk o' ho' e he hbd => ?_⟩
      · rcases List.mem_cons.1 hj with rfl | hj
        · refine ⟨(Array.getElem?_eq_some_iff.1 ho).1, fun hm => ?_⟩
          have : before.any (Nat.beq j) = true := List.any_eq_true.2 ⟨j, hm, Nat.beq_refl j⟩
          rw [this] at hb; cases hb
        · exact ⟨(n2 j hj).1, fun hm => (n2 j hj).2 (by simp [hm])⟩
      · cases k with
        | zero =>
          simp only [List.getElem?_cons_zero, Option.some.injEq] at hk
          subst hk
          rw [ho] at ho'
          cases ho'
          have := hg.2 e he
          rw [hbd] at this
          simp only [Bool.not_true, Bool.false_or] at this
          obtain ⟨x, hx, ex⟩ := List.any_eq_true.1 this
          exact .inl (by rw [Nat.eq_of_beq_eq_true ex]; exact hx)
        | succ k =>
          simp only [List.getElem?_cons_succ] at hk
          rcases n3 k j hk o' ho' e he hbd with h | h
          · rcases List.mem_append.1 h with h | h
            · exact .inl h
            · rw [List.mem_singleton.1 h]; exact .inr (by simp)
          · exact .inr (by rw [List.take_succ_cons]; exact List.mem_cons_of_mem _ h)
structure QOk (ops : Array Oper) (q : List Nat) : Prop where
  nd : q.Nodup
  lt : ∀ i ∈ q, i < ops.size
  dep : ∀ (k : Nat) i, q[k]? = some i → ∀ o, ops[i]? = some o → ∀ e ∈ o.after.toList, Region.binds .any e = true → e.on ∈ q.take k
  dst : ∀ i ∈ q, ∀ j, j < ops.size → i ≠ j → ∀ t, k7 ops i = some t → k7 ops j ≠ some t
  rd : ∀ i ∈ q, ∀ j, j < ops.size → i ≠ j → ∀ t, k7 ops i = some t → t ∈ zd0 ops j → ∃ o, ops[j]? = some o ∧ ∃ e ∈ o.after.toList, Region.binds .any e = true ∧ e.on = i
  wr : ∀ i ∈ q, ∀ j, j < ops.size → i ≠ j → ¬ j ∈ q → ∀ t, k7 ops j = some t → ¬ t ∈ zd0 ops i
  own : ∀ i ∈ q, ∀ t, k7 ops i = some t → ¬ t ∈ zd0 ops i
theorem zhr : ∀ (l before : List Nat), zem ops l before = true → ∀ i ∈ l, ∀ t, k7 ops i = some t → ¬ t ∈ zd0 ops i
  | [], _, _ => by simp
  | i :: r, before, h => by
    simp only [zem, Bool.and_eq_true] at h
    obtain ⟨hg, hb, hr, hq'⟩ := h
    intro j hj t ht
    rcases List.mem_cons.1 hj with rfl | hj
    · have := List.all_eq_true.1 hr j (by simp)
      exact zkc (by simpa using this) ht
    · exact zhr r _ hq' j hj t ht
theorem QOk.of {q : List Nat} (h : zch ops q = true) : QOk ops q := by
  simp only [zch, Bool.and_eq_true, List.all_eq_true, List.mem_range, Bool.or_eq_true, Bool.not_eq_true'] at h
  obtain ⟨hl, hp⟩ := h
  obtain ⟨n1, n2, n3⟩ := zfx _ _ hl
  have key : ∀ i ∈ q, ∀ j, j < ops.size → i ≠ j → z1z (k7 ops i) (k7 ops j) = false ∧ (z2v (zd0 ops j) (k7 ops i) = false ∨ z7h ops i j = true) ∧ (q.any (Nat.beq j) = true ∨ z2v (zd0 ops i) (k7 ops j) = false) := fun i hi j hj hne => by
    rcases hp j hj i hi with h | h
    · exact (hne (Nat.eq_of_beq_eq_true h)).elim
    · exact ⟨h.1, h.2.1, h.2.2⟩
  refine ⟨n1, fun i hi => (n2 i hi).1, fun k i hk o ho e he hb => ?_, fun i hi j hj hne t h1 h2 => ?_, fun i hi j hj hne t h1 h2 => ?_, fun i hi j hj hne hjq t h1 h2 => ?_, zhr _ _ hl⟩
  · rcases n3 k i hk o ho e he hb with h | h
    · simp at h
    · exact h
  · have := (key i hi j hj hne).1
    rw [h1, h2] at this
    simp [z1z] at this
  · rcases (key i hi j hj hne).2.1 with h | h
    · exact (zkc h h1 h2).elim
    · unfold z7h at h
      cases ho : ops[j]? with
      | none => rw [ho] at h; cases h
      | some o =>
        rw [ho] at h
        obtain ⟨e, he, hx⟩ := List.any_eq_true.1 h
        simp only [Bool.and_eq_true] at hx
        exact ⟨o, rfl, e, he, hx.1, Nat.eq_of_beq_eq_true hx.2⟩
  · rcases (key i hi j hj hne).2.2 with h | h
    · obtain ⟨x, hx, ex⟩ := List.any_eq_true.1 h
      exact hjq (by rw [Nat.eq_of_beq_eq_true ex]; exact hx)
    · exact zkc h h1 h2
theorem zro {P : Nat → Prop} : ∀ (q : List Nat), (∃ x ∈ q, P x) → ∃ (k : Nat) (x : Nat), q[k]? = some x ∧ P x ∧ ∀ y ∈ q.take k, ¬ P y
  | [], h => by obtain ⟨x, hx, _⟩ := h; simp at hx
  | y :: r, h => by
    by_cases hy : P y
    · exact ⟨0, y, rfl, hy, by simp⟩
    · obtain ⟨x, hx, hp⟩ := h
      rcases List.mem_cons.1 hx with rfl | hx
      · exact (hy hp).elim
      · obtain ⟨k, z, h1, h2, h3⟩ := zro r ⟨x, hx, hp⟩
        refine ⟨k + 1, z, by simpa using h1, h2, fun u hu => ?_⟩
        rw [List.take_succ_cons] at hu
        rcases List.mem_cons.1 hu with rfl | hu
        · exact hy
        · exact h3 u hu
theorem zuh {done : List Nat} {i : Nat} {o : Oper} (ho : ops[i]? = some o) (hn : ¬ i ∈ done) (he : ∀ e ∈ o.after.toList, Region.binds .any e = true → e.on ∈ done) : i ∈ zc4 ops done := by
  unfold zc4
  rw [List.mem_filter, List.mem_range]
  refine ⟨(Array.getElem?_eq_some_iff.1 ho).1, ?_⟩
  unfold zui
  rw [ho]
  simp only [Bool.and_eq_true, Bool.not_eq_true', List.all_eq_true, Bool.or_eq_true]
  refine ⟨List.any_eq_false.2 fun x hx hb => hn (by rw [Nat.eq_of_beq_eq_true hb]; exact hx), fun e h => ?_⟩
  cases hb : Region.binds .any e with
  | false => exact .inl rfl
  | true => exact .inr (List.any_eq_true.2 ⟨_, he e h hb, Nat.beq_refl _⟩)
theorem QT.run (hX : X.ok) {q : List Nat} (hq : QOk ops q) : ∀ (m n : Nat) (done pend : List Nat) {fr fr1 : Fr} {σ : Heap}, m = n + pend.length → zed X ops n done fr σ Q → done.Nodup → (∀ j ∈ done, j < ops.size) → done.length + n = ops.size →
    pend.Nodup → (∀ p ∈ pend, p ∈ q) → (∀ i ∈ q, i ∈ done) → (∀ p ∈ pend, Told X ops fr p) → fr1.n = fr.n → fr1.locs = fr.locs → (∀ t, (∀ p ∈ pend, k7 ops p ≠ some t) → look fr1.env t = look fr.env t) →
    ∀ {listed : Array Bool}, listed.size = ops.size → (∀ j, j < ops.size → (listed.getD j true = true ↔ j ∈ done ∧ ¬ j ∈ pend)) → ∀ {M : Mem} {F : FM} {own : Owns} {a : Act} {w : World}, R M F own fr1 σ a w → KD DD a M0 own0 w0 M own w → wpAny X.P .any ops (ztw DD M0 own0 w0 Q) m listed a w := by
  intro m
  induction m with
  | zero =>
    intro n done pend fr fr1 σ hm h hnd hlt hl hpn hpq hqd hto hn1 hl1 he1 listed hs hd M F own a w hR hk
    have hn0 : n = 0 := by omega
    have hp0 : pend = [] := List.eq_nil_of_length_eq_zero (by omega)
    subst hn0; subst hp0
    refine ⟨List.eq_nil_iff_forall_not_mem.2 fun i hi => ?_, ⟨.normal, M, F, own, fr, σ, trivial, h, hR.sameFr hn1 hl1 (fun t => he1 t (by simp)), hk⟩⟩
    obtain ⟨h1, h2, _⟩ := mem_ready.1 hi
    have := zbg ops.size done hnd hlt (by omega) i h1
    rw [(hd i h1).2 ⟨this, by simp⟩] at h2
    cases h2
  | succ m ih =>
    intro n done pend fr fr1 σ hm h hnd hlt hl hpn hpq hqd hto hn1 hl1 he1 listed hs hd M F own a w hR hk
    have hon : ∀ k, listed.getD k false = true → k ∈ done ∧ ¬ k ∈ pend := by
      intro k hk
      rcases Nat.lt_or_ge k ops.size with h | h
      · rw [← zdf (by omega)] at hk; exact (hd k h).1 hk
      · simp [Array.getD, show ¬ k < listed.size by omega] at hk
    have agr : ∀ i, i ∈ Region.ready .any ops listed → ∀ o, ops[i]? = some o → ∀ x ∈ o.op.operands.toList, zk fr1 x = zk fr x := by
      intro i hi o ho
      obtain ⟨h1, h2, o', ho', hdep⟩ := mem_ready.1 hi
      rw [ho] at ho'
      cases ho'
      refine zoz fun t ht => he1 t fun p hp e => ?_
      have htr : t ∈ zd0 ops i := by rw [zuj ho]; exact zdd ht
      by_cases hpi : p = i
      · subst hpi; exact hq.own p (hpq p hp) t e htr
      · obtain ⟨o2, ho2, e2, he2, hb, hx⟩ := hq.rd p (hpq p hp) i h1 hpi t e htr
        rw [ho] at ho2
        cases ho2
        have := hon _ (hdep e2 he2 hb)
        rw [hx] at this
        exact this.2 hp
    refine ⟨fun hr => ?_, fun i hi => ?_⟩
    · exfalso
      have hno : ∀ i, ¬ i ∈ Region.ready .any ops listed := fun i hi => by rw [hr] at hi; simp at hi
      by_cases hpe : pend = []
      · subst hpe
        obtain ⟨n', rfl⟩ : ∃ n', n = n' + 1 := ⟨m, by simpa using hm.symm⟩
        have h : zeu (zc4 ops done) (fun rd => z3p (fun i => match ops[i]? with
          | some o => match o.guard with
            | none => zg0 X false o fr σ (fun v le he => isT (qLE le) <| qx fr le o.dst v fun fr => zxk σ he fun σ => zed X ops n' (i :: done) fr σ Q) (fun _ _ => False)
            | some _ => False
          | none => False) rd) := h
        rw [zdg] at h
        obtain ⟨i, hi⟩ := List.exists_mem_of_ne_nil _ (zds h).1
        exact hno i ((zfw hs (fun j hj => by rw [hd j hj]; simp) hlt i).2 hi)
      · obtain ⟨p0, hp0⟩ := List.exists_mem_of_ne_nil _ hpe
        obtain ⟨k, p, hk1, hp, hmin⟩ := zro (P := fun x => x ∈ pend) q ⟨p0, hpq p0 hp0, hp0⟩
        obtain ⟨o, _, _, _, _, _, ho, _⟩ := (hto p hp).h
        have hps := (Array.getElem?_eq_some_iff.1 ho).1
        refine hno p (mem_ready.2 ⟨hps, ?_, o, ho, fun e he hb => ?_⟩)
        · rw [← Bool.not_eq_true]; intro hx; exact ((hd p hps).1 hx).2 hp
        · have hm := hq.dep k p hk1 o ho e he hb
          have hmq := List.mem_of_mem_take hm
          have hlt' := hq.lt _ hmq
          rw [← zdf (by omega)]
          exact (hd _ hlt').2 ⟨hqd _ hmq, hmin _ hm⟩
    · have hag := agr i hi
      obtain ⟨h1, h2, o, ho, hdep⟩ := mem_ready.1 hi
      have hag := hag o ho
      by_cases hp : i ∈ pend
      · obtain ⟨o', c, le, he, frp, σp, ho', hg, l1, l2, hT, hdc, hn, hlo, hop⟩ := (hto i hp).h
        rw [ho] at ho'
        cases ho'
        have hw : Region.wanted o (yielded ops a.tmps) = true := by simp [Region.wanted, hg]
        simp only [wpOp, ho]
        rw [if_pos hw]
        have hhe := z4n l2
        subst hhe
        refine .inl (hT.2 hR (by rw [hn1, hn]) (fun x hx => by rw [hag x hx, hop x hx]) (fun d _ => by rw [hl1, hlo]) True.intro fun v M' F' own' w' g1 g2 g3 _ => ?_)
        have g1 : R M' F' own' fr1 σ a w' := by rw [zir l1] at g1; exact g1
        have hR2 : R M' F' own' (fr1.put o.dst c) σ (a.put o.dst v) w' := by
          cases hdo : o.dst with
          | none => exact g1
          | some t => exact g1.put (by rw [hn1]; exact (hdc t hdo).1) g2
        have hmem : ∀ x, x ∈ pend.erase i ↔ x ≠ i ∧ x ∈ pend := fun x => hpn.mem_erase_iff
        refine ih n done (pend.erase i) (by rw [List.length_erase_of_mem hp]; have := List.length_pos_of_mem hp; omega) h hnd hlt hl (hpn.erase i) (fun p hp' => hpq p ((hmem p).1 hp').2) hqd (fun p hp' => hto p ((hmem p).1 hp').2) (by rw [zg2]; exact hn1) (by rw [qd]; exact hl1) (fun t ht => ?_) (by simpa using hs) (fun j hj => ?_) hR2 ((hk.trans g3).put _ _)
        · by_cases hd' : o.dst = some t
          · rw [(hdc t hd').2, hd']
            show look ((t, c) :: fr1.env) t = c
            rw [xa, if_pos rfl]
          · rw [zaq hd']
            refine he1 t fun p hp' => ?_
            by_cases hpi : p = i
            · subst hpi; rw [zgn ho]; exact hd'
            · exact ht p ((hmem p).2 ⟨hpi, hp'⟩)
        · rw [hmem]
          by_cases hji : j = i
          · subst hji
            have : j ∈ done := hqd j (hpq j hp)
            simp [Array.getD, hs, hj, this]
          · have := hd j hj
            simp [Array.getD, hs, hj, Array.getElem_setIfInBounds, Ne.symm hji] at this ⊢
            rw [this]; simp [hji]
      · have hnd' : ¬ i ∈ done := fun hm => by rw [(hd i h1).2 ⟨hm, hp⟩] at h2; cases h2
        have hnq : ¬ i ∈ q := fun hm => hnd' (hqd i hm)
        obtain ⟨n', rfl⟩ : ∃ n', n = n' + 1 := by
          cases n with
          | succ n' => exact ⟨n', rfl⟩
          | zero => exact (hnd' (zbg ops.size done hnd hlt (by omega) i h1)).elim
        have h : zeu (zc4 ops done) (fun rd => z3p (fun i => match ops[i]? with
          | some o => match o.guard with
            | none => zg0 X false o fr σ (fun v le he => isT (qLE le) <| qx fr le o.dst v fun fr => zxk σ he fun σ => zed X ops n' (i :: done) fr σ Q) (fun _ _ => False)
            | some _ => False
          | none => False) rd) := h
        rw [zdg] at h
        have hx := (zds h).2 i (zuh ho hnd' fun e he hb => (hon _ (hdep e he hb)).1)
        rw [ho] at hx
        dsimp only at hx
        split at hx
        · rename_i hg
          have hw : Region.wanted o (yielded ops a.tmps) = true := by simp [Region.wanted, hg]
          simp only [zas, zgv] at hx
          simp only [wpOp, ho]
          rw [if_pos hw]
          have go : ∀ {c : CV} {le : LE} {he : HE} {τ : Heap} {v : Value} {M' : Mem} {F' : FM} {own' : Owns} {w' : World}, isT (qLE le) (putN (fr.app le) o.dst c fun fr => zed X ops n' (i :: done) fr (he.app σ) Q) → he.app σ = τ → R M' F' own' fr1 τ a w' → Rep M' F' v c → KExt M own w M' own' w' →
              wpAny X.P .any ops (ztw DD M0 own0 w0 Q) m (listed.setIfInBounds i true) (a.put o.dst v) w' := by
            intro c le he τ v M' F' own' w' hK hτ g1 g2 g3
            obtain ⟨l1, hK⟩ := zf hK
            rw [zir l1] at hK
            obtain ⟨hdst, hK⟩ := zbf hK
            rw [hτ] at hK
            have hR2 : R M' F' own' (fr1.put o.dst c) τ (a.put o.dst v) w' := by
              cases hdo : o.dst with
              | none => exact g1
              | some t => exact g1.put (by rw [hn1]; exact hdst t hdo) g2
            refine ih n' (i :: done) pend (by omega) hK (List.nodup_cons.2 ⟨hnd', hnd⟩) (fun j hj => ?_) (by simp; omega) hpn hpq (fun j hj => List.mem_cons_of_mem _ (hqd j hj)) (fun p hp' => (hto p hp').put (fun t ht => ?_) fun t ht => ?_) (by rw [zg2, zg2]; exact hn1) (by rw [qd, qd]; exact hl1) (fun t ht => ?_) (by simpa using hs) (fun j hj => ?_) hR2 ((hk.trans g3).put _ _)
            · rcases List.mem_cons.1 hj with rfl | hj
              · exact h1
              · exact hlt j hj
            · exact hq.wr p (hpq p hp') i h1 (fun e => hp (e ▸ hp')) hnq t (by rw [zgn ho]; exact ht)
            · intro e
              exact hq.dst p (hpq p hp') i h1 (fun e => hp (e ▸ hp')) t e (by rw [zgn ho]; exact ht)
            · by_cases hd' : o.dst = some t
              · rw [hd']
                show look ((t, c) :: fr1.env) t = look ((t, c) :: fr.env) t
                rw [xa, xa, if_pos rfl, if_pos rfl]
              · rw [zaq hd', zaq hd']; exact he1 t ht
            · rw [List.mem_cons]
              by_cases hji : j = i
              · subst hji; simp [Array.getD, hs, hj, hp]
              · have := hd j hj
                simp [Array.getD, hs, hj, Array.getElem_setIfInBounds, Ne.symm hji, hji] at this ⊢
                rw [this]
          rcases zdl hX hx with (⟨c, le, he, hK, hT⟩ | ⟨c, τ, hK, hT⟩) | ⟨_, hN⟩
          · refine .inl (hT.2 hR (by rw [hn1]) hag (fun d _ => by rw [hl1]) (HAgree.refl he σ) fun v M' F' own' w' g1 g2 g3 _ => ?_)
            obtain ⟨l1, _⟩ := zf hK
            rw [zir l1] at g1
            exact go hK rfl g1 g2 g3
          · exact hK.elim
          · refine .inl (hN hR (by rw [hn1]) hag rfl (fun v c τ he M' F' own' w' h0 hK g1 g2 g3 _ => ?_) fun p c τ M' own' w' hK _ _ _ _ _ => hK.elim)
            exact go hK (by rcases h0 with (rfl | rfl) | ⟨rfl, _⟩ <;> rfl) g1 g2 g3
        · exact hx.elim
end
theorem zkt {X : Ctx} (hX : X.ok) (hm : X.P.follows .mixedOrders = true) : ji X := by
  intro id ops fr σ Q h M F own a w DD M0 own0 w0 hR hk
  refine wp_region_any hm ?_
  have hR0 := hR.drawn (w.drawn + 1)
  have hk0 : KD DD a M0 own0 w0 M own { w with drawn := w.drawn + 1 } := ⟨⟨hk.k.mem, hk.k.size, hk.k.os, hk.k.tape, hk.k.output, hk.k.keep⟩, hk.d⟩
  have hcase : (match X.ord (id + 200000) with
    | some q => exQ X ops q fr σ Q
    | none => zeu (zu0 X id ops) fun ord => zni ((zw3 X id ord).filterMap fun i => ops[i]?) fun l => qo X ops ord l [] fr σ Q) := h
  clear h
  split at hcase
  · rename_i q _
    obtain ⟨hqk, h⟩ : zch ops q = true ∧ zkp X ops σ (fun fr => zed X ops (ops.size - q.length) q fr σ Q) q fr := ⟨hcase.c, hcase.t⟩
    have hq := QOk.of hqk
    simp only [zch, Bool.and_eq_true] at hqk
    obtain ⟨fr', b1, b2, b3, b4, b5⟩ := zev hX (fun i hi j hj hne t => hq.dst i hi j (hq.lt j hj) hne t) q [] h hqk.1 hq.nd (fun i hi => hi)
    have hql : q.length ≤ ops.size := by
      have := List.Nodup.length_le_of_subset hq.nd (l₂ := List.range ops.size) fun x hx => List.mem_range.2 (hq.lt x hx)
      simpa using this
    exact QT.run (M0 := M0) (own0 := own0) (w0 := w0) hX hq ops.size (ops.size - q.length) q q (by omega) b1 hq.nd hq.lt (by omega) hq.nd (fun _ h => h) (fun _ h => h) b4 b2.symm b3.symm (fun t ht => (b5 t ht).symm) (by simp) (fun j hj => by simp [Array.getD, hj]) hR0 hk0
  have h : qo X ops (zu0 X id ops) ((zw3 X id (zu0 X id ops)).filterMap fun i => ops[i]?) [] fr σ Q := by
    rw [zdg, znh] at hcase
    exact hcase
  clear hcase
  generalize zu0 X id ops = ord at h
  obtain ⟨ss, fr', σ', l', e1, hC, hS, hkc⟩ := zcp hX _ [] h
  simp only [zap, List.append_nil] at hS
  obtain ⟨D, nD, hT⟩ := hS.tch
  obtain ⟨r, hO⟩ := v8 (xd hT.ok).1
  obtain ⟨cn, hcn⟩ : ∃ cn, zw3 X id ord = ord.take cn := by
    unfold zw3
    split
    · exact ⟨_, rfl⟩
    · exact ⟨ord.length, (List.take_length).symm⟩
  rw [hcn] at e1
  obtain ⟨f1, f2⟩ := zdj (ops := ops) (ord.take cn) (fun i hi => z0p hO i (List.mem_of_mem_take hi))
  have hfull : ∀ p, p < ((ord.take cn).filterMap fun i => ops[i]?).length → ((ord.take cn).filterMap fun i => ops[i]?)[p]? = ops[ord.getD p 0]? := by
    intro p hp
    rw [f1] at hp
    have hp2 : p < ord.length := by rw [List.length_take] at hp; omega
    rw [f2, List.getElem?_take, if_pos (by rw [List.length_take] at hp; omega), List.getD_eq_getElem?_getD, List.getElem?_eq_getElem hp2]; rfl
  have hfl : ((ord.take cn).filterMap fun i => ops[i]?).length ≤ ops.size := by rw [f1, List.length_take, hO.len]; omega
  obtain ⟨c1, c2⟩ := Chain.at_ (all := ss) (fr0 := fr) (σ0 := σ) 0 hC (fun i => by simp) ⟨rfl, fun _ => rfl, fun _ => rfl, rfl⟩
  simp only [Nat.zero_add] at c1 c2
  have hlen : ss.length ≤ ops.size := Nat.le_trans hT.le (xd hT.ok).2
  refine Dr.run (M0 := M0) (own0 := own0) (w0 := w0) hX hfull hfl ops.size _ [] ss (.init ops ord hO) (by simp) (by simp) ⟨fun i s hs => ?_, fun i s hs => ?_, hkc⟩ e1 hS ⟨c2.1, c2.2.1, c2.2.2.1, c2.2.2.2⟩ (.nil ss fr σ) hR0 hk0
  · obtain ⟨a1, a2, a3, a4, a5⟩ := c1 i s hs
    exact ⟨fun t ht => by rw [← a2]; exact a1.dst t ht, ⟨a2, a3, a4, a5⟩, fun _ => a1, a1.ext⟩
  · have h1 := (List.getElem?_eq_some_iff.1 hs).1
    rw [← hfull i (by rw [e1]; simp; omega), e1, List.getElem?_append_left (by rw [List.length_map]; exact h1), List.getElem?_map, hs]; rfl
end Go.CL
