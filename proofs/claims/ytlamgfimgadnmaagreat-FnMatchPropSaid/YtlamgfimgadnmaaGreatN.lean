/-
  Contracts of the functions that the law reaches.
-/
import Derived.Test.YtlamgfimgadnmaaGreatL
import Derived.Test.YtlamgfimgadnmaaGreatK
set_option linter.unusedVariables false
set_option linter.unusedSimpArgs false
namespace Go.Proofs.YtlamgfimgadnmaaGreat
open Go Go.CL
set_option maxRecDepth 10000
theorem OC.rd {s : Heap} {T sz l0 : Nat} {bs : List CV} {q : Int} {c : CV} {xs : List CV} (h : OC s T sz c xs) (hf : ∀ l n cap, c = .grow l n cap → l ≠ l0) : OC (rd s l0 bs q) T sz c xs := by
  cases h with
  | nil => exact .nil
  | vec _ => exact .vec _
  | grow l' n cap' _ hn h => exact .grow l' n cap' _ hn (x8 h (hf _ _ _ rfl))
def z0k (σ : Heap) (l0 : Nat) (bs : List CV) (q : Int) (cN : CV) (ns : List Nd) (es : List Ed) (nn ne : Int) (out : COut) : Prop := ∃ s' cE' es' ne' b, GI σ l0 s' cN cE' ns es' ∧ (∀ xs, cE' = .vec xs → False) ∧ es'.length ≤ es.length + 1 ∧ ne ≤ ne' ∧ ne' ≤ ne + 1 ∧
  out = .ret (.tup [.agg [cN, cE', i64 nn, i64 ne'], .sc (.bool b)]) (rd s' l0 bs q)
section
variable {σ s : Heap} {l0 lx n cap : Nat} {bs : List CV} {q : Int} {cN cE : CV} {ns : List Nd} {es : List Ed} {nn ne a b' : Int} {b : Bool} {kd : ByteArray} {ps : List Pr} {xs : List CV}
theorem zdt (h : GI σ l0 s cN cE ns es) (hv : ∀ xs, cE = .vec xs → False) : z0k σ l0 bs q cN ns es nn ne (.ret (.tup [.agg [cN, cE, i64 nn, i64 ne], .sc (.bool b)]) (rd s l0 bs q)) :=
  ⟨s, cE, es, ne, b, h, hv, by omega, by omega, by omega, rfl⟩
theorem zqc (h : GI σ l0 s cN cE ns es) (hx : EdTame ⟨ne, kd, a, b', ps⟩) (f1 : σ lx = none) (f2 : lx ≠ l0) (hd : ∀ n cap, cN = .grow lx n cap → False) (hxs : xs = eds es ++ [Ed.cv ⟨ne, kd, a, b', ps⟩]) (hn : n = es.length + 1) :
    z0k σ l0 bs q cN ns es nn ne (.ret (.tup [.agg [cN, .grow lx n cap, i64 nn, i64 (ne + 1)], .sc (.bool b)]) (upd (rd s l0 bs q) lx (.arr 32 5 cap xs))) := by
  rw [zbe f2]
  exact ⟨_, _, _, ne + 1, b, h.putE hx hxs (by rw [hn, hxs, List.length_append, ye]; rfl) f1 f2 hd, fun xs e => (by cases e), by simp, by omega, by omega, rfl⟩
theorem zfk (h : GI σ l0 s cN cE ns es) (hx : EdTame ⟨ne, kd, a, b', ps⟩) (hl : rd s l0 bs q lx = none) (hxs : xs = eds es ++ [Ed.cv ⟨ne, kd, a, b', ps⟩]) (hn : n = es.length + 1) :
    z0k σ l0 bs q cN ns es nn ne (.ret (.tup [.agg [cN, .grow lx n cap, i64 nn, i64 (ne + 1)], .sc (.bool b)]) (upd (rd s l0 bs q) lx (.arr 32 5 cap xs))) :=
  zqc h hx (x9 h.sub hl) (zca hl) (h.freshN (zf4 hl)) hxs hn
end
set_option maxHeartbeats 8000000 in
theorem zxp {σ s : Heap} {l0 : Nat} {bs : List CV} {q : Int} {cN cE : CV} {ns : List Nd} {es : List Ed} {nn ne a b' : Int} {kd : ByteArray} {ps : List Pr} (hG : GI σ l0 s cN cE ns es) (hx : EdTame ⟨ne, kd, a, b', ps⟩) (hln : ns.length ≤ 100) (hle : es.length ≤ 100) (hne : 0 ≤ ne ∧ ne ≤ 1000000) (hv : ∀ xs, cE = .vec xs → False) :
    CRun Tryz.prog 95 [.agg [cN, cE, i64 nn, i64 ne], .sc (.string kd), i64 a, i64 b', .vec (prs ps)] (rd s l0 bs q) (z0k σ l0 bs q cN ns es nn ne) := by
  have c1 := split (zb6 (σ := rd s l0 bs q) (t := kd) (by have := hx.kind; dsimp only at this; omega))
  have c2 := split (zde (σ := rd s l0 bs q) hx.pl hx.ps)
  have c3 := znb (σ := rd s l0 bs q) hx.pl (fun p hp => (hx.ps p hp).val)
  have e3 := ye es
  have oN := hG.oN
  have oE := hG.oE
  have c4 := fun d => z2d (H := rd s l0 bs q) (nn := nn) (ne := ne) (d := d) (oN.rd fun l n cap e => (hG.fN l n cap e).2) (oE.rd fun l n cap e => (hG.fE l n cap e).2) (by omega) (fun xs e => hG.vN xs e)
  dsimp only at c1 c2 c3
  generalize hxs : nds ns = xs at oN
  generalize hys : eds es = ys at oE e3
  have z0 : ([] : List CV).length = 0 := rfl
  cases oE with
  | nil =>
    cases oN with
    | vec _ => exact (hG.vN _ rfl).elim
    | nil =>
      refine ZG [55] Tryz.func95 Tryz.ntmps95 ?_
      conv => whnf
      repeat' (first | (refine CallN.many c1 ?_; rintro _ (⟨hla, rfl⟩ | ⟨hla, rfl⟩)) | (refine CallN.many c2 ?_; rintro _ (⟨hpr, rfl⟩ | ⟨hpr, rfl⟩)) | ((refine CallN.many0 (c4 ?_) ?_ (hs := ?hs); (case hs => (repeat' (first | with_reducible exact ke | with_reducible apply wm | ((conv => enter [1, 1]; whnf); first | with_reducible exact ke | with_reducible apply wm | ((with_reducible refine Eq.trans zli ?_); rfl) | ((with_reducible refine Eq.trans zek ?_); rfl) | ((with_reducible refine Eq.trans zbc ?_); rfl) | ((with_reducible refine Eq.trans zei ?_); rfl) | ((with_reducible refine Eq.trans zbd ?_); rfl) | ((with_reducible refine Eq.trans zej ?_); rfl) | with_reducible apply zel)))); rintro _ ⟨kk, rfl⟩)) | (refine ZC c3 ?_) | (refine AllocC.go (fun l2 cap2 hl2 hcap2 => ?_)) | (refine Need.go ?_ (h := ⟨by simp only [List.length_cons, List.length_nil]; omega, by simp only [List.length_cons, List.length_nil]; omega, ElsOk.one rfl rfl⟩)) | (refine ZT ?_) | refine Zi ?_ | refine Zb ?_ | refine Zg ?_ | refine Zv (fun h => ?_) (fun h => ?_) | refine Zm ?_ | refine Zn ?_ | refine Zp ?_) <;> try (conv => whnf)
      all_goals first
        | exact zdt hG hv
        | exact zfk hG hx hl2 (by rw [hys]; rfl) (by have := e3; rw [z0] at this; simp only [List.length_cons, List.length_nil]; omega)
        | (exfalso; omega)
    | grow lN n capN _ hn gN =>
      refine ZG [55] Tryz.func95 Tryz.ntmps95 ?_
      conv => whnf
      repeat' (first | (refine CallN.many c1 ?_; rintro _ (⟨hla, rfl⟩ | ⟨hla, rfl⟩)) | (refine CallN.many c2 ?_; rintro _ (⟨hpr, rfl⟩ | ⟨hpr, rfl⟩)) | ((refine CallN.many0 (c4 ?_) ?_ (hs := ?hs); (case hs => (repeat' (first | with_reducible exact ke | with_reducible apply wm | ((conv => enter [1, 1]; whnf); first | with_reducible exact ke | with_reducible apply wm | ((with_reducible refine Eq.trans zli ?_); rfl) | ((with_reducible refine Eq.trans zek ?_); rfl) | ((with_reducible refine Eq.trans zbc ?_); rfl) | ((with_reducible refine Eq.trans zei ?_); rfl) | ((with_reducible refine Eq.trans zbd ?_); rfl) | ((with_reducible refine Eq.trans zej ?_); rfl) | with_reducible apply zel)))); rintro _ ⟨kk, rfl⟩)) | (refine ZC c3 ?_) | (refine AllocC.go (fun l2 cap2 hl2 hcap2 => ?_)) | (refine Need.go ?_ (h := ⟨by simp only [List.length_cons, List.length_nil]; omega, by simp only [List.length_cons, List.length_nil]; omega, ElsOk.one rfl rfl⟩)) | (refine ZT ?_) | refine Zi ?_ | refine Zb ?_ | refine Zg ?_ | refine Zv (fun h => ?_) (fun h => ?_) | refine Zm ?_ | refine Zn ?_ | refine Zp ?_) <;> try (conv => whnf)
      all_goals first
        | exact zdt hG hv
        | exact zfk hG hx hl2 (by rw [hys]; rfl) (by have := e3; rw [z0] at this; simp only [List.length_cons, List.length_nil]; omega)
        | (exfalso; omega)
  | vec _ => exact (hv _ rfl).elim
  | grow lE m cap _ hm gE =>
    cases oN with
    | vec _ => exact (hG.vN _ rfl).elim
    | nil =>
      have hE := hG.fE lE m cap rfl
      have hdj := fun lN n cap' => hG.dj lN n cap' m cap
      have gE' := x8 (q := q) (bs := bs) gE hE.2
      refine ZG [55] Tryz.func95 Tryz.ntmps95 ?_
      conv => whnf
      repeat' (first | (refine CallN.many c1 ?_; rintro _ (⟨hla, rfl⟩ | ⟨hla, rfl⟩)) | (refine CallN.many c2 ?_; rintro _ (⟨hpr, rfl⟩ | ⟨hpr, rfl⟩)) | ((refine CallN.many0 (c4 ?_) ?_ (hs := ?hs); (case hs => (repeat' (first | with_reducible exact ke | with_reducible apply wm | ((conv => enter [1, 1]; whnf); first | with_reducible exact ke | with_reducible apply wm | ((with_reducible refine Eq.trans zli ?_); rfl) | ((with_reducible refine Eq.trans zek ?_); rfl) | ((with_reducible refine Eq.trans zbc ?_); rfl) | ((with_reducible refine Eq.trans zei ?_); rfl) | ((with_reducible refine Eq.trans zbd ?_); rfl) | ((with_reducible refine Eq.trans zej ?_); rfl) | with_reducible apply zel)))); rintro _ ⟨kk, rfl⟩)) | (refine ZC c3 ?_) | (refine AllocC.go (fun l2 cap2 hl2 hcap2 => ?_)) | (refine Need.go ?_ (h := ⟨rfl, by omega, by simp only [List.length_cons, List.length_nil]; omega, by simp only [List.length_cons, List.length_nil]; omega, ElsOk.one rfl rfl⟩)) | (refine ZT ?_) | refine Zi ?_ | refine Zb ?_ | refine Zg ?_ | refine Zv (fun h => ?_) (fun h => ?_) | refine Zj ?_ | refine Zm ?_ | refine Zn ?_ | refine Zp ?_) <;> try (conv => whnf)
      all_goals first
        | exact zdt hG hv
        | exact zqc hG hx hE.1 hE.2 (fun n' cap' e => hdj lE n' cap' e rfl) ((yj hm _ _).trans (by rw [hys]; rfl)) (by simp only [List.length_cons, List.length_nil]; omega)
        | exact zfk hG hx hl2 ((yc hm _).trans (by rw [hys]; rfl)) (by simp only [List.length_cons, List.length_nil]; omega)
    | grow lN n capN _ hn gN =>
      have hE := hG.fE lE m cap rfl
      have hdj := fun lN n cap' => hG.dj lN n cap' m cap
      have gE' := x8 (q := q) (bs := bs) gE hE.2
      refine ZG [55] Tryz.func95 Tryz.ntmps95 ?_
      conv => whnf
      repeat' (first | (refine CallN.many c1 ?_; rintro _ (⟨hla, rfl⟩ | ⟨hla, rfl⟩)) | (refine CallN.many c2 ?_; rintro _ (⟨hpr, rfl⟩ | ⟨hpr, rfl⟩)) | ((refine CallN.many0 (c4 ?_) ?_ (hs := ?hs); (case hs => (repeat' (first | with_reducible exact ke | with_reducible apply wm | ((conv => enter [1, 1]; whnf); first | with_reducible exact ke | with_reducible apply wm | ((with_reducible refine Eq.trans zli ?_); rfl) | ((with_reducible refine Eq.trans zek ?_); rfl) | ((with_reducible refine Eq.trans zbc ?_); rfl) | ((with_reducible refine Eq.trans zei ?_); rfl) | ((with_reducible refine Eq.trans zbd ?_); rfl) | ((with_reducible refine Eq.trans zej ?_); rfl) | with_reducible apply zel)))); rintro _ ⟨kk, rfl⟩)) | (refine ZC c3 ?_) | (refine AllocC.go (fun l2 cap2 hl2 hcap2 => ?_)) | (refine Need.go ?_ (h := ⟨rfl, by omega, by simp only [List.length_cons, List.length_nil]; omega, by simp only [List.length_cons, List.length_nil]; omega, ElsOk.one rfl rfl⟩)) | (refine ZT ?_) | refine Zi ?_ | refine Zb ?_ | refine Zg ?_ | refine Zv (fun h => ?_) (fun h => ?_) | refine Zj ?_ | refine Zm ?_ | refine Zn ?_ | refine Zp ?_) <;> try (conv => whnf)
      all_goals first
        | exact zdt hG hv
        | exact zqc hG hx hE.1 hE.2 (fun n' cap' e => hdj lE n' cap' e rfl) ((yj hm _ _).trans (by rw [hys]; rfl)) (by simp only [List.length_cons, List.length_nil]; omega)
        | exact zfk hG hx hl2 ((yc hm _).trans (by rw [hys]; rfl)) (by simp only [List.length_cons, List.length_nil]; omega)
theorem GI.shN {σ s : Heap} {l0 : Nat} {cN cE : CV} {ns : List Nd} {es : List Ed} (h : GI σ l0 s cN cE ns es) : (cN = .nil ∧ ns = []) ∨ ∃ l n cap, cN = .grow l n cap ∧ n = ns.length ∧ s l = some (.arr 79 3 cap (nds ns)) := by
  have o := h.oN
  generalize hx : nds ns = xs at o
  cases o with
  | nil => exact .inl ⟨rfl, by cases ns with | nil => rfl | cons a r => simp [nds] at hx⟩
  | vec _ => exact (h.vN _ rfl).elim
  | grow l n cap _ hn hg => exact .inr ⟨l, n, cap, rfl, by rw [hn, ← hx, ym], hg⟩
theorem GI.shE {σ s : Heap} {l0 : Nat} {cN cE : CV} {ns : List Nd} {es : List Ed} (h : GI σ l0 s cN cE ns es) (hv : ∀ xs, cE = .vec xs → False) : cE = .nil ∨ ∃ l n cap, cE = .grow l n cap := by
  have o := h.oE
  generalize hx : eds es = xs at o
  cases o with
  | nil => exact .inl rfl
  | vec _ => exact (hv _ rfl).elim
  | grow l n cap _ hn hg => exact .inr ⟨l, n, cap, rfl⟩
theorem GI.init {σ : Heap} {l0 : Nat} : GI σ l0 σ .nil .nil [] [] :=
  ⟨Sub.refl _, .nil, .nil, fun l n cap e => (by cases e), fun l n cap e => (by cases e), fun xs e => (by cases e), fun l n cap n' cap' e => (by cases e), by simp, by simp⟩
theorem zu7 {d : Int} {ls : List ByteArray} {ps : List Pr} (h1 : (wq ls).length ≤ 6) (h2 : ∀ s ∈ ls, s.size ≤ 7) (h3 : (prs ps).length ≤ 6) (h4 : ∀ q ∈ ps, GoodP q) : NdTame ⟨d, ls, ps⟩ := by
  rw [jk] at h1
  rw [vw] at h3
  exact ⟨by simp only; omega, fun s hs => by have := h2 s hs; omega, by simp only; omega, fun p hp => ⟨by have := (h4 p hp).name; omega, (h4 p hp).val⟩⟩
theorem zw0 {d a b : Int} {kd : ByteArray} {ps : List Pr} (h1 : kd.size ≤ 7) (h3 : (prs ps).length ≤ 6) (h4 : ∀ q ∈ ps, GoodP q) : EdTame ⟨d, kd, a, b, ps⟩ := by
  rw [vw] at h3
  exact ⟨by simp only; omega, by simp only; omega, fun p hp => ⟨by have := (h4 p hp).name; omega, (h4 p hp).val⟩⟩
theorem z73 : y3 [⟨#[80]⟩] = true := by decide
theorem z74 : yi [] = true := by decide
def z1h (σ : Heap) (l0 : Nat) (bs : List CV) (p : Int) (out : COut) : Prop := ∃ s' cN cE ns es nn ne q', GI σ l0 s' cN cE ns es ∧ ns.length ≤ 30 ∧ es.length ≤ 30 ∧ 0 ≤ nn ∧ nn ≤ 100 ∧ 0 ≤ ne ∧ ne ≤ 100 ∧ p ≤ q' ∧ q' ≤ p + 10000 ∧ out = .ret (.agg [cN, cE, i64 nn, i64 ne]) (rd s' l0 bs q')
def z6f (σ : Heap) (l0 : Nat) (bs : List CV) (p : Int) (out : COut) : Prop := ∃ ns es nn ne q', (∀ n ∈ ns, NdTame n) ∧ (∀ e ∈ es, EdTame e) ∧ ns.length ≤ 30 ∧ es.length ≤ 30 ∧ 0 ≤ nn ∧ nn ≤ 100 ∧ 0 ≤ ne ∧ ne ≤ 100 ∧ p ≤ q' ∧ q' ≤ p + 10000 ∧ out = .ret (.agg [.vec (nds ns), .vec (eds es), i64 nn, i64 ne]) (rd σ l0 bs q')
theorem zq0 {σ s : Heap} {T sz l0 : Nat} {bs : List CV} {q : Int} {c : CV} {xs : List CV} (h : OC s T sz c xs) (hf : ∀ l n cap, c = .grow l n cap → σ l = none ∧ l ≠ l0) :
    ∃ c' ls, Frz (rd s l0 bs q) ls c c' ∧ (∀ l ∈ ls, rd σ l0 bs q l = none) ∧ NilW c' (.vec xs) := by
  cases h with
  | nil => exact ⟨.nil, [], .same _, by simp, .inr ⟨rfl, rfl⟩⟩
  | vec _ => exact ⟨.vec xs, [], .same _, by simp, .inl rfl⟩
  | grow l n cap _ hn h =>
    obtain ⟨h1, h2⟩ := hf _ _ _ rfl
    refine ⟨.vec xs, [l], ?_, fun x hx => by rw [List.mem_singleton.1 hx, ziq h2]; exact h1, .inl rfl⟩
    have := Frz.grow (σ := rd s l0 bs q) l n cap _ _ _ (x8 h h2) (by omega)
    rwa [List.take_of_length_le (by omega)] at this
theorem zv5 {f : FuncId} {args : List CV} {σ0 σ : Heap} {l0 : Nat} {bs : List CV} {p : Int} (h : CRun Tryz.prog f args σ0 (z1h σ l0 bs p)) : CRun Tryz.prog f args σ0 (z6f σ l0 bs p) := by
  have h1 : CRun Tryz.prog f args σ0 (fun out => ∃ a b ns es nn ne q', NilW a (.vec (nds ns)) ∧ NilW b (.vec (eds es)) ∧ (∀ n ∈ ns, NdTame n) ∧ (∀ e ∈ es, EdTame e) ∧ ns.length ≤ 30 ∧ es.length ≤ 30 ∧ 0 ≤ nn ∧ nn ≤ 100 ∧ 0 ≤ ne ∧ ne ≤ 100 ∧ p ≤ q' ∧ q' ≤ p + 10000 ∧ out = .ret (.agg [a, b, i64 nn, i64 ne]) (rd σ l0 bs q')) := by
    refine h.freeze fun out ⟨s', cN, cE, ns, es, nn, ne, q', hG, b1, b2, b3, b4, b5, b6, b7, b8, e⟩ => ?_
    subst e
    obtain ⟨a, la, fa, ha, wa⟩ := zq0 (bs := bs) (q := q') hG.oN hG.fN
    obtain ⟨b, lb, fb, hb, wb⟩ := zq0 (bs := bs) (q := q') hG.oE hG.fE
    refine ⟨.ret (.agg [a, b, i64 nn, i64 ne]) (rd σ l0 bs q'), ⟨zqq hG.sub, _, .inl (.agg (.cons fa (.cons fb (.cons (.same _) (.cons (.same _) .nil))))), fun l hl => ?_⟩, a, b, ns, es, nn, ne, q', wa, wb, hG.tn, hG.te, b1, b2, b3, b4, b5, b6, b7, b8, rfl⟩
    simp only [List.append_nil, List.mem_append] at hl
    rcases hl with hl | hl
    · exact ha l hl
    · exact hb l hl
  refine h1.weak fun out ⟨a, b, ns, es, nn, ne, q', wa, wb, t1, t2, b1, b2, b3, b4, b5, b6, b7, b8, e⟩ => ?_
  subst e
  exact ⟨.ret (.agg [.vec (nds ns), .vec (eds es), i64 nn, i64 ne]) (rd σ l0 bs q'), ⟨rfl, NilWs.agg (.cons wa (.cons wb (.cons (.inl rfl) (.cons (.inl rfl) .nil))))⟩, ns, es, nn, ne, q', t1, t2, b1, b2, b3, b4, b5, b6, b7, b8, rfl⟩
def zx5 (σ σ' : Heap) (l0 : Nat) : Heap := fun x => if x = l0 then σ x else σ' x
theorem zt3 {σ σ' : Heap} {l0 : Nat} {bs : List CV} {q : Int} (h : σ' l0 = some (.cells [.vec bs, i64 q])) : rd (zx5 σ σ' l0) l0 bs q = σ' := by
  funext x
  unfold rd upd zx5
  split
  · rename_i e; rw [e]; exact h.symm
  · rfl
def z7o (σ : Heap) (l0 : Nat) (bs : List CV) (q : Int) (ns : List Nd) (es : List Ed) (nn ne : Int) (out : COut) : Prop := ∃ s' l n cap ns' es', GI σ l0 s' (.grow l n cap) (.vec (eds es')) ns' es' ∧ ns'.length ≤ ns.length ∧ es'.length ≤ es.length ∧ out = .ret (.tup [.agg [.grow l n cap, .vec (eds es'), i64 nn, i64 ne], .sc (.bool true)]) (rd s' l0 bs q)
theorem zw1 {σ s : Heap} {l0 : Nat} {bs : List CV} {q : Int} {cN cE A B : CV} {ns : List Nd} {es : List Ed} {nn ne d : Int} (hG : GI σ l0 s cN cE ns es) (hln : ns.length ≤ 100) (hle : es.length ≤ 100) (hA : A = cN ∨ (cN = .nil ∧ A = .vec [])) (hB : B = cE ∨ (cE = .nil ∧ B = .vec [])) (hA' : A ≠ .nil) (hB' : B ≠ .nil) :
    CRun Tryz.prog 96 [.agg [A, B, i64 nn, i64 ne], i64 d, .sc (.bool true)] (rd s l0 bs q) (z7o σ l0 bs q ns es nn ne) := by
  have c := zp1 (σ := rd σ l0 bs q) (nn := nn) (ne := ne) (d := d) hln hle hG.tn hG.te
  have fz : ∀ {T sz : Nat} {c C : CV} {xs : List CV}, OC s T sz c xs → (∀ l n cap, c = .grow l n cap → σ l = none ∧ l ≠ l0) → (C = c ∨ (c = .nil ∧ C = .vec [])) → C ≠ .nil → ∃ ls, Frz (rd s l0 bs q) ls C (.vec xs) ∧ ∀ l ∈ ls, rd σ l0 bs q l = none := by
    intro T sz c C xs h hf hC hn
    cases h with
    | nil =>
      rcases hC with rfl | ⟨_, rfl⟩
      · exact absurd rfl hn
      · exact ⟨[], .same _, by simp⟩
    | vec _ =>
      rcases hC with rfl | ⟨e, _⟩
      · exact ⟨[], .same _, by simp⟩
      · cases e
    | grow l n cap _ hn' h =>
      rcases hC with rfl | ⟨e, _⟩
      · obtain ⟨h1, h2⟩ := hf _ _ _ rfl
        refine ⟨[l], ?_, fun x hx => by rw [List.mem_singleton.1 hx, ziq h2]; exact h1⟩
        have := Frz.grow (σ := rd s l0 bs q) l n cap _ _ _ (x8 h h2) (by omega)
        rwa [List.take_of_length_le (by omega)] at this
      · cases e
  obtain ⟨la, fa, ha⟩ := fz hG.oN hG.fN hA hA'
  obtain ⟨lb, fb, hb⟩ := fz hG.oE hG.fE hB hB'
  have c' : CRun Tryz.prog 96 [.agg [A, B, i64 nn, i64 ne], i64 d, .sc (.bool true)] (rd s l0 bs q) (z6i (rd σ l0 bs q) es ns nn ne) := by
    refine CRun.frozen (ls := _) (.cons (.agg (.cons fa (.cons fb (.cons (.same _) (.cons (.same _) .nil))))) (.cons (.one (.same _)) (.cons (.one (.same _)) .nil))) (zqq hG.sub) (fun l hl => ?_) c
    simp only [List.append_nil, List.mem_append] at hl
    rcases hl with hl | hl
    · exact ha l hl
    · exact hb l hl
  refine c'.mono fun out ⟨es', ns', n, l1, cap, σ', b1, b2, b3, b4, b5, b6, b7, b8, e⟩ => ?_
  have hr : σ' l0 = some (.cells [.vec bs, i64 q]) := b6 _ _ (za _ _ _)
  have hne := zca b7
  refine ⟨zx5 σ σ' l0, l1, n, cap, ns', es', ⟨fun x ob hx => ?_, ?_, .vec _, fun l n cap e => (by cases e; exact ⟨zf4 b7, hne⟩), fun l n cap e => (by cases e), fun xs e => (by cases e), fun l n cap n' cap' _ e => (by cases e), b4, b2⟩, b3, b1, by rw [zt3 hr]; exact e⟩
  · unfold zx5
    split
    · exact hx
    · rename_i hx0; exact b6 _ _ (by rw [ziq hx0]; exact hx)
  · exact .grow _ _ _ _ b5 (by unfold zx5; rw [if_neg hne]; exact b8)
theorem OC.only {s : Heap} {T sz : Nat} {c : CV} {xs : List CV} (h : OC s T sz c xs) (f : Nat → Bool) : CV.only f c = true := by cases h <;> rfl
theorem GI.shE3 {σ s : Heap} {l0 : Nat} {cN cE : CV} {ns : List Nd} {es : List Ed} (h : GI σ l0 s cN cE ns es) : cE = .nil ∨ (cE = .vec (eds es)) ∨ ∃ l n cap, cE = .grow l n cap := by
  have o := h.oE
  generalize hx : eds es = xs at o
  cases o with
  | nil => exact .inl rfl
  | vec _ => exact .inr (.inl rfl)
  | grow l n cap _ hn hg => exact .inr (.inr ⟨l, n, cap, rfl⟩)
noncomputable def GM (g : List Nat) (m : Nat → Option (List Nat)) : Ctx := { P := Tryz.prog, tt := tt, gl := fun n => g.contains n, ord := m }
theorem z0i (g : List Nat) (m : Nat → Option (List Nat)) : (GM g m).ok := zr5
theorem zxr (g : List Nat) (m : Nat → Option (List Nat)) : ji (GM g m) := zkt (z0i g m) zr6
structure Hold (T : Prop) : Prop where
  h : T
theorem z6v {T G : Prop} (main : Hold T → G) (proof : T) : G := main ⟨proof⟩
structure GSt where
  n : Int
  s : Heap
  q : Int
  cN : CV
  cE : CV
  nn : Int
  ne : Int
  ns : List Nd
  es : List Ed
theorem z6a {σ s : Heap} {l0 : Nat} {bs : List CV} {q : Int} {cN cE : CV} {ns : List Nd} {es : List Ed} {nn ne : Int} (hG : GI σ l0 s cN cE ns es) (hln : ns.length ≤ 100) (hnn : 0 ≤ nn ∧ nn ≤ 1000000) :
    CRun Tryz.prog 92 [.agg [cN, cE, i64 nn, i64 ne], .vec [.sc (.string ⟨#[80]⟩)], .vec []] (rd s l0 bs q) (zxu σ l0 bs q cE ns es nn ne (12 ≤ ns.length)) := by
  have c := zn4 (bs := bs) (q := q) (ne := ne) (ls := [⟨#[80]⟩]) (ps := []) hG (nn := nn) ⟨by simp, by simp; decide, by simp, by simp⟩ hln hnn
  exact c.mono fun out ⟨s', cN', ns', nn', b, h1, h2, e⟩ => ⟨s', cN', ns', nn', b, h1, h2.imp (fun ⟨a, b, f⟩ => ⟨a, b, f z73 z74⟩) id, e⟩
set_option maxHeartbeats 8000000 in
theorem z2z {l : Nat} {σ : Heap} {bs : List CV} (hb : BytesOk bs) (hl : bs.length ≤ 2000) {p : Int} (hp : 0 ≤ p) (hp' : p < 137438953472) : CRun Tryz.prog 58 [.ptr (.g l) 0] (rd σ l bs p) (z1h σ l bs p) := by
  apply z6v
  focus {
  intro step3
  refine jh (X := (GM [] fun n => match Nat.beq n 5 with | true => some [0,1,3,2,4,5,6,7,8,9] | false => (match Nat.beq n 9 with | true => some [0,1,2,4,5,6,7,9,10,11,12,14,3,8,13,15,16,17,18,19,20] | false => (none)))) (z0i _ _) (zxr _ _) (body := yz Tryz.f58) Tryz.func58 rfl (by kernel_rfl) (by kernel_rfl) ?_
  rw [Tryz.ntmps58]
  conv => whnf
  repeat' (first | (refine CallN.many (yq hb hl (by omega) (by omega)) ?_; rintro _ ⟨k, hk1, hk2, rfl⟩) | refine Zq ?_) <;> try (conv => whnf)
  refine LoopN.rule (α := GSt) (fun a => ⟨88, [(0, .ptr (.g l) 0), (2, .ptr (.f 2) 0), (3, .ptr (.f 3) 0), (4, i64 a.n)], [(2, .cells [.nil, .nil, i64 0, i64 0]), (3, .cells [a.cN, .nil, i64 a.nn, i64 0])]⟩)
    (fun a => rd a.s l bs a.q) (fun a => a.n.toNat) (fun a => GI σ l a.s a.cN .nil a.ns [] ∧ 0 ≤ a.n ∧ a.n ≤ 6 ∧ a.ns.length + a.n ≤ 7 ∧ 0 ≤ a.nn ∧ a.nn + a.n ≤ 7 ∧ p ≤ a.q ∧ a.q + 110 * a.n ≤ p + 1000) ?_
    ⟨k, σ, p + 1, .nil, .nil, 0, 0, [], []⟩ ⟨GI.init, by simp only; omega, by simp only; omega, by simp only [List.length_nil]; omega, by simp only; omega, by simp only; omega, by simp only; omega, by simp only; omega⟩ ?_
  · rintro ⟨n, s, q, cN, _, nn, _, ns, _⟩ K ⟨hG, i1, i2, i3, i4, i5, i6, i7⟩ hK
    dsimp only at hG i1 i2 i3 i4 i5 i6 i7 ⊢
    clear hk1 hk2
    by_cases hn : 0 < n
    · have hns : ns.length ≤ 100 := by omega
      have hnn : 0 ≤ nn ∧ nn ≤ 1000000 := by omega
      rcases hG.shN with ⟨rfl, rfl⟩ | ⟨lN, m, capN, rfl, hm, gN⟩
      all_goals
        conv => whnf
        repeat' (first | (refine CallN.many (zy2 hb hl (by omega) (by omega)) ?_; rintro _ ⟨_, q1, ⟨⟨⟨ls, rfl, hls⟩, hl4⟩, hl2⟩, hq1, hq2, rfl⟩) | (refine CallN.many (zuo hb hl (by omega) (by omega)) ?_; rintro _ ⟨_, q2, ⟨⟨⟨ps, rfl, hps⟩, hp6⟩, hp3⟩, hq3, hq4, rfl⟩) | ((refine CallN.many0 (zn4 (ne := 0) hG (zu7 (by omega) hls (by omega) hps) hns hnn) ?_ (hs := ?hs); (case hs => (repeat' (first | with_reducible exact ke | with_reducible apply wm | ((conv => enter [1, 1]; whnf); first | with_reducible exact ke | with_reducible apply wm | ((with_reducible refine Eq.trans zli ?_); rfl) | ((with_reducible refine Eq.trans zek ?_); rfl) | ((with_reducible refine Eq.trans zbc ?_); rfl) | ((with_reducible refine Eq.trans zei ?_); rfl) | ((with_reducible refine Eq.trans zbd ?_); rfl) | ((with_reducible refine Eq.trans zej ?_); rfl) | with_reducible apply zel)))); rintro _ ⟨s', cN', ns', nn', b, hG', hor, rfl⟩; rcases hG'.shN with ⟨rfl, rfl⟩ | ⟨lN', m', capN', rfl, hm', gN'⟩)) | refine Zi ?_ | refine Za ?_ | refine Zm ?_ | refine Zn ?_ | refine Zq ?_) <;> try (conv => whnf)
      all_goals
        refine hK ⟨n - 1, s', q2, _, .nil, nn', 0, _, []⟩ _ _ ⟨hG', by simp only; omega, by simp only; omega, by simp only; omega, by simp only; omega, by simp only; omega, by simp only; omega, by simp only; omega⟩ (by simp only; omega) ?_
        exact ZW
    · conv => whnf
      repeat' (first | (refine CallN.many (yq hb hl (by omega) (by omega)) ?_; rintro _ ⟨k, hk1, hk2, rfl⟩) | refine Zb ?_ | refine Zq ?_) <;> try (conv => whnf)
      have hx : ∀ xs, CV.nil = .vec xs → False := fun xs e => by cases e
      refine LoopN.rule (α := GSt) (fun a => ⟨88, [(0, .ptr (.g l) 0), (2, .ptr (.f 2) 0), (3, .ptr (.f 3) 0), (5, i64 a.n)], [(2, .cells [.nil, .nil, i64 0, i64 0]), (3, .cells [a.cN, a.cE, i64 a.nn, i64 a.ne])]⟩)
        (fun a => rd a.s l bs a.q) (fun a => a.n.toNat) (fun a => GI σ l a.s a.cN a.cE a.ns a.es ∧ (∀ xs, a.cE = .vec xs → False) ∧ 0 ≤ a.n ∧ a.n ≤ 6 ∧ a.ns.length ≤ 7 ∧ a.es.length + a.n ≤ 7 ∧ 0 ≤ a.nn ∧ a.nn ≤ 7 ∧ 0 ≤ a.ne ∧ a.ne + a.n ≤ 7 ∧ p ≤ a.q ∧ a.q + 110 * a.n ≤ p + 2000) ?_
        ⟨k, s, q + 1, cN, .nil, nn, 0, ns, []⟩ ⟨hG, hx, by simp only; omega, by simp only; omega, by simp only; omega, by simp only [List.length_nil]; omega, by simp only; omega, by simp only; omega, by simp only; omega, by simp only; omega, by simp only; omega, by simp only; omega⟩ ?_
      · clear hG i1 i2 i3 i4 i5 i6 i7 hk1 hk2 hx hn hK
        clear k n s q cN nn ns K
        rintro ⟨n, s, q, cN, cE, nn, ne, ns, es⟩ K ⟨hG, hv, i1, i2, i3, i4, i5, i6, i7, i8, i9, i10⟩ hK
        dsimp only at hG hv i1 i2 i3 i4 i5 i6 i7 i8 i9 i10 ⊢
        by_cases hn : 0 < n
        · rcases hG.shN with ⟨rfl, rfl⟩ | ⟨lN, m, capN, rfl, hm, gN⟩
          · have hns : ([] : List Nd).length = 0 := rfl
            rcases hG.shE hv with rfl | ⟨lE, mE, capE, rfl⟩
            all_goals
              conv => whnf
              repeat' (first | (refine CallN.many (yq hb hl (by omega) (by omega)) ?_; rintro _ ⟨k, hk1, hk2, rfl⟩) | (refine ZT ?_) | refine Za ?_ | refine Zb ?_ | refine Zv (fun h => ?_) (fun h => ?_) | refine Zq ?_) <;> try (conv => whnf)
              · refine LoopN.rule (α := GSt) (fun a => ⟨88, [(0, .ptr (.g l) 0), (2, .ptr (.f 2) 0), (3, .ptr (.f 3) 0)], [(2, .cells [.nil, .nil, i64 0, i64 0]), (3, .cells [a.cN, a.cE, i64 a.nn, i64 a.ne])]⟩)
                  (fun a => rd a.s l bs a.q) (fun a => 12 - a.ns.length) (fun a => GI σ l a.s a.cN a.cE a.ns a.es ∧ a.ns.length ≤ 12 ∧ a.es.length ≤ 7 ∧ 0 ≤ a.nn ∧ a.nn ≤ a.ns.length + 10 ∧ 0 ≤ a.ne ∧ a.ne ≤ 7 ∧ p ≤ a.q ∧ a.q ≤ p + 3000) ?_
                  ⟨0, s, q + 1, .nil, _, nn, ne, [], es⟩ ⟨hG, by simp only; omega, by simp only; omega, by simp only; omega, by simp only; omega, by simp only; omega, by simp only; omega, by simp only; omega, by simp only; omega⟩ ?_
                · exact step3.h
                · exact ZW
              · exact ⟨s, _, _, _, es, nn, ne, q + 1, hG, by omega, by omega, by omega, by omega, by omega, by omega, by omega, by omega, rfl⟩
          · by_cases hm0 : 0 < m
            · have hns : ns.length ≤ 100 := by omega
              have hes : es.length ≤ 100 := by omega
              have hnn : 0 ≤ ne ∧ ne ≤ 1000000 := by omega
              rcases hG.shE hv with rfl | ⟨lE, mE, capE, rfl⟩
              all_goals
                conv => whnf
                repeat' (first | (refine CallN.many (z3z (m := 7) hb hl (by omega) (by omega) ?_ (Nat.le_of_ble_eq_true rfl) (Nat.le_of_ble_eq_true rfl)) ?_; (repeat' (first | exact (trivial : True) | refine And.intro ?_ ?_ | refine ⟨_, rfl, ?_⟩ | omega | decide)); rintro _ ⟨t, ht, rfl⟩) | (refine CallN.many (yq hb hl (by omega) (by omega)) ?_; rintro _ ⟨k, _, _, rfl⟩) | (refine CallN.many (zuo hb hl (by omega) (by omega)) ?_; rintro _ ⟨_, q2, ⟨⟨⟨ps, rfl, hps⟩, hp6⟩, hp3⟩, hq3, hq4, rfl⟩) | ((refine CallN.many0 (zxp (nn := nn) (a := ?_) (b' := ?_) hG (zw0 ht (by omega) hps) hns hes hnn hv) ?_ (hs := ?hs); (case hs => (repeat' (first | with_reducible exact ke | with_reducible apply wm | ((conv => enter [1, 1]; whnf); first | with_reducible exact ke | with_reducible apply wm | ((with_reducible refine Eq.trans zli ?_); rfl) | ((with_reducible refine Eq.trans zek ?_); rfl) | ((with_reducible refine Eq.trans zbc ?_); rfl) | ((with_reducible refine Eq.trans zei ?_); rfl) | ((with_reducible refine Eq.trans zbd ?_); rfl) | ((with_reducible refine Eq.trans zej ?_); rfl) | with_reducible apply zel)))); rintro _ ⟨s', cE', es', ne', b, hG', hv', he1, he2, he3, rfl⟩; rcases hG'.shE hv' with rfl | ⟨lE', mE', capE', rfl⟩)) | refine Zi ?_ | refine Za ?_ | refine Zm ?_ | refine Zn ?_ | refine Zq ?_) <;> try (conv => whnf)
              all_goals
                refine hK ⟨n - 1, s', q2, .grow lN m capN, _, nn, ne', ns, es'⟩ _ _ ⟨hG', hv', by simp only; omega, by simp only; omega, by simp only; omega, by simp only; omega, by simp only; omega, by simp only; omega, by simp only; omega, by simp only; omega, by simp only; omega, by simp only; omega⟩ (by simp only; omega) ?_
                exact ZW
            · rcases hG.shE hv with rfl | ⟨lE, mE, capE, rfl⟩
              all_goals
                conv => whnf
                repeat' (first | (refine CallN.many (yq hb hl (by omega) (by omega)) ?_; rintro _ ⟨k, hk1, hk2, rfl⟩) | (refine ZT ?_) | refine Za ?_ | refine Zb ?_ | refine Zv (fun h => ?_) (fun h => ?_) | refine Zq ?_) <;> try (conv => whnf)
                · refine LoopN.rule (α := GSt) (fun a => ⟨88, [(0, .ptr (.g l) 0), (2, .ptr (.f 2) 0), (3, .ptr (.f 3) 0)], [(2, .cells [.nil, .nil, i64 0, i64 0]), (3, .cells [a.cN, a.cE, i64 a.nn, i64 a.ne])]⟩)
                    (fun a => rd a.s l bs a.q) (fun a => 12 - a.ns.length) (fun a => GI σ l a.s a.cN a.cE a.ns a.es ∧ a.ns.length ≤ 12 ∧ a.es.length ≤ 7 ∧ 0 ≤ a.nn ∧ a.nn ≤ a.ns.length + 10 ∧ 0 ≤ a.ne ∧ a.ne ≤ 7 ∧ p ≤ a.q ∧ a.q ≤ p + 3000) ?_
                    ⟨0, s, q + 1, .grow lN m capN, _, nn, ne, ns, es⟩ ⟨hG, by simp only; omega, by simp only; omega, by simp only; omega, by simp only; omega, by simp only; omega, by simp only; omega, by simp only; omega, by simp only; omega⟩ ?_
                  · exact step3.h
                  · exact ZW
                · exact ⟨s, _, _, _, es, nn, ne, q + 1, hG, by omega, by omega, by omega, by omega, by omega, by omega, by omega, by omega, rfl⟩
        · rcases hG.shN with ⟨rfl, rfl⟩ | ⟨lN, m, capN, rfl, hm, gN⟩
          · have hns : ([] : List Nd).length = 0 := rfl
            rcases hG.shE hv with rfl | ⟨lE, mE, capE, rfl⟩
            all_goals
              conv => whnf
              repeat' (first | (refine CallN.many (yq hb hl (by omega) (by omega)) ?_; rintro _ ⟨k, hk1, hk2, rfl⟩) | (refine ZT ?_) | refine Zb ?_ | refine Zv (fun h => ?_) (fun h => ?_) | refine Zq ?_) <;> try (conv => whnf)
              · refine LoopN.rule (α := GSt) (fun a => ⟨88, [(0, .ptr (.g l) 0), (2, .ptr (.f 2) 0), (3, .ptr (.f 3) 0)], [(2, .cells [.nil, .nil, i64 0, i64 0]), (3, .cells [a.cN, a.cE, i64 a.nn, i64 a.ne])]⟩)
                  (fun a => rd a.s l bs a.q) (fun a => 12 - a.ns.length) (fun a => GI σ l a.s a.cN a.cE a.ns a.es ∧ a.ns.length ≤ 12 ∧ a.es.length ≤ 7 ∧ 0 ≤ a.nn ∧ a.nn ≤ a.ns.length + 10 ∧ 0 ≤ a.ne ∧ a.ne ≤ 7 ∧ p ≤ a.q ∧ a.q ≤ p + 3000) ?_
                  ⟨0, s, q + 1, .nil, _, nn, ne, [], es⟩ ⟨hG, by simp only; omega, by simp only; omega, by simp only; omega, by simp only; omega, by simp only; omega, by simp only; omega, by simp only; omega, by simp only; omega⟩ ?_
                · exact step3.h
                · exact ZW
              · exact ⟨s, _, _, _, es, nn, ne, q + 1, hG, by omega, by omega, by omega, by omega, by omega, by omega, by omega, by omega, rfl⟩
          · by_cases hm0 : 0 < m
            · have hns : ns.length ≤ 100 := by omega
              have hes : es.length ≤ 100 := by omega
              rcases hG.shE hv with rfl | ⟨lE, mE, capE, rfl⟩
              · conv => whnf
                repeat' (first | (refine CallN.many (yq hb hl (by omega) (by omega)) ?_; rintro _ ⟨k, hk1, hk2, rfl⟩) | ((refine CallN.many (zw1 (A := .grow lN m capN) (B := .vec []) (nn := nn) hG hns hes (.inl rfl) (.inr ⟨rfl, rfl⟩) (fun e => by cases e) (fun e => by cases e)) ?_; rintro _ ⟨s', l', n', cap', ns', es', hG', hd1, hd2, rfl⟩)) | (refine ZT ?_) | refine Zi ?_ | refine Za ?_ | refine Zb ?_ | refine Zv (fun h => ?_) (fun h => ?_) | refine Zn ?_ | refine Zq ?_) <;> try (conv => whnf)
                all_goals first
                  | exact ⟨s', _, _, _, es', nn, ne, q + 1 + 1 + 1, hG', by omega, by omega, by omega, by omega, by omega, by omega, by omega, by omega, rfl⟩
                  | exact ⟨s, _, _, _, es, nn, ne, q + 1 + 1, hG, by omega, by omega, by omega, by omega, by omega, by omega, by omega, by omega, rfl⟩
                  | (refine LoopN.rule (α := GSt) (fun a => ⟨88, [(0, .ptr (.g l) 0), (2, .ptr (.f 2) 0), (3, .ptr (.f 3) 0)], [(2, .cells [.nil, .nil, i64 0, i64 0]), (3, .cells [a.cN, a.cE, i64 a.nn, i64 a.ne])]⟩)
                       (fun a => rd a.s l bs a.q) (fun a => 12 - a.ns.length) (fun a => GI σ l a.s a.cN a.cE a.ns a.es ∧ a.ns.length ≤ 12 ∧ a.es.length ≤ 7 ∧ 0 ≤ a.nn ∧ a.nn ≤ a.ns.length + 10 ∧ 0 ≤ a.ne ∧ a.ne ≤ 7 ∧ p ≤ a.q ∧ a.q ≤ p + 3000) ?_
                       ⟨0, s', q + 1 + 1 + 1, .grow l' n' cap', _, nn, ne, ns', es'⟩ ⟨hG', by simp only; omega, by simp only; omega, by simp only; omega, by simp only; omega, by simp only; omega, by simp only; omega, by simp only; omega, by simp only; omega⟩ ?_
                     · exact step3.h
                     · exact ZW)
                  | (refine LoopN.rule (α := GSt) (fun a => ⟨88, [(0, .ptr (.g l) 0), (2, .ptr (.f 2) 0), (3, .ptr (.f 3) 0)], [(2, .cells [.nil, .nil, i64 0, i64 0]), (3, .cells [a.cN, a.cE, i64 a.nn, i64 a.ne])]⟩)
                       (fun a => rd a.s l bs a.q) (fun a => 12 - a.ns.length) (fun a => GI σ l a.s a.cN a.cE a.ns a.es ∧ a.ns.length ≤ 12 ∧ a.es.length ≤ 7 ∧ 0 ≤ a.nn ∧ a.nn ≤ a.ns.length + 10 ∧ 0 ≤ a.ne ∧ a.ne ≤ 7 ∧ p ≤ a.q ∧ a.q ≤ p + 3000) ?_
                       ⟨0, s, q + 1 + 1, .grow lN m capN, _, nn, ne, ns, es⟩ ⟨hG, by simp only; omega, by simp only; omega, by simp only; omega, by simp only; omega, by simp only; omega, by simp only; omega, by simp only; omega, by simp only; omega⟩ ?_
                     · exact step3.h
                     · exact ZW)
              · conv => whnf
                repeat' (first | (refine CallN.many (yq hb hl (by omega) (by omega)) ?_; rintro _ ⟨k, hk1, hk2, rfl⟩) | ((refine CallN.many (zw1 (A := .grow lN m capN) (B := .grow lE mE capE) (nn := nn) hG hns hes (.inl rfl) (.inl rfl) (fun e => by cases e) (fun e => by cases e)) ?_; rintro _ ⟨s', l', n', cap', ns', es', hG', hd1, hd2, rfl⟩)) | (refine ZT ?_) | refine Zi ?_ | refine Za ?_ | refine Zb ?_ | refine Zv (fun h => ?_) (fun h => ?_) | refine Zn ?_ | refine Zq ?_) <;> try (conv => whnf)
                all_goals first
                  | exact ⟨s', _, _, _, es', nn, ne, q + 1 + 1 + 1, hG', by omega, by omega, by omega, by omega, by omega, by omega, by omega, by omega, rfl⟩
                  | exact ⟨s, _, _, _, es, nn, ne, q + 1 + 1, hG, by omega, by omega, by omega, by omega, by omega, by omega, by omega, by omega, rfl⟩
                  | (refine LoopN.rule (α := GSt) (fun a => ⟨88, [(0, .ptr (.g l) 0), (2, .ptr (.f 2) 0), (3, .ptr (.f 3) 0)], [(2, .cells [.nil, .nil, i64 0, i64 0]), (3, .cells [a.cN, a.cE, i64 a.nn, i64 a.ne])]⟩)
                       (fun a => rd a.s l bs a.q) (fun a => 12 - a.ns.length) (fun a => GI σ l a.s a.cN a.cE a.ns a.es ∧ a.ns.length ≤ 12 ∧ a.es.length ≤ 7 ∧ 0 ≤ a.nn ∧ a.nn ≤ a.ns.length + 10 ∧ 0 ≤ a.ne ∧ a.ne ≤ 7 ∧ p ≤ a.q ∧ a.q ≤ p + 3000) ?_
                       ⟨0, s', q + 1 + 1 + 1, .grow l' n' cap', _, nn, ne, ns', es'⟩ ⟨hG', by simp only; omega, by simp only; omega, by simp only; omega, by simp only; omega, by simp only; omega, by simp only; omega, by simp only; omega, by simp only; omega⟩ ?_
                     · exact step3.h
                     · exact ZW)
                  | (refine LoopN.rule (α := GSt) (fun a => ⟨88, [(0, .ptr (.g l) 0), (2, .ptr (.f 2) 0), (3, .ptr (.f 3) 0)], [(2, .cells [.nil, .nil, i64 0, i64 0]), (3, .cells [a.cN, a.cE, i64 a.nn, i64 a.ne])]⟩)
                       (fun a => rd a.s l bs a.q) (fun a => 12 - a.ns.length) (fun a => GI σ l a.s a.cN a.cE a.ns a.es ∧ a.ns.length ≤ 12 ∧ a.es.length ≤ 7 ∧ 0 ≤ a.nn ∧ a.nn ≤ a.ns.length + 10 ∧ 0 ≤ a.ne ∧ a.ne ≤ 7 ∧ p ≤ a.q ∧ a.q ≤ p + 3000) ?_
                       ⟨0, s, q + 1 + 1, .grow lN m capN, _, nn, ne, ns, es⟩ ⟨hG, by simp only; omega, by simp only; omega, by simp only; omega, by simp only; omega, by simp only; omega, by simp only; omega, by simp only; omega, by simp only; omega⟩ ?_
                     · exact step3.h
                     · exact ZW)
            · rcases hG.shE hv with rfl | ⟨lE, mE, capE, rfl⟩
              all_goals
                conv => whnf
                repeat' (first | (refine CallN.many (yq hb hl (by omega) (by omega)) ?_; rintro _ ⟨k, hk1, hk2, rfl⟩) | (refine ZT ?_) | refine Zb ?_ | refine Zv (fun h => ?_) (fun h => ?_) | refine Zq ?_) <;> try (conv => whnf)
                · refine LoopN.rule (α := GSt) (fun a => ⟨88, [(0, .ptr (.g l) 0), (2, .ptr (.f 2) 0), (3, .ptr (.f 3) 0)], [(2, .cells [.nil, .nil, i64 0, i64 0]), (3, .cells [a.cN, a.cE, i64 a.nn, i64 a.ne])]⟩)
                    (fun a => rd a.s l bs a.q) (fun a => 12 - a.ns.length) (fun a => GI σ l a.s a.cN a.cE a.ns a.es ∧ a.ns.length ≤ 12 ∧ a.es.length ≤ 7 ∧ 0 ≤ a.nn ∧ a.nn ≤ a.ns.length + 10 ∧ 0 ≤ a.ne ∧ a.ne ≤ 7 ∧ p ≤ a.q ∧ a.q ≤ p + 3000) ?_
                    ⟨0, s, q + 1, .grow lN m capN, _, nn, ne, ns, es⟩ ⟨hG, by simp only; omega, by simp only; omega, by simp only; omega, by simp only; omega, by simp only; omega, by simp only; omega, by simp only; omega, by simp only; omega⟩ ?_
                  · exact step3.h
                  · exact ZW
                · exact ⟨s, _, _, _, es, nn, ne, q + 1, hG, by omega, by omega, by omega, by omega, by omega, by omega, by omega, by omega, rfl⟩
      · (refine ⟨rfl, ?_, ?_, Sub.refl _⟩ <;> repeat' (first | exact EnvLe.nil | exact LocsLe.nil | refine EnvLe.cons _ _ _ ?_ ?_ | refine LocsLe.cons _ _ _ ?_ ?_ | exact CVle.same _ rfl | exact CVle.vec _ _ | exact CVle.nil | exact CVle.tok _ _ _ rfl rfl | exact ObLe.tok _ _ rfl | exact CVles.nil | refine CVles.cons ?_ ?_ | exact ObLe.same _ rfl rfl | refine ObLe.cells rfl ?_))
        exact CVle.same _ (hG.oN.only _)
  · exact ZW
  }
  rintro ⟨_, s, q, cN, cE, nn, ne, ns, es⟩ K ⟨hG, j1, j2, j3, j4, j5, j6, j7, j8⟩ hK
  dsimp only at hG j1 j2 j3 j4 j5 j6 j7 j8 ⊢
  have jn : ns.length ≤ 100 := by omega
  have jnn : 0 ≤ nn ∧ nn ≤ 1000000 := by omega
  rcases hG.shN with ⟨rfl, rfl⟩ | ⟨lN, m, capN, rfl, hm, gN⟩
  all_goals rcases hG.shE3 with rfl | rfl | ⟨lE, mE, capE, rfl⟩
  all_goals
    try have hns0 : ([] : List Nd).length = 0 := rfl
    conv => whnf
    repeat' (first | ((refine CallN.many0 (z6a (ne := ne) hG jn jnn) ?_ (hs := ?hs); (case hs => (repeat' (first | with_reducible exact ke | with_reducible apply wm | ((conv => enter [1, 1]; whnf); first | with_reducible exact ke | with_reducible apply wm | ((with_reducible refine Eq.trans zli ?_); rfl) | ((with_reducible refine Eq.trans zek ?_); rfl) | ((with_reducible refine Eq.trans zbc ?_); rfl) | ((with_reducible refine Eq.trans zei ?_); rfl) | ((with_reducible refine Eq.trans zbd ?_); rfl) | ((with_reducible refine Eq.trans zej ?_); rfl) | with_reducible apply zel)))); rintro _ ⟨s', cN', ns', nn', b, hG', hor, rfl⟩; rcases hG'.shN with ⟨rfl, rfl⟩ | ⟨lN', m', capN', rfl, hm', gN'⟩)) | (refine ZT ?_) | refine Za ?_ | refine Zv (fun h => ?_) (fun h => ?_) | refine Zq ?_) <;> try (conv => whnf)
  all_goals first
    | exact ⟨s, _, _, _, es, nn, ne, q, hG, by omega, by omega, by omega, by omega, by omega, by omega, by omega, by omega, rfl⟩
    | (refine hK ⟨0, s', q, _, _, nn', ne, _, es⟩ _ _ ⟨hG', by simp only; omega, by simp only; omega, by simp only; omega, by simp only; omega, by simp only; omega, by simp only; omega, by simp only; omega, by simp only; omega⟩ (by simp only; omega) ?_
       exact ZW)
theorem z3b {σ : Heap} {l0 : Nat} {bs : List CV} {q : Int} {ns : List Nd} {es : List Ed} {nn ne : Int} {out : COut} (htn : ∀ n ∈ ns, NdTame n) (hte : ∀ e ∈ es, EdTame e) (h : z3y (rd σ l0 bs q) ns es nn ne out) :
    ∃ s' cN cE, GI σ l0 s' cN cE ns es ∧ (∀ xs, cE = .vec xs → False) ∧ out = .ret (.agg [cN, cE, i64 nn, i64 ne]) (rd s' l0 bs q) := by
  obtain ⟨s', cN, cE, oN, oE, fN, fE, vN, vE, dj, sub, e⟩ := h
  have hr : s' l0 = some (.cells [.vec bs, i64 q]) := sub _ _ (za _ _ _)
  have oc : ∀ {T sz : Nat} {c : CV} {xs : List CV}, OC s' T sz c xs → (∀ l n cap, c = .grow l n cap → rd σ l0 bs q l = none) → OC (zx5 σ s' l0) T sz c xs := by
    intro T sz c xs h hf
    cases h with
    | nil => exact .nil
    | vec _ => exact .vec _
    | grow l n cap _ hn hg =>
      have hne := zca (hf _ _ _ rfl)
      exact .grow _ _ _ _ hn (by unfold zx5; rw [if_neg hne]; exact hg)
  refine ⟨zx5 σ s' l0, cN, cE, ⟨fun x ob hx => ?_, oc oN fN, oc oE fE, fun l n cap e => ⟨zf4 (fN _ _ _ e), zca (fN _ _ _ e)⟩, fun l n cap e => ⟨zf4 (fE _ _ _ e), zca (fE _ _ _ e)⟩, vN, dj, htn, hte⟩, vE, by rw [zt3 hr]; exact e⟩
  unfold zx5
  split
  · exact hx
  · rename_i hx0; exact sub _ _ (by rw [ziq hx0]; exact hx)
theorem GI.shG {σ s : Heap} {l0 : Nat} {cN cE : CV} {ns : List Nd} {es : List Ed} (h : GI σ l0 s cN cE ns es) (hv : ∀ xs, cE = .vec xs → False) : (cE = .nil ∧ es = []) ∨ ∃ l n cap, cE = .grow l n cap ∧ n = es.length ∧ s l = some (.arr 32 5 cap (eds es)) := by
  have o := h.oE
  generalize hx : eds es = xs at o
  cases o with
  | nil => exact .inl ⟨rfl, by cases es with | nil => rfl | cons a r => simp [eds] at hx⟩
  | vec _ => exact (hv _ rfl).elim
  | grow l n cap _ hn hg => exact .inr ⟨l, n, cap, rfl, by rw [hn, ← hx, ye], hg⟩
def z37 (σ : Heap) (l0 : Nat) (bs : List CV) (p : Int) (out : COut) : Prop := ∃ s' cN cE ns es nn ne q', GI σ l0 s' cN cE ns es ∧ ns.length ≤ 100 ∧ es.length ≤ 100 ∧ -1000 ≤ nn ∧ nn ≤ 2000000000 ∧ -1000 ≤ ne ∧ ne ≤ 1000 ∧ p ≤ q' ∧ q' ≤ p + 20000 ∧ out = .ret (.agg [cN, cE, i64 nn, i64 ne]) (rd s' l0 bs q')
theorem GI.setN {σ s : Heap} {l0 lN m cap : Nat} {cE : CV} {ns ns' : List Nd} {es : List Ed} (h : GI σ l0 s (.grow lN m cap) cE ns es) (hl : ns'.length = ns.length) (hm : m = ns.length) (ht : ∀ n ∈ ns', NdTame n) : GI σ l0 (upd s lN (.arr 79 3 cap (nds ns'))) (.grow lN m cap) cE ns' es :=
  ⟨h.sub.upd (h.fN _ _ _ rfl).1, .grow _ _ _ _ (by rw [ym]; omega) (za _ _ _), h.oE.put (fun n cap' e => h.dj _ _ _ _ _ rfl e), h.fN, h.fE, h.vN, h.dj, ht, h.te⟩
theorem z1p {s : Heap} {l : Nat} {a b : Ob} : upd (upd s l a) l b = upd s l b := by
  funext x; unfold upd; split <;> rfl
section
variable {σ s : Heap} {l0 lx n cap : Nat} {bs : List CV} {p q : Int} {cN cE : CV} {ns : List Nd} {es : List Ed} {nn ne d a b' : Int} {kd : ByteArray} {ps : List Pr} {xs : List CV}
theorem zdr (h : GI σ l0 s cN cE ns es) (h1 : ns.length ≤ 100) (h2 : es.length ≤ 100) (h3 : -1000 ≤ nn ∧ nn ≤ 2000000000) (h4 : -1000 ≤ ne ∧ ne ≤ 1000) (h5 : p ≤ q ∧ q ≤ p + 20000) : z37 σ l0 bs p (.ret (.agg [cN, cE, i64 nn, i64 ne]) (rd s l0 bs q)) :=
  ⟨s, _, _, ns, es, nn, ne, q, h, h1, h2, h3.1, h3.2, h4.1, h4.2, h5.1, h5.2, rfl⟩
theorem zr3 (h : GI σ l0 s cN cE ns es) (f1 : σ lx = none) (f2 : lx ≠ l0) (hd : ∀ n cap, cN = .grow lx n cap → False) (hxs : xs = eds es ++ [Ed.cv ⟨d, ⟨#[75]⟩, a, b', []⟩]) (hn : n = es.length + 1) (h1 : ns.length ≤ 100) (h2 : es.length ≤ 99) (h3 : -1000 ≤ nn ∧ nn ≤ 2000000000) (h4 : -1000 ≤ ne ∧ ne ≤ 1000) (h5 : p ≤ q ∧ q ≤ p + 20000) :
    z37 σ l0 bs p (.ret (.agg [cN, .grow lx n cap, i64 nn, i64 ne]) (upd (rd s l0 bs q) lx (.arr 32 5 cap xs))) := by
  rw [zbe f2]
  exact zdr (h.putE (zw0 (by decide) (by simp [prs]) (by simp)) hxs (by rw [hn, hxs, List.length_append, ye]; rfl) f1 f2 hd) h1 (by simp; omega) h3 h4 h5
theorem zeh (h : GI σ l0 s cN cE ns es) (hl : rd s l0 bs q lx = none) (hxs : xs = eds es ++ [Ed.cv ⟨d, ⟨#[75]⟩, a, b', []⟩]) (hn : n = es.length + 1) (h1 : ns.length ≤ 100) (h2 : es.length ≤ 99) (h3 : -1000 ≤ nn ∧ nn ≤ 2000000000) (h4 : -1000 ≤ ne ∧ ne ≤ 1000) (h5 : p ≤ q ∧ q ≤ p + 20000) :
    z37 σ l0 bs p (.ret (.agg [cN, .grow lx n cap, i64 nn, i64 ne]) (upd (rd s l0 bs q) lx (.arr 32 5 cap xs))) :=
  zr3 h (x9 h.sub hl) (zca hl) (h.freshN (zf4 hl)) hxs hn h1 h2 h3 h4 h5
theorem zxl {ob : Ob} {nr : List Nd} {n0 : Nd} {ls : List ByteArray} {pz : List Pr} (h : GI σ l0 s (.grow lx n cap) cE (n0 :: nr) es) (hm : n = (n0 :: nr).length) (hls : ∀ s ∈ ls, s.size ≤ 7) (hl4 : (wq ls).length ≤ 4) (hps : ∀ q ∈ pz, GoodP q) (hp6 : (prs pz).length ≤ 6) (hxs : xs = Nd.cv ⟨d, ls, pz⟩ :: nds nr) (h1 : (n0 :: nr).length ≤ 100) (h2 : es.length ≤ 100) (h3 : -1000 ≤ nn ∧ nn ≤ 2000000000) (h4 : -1000 ≤ ne ∧ ne ≤ 1000) (h5 : p ≤ q ∧ q ≤ p + 20000) :
    z37 σ l0 bs p (.ret (.agg [.grow lx n cap, cE, i64 nn, i64 ne]) (upd (rd (upd s lx ob) l0 bs q) lx (.arr 79 3 cap xs))) := by
  rw [zbe (h.fN _ _ _ rfl).2, z1p, hxs]
  refine zdr (ns := ⟨d, ls, pz⟩ :: nr) (h.setN (ns' := ⟨d, ls, pz⟩ :: nr) (by simp) hm fun x hx => ?_) (by simpa using h1) h2 h3 h4 h5
  rcases List.mem_cons.1 hx with rfl | hx
  · exact zu7 (by omega) hls hp6 hps
  · exact h.tn x (List.mem_cons_of_mem _ hx)
end
set_option maxHeartbeats 8000000 in
theorem z7i {l : Nat} {σ : Heap} {bs : List CV} (hb : BytesOk bs) (hl : bs.length ≤ 2000) {p : Int} (hp : 0 ≤ p) (hp' : p < 137438900000) : CRun Tryz.prog 21 [.ptr (.g l) 0] (rd σ l bs p) (z37 σ l bs p) := by
  refine jh (X := (GM [30] fun n => match Nat.beq n 6 with | true => some [0,1,2,3,4,7,9,5,6,8,10,11,12,13,14,15] | false => (match Nat.beq n 9 with | true => some [0,1,2,3,4,5,6] | false => (match Nat.beq n 10 with | true => some [0,1,2,3,4,5,6] | false => (none))))) (z0i _ _) (zxr _ _) (body := yz Tryz.f21) Tryz.func21 rfl (by kernel_rfl) (by kernel_rfl) ?_
  rw [Tryz.ntmps21]
  conv => whnf
  repeat' (first | (refine CallN.many (zv5 (z2z hb hl (by omega) (by omega))) ?_; rintro _ ⟨ns, es, nn, ne, q', tn, te, b1, b2, b3, b4, b5, b6, b7, b8, rfl⟩) | (refine CallN.many (zy4 (by omega) (by omega) tn te) ?_; rintro _ hc; obtain ⟨s', cN, cE, hG, hv, rfl⟩ := z3b tn te hc; have e4 := ye es; rcases hG.shN with ⟨rfl, rfl⟩ | ⟨lN, m, capN, rfl, hm, gN⟩ <;> rcases hG.shG hv with ⟨rfl, rfl⟩ | ⟨lE, mE, capE, rfl, hmE, gE⟩) | refine Zq ?_) <;> try (conv => whnf)
  all_goals (refine CallN.many (yq hb hl (by omega) (by omega)) ?_; rintro _ ⟨k, hk1, hk2, rfl⟩)
  case' inr.inl => cases ns
  case' inr.inr => cases ns
  case' inr.inl.nil => have hm : m = 0 := hm
  case' inr.inr.nil => have hm : m = 0 := hm
  case inr.inl.cons n0 nr =>
    obtain ⟨d0, ls0, ps0⟩ := n0
    have hm' := hm
    rw [List.length_cons] at hm'
    have hl0 := b1
    rw [List.length_cons] at b1
    have cL : ∀ (q2 : Int) (ob : Ob), 0 ≤ q2 → q2 < 274877906944 → CRun Tryz.prog 61 [.ptr (.g l) 0] (upd (rd s' l bs q2) lN ob) (zqe LabG (upd s' lN ob) l bs q2 10) := fun q2 ob h1 h2 => by rw [zbe (hG.fN _ _ _ rfl).2]; exact zgw hb hl h1 h2
    conv => whnf
    repeat' (first | (refine CallN.many (yq hb hl (by omega) (by omega)) ?_; rintro _ ⟨k', _, _, rfl⟩) | (refine CallN.many (zsp (lo := -1) (hi := 1000000000) hb hl (by omega) (by omega) ?_ (Nat.le_of_ble_eq_true rfl) (Nat.le_of_ble_eq_true rfl)) ?_; (repeat' (first | exact (trivial : True) | refine And.intro ?_ ?_ | refine ⟨_, rfl, ?_⟩ | omega | decide)); rintro _ ⟨k'', hk3, hk4, rfl⟩) | (refine CallN.many (zia hb hl (by omega) (by omega)) ?_; rintro _ ⟨_, q2, ⟨⟨ps, rfl, hps⟩, hp6⟩, hq3, hq4, rfl⟩) | (refine CallN.many (cL _ _ (by omega) (by omega)) ?_; rintro _ ⟨_, q1, ⟨⟨ls, rfl, hls⟩, hl4⟩, hq1, hq2, rfl⟩) | (refine AllocC.go (fun l2 cap2 hl2 hcap2 => ?_)) | (refine Need.go ?_ (h := ⟨by simp only [List.length_cons, List.length_nil]; omega, by simp only [List.length_cons, List.length_nil]; omega, ElsOk.one rfl rfl⟩)) | (refine GetN.go ?_ (h := x8 gN (hG.fN _ _ _ rfl).2)) | (refine GetN.go ?_ (h := x8 (za _ _ _) (hG.fN _ _ _ rfl).2)) | (refine ZT ?_) | refine Zi ?_ | refine Za ?_ | refine Zd ?_ | refine Zv (fun h => ?_) (fun h => ?_) | refine Zm ?_ | refine Zn ?_ | refine Zo ?_ | refine Zq ?_) <;> try (conv => whnf)
    all_goals first
      | exact zdr hG (by omega) (by omega) (by omega) (by omega) (by omega)
      | exact zr3 hG (hG.fE _ _ _ rfl).1 (hG.fE _ _ _ rfl).2 (fun n' cap' e => hG.dj _ _ _ _ _ e rfl) ((yj (hmE.trans (ye es).symm) _ _).trans rfl) (by simp only [List.length_cons, List.length_nil]; omega) (by omega) (by omega) (by omega) (by omega) (by omega)
      | exact zeh hG hl2 rfl rfl (by omega) (by simp) (by omega) (by omega) (by omega)
      | exact zeh hG hl2 ((yc (hmE.trans (ye es).symm) _).trans rfl) (by simp only [List.length_cons, List.length_nil]; omega) (by omega) (by omega) (by omega) (by omega) (by omega)
      | exact zxl hG hm hls hl4 hps hp6 rfl (by omega) (by omega) (by omega) (by omega) (by omega)
  case inr.inr.cons n0 nr =>
    obtain ⟨d0, ls0, ps0⟩ := n0
    have hm' := hm
    rw [List.length_cons] at hm'
    have hl0 := b1
    rw [List.length_cons] at b1
    have cL : ∀ (q2 : Int) (ob : Ob), 0 ≤ q2 → q2 < 274877906944 → CRun Tryz.prog 61 [.ptr (.g l) 0] (upd (rd s' l bs q2) lN ob) (zqe LabG (upd s' lN ob) l bs q2 10) := fun q2 ob h1 h2 => by rw [zbe (hG.fN _ _ _ rfl).2]; exact zgw hb hl h1 h2
    conv => whnf
    repeat' (first | (refine CallN.many (yq hb hl (by omega) (by omega)) ?_; rintro _ ⟨k', _, _, rfl⟩) | (refine CallN.many (zsp (lo := -1) (hi := 1000000000) hb hl (by omega) (by omega) ?_ (Nat.le_of_ble_eq_true rfl) (Nat.le_of_ble_eq_true rfl)) ?_; (repeat' (first | exact (trivial : True) | refine And.intro ?_ ?_ | refine ⟨_, rfl, ?_⟩ | omega | decide)); rintro _ ⟨k'', hk3, hk4, rfl⟩) | (refine CallN.many (zia hb hl (by omega) (by omega)) ?_; rintro _ ⟨_, q2, ⟨⟨ps, rfl, hps⟩, hp6⟩, hq3, hq4, rfl⟩) | (refine CallN.many (cL _ _ (by omega) (by omega)) ?_; rintro _ ⟨_, q1, ⟨⟨ls, rfl, hls⟩, hl4⟩, hq1, hq2, rfl⟩) | (refine AllocC.go (fun l2 cap2 hl2 hcap2 => ?_)) | (refine Need.go ?_ (h := ⟨rfl, by omega, by simp only [List.length_cons, List.length_nil]; omega, by simp only [List.length_cons, List.length_nil]; omega, ElsOk.one rfl rfl⟩)) | (refine GetN.go ?_ (h := x8 gN (hG.fN _ _ _ rfl).2)) | (refine GetN.go ?_ (h := x8 (za _ _ _) (hG.fN _ _ _ rfl).2)) | (refine GetN.go ?_ (h := x8 gE (hG.fE _ _ _ rfl).2)) | (refine ZT ?_) | refine Zi ?_ | refine Za ?_ | refine Zd ?_ | refine Zv (fun h => ?_) (fun h => ?_) | refine Zm ?_ | refine Zn ?_ | refine Zo ?_ | refine Zq ?_) <;> try (conv => whnf)
    all_goals first
      | exact zdr hG (by omega) (by omega) (by omega) (by omega) (by omega)
      | exact zr3 hG (hG.fE _ _ _ rfl).1 (hG.fE _ _ _ rfl).2 (fun n' cap' e => hG.dj _ _ _ _ _ e rfl) ((yj (hmE.trans (ye es).symm) _ _).trans rfl) (by simp only [List.length_cons, List.length_nil]; omega) (by omega) (by omega) (by omega) (by omega) (by omega)
      | exact zeh hG hl2 rfl rfl (by omega) (by simp) (by omega) (by omega) (by omega)
      | exact zeh hG hl2 ((yc (hmE.trans (ye es).symm) _).trans rfl) (by simp only [List.length_cons, List.length_nil]; omega) (by omega) (by omega) (by omega) (by omega) (by omega)
      | exact zxl hG hm hls hl4 hps hp6 rfl (by omega) (by omega) (by omega) (by omega) (by omega)
  all_goals
    conv => whnf
    repeat' (first | (refine CallN.many (yq hb hl (by omega) (by omega)) ?_; rintro _ ⟨k', _, _, rfl⟩) | (refine CallN.many (zsp (lo := -1) (hi := 1000000000) hb hl (by omega) (by omega) ?_ (Nat.le_of_ble_eq_true rfl) (Nat.le_of_ble_eq_true rfl)) ?_; (repeat' (first | exact (trivial : True) | refine And.intro ?_ ?_ | refine ⟨_, rfl, ?_⟩ | omega | decide)); rintro _ ⟨k'', hk3, hk4, rfl⟩) | (refine AllocC.go (fun l2 cap2 hl2 hcap2 => ?_)) | (refine Need.go ?_ (h := ⟨rfl, by omega, by simp only [List.length_cons, List.length_nil]; omega, by simp only [List.length_cons, List.length_nil]; omega, ElsOk.one rfl rfl⟩)) | (refine Need.go ?_ (h := ⟨by simp only [List.length_cons, List.length_nil]; omega, by simp only [List.length_cons, List.length_nil]; omega, ElsOk.one rfl rfl⟩)) | (refine GetN.go ?_ (h := x8 gE (hG.fE _ _ _ rfl).2)) | (refine ZT ?_) | refine Zi ?_ | refine Zb ?_ | refine Zd ?_ | refine Zg ?_ | refine Zv (fun h => ?_) (fun h => ?_) | refine Zm ?_ | refine Zn ?_ | refine Zq ?_) <;> try (conv => whnf)
  all_goals first
    | exact zdr hG (by omega) (by omega) (by omega) (by omega) (by omega)
    | exact zr3 hG (hG.fE _ _ _ rfl).1 (hG.fE _ _ _ rfl).2 (fun n' cap' e => hG.dj _ _ _ _ _ e rfl) ((yj (hmE.trans (ye es).symm) _ _).trans rfl) (by simp only [List.length_cons, List.length_nil]; omega) (by omega) (by omega) (by omega) (by omega) (by omega)
    | exact zeh hG hl2 rfl rfl (by omega) (by simp) (by omega) (by omega) (by omega)
    | exact zeh hG hl2 ((yc (hmE.trans (ye es).symm) _).trans rfl) (by simp only [List.length_cons, List.length_nil]; omega) (by omega) (by omega) (by omega) (by omega) (by omega)
end Go.Proofs.YtlamgfimgadnmaaGreat
