/-
  Contracts of the functions that the law reaches.
-/
import Derived.Test.YtlamgfimgadnmaaGreatK
set_option linter.unusedVariables false
set_option linter.unusedSimpArgs false
namespace Go.Proofs.YtlamgfimgadnmaaGreat
open Go Go.CL
set_option maxRecDepth 10000
def zxu (σ : Heap) (l0 : Nat) (bs : List CV) (q : Int) (cE : CV) (ns : List Nd) (es : List Ed) (nn ne : Int) (F : Prop) (out : COut) : Prop := ∃ s' cN' ns' nn' b, GI σ l0 s' cN' cE ns' es ∧ ((ns'.length = ns.length ∧ nn' = nn ∧ F) ∨ (ns'.length = ns.length + 1 ∧ nn' = nn + 1)) ∧
  out = .ret (.tup [.agg [cN', cE, i64 nn', i64 ne], .sc (.bool b)]) (rd s' l0 bs q)
section
variable {σ s : Heap} {l0 lx n cap : Nat} {bs : List CV} {q : Int} {cN cE : CV} {ns : List Nd} {es : List Ed} {nn ne : Int} {F : Prop} {b : Bool} {ls : List ByteArray} {ps : List Pr} {xs : List CV}
theorem xb (h : GI σ l0 s cN cE ns es) (hF : F) : zxu σ l0 bs q cE ns es nn ne F (.ret (.tup [.agg [cN, cE, i64 nn, i64 ne], .sc (.bool b)]) (rd s l0 bs q)) :=
  ⟨s, cN, ns, nn, b, h, .inl ⟨rfl, rfl, hF⟩, rfl⟩
theorem zct (h : GI σ l0 s cN cE ns es) (hx : NdTame ⟨nn, ls, ps⟩) (f1 : σ lx = none) (f2 : lx ≠ l0) (hd : ∀ n cap, cE = .grow lx n cap → False) (hxs : xs = nds ns ++ [Nd.cv ⟨nn, ls, ps⟩]) (hn : n = ns.length + 1) :
    zxu σ l0 bs q cE ns es nn ne F (.ret (.tup [.agg [.grow lx n cap, cE, i64 (nn + 1), i64 ne], .sc (.bool b)]) (upd (rd s l0 bs q) lx (.arr 79 3 cap xs))) := by
  rw [zbe f2]
  exact ⟨_, _, _, nn + 1, b, h.putN hx hxs (by rw [hn, hxs, List.length_append, ym]; rfl) f1 f2 hd, .inr ⟨by simp, rfl⟩, rfl⟩
theorem wz (h : GI σ l0 s cN cE ns es) (hx : NdTame ⟨nn, ls, ps⟩) (hl : rd s l0 bs q lx = none) (hxs : xs = nds ns ++ [Nd.cv ⟨nn, ls, ps⟩]) (hn : n = ns.length + 1) :
    zxu σ l0 bs q cE ns es nn ne F (.ret (.tup [.agg [.grow lx n cap, cE, i64 (nn + 1), i64 ne], .sc (.bool b)]) (upd (rd s l0 bs q) lx (.arr 79 3 cap xs))) :=
  zct h hx (x9 h.sub hl) (zca hl) (h.freshE (zf4 hl)) hxs hn
end
set_option maxHeartbeats 4000000 in
theorem zn4 {σ s : Heap} {l0 : Nat} {bs : List CV} {q : Int} {cN cE : CV} {ns : List Nd} {es : List Ed} {nn ne : Int} {ls : List ByteArray} {ps : List Pr} (hG : GI σ l0 s cN cE ns es) (hx : NdTame ⟨nn, ls, ps⟩) (hln : ns.length ≤ 100) (hnn : 0 ≤ nn ∧ nn ≤ 1000000) :
    CRun Tryz.prog 92 [.agg [cN, cE, i64 nn, i64 ne], .vec (wq ls), .vec (prs ps)] (rd s l0 bs q) (zxu σ l0 bs q cE ns es nn ne (y3 ls = true → yi ps = true → 12 ≤ ns.length)) := by
  have c1 := split (zhw (σ := rd s l0 bs q) hx.ll hx.ls)
  have c2 := split (zde (σ := rd s l0 bs q) hx.pl hx.ps)
  have c3 := znb (σ := rd s l0 bs q) hx.pl (fun p hp => (hx.ps p hp).val)
  have e3 := ym ns
  have oN := hG.oN
  have oE := hG.oE
  have els := zqj ls
  have esl := jk ls
  have hll := hx.ll
  dsimp only at c1 c2 c3 hll
  generalize hxs : nds ns = xs at oN e3
  generalize hys : eds es = ys at oE
  have z0 : ([] : List CV).length = 0 := rfl
  cases oN with
  | nil =>
    cases oE with
    | nil =>
      cases ls with
      | nil =>
        refine ZG [39] Tryz.func92 Tryz.ntmps92 ?_
        conv => whnf
        repeat' (first | (refine CallN.many c1 ?_; rintro _ (⟨hla, rfl⟩ | ⟨hla, rfl⟩)) | (refine CallN.many c2 ?_; rintro _ (⟨hpr, rfl⟩ | ⟨hpr, rfl⟩)) | (refine ZC c3 ?_) | (refine AllocC.go (fun l2 cap2 hl2 hcap2 => ?_)) | (refine Need.go ?_ (h := ⟨by simp only [List.length_cons, List.length_nil]; omega, by simp only [List.length_cons, List.length_nil]; omega, ElsOk.one rfl rfl⟩)) | (refine ZT ?_) | refine Zi ?_ | refine Zb ?_ | refine Ze ?_ | refine Zg ?_ | refine Zm ?_ | refine Zn ?_ | refine Zp ?_) <;> try (conv => whnf)
        all_goals first
          | exact xb hG (fun a b => by first | (rw [hla] at a; exact Bool.noConfusion a) | (rw [hpr] at b; exact Bool.noConfusion b) | omega)
          | exact wz hG hx hl2 (by rw [hxs]; rfl) (by have := e3; rw [z0] at this; simp only [List.length_cons, List.length_nil]; omega)
          | (exfalso; omega)
      | cons s0 r =>
        refine ZG [39] Tryz.func92 Tryz.ntmps92 ?_
        conv => whnf
        repeat' (first | (refine CallN.many c1 ?_; rintro _ (⟨hla, rfl⟩ | ⟨hla, rfl⟩)) | (refine CallN.many c2 ?_; rintro _ (⟨hpr, rfl⟩ | ⟨hpr, rfl⟩)) | (refine ZC c3 ?_) | (refine AllocC.go (fun l2 cap2 hl2 hcap2 => ?_)) | (refine Need.ap2 ?_ (h := els) (h1 := by simp only [List.length_replicate]; omega) (h3 := by rw [esl]; simp) (h2 := rfl)) | (refine Need.go ?_ (h := ⟨by simp only [List.length_cons, List.length_nil]; omega, by simp only [List.length_cons, List.length_nil]; omega, ElsOk.one rfl rfl⟩)) | (refine ZT ?_) | refine Zi ?_ | refine Zb ?_ | refine Zg ?_ | refine Zm ?_ | refine Zn ?_ | refine Zp ?_) <;> try (conv => whnf)
        all_goals first
          | exact xb hG (fun a b => by first | (rw [hla] at a; exact Bool.noConfusion a) | (rw [hpr] at b; exact Bool.noConfusion b) | omega)
          | exact wz hG hx hl2 (by rw [hxs]; rfl) (by have := e3; rw [z0] at this; simp only [List.length_cons, List.length_nil]; omega)
          | (exfalso; omega)
    | vec _ =>
      cases ls with
      | nil =>
        refine ZG [39] Tryz.func92 Tryz.ntmps92 ?_
        conv => whnf
        repeat' (first | (refine CallN.many c1 ?_; rintro _ (⟨hla, rfl⟩ | ⟨hla, rfl⟩)) | (refine CallN.many c2 ?_; rintro _ (⟨hpr, rfl⟩ | ⟨hpr, rfl⟩)) | (refine ZC c3 ?_) | (refine AllocC.go (fun l2 cap2 hl2 hcap2 => ?_)) | (refine Need.go ?_ (h := ⟨by simp only [List.length_cons, List.length_nil]; omega, by simp only [List.length_cons, List.length_nil]; omega, ElsOk.one rfl rfl⟩)) | (refine ZT ?_) | refine Zi ?_ | refine Zb ?_ | refine Ze ?_ | refine Zg ?_ | refine Zm ?_ | refine Zn ?_ | refine Zp ?_) <;> try (conv => whnf)
        all_goals first
          | exact xb hG (fun a b => by first | (rw [hla] at a; exact Bool.noConfusion a) | (rw [hpr] at b; exact Bool.noConfusion b) | omega)
          | exact wz hG hx hl2 (by rw [hxs]; rfl) (by have := e3; rw [z0] at this; simp only [List.length_cons, List.length_nil]; omega)
          | (exfalso; omega)
      | cons s0 r =>
        refine ZG [39] Tryz.func92 Tryz.ntmps92 ?_
        conv => whnf
        repeat' (first | (refine CallN.many c1 ?_; rintro _ (⟨hla, rfl⟩ | ⟨hla, rfl⟩)) | (refine CallN.many c2 ?_; rintro _ (⟨hpr, rfl⟩ | ⟨hpr, rfl⟩)) | (refine ZC c3 ?_) | (refine AllocC.go (fun l2 cap2 hl2 hcap2 => ?_)) | (refine Need.ap2 ?_ (h := els) (h1 := by simp only [List.length_replicate]; omega) (h3 := by rw [esl]; simp) (h2 := rfl)) | (refine Need.go ?_ (h := ⟨by simp only [List.length_cons, List.length_nil]; omega, by simp only [List.length_cons, List.length_nil]; omega, ElsOk.one rfl rfl⟩)) | (refine ZT ?_) | refine Zi ?_ | refine Zb ?_ | refine Zg ?_ | refine Zm ?_ | refine Zn ?_ | refine Zp ?_) <;> try (conv => whnf)
        all_goals first
          | exact xb hG (fun a b => by first | (rw [hla] at a; exact Bool.noConfusion a) | (rw [hpr] at b; exact Bool.noConfusion b) | omega)
          | exact wz hG hx hl2 (by rw [hxs]; rfl) (by have := e3; rw [z0] at this; simp only [List.length_cons, List.length_nil]; omega)
          | (exfalso; omega)
    | grow lE mE capE _ hmE gE =>
      cases ls with
      | nil =>
        refine ZG [39] Tryz.func92 Tryz.ntmps92 ?_
        conv => whnf
        repeat' (first | (refine CallN.many c1 ?_; rintro _ (⟨hla, rfl⟩ | ⟨hla, rfl⟩)) | (refine CallN.many c2 ?_; rintro _ (⟨hpr, rfl⟩ | ⟨hpr, rfl⟩)) | (refine ZC c3 ?_) | (refine AllocC.go (fun l2 cap2 hl2 hcap2 => ?_)) | (refine Need.go ?_ (h := ⟨by simp only [List.length_cons, List.length_nil]; omega, by simp only [List.length_cons, List.length_nil]; omega, ElsOk.one rfl rfl⟩)) | (refine ZT ?_) | refine Zi ?_ | refine Zb ?_ | refine Ze ?_ | refine Zg ?_ | refine Zm ?_ | refine Zn ?_ | refine Zp ?_) <;> try (conv => whnf)
        all_goals first
          | exact xb hG (fun a b => by first | (rw [hla] at a; exact Bool.noConfusion a) | (rw [hpr] at b; exact Bool.noConfusion b) | omega)
          | exact wz hG hx hl2 (by rw [hxs]; rfl) (by have := e3; rw [z0] at this; simp only [List.length_cons, List.length_nil]; omega)
          | (exfalso; omega)
      | cons s0 r =>
        refine ZG [39] Tryz.func92 Tryz.ntmps92 ?_
        conv => whnf
        repeat' (first | (refine CallN.many c1 ?_; rintro _ (⟨hla, rfl⟩ | ⟨hla, rfl⟩)) | (refine CallN.many c2 ?_; rintro _ (⟨hpr, rfl⟩ | ⟨hpr, rfl⟩)) | (refine ZC c3 ?_) | (refine AllocC.go (fun l2 cap2 hl2 hcap2 => ?_)) | (refine Need.ap2 ?_ (h := els) (h1 := by simp only [List.length_replicate]; omega) (h3 := by rw [esl]; simp) (h2 := rfl)) | (refine Need.go ?_ (h := ⟨by simp only [List.length_cons, List.length_nil]; omega, by simp only [List.length_cons, List.length_nil]; omega, ElsOk.one rfl rfl⟩)) | (refine ZT ?_) | refine Zi ?_ | refine Zb ?_ | refine Zg ?_ | refine Zm ?_ | refine Zn ?_ | refine Zp ?_) <;> try (conv => whnf)
        all_goals first
          | exact xb hG (fun a b => by first | (rw [hla] at a; exact Bool.noConfusion a) | (rw [hpr] at b; exact Bool.noConfusion b) | omega)
          | exact wz hG hx hl2 (by rw [hxs]; rfl) (by have := e3; rw [z0] at this; simp only [List.length_cons, List.length_nil]; omega)
          | (exfalso; omega)
  | vec _ => exact (hG.vN _ rfl).elim
  | grow lN n cap _ hn gN =>
    cases oE with
    | nil =>
      have hN := hG.fN lN n cap rfl
      have hdj := hG.dj lN n cap
      have gN' := x8 (q := q) (bs := bs) gN hN.2
      cases ls with
      | nil =>
        refine ZG [39] Tryz.func92 Tryz.ntmps92 ?_
        conv => whnf
        repeat' (first | (refine CallN.many c1 ?_; rintro _ (⟨hla, rfl⟩ | ⟨hla, rfl⟩)) | (refine CallN.many c2 ?_; rintro _ (⟨hpr, rfl⟩ | ⟨hpr, rfl⟩)) | (refine ZC c3 ?_) | (refine AllocC.go (fun l2 cap2 hl2 hcap2 => ?_)) | (refine Need.go ?_ (h := ⟨rfl, by omega, by simp only [List.length_cons, List.length_nil]; omega, by simp only [List.length_cons, List.length_nil]; omega, ElsOk.one rfl rfl⟩)) | (refine ZT ?_) | refine Zi ?_ | refine Zb ?_ | refine Ze ?_ | refine Zg ?_ | refine Zv (fun h => ?_) (fun h => ?_) | refine Zj ?_ | refine Zm ?_ | refine Zn ?_ | refine Zp ?_) <;> try (conv => whnf)
        all_goals first
          | exact xb hG (fun a b => by first | (rw [hla] at a; exact Bool.noConfusion a) | (rw [hpr] at b; exact Bool.noConfusion b) | omega)
          | exact zct hG hx hN.1 hN.2 (fun n' cap' e => hdj n' cap' rfl e) ((yj hn _ _).trans (by rw [hxs]; rfl)) (by simp only [List.length_cons, List.length_nil]; omega)
          | exact wz hG hx hl2 ((yc hn _).trans (by rw [hxs]; rfl)) (by simp only [List.length_cons, List.length_nil]; omega)
      | cons s0 r =>
        refine ZG [39] Tryz.func92 Tryz.ntmps92 ?_
        conv => whnf
        repeat' (first | (refine CallN.many c1 ?_; rintro _ (⟨hla, rfl⟩ | ⟨hla, rfl⟩)) | (refine CallN.many c2 ?_; rintro _ (⟨hpr, rfl⟩ | ⟨hpr, rfl⟩)) | (refine ZC c3 ?_) | (refine AllocC.go (fun l2 cap2 hl2 hcap2 => ?_)) | (refine Need.ap2 ?_ (h := els) (h1 := by simp only [List.length_replicate]; omega) (h3 := by rw [esl]; simp) (h2 := rfl)) | (refine Need.go ?_ (h := ⟨rfl, by omega, by simp only [List.length_cons, List.length_nil]; omega, by simp only [List.length_cons, List.length_nil]; omega, ElsOk.one rfl rfl⟩)) | (refine ZT ?_) | refine Zi ?_ | refine Zb ?_ | refine Zg ?_ | refine Zv (fun h => ?_) (fun h => ?_) | refine Zj ?_ | refine Zm ?_ | refine Zn ?_ | refine Zp ?_) <;> try (conv => whnf)
        all_goals first
          | exact xb hG (fun a b => by first | (rw [hla] at a; exact Bool.noConfusion a) | (rw [hpr] at b; exact Bool.noConfusion b) | omega)
          | exact zct hG hx hN.1 hN.2 (fun n' cap' e => hdj n' cap' rfl e) ((yj hn _ _).trans (by rw [hxs]; rfl)) (by simp only [List.length_cons, List.length_nil]; omega)
          | exact wz hG hx hl2 ((yc hn _).trans (by rw [hxs]; rfl)) (by simp only [List.length_cons, List.length_nil]; omega)
    | vec _ =>
      have hN := hG.fN lN n cap rfl
      have hdj := hG.dj lN n cap
      have gN' := x8 (q := q) (bs := bs) gN hN.2
      cases ls with
      | nil =>
        refine ZG [39] Tryz.func92 Tryz.ntmps92 ?_
        conv => whnf
        repeat' (first | (refine CallN.many c1 ?_; rintro _ (⟨hla, rfl⟩ | ⟨hla, rfl⟩)) | (refine CallN.many c2 ?_; rintro _ (⟨hpr, rfl⟩ | ⟨hpr, rfl⟩)) | (refine ZC c3 ?_) | (refine AllocC.go (fun l2 cap2 hl2 hcap2 => ?_)) | (refine Need.go ?_ (h := ⟨rfl, by omega, by simp only [List.length_cons, List.length_nil]; omega, by simp only [List.length_cons, List.length_nil]; omega, ElsOk.one rfl rfl⟩)) | (refine ZT ?_) | refine Zi ?_ | refine Zb ?_ | refine Ze ?_ | refine Zg ?_ | refine Zv (fun h => ?_) (fun h => ?_) | refine Zj ?_ | refine Zm ?_ | refine Zn ?_ | refine Zp ?_) <;> try (conv => whnf)
        all_goals first
          | exact xb hG (fun a b => by first | (rw [hla] at a; exact Bool.noConfusion a) | (rw [hpr] at b; exact Bool.noConfusion b) | omega)
          | exact zct hG hx hN.1 hN.2 (fun n' cap' e => hdj n' cap' rfl e) ((yj hn _ _).trans (by rw [hxs]; rfl)) (by simp only [List.length_cons, List.length_nil]; omega)
          | exact wz hG hx hl2 ((yc hn _).trans (by rw [hxs]; rfl)) (by simp only [List.length_cons, List.length_nil]; omega)
      | cons s0 r =>
        refine ZG [39] Tryz.func92 Tryz.ntmps92 ?_
        conv => whnf
        repeat' (first | (refine CallN.many c1 ?_; rintro _ (⟨hla, rfl⟩ | ⟨hla, rfl⟩)) | (refine CallN.many c2 ?_; rintro _ (⟨hpr, rfl⟩ | ⟨hpr, rfl⟩)) | (refine ZC c3 ?_) | (refine AllocC.go (fun l2 cap2 hl2 hcap2 => ?_)) | (refine Need.ap2 ?_ (h := els) (h1 := by simp only [List.length_replicate]; omega) (h3 := by rw [esl]; simp) (h2 := rfl)) | (refine Need.go ?_ (h := ⟨rfl, by omega, by simp only [List.length_cons, List.length_nil]; omega, by simp only [List.length_cons, List.length_nil]; omega, ElsOk.one rfl rfl⟩)) | (refine ZT ?_) | refine Zi ?_ | refine Zb ?_ | refine Zg ?_ | refine Zv (fun h => ?_) (fun h => ?_) | refine Zj ?_ | refine Zm ?_ | refine Zn ?_ | refine Zp ?_) <;> try (conv => whnf)
        all_goals first
          | exact xb hG (fun a b => by first | (rw [hla] at a; exact Bool.noConfusion a) | (rw [hpr] at b; exact Bool.noConfusion b) | omega)
          | exact zct hG hx hN.1 hN.2 (fun n' cap' e => hdj n' cap' rfl e) ((yj hn _ _).trans (by rw [hxs]; rfl)) (by simp only [List.length_cons, List.length_nil]; omega)
          | exact wz hG hx hl2 ((yc hn _).trans (by rw [hxs]; rfl)) (by simp only [List.length_cons, List.length_nil]; omega)
    | grow lE mE capE _ hmE gE =>
      have hN := hG.fN lN n cap rfl
      have hdj := hG.dj lN n cap
      have gN' := x8 (q := q) (bs := bs) gN hN.2
      cases ls with
      | nil =>
        refine ZG [39] Tryz.func92 Tryz.ntmps92 ?_
        conv => whnf
        repeat' (first | (refine CallN.many c1 ?_; rintro _ (⟨hla, rfl⟩ | ⟨hla, rfl⟩)) | (refine CallN.many c2 ?_; rintro _ (⟨hpr, rfl⟩ | ⟨hpr, rfl⟩)) | (refine ZC c3 ?_) | (refine AllocC.go (fun l2 cap2 hl2 hcap2 => ?_)) | (refine Need.go ?_ (h := ⟨rfl, by omega, by simp only [List.length_cons, List.length_nil]; omega, by simp only [List.length_cons, List.length_nil]; omega, ElsOk.one rfl rfl⟩)) | (refine ZT ?_) | refine Zi ?_ | refine Zb ?_ | refine Ze ?_ | refine Zg ?_ | refine Zv (fun h => ?_) (fun h => ?_) | refine Zj ?_ | refine Zm ?_ | refine Zn ?_ | refine Zp ?_) <;> try (conv => whnf)
        all_goals first
          | exact xb hG (fun a b => by first | (rw [hla] at a; exact Bool.noConfusion a) | (rw [hpr] at b; exact Bool.noConfusion b) | omega)
          | exact zct hG hx hN.1 hN.2 (fun n' cap' e => hdj n' cap' rfl e) ((yj hn _ _).trans (by rw [hxs]; rfl)) (by simp only [List.length_cons, List.length_nil]; omega)
          | exact wz hG hx hl2 ((yc hn _).trans (by rw [hxs]; rfl)) (by simp only [List.length_cons, List.length_nil]; omega)
      | cons s0 r =>
        refine ZG [39] Tryz.func92 Tryz.ntmps92 ?_
        conv => whnf
        repeat' (first | (refine CallN.many c1 ?_; rintro _ (⟨hla, rfl⟩ | ⟨hla, rfl⟩)) | (refine CallN.many c2 ?_; rintro _ (⟨hpr, rfl⟩ | ⟨hpr, rfl⟩)) | (refine ZC c3 ?_) | (refine AllocC.go (fun l2 cap2 hl2 hcap2 => ?_)) | (refine Need.ap2 ?_ (h := els) (h1 := by simp only [List.length_replicate]; omega) (h3 := by rw [esl]; simp) (h2 := rfl)) | (refine Need.go ?_ (h := ⟨rfl, by omega, by simp only [List.length_cons, List.length_nil]; omega, by simp only [List.length_cons, List.length_nil]; omega, ElsOk.one rfl rfl⟩)) | (refine ZT ?_) | refine Zi ?_ | refine Zb ?_ | refine Zg ?_ | refine Zv (fun h => ?_) (fun h => ?_) | refine Zj ?_ | refine Zm ?_ | refine Zn ?_ | refine Zp ?_) <;> try (conv => whnf)
        all_goals first
          | exact xb hG (fun a b => by first | (rw [hla] at a; exact Bool.noConfusion a) | (rw [hpr] at b; exact Bool.noConfusion b) | omega)
          | exact zct hG hx hN.1 hN.2 (fun n' cap' e => hdj n' cap' rfl e) ((yj hn _ _).trans (by rw [hxs]; rfl)) (by simp only [List.length_cons, List.length_nil]; omega)
          | exact wz hG hx hl2 ((yc hn _).trans (by rw [hxs]; rfl)) (by simp only [List.length_cons, List.length_nil]; omega)
end Go.Proofs.YtlamgfimgadnmaaGreat
