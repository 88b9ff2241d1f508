/-
  Contracts of the functions that the law reaches.
-/
import Derived.Test.YthllnbfkfobcjaaGreatGJa
import Derived.Test.YthllnbfkfobcjaaGreatGG
set_option linter.unusedVariables false
set_option linter.unusedSimpArgs false
namespace Go.Proofs.YthllnbfkfobcjaaGreat
open Go Go.CL
set_option maxRecDepth 10000
structure ClG (c : Cl) : Prop where
  t : ClT c
  o : ClO c
def abc : List ByteArray := [⟨#[97]⟩, ⟨#[98]⟩, ⟨#[99]⟩]
def abcC : List CV := [.sc (.string ⟨#[97]⟩), .sc (.string ⟨#[98]⟩), .sc (.string ⟨#[99]⟩)]
theorem colsG {k : Int} {is : List It} {di : Bool} {os : List Od} {sk li : Int} (hk : Sm k) (h1 : 1 ≤ is.length) (h2 : is.length ≤ 3) (h3 : ∀ x ∈ is, ItT x) (h4 : os.length ≤ 2) (h5 : ∀ x ∈ os, x.name.size ≤ 7) (h6 : Sm sk) (h7 : Sm li) :
    ClG ⟨k, [], .mk 0 (.mk 0 0 ⟨#[]⟩ []) ⟨#[]⟩ ⟨#[]⟩ [], ⟨#[]⟩, is, di, os, sk, li, [], [], false⟩ :=
  ⟨⟨hk, by simp, by simp, nullE_t, Nat.zero_le _, by dsimp only; omega, h3, by dsimp only; omega, fun x hx => Nat.le_trans (h5 x hx) (by omega), h6, h7, by simp, by simp, by simp, by simp⟩,
   ⟨fun h => by dsimp only at h; omega, fun _ => rfl, .inr (.inr (.inl ⟨rfl, by dsimp only; omega, rfl, rfl⟩))⟩⟩
theorem ordOneAt (n : Nat) {ops : Array Oper} {ord : List Nat} {ds : List Did} {m : Nat} {A B : Prop} (h : B) : OrdN (panOk ops ord n = true ∧ drawOk ops ord ds m = true) A B := .one h
structure Hold2 (T : Prop) : Prop where
  h : T
theorem share2 {T G : Prop} (main : Hold2 T → G) (proof : T) : G := main ⟨proof⟩
def abcAt (i : Nat) : ByteArray := abc.getD i ⟨#[]⟩
theorem abcAt_s : ∀ i, (abcAt i).size ≤ 7
  | 0 => by decide
  | 1 => by decide
  | 2 => by decide
  | _ + 3 => Nat.zero_le _
theorem abcAt_n : ∀ {i : Nat}, i < 3 → abcC[((i : Nat) : Int).toNat]? = some (.sc (.string (abcAt i)))
  | 0, _ => rfl
  | 1, _ => rfl
  | 2, _ => rfl
  | _ + 3, h => absurd h (by omega)
theorem abcAt_i {k : Int} (h : 0 ≤ k) (h1 : k < 3) : abcC[k.toNat]? = some (.sc (.string (abcAt k.toNat))) := by
  have := abcAt_n (i := k.toNat) (by omega)
  rwa [Int.toNat_natCast] at this
theorem abc_take (k : Nat) : sts (abc.take k) = abcC.take k := by unfold sts abc abcC; rw [List.map_take]; rfl
theorem abc_mem {k : Nat} : ∀ s ∈ abc.take k, s.size ≤ 7 := fun s hs => by
  have h : ∀ s ∈ abc, s.size ≤ 7 := by decide
  exact h s (List.mem_of_mem_take hs)
theorem cntE_t : ETame (.mk 14 (.mk 0 0 ⟨#[]⟩ []) ⟨#[]⟩ ⟨#[]⟩ []) := .mk (tame0 (by omega) (by omega)) (by decide) (by decide) (by simp) (by simp)
theorem varE_t {t : ByteArray} (h : t.size ≤ 7) : ETame (.mk 2 (.mk 0 0 ⟨#[]⟩ []) t ⟨#[]⟩ []) := .mk (tame0 (by omega) (by omega)) (by omega) (by decide) (by simp) (by simp)
structure CSt where
  i : Nat
  is : List It
  q : Int
  di : Bool
structure DSt where
  k : Int
  os : List Od
  q : Int
theorem its_app (a : List It) (h : It) : its (a ++ [h]) = its a ++ [h.cv] := by simp [its]
theorem ods_app (a : List Od) (h : Od) : ods (a ++ [h]) = ods a ++ [h.cv] := by simp [ods]
set_option maxHeartbeats 2000000 in
theorem cols_d {σ : Heap} {l ls : Nat} {bs : List CV} (hb : BytesOk bs) (hl : bs.length ≤ 2000) {p : Int} {L : List ByteArray} {n : Int} {m : Nat} (hne : ls ≠ l) (g : NG m L n) (hm : m ≤ 800) (hp : 0 ≤ p) (hp' : p ≤ 700000) {kd : Int} (hkd : Sm kd) :
    CRun Tryz.prog 187 [.ptr (.g l) 0, .ptr (.g ls) 0, i64 kd] (rd (upd σ ls (scO L n)) l bs p) (fun out => ∃ is di os sk li p' L' n', ClG ⟨kd, [], .mk 0 (.mk 0 0 ⟨#[]⟩ []) ⟨#[]⟩ ⟨#[]⟩ [], ⟨#[]⟩, is, di, os, sk, li, [], [], false⟩ ∧ NG m L' n' ∧ p ≤ p' ∧ p' ≤ p + 900 ∧ out = .ret (Cl.cv ⟨kd, [], .mk 0 (.mk 0 0 ⟨#[]⟩ []) ⟨#[]⟩ ⟨#[]⟩ [], ⟨#[]⟩, is, di, os, sk, li, [], [], false⟩) (rd (upd σ ls (scO L' n')) l bs p')) := by
  have hN := g.names (by omega)
  have hh := fun q => dh_at' (σ := σ) (bs := bs) (p := q) (L := L) (n := n) hne
  have e3 := sts_len L
  have c0 : costE 0 = 50 := rfl
  have c1 : costE 1 = 160 := rfl
  have ex1 := fun (q : Int) (h4 : 0 ≤ q) (h5 : q ≤ 800000) => eopen_draw (expr_c (l := l) hb hl hN 1 (deep := 2) (p := q) (by omega) (by omega) (by omega) h4 (by omega) (upd σ ls (scO L n)))
  have ex0 := fun (q : Int) (h4 : 0 ≤ q) (h5 : q ≤ 800000) => eopen_draw (expr_c (l := l) hb hl hN 0 (deep := 1) (p := q) (by omega) (by omega) (by omega) h4 (by omega) (upd σ ls (scO L n)))
  apply share2
  focus {
  intro st
  refine crun_of (X := (GM [] fun n => match Nat.beq n 6 with | true => some [0,1,2,3,4,5,6,7,8,11,9,10,12] | false => (none))) (GM_ok _ _) (GM_sat _ _) (body := bodyOf Tryz.f187) Tryz.func187 rfl (by kernel_rfl) (by kernel_rfl) ?_
  rw [Tryz.ntmps187]
  conv => whnf
  repeat' (first | (refine CallN.many (pick_n hb hl (by omega) (by omega)) ?_; rintro _ ⟨kk, hkk1, hkk2, rfl⟩) | refine Fork.dp (fun h => ?_) (fun h => ?_) | refine ExtN.wr ?_) <;> try (conv => whnf)
  · refine LoopN.rule (α := CSt) (fun a => ⟨120, [(0, .ptr (.g l) 0), (1, .ptr (.g ls) 0), (6, .ptr (.f 6) 0), (7, .ptr (.f 7) 0), (8, .vec abcC), (9, i64 a.i)], [(6, .cells [i64 0, .nil, i64 0, i64 0, i64 0, .sc (.string ⟨#[]⟩), .nil, .sc (.string ⟨#[]⟩), .sc (.string ⟨#[]⟩), .nil, .sc (.string ⟨#[]⟩), .nil, .sc (.bool false), .nil, i64 0, i64 0, .nil, .nil, .sc (.bool false)]), (7, .cells [i64 kd, .nil, i64 0, i64 0, i64 0, .sc (.string ⟨#[]⟩), .nil, .sc (.string ⟨#[]⟩), .sc (.string ⟨#[]⟩), .nil, .sc (.string ⟨#[]⟩), .avec 74 (its a.is), .sc (.bool a.di), .nil, i64 (-1), i64 (-1), .nil, .nil, .sc (.bool false)]), (74, .tok 91 9 (its a.is).length)]⟩)
      (fun a => rd (upd σ ls (scO L n)) l bs a.q) (fun a => 3 - a.i) (fun a => a.i ≤ 3 ∧ a.is.length = a.i ∧ (∀ x ∈ a.is, ItT x) ∧ p ≤ a.q ∧ a.q ≤ p + 1 + a.i * 220) ?_ ⟨0, [], p + 1, true⟩ ⟨by simp, rfl, by simp, by dsimp only; omega, by simp⟩ ?_
    · exact st.h
    · (refine ⟨rfl, ?_, ?_, Sub.refl _⟩ <;> repeat' (first | exact EnvLe.nil | exact LocsLe.nil | refine EnvLe.cons _ _ _ ?_ ?_ | refine LocsLe.cons _ _ _ ?_ ?_ | exact CVle.same _ rfl | exact CVle.vec _ _ | exact CVle.nil | exact CVle.tok _ _ _ rfl rfl | exact ObLe.tok _ _ rfl | exact CVles.nil | refine CVles.cons ?_ ?_ | exact ObLe.same _ rfl rfl | refine ObLe.cells rfl ?_))
  · refine LoopN.rule (α := CSt) (fun a => ⟨120, [(0, .ptr (.g l) 0), (1, .ptr (.g ls) 0), (6, .ptr (.f 6) 0), (7, .ptr (.f 7) 0), (8, .vec abcC), (9, i64 a.i)], [(6, .cells [i64 0, .nil, i64 0, i64 0, i64 0, .sc (.string ⟨#[]⟩), .nil, .sc (.string ⟨#[]⟩), .sc (.string ⟨#[]⟩), .nil, .sc (.string ⟨#[]⟩), .nil, .sc (.bool false), .nil, i64 0, i64 0, .nil, .nil, .sc (.bool false)]), (7, .cells [i64 kd, .nil, i64 0, i64 0, i64 0, .sc (.string ⟨#[]⟩), .nil, .sc (.string ⟨#[]⟩), .sc (.string ⟨#[]⟩), .nil, .sc (.string ⟨#[]⟩), .avec 74 (its a.is), .sc (.bool a.di), .nil, i64 (-1), i64 (-1), .nil, .nil, .sc (.bool false)]), (74, .tok 91 9 (its a.is).length)]⟩)
      (fun a => rd (upd σ ls (scO L n)) l bs a.q) (fun a => 3 - a.i) (fun a => a.i ≤ 3 ∧ a.is.length = a.i ∧ (∀ x ∈ a.is, ItT x) ∧ p ≤ a.q ∧ a.q ≤ p + 1 + a.i * 220) ?_ ⟨0, [], p + 1, false⟩ ⟨by simp, rfl, by simp, by dsimp only; omega, by simp⟩ ?_
    · exact st.h
    · (refine ⟨rfl, ?_, ?_, Sub.refl _⟩ <;> repeat' (first | exact EnvLe.nil | exact LocsLe.nil | refine EnvLe.cons _ _ _ ?_ ?_ | refine LocsLe.cons _ _ _ ?_ ?_ | exact CVle.same _ rfl | exact CVle.vec _ _ | exact CVle.nil | exact CVle.tok _ _ _ rfl rfl | exact ObLe.tok _ _ rfl | exact CVles.nil | refine CVles.cons ?_ ?_ | exact ObLe.same _ rfl rfl | refine ObLe.cells rfl ?_))
  }
  rintro ⟨i, is, q, di⟩ K ⟨i1, i2, i3, i4, i5⟩ hK
  dsimp only at i1 i2 i3 i4 i5 ⊢
  have e4 := its_len is
  have hK := fun (k vk vn : Int) (vt : ByteArray) (vl : List Val) (s c : ByteArray) (ps : List Exp) (q' : Int) => hK ⟨i + 1, is ++ [⟨.mk k (.mk vk vn vt vl) s c ps, abcAt i⟩], q', di⟩
  simp only [its_app, List.length_append, List.length_cons, List.length_nil] at hK
  have mem : ∀ {e : Exp}, ETame e → ∀ x ∈ is ++ [⟨e, abcAt i⟩], ItT x := fun h x hx => by
    rcases List.mem_append.1 hx with hx | hx
    · exact i3 x hx
    · rw [List.mem_singleton.1 hx]; exact ⟨Nat.le_trans (abcAt_s i) (by omega), h⟩
  conv => whnf
  repeat' (first | (refine ordOneAt 9 ?_) | (refine Need.ap1 ?_ (h1 := by simp only [List.length_replicate, List.length_append, List.length_cons, List.length_nil]; omega)) | (refine GetN.go ?_ (h := hh _)) | (refine ElemN.go ?_ (h := abcAt_n (by omega))) | (refine ExtN.wrk ?_) | (refine Need.mk (And.intro (rdk hne) trivial) ?_) | (refine CallN.many (pick_n hb hl (by omega) (by omega)) ?_; rintro _ ⟨k1, hk1, hk2, rfl⟩) | ((refine CallN.many (of_c (m := 7) hb hl (by omega) (by omega) hN.1 (by omega) hN.2) ?_; rintro _ ⟨t, ht, rfl⟩)) | ((refine CallN.many (ex1 _ (by omega) (by omega)) ?_; rintro _ ⟨ek, evk, evn, evt, evl, es, ec, eps, p1, g1, hq1, hq2, rfl⟩)) | ((refine CallN.many (ex0 _ (by omega) (by omega)) ?_; rintro _ ⟨fk, fvk, fvn, fvt, fvl, fs, fc, fps, p2, g2, hq3, hq4, rfl⟩)) | refine OrdN.go ?_ | refine Fork.nb ?_ | refine Fork.dp (fun h => ?_) (fun h => ?_) | refine Need.go ?_ | refine Need.draw ?_) <;> try (conv => whnf)
  all_goals first
    | (refine hK 14 0 0 ⟨#[]⟩ [] ⟨#[]⟩ ⟨#[]⟩ [] (p1 + 1) _ _ ⟨by omega, by omega, mem cntE_t, by omega, by omega⟩ (by omega) ?_
       (refine ⟨rfl, ?_, ?_, Sub.refl _⟩ <;> repeat' (first | exact EnvLe.nil | exact LocsLe.nil | refine EnvLe.cons _ _ _ ?_ ?_ | refine LocsLe.cons _ _ _ ?_ ?_ | exact CVle.same _ rfl | exact CVle.vec _ _ | exact CVle.nil | exact CVle.tok _ _ _ rfl rfl | exact ObLe.tok _ _ rfl | exact CVles.nil | refine CVles.cons ?_ ?_ | exact ObLe.same _ rfl rfl | refine ObLe.cells rfl ?_))
       done)
    | (refine hK 15 0 0 ⟨#[]⟩ [] ⟨#[]⟩ ⟨#[]⟩ [.mk fk (.mk fvk fvn fvt fvl) fs fc fps] p2 _ _ ⟨by omega, by omega, mem (wrap_t (k := 15) g2.t g2.m).1, by omega, by omega⟩ (by omega) ?_
       (refine ⟨rfl, ?_, ?_, Sub.refl _⟩ <;> repeat' (first | exact EnvLe.nil | exact LocsLe.nil | refine EnvLe.cons _ _ _ ?_ ?_ | refine LocsLe.cons _ _ _ ?_ ?_ | exact CVle.same _ rfl | exact CVle.vec _ _ | exact CVle.nil | exact CVle.tok _ _ _ rfl rfl | exact ObLe.tok _ _ rfl | exact CVles.nil | refine CVles.cons ?_ ?_ | exact ObLe.same _ rfl rfl | refine ObLe.cells rfl ?_))
       done)
    | (refine hK 2 0 0 ⟨#[]⟩ [] t ⟨#[]⟩ [] (p1 + 1 + 1) _ _ ⟨by omega, by omega, mem (varE_t ht), by omega, by omega⟩ (by omega) ?_
       (refine ⟨rfl, ?_, ?_, Sub.refl _⟩ <;> repeat' (first | exact EnvLe.nil | exact LocsLe.nil | refine EnvLe.cons _ _ _ ?_ ?_ | refine LocsLe.cons _ _ _ ?_ ?_ | exact CVle.same _ rfl | exact CVle.vec _ _ | exact CVle.nil | exact CVle.tok _ _ _ rfl rfl | exact ObLe.tok _ _ rfl | exact CVles.nil | refine CVles.cons ?_ ?_ | exact ObLe.same _ rfl rfl | refine ObLe.cells rfl ?_))
       done)
    | (refine hK ek evk evn evt evl es ec eps (p1 + 1) _ _ ⟨by omega, by omega, mem g1.t, by omega, by omega⟩ (by omega) ?_
       (refine ⟨rfl, ?_, ?_, Sub.refl _⟩ <;> repeat' (first | exact EnvLe.nil | exact LocsLe.nil | refine EnvLe.cons _ _ _ ?_ ?_ | refine LocsLe.cons _ _ _ ?_ ?_ | exact CVle.same _ rfl | exact CVle.vec _ _ | exact CVle.nil | exact CVle.tok _ _ _ rfl rfl | exact ObLe.tok _ _ rfl | exact CVles.nil | refine CVles.cons ?_ ?_ | exact ObLe.same _ rfl rfl | refine ObLe.cells rfl ?_))
       done)
    | skip
  clear hK
  have i0 : 1 ≤ i := by omega
  refine LoopN.rule (α := DSt) (fun a => ⟨120, [(0, .ptr (.g l) 0), (1, .ptr (.g ls) 0), (6, .ptr (.f 6) 0), (7, .ptr (.f 7) 0), (8, .vec abcC), (11, i64 a.k)], [(6, .cells [i64 0, .nil, i64 0, i64 0, i64 0, .sc (.string ⟨#[]⟩), .nil, .sc (.string ⟨#[]⟩), .sc (.string ⟨#[]⟩), .nil, .sc (.string ⟨#[]⟩), .nil, .sc (.bool false), .nil, i64 0, i64 0, .nil, .nil, .sc (.bool false)]), (7, .cells [i64 kd, .nil, i64 0, i64 0, i64 0, .sc (.string ⟨#[]⟩), .nil, .sc (.string ⟨#[]⟩), .sc (.string ⟨#[]⟩), .nil, .sc (.string ⟨#[]⟩), .avec 74 (its is), .sc (.bool di), .avec 97 (ods a.os), i64 (-1), i64 (-1), .nil, .nil, .sc (.bool false)]), (74, .tok 91 9 (its is).length), (97, .tok 197 2 (ods a.os).length)]⟩)
      (fun a => rd (upd σ ls (scO L n)) l bs a.q) (fun a => a.k.toNat) (fun a => 0 ≤ a.k ∧ a.os.length + a.k ≤ 2 ∧ (∀ x ∈ a.os, x.name.size ≤ 7) ∧ q ≤ a.q ∧ a.q ≤ q + 2 + a.os.length * 2) ?_ ⟨k1, [], q + 1 + 1⟩ ⟨by dsimp only; omega, by simp; omega, by simp, by dsimp only; omega, by simp; omega⟩ ?_
  rotate_left
  · (refine ⟨rfl, ?_, ?_, Sub.refl _⟩ <;> repeat' (first | exact EnvLe.nil | exact LocsLe.nil | refine EnvLe.cons _ _ _ ?_ ?_ | refine LocsLe.cons _ _ _ ?_ ?_ | exact CVle.same _ rfl | exact CVle.vec _ _ | exact CVle.nil | exact CVle.tok _ _ _ rfl rfl | exact ObLe.tok _ _ rfl | exact CVles.nil | refine CVles.cons ?_ ?_ | exact ObLe.same _ rfl rfl | refine ObLe.cells rfl ?_))
  rintro ⟨k, os, q2⟩ K ⟨o1, o2, o3, o4, o5⟩ hK
  dsimp only at o1 o2 o3 o4 o5 ⊢
  have e5 := ods_len os
  have e6 : abcC.length = 3 := rfl
  have r1 := pickF_range hb (p := q2) (n := ((its is).length : Int)) (by omega) (by omega) hl (by omega)
  have hK := fun (t : ByteArray) (dn : Bool) (q' : Int) => hK ⟨k - 1, os ++ [⟨t, dn⟩], q'⟩
  simp only [ods_app, List.length_append, List.length_cons, List.length_nil] at hK
  have mem2 : ∀ {t : ByteArray} {dn : Bool}, t.size ≤ 7 → ∀ x ∈ os ++ [⟨t, dn⟩], (x : Od).name.size ≤ 7 := fun h x hx => by
    rcases List.mem_append.1 hx with hx | hx
    · exact o3 x hx
    · rw [List.mem_singleton.1 hx]; exact h
  have hfin : ∀ q' : Int, upd (rd (upd σ ls (scO L n)) l bs q') ls (.cells [.vec (List.drop (Int.toNat 0) (List.take ((its is).length : Int).toNat abcC)), i64 n]) = rd (upd σ ls (scO (abc.take is.length) n)) l bs q' := fun q' => by
    have h1 : List.drop (Int.toNat 0) (List.take ((its is).length : Int).toNat abcC) = sts (abc.take is.length) := by rw [abc_take, Int.toNat_natCast, e4]; rfl
    rw [h1]; exact dh_upd (L := L) (n := n) hne
  by_cases hk : 0 < k
  · conv => whnf
    repeat' (first | (refine Need.ap1 ?_ (h1 := by simp only [List.length_replicate, List.length_append, List.length_cons, List.length_nil]; omega)) | (refine ElemN.go ?_ (h := abcAt_i r1.1 (by omega))) | (refine CallN.one (pick_c hb (by omega) (by omega) hl) ?_) | refine OrdN.one ?_ | refine Fork.yp ?_ | refine Fork.nb ?_ | refine Fork.dp (fun h => ?_) (fun h => ?_) | refine Need.go ?_ | refine Need.draw ?_ | refine ExtN.wr ?_) <;> try (conv => whnf)
    · refine hK (abcAt (pickF bs q2 ((its is).length : Int)).toNat) true (q2 + 1 + 1) _ _ ⟨by omega, by omega, mem2 (abcAt_s _), by omega, by omega⟩ (by omega) ?_
      (refine ⟨rfl, ?_, ?_, Sub.refl _⟩ <;> repeat' (first | exact EnvLe.nil | exact LocsLe.nil | refine EnvLe.cons _ _ _ ?_ ?_ | refine LocsLe.cons _ _ _ ?_ ?_ | exact CVle.same _ rfl | exact CVle.vec _ _ | exact CVle.nil | exact CVle.tok _ _ _ rfl rfl | exact ObLe.tok _ _ rfl | exact CVles.nil | refine CVles.cons ?_ ?_ | exact ObLe.same _ rfl rfl | refine ObLe.cells rfl ?_))
    · refine hK (abcAt (pickF bs q2 ((its is).length : Int)).toNat) false (q2 + 1 + 1) _ _ ⟨by omega, by omega, mem2 (abcAt_s _), by omega, by omega⟩ (by omega) ?_
      (refine ⟨rfl, ?_, ?_, Sub.refl _⟩ <;> repeat' (first | exact EnvLe.nil | exact LocsLe.nil | refine EnvLe.cons _ _ _ ?_ ?_ | refine LocsLe.cons _ _ _ ?_ ?_ | exact CVle.same _ rfl | exact CVle.vec _ _ | exact CVle.nil | exact CVle.tok _ _ _ rfl rfl | exact ObLe.tok _ _ rfl | exact CVles.nil | refine CVles.cons ?_ ?_ | exact ObLe.same _ rfl rfl | refine ObLe.cells rfl ?_))
  · conv => whnf
    repeat' (first | (refine CallN.many (pick_n hb hl (by omega) (by omega)) ?_; rintro _ ⟨k1, hk1, hk2, rfl⟩) | (refine GetN.go ?_ (h := hh _)) | (refine Need.mk ⟨by omega, by omega, by omega, .inl rfl⟩ ?_) | refine Fork.np ?_ | refine Fork.dp (fun h => ?_) (fun h => ?_) | refine ExtN.wr ?_ | refine finGo ?_) <;> try (conv => whnf)
    all_goals
      refine ⟨is, di, os, _, _, _, abc.take is.length, n, ?_, ?_, ?_, ?_, congrArg (COut.ret _) (hfin _)⟩
      · exact colsG hkd (by omega) (by omega) i3 (by omega) o3 ⟨by omega, by omega⟩ ⟨by omega, by omega⟩
      · exact ⟨abc_mem, by simp; omega, g.n0, g.n1⟩
      · omega
      · omega
end Go.Proofs.YthllnbfkfobcjaaGreat
