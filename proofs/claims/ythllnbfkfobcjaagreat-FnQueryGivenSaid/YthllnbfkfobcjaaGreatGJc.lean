/-
  Contracts of the functions that the law reaches.
-/
import Derived.Test.YthllnbfkfobcjaaGreatGJb
set_option linter.unusedVariables false
set_option linter.unusedSimpArgs false
namespace Go.Proofs.YthllnbfkfobcjaaGreat
open Go Go.CL
set_option maxRecDepth 10000
def cl0 (k : Int) : Cl := ⟨k, [], .mk 0 (.mk 0 0 ⟨#[]⟩ []) ⟨#[]⟩ ⟨#[]⟩ [], ⟨#[]⟩, [], false, [], -1, -1, [], [], false⟩
theorem clause_d {σ : Heap} {k : Int} : CRun Tryz.prog 114 [i64 k] σ (· = .ret (Cl.cv (cl0 k)) σ) := by
  refine crun_of (X := X) X_ok X_sat (body := bodyOf Tryz.f114) Tryz.func114 rfl (by kernel_rfl) (by kernel_rfl) ?_
  rw [Tryz.ntmps114]
  conv => whnf
  repeat' (first | refine finGo ?_) <;> try (conv => whnf)
  all_goals rfl
theorem clgP {k : Int} {ps : List Pth} (hk : Sm k) (h : PthsG ps) : ClG ⟨k, ps, .mk 0 (.mk 0 0 ⟨#[]⟩ []) ⟨#[]⟩ ⟨#[]⟩ [], ⟨#[]⟩, [], false, [], -1, -1, [], [], false⟩ :=
  ⟨⟨hk, Nat.le_trans h.l (by omega), h.t, nullE_t, Nat.zero_le _, by simp, by simp, by simp, by simp, ⟨by dsimp only; omega, by dsimp only; omega⟩, ⟨by dsimp only; omega, by dsimp only; omega⟩, by simp, by simp, by simp, by simp⟩,
   ⟨fun _ => ⟨rfl, rfl, rfl⟩, fun _ => rfl, .inr (.inl ⟨by have := h.k; dsimp only; omega, rfl, rfl, rfl⟩)⟩⟩
theorem clgE {k : Int} {e : Exp} {n : ByteArray} (hk : Sm k) (he : ETame e) (hn : n.size ≤ 1000) : ClG ⟨k, [], e, n, [], false, [], -1, -1, [], [], false⟩ :=
  ⟨⟨hk, by simp, by simp, he, hn, by simp, by simp, by simp, by simp, ⟨by dsimp only; omega, by dsimp only; omega⟩, ⟨by dsimp only; omega, by dsimp only; omega⟩, by simp, by simp, by simp, by simp⟩,
   ⟨fun _ => ⟨rfl, rfl, rfl⟩, fun _ => rfl, .inl ⟨rfl, rfl, rfl, rfl⟩⟩⟩
theorem clgT {k : Int} {ts : List Tg} (hk : Sm k) (h1 : 1 ≤ ts.length) (h2 : ts.length ≤ 2) (ht : ∀ x ∈ ts, TgT x) : ClG ⟨k, [], .mk 0 (.mk 0 0 ⟨#[]⟩ []) ⟨#[]⟩ ⟨#[]⟩ [], ⟨#[]⟩, [], false, [], -1, -1, ts, [], false⟩ :=
  ⟨⟨hk, by simp, by simp, nullE_t, Nat.zero_le _, by simp, by simp, by simp, by simp, ⟨by dsimp only; omega, by dsimp only; omega⟩, ⟨by dsimp only; omega, by dsimp only; omega⟩, by dsimp only; omega, ht, by simp, by simp⟩,
   ⟨fun _ => ⟨rfl, rfl, rfl⟩, fun _ => rfl, .inr (.inr (.inr (.inl ⟨rfl, rfl, by dsimp only; omega, rfl⟩)))⟩⟩
theorem clgN {k : Int} {t : ByteArray} {d : Bool} (hk : Sm k) (ht : t.size ≤ 7) : ClG ⟨k, [], .mk 0 (.mk 0 0 ⟨#[]⟩ []) ⟨#[]⟩ ⟨#[]⟩ [], ⟨#[]⟩, [], false, [], -1, -1, [], [t], d⟩ :=
  ⟨⟨hk, by simp, by simp, nullE_t, Nat.zero_le _, by simp, by simp, by simp, by simp, ⟨by dsimp only; omega, by dsimp only; omega⟩, ⟨by dsimp only; omega, by dsimp only; omega⟩, by simp, by simp, by simp, by simp; omega⟩,
   ⟨fun _ => ⟨rfl, rfl, rfl⟩, fun h => by simp at h, .inr (.inr (.inr (.inr ⟨rfl, rfl, rfl, by simp⟩)))⟩⟩
theorem sub_eq {a b : Heap} (h : a = b) : Sub b a := by rw [h]; exact Sub.refl _
section
variable {s : Heap} {l ls l1 : Nat} {bs : List CV} {q : Int} {A B : Ob}
theorem dh_no (h : rd (upd s ls A) l bs q l1 = none) : s l1 = none ∧ l1 ≠ l ∧ l1 ≠ ls := by
  have h2 := ne_rd h
  have h1 := no_rd h
  by_cases e : l1 = ls
  · subst e; rw [upd_same] at h1; cases h1
  · rw [upd_ne _ _ e] at h1; exact ⟨h1, h2, e⟩
theorem dh_mv (h1 : l1 ≠ l) (h2 : l1 ≠ ls) : upd (rd (upd s ls A) l bs q) l1 B = rd (upd (upd s l1 B) ls A) l bs q := by
  rw [rd_upd' h1, upd_comm _ _ _ (Ne.symm h2)]
theorem to_dh {f : FuncId} {args : List CV} {post : COut → Prop} (hn : rd (upd s ls A) l bs q l1 = none) (h : CRun Tryz.prog f args (rd (upd (upd s l1 B) ls A) l bs q) post) : CRun Tryz.prog f args (upd (rd (upd s ls A) l bs q) l1 B) post := by
  rw [dh_mv (dh_no hn).2.1 (dh_no hn).2.2]; exact h
theorem get_dh (h : s l1 = some B) (h1 : l1 ≠ l) (h2 : l1 ≠ ls) : rd (upd s ls A) l bs q l1 = some B := by rw [rd_ne h1, upd_ne _ _ h2]; exact h
theorem dh_fr {σ : Heap} (hs : Sub σ s) (h : rd (upd s ls A) l bs q l1 = none) : σ l1 = none := by
  cases e : σ l1 with
  | none => rfl
  | some ob => have := (dh_no h).1; rw [hs _ _ e] at this; cases this
end
theorem growC_in {xs : List CV} {n : Nat} (h : n = xs.length) (ys : List CV) (m : Nat) : xs.take n ++ ys ++ xs.drop (n + m) = xs ++ ys := by
  subst h
  rw [List.take_of_length_le (Nat.le_refl _), List.drop_eq_nil_of_le (by omega), List.append_nil]
theorem growC_new {xs : List CV} {n : Nat} (h : n = xs.length) (ys : List CV) : xs.take n ++ ys = xs ++ ys := by
  subst h
  rw [List.take_of_length_le (Nat.le_refl _)]
theorem cls_app (a : List Cl) (c : Cl) : cls (a ++ [c]) = cls a ++ [c.cv] := by simp [cls]
theorem dh_in {s : Heap} {l ls l1 n cap T : Nat} {bs : List CV} {q : Int} {A : Ob} {cs : List Cl} {c : Cl} (hn : n = cs.length) (h1 : l1 ≠ l) (h2 : l1 ≠ ls) :
    upd (rd (upd s ls A) l bs q) l1 (.arr T 19 cap ((cls cs).take n ++ [c.cv] ++ (cls cs).drop (n + 1))) = rd (upd (upd s l1 (.arr T 19 cap (cls (cs ++ [c])))) ls A) l bs q := by
  rw [growC_in (by rw [cls_len]; exact hn), ← cls_app, dh_mv h1 h2]
theorem dh_new {s : Heap} {l ls l1 n cap T : Nat} {bs : List CV} {q : Int} {A : Ob} {cs : List Cl} {c : Cl} (hn : n = cs.length) (h : rd (upd s ls A) l bs q l1 = none) :
    upd (rd (upd s ls A) l bs q) l1 (.arr T 19 cap ((cls cs).take n ++ [c.cv])) = rd (upd (upd s l1 (.arr T 19 cap (cls (cs ++ [c])))) ls A) l bs q := by
  rw [growC_new (by rw [cls_len]; exact hn), ← cls_app, dh_mv (dh_no h).2.1 (dh_no h).2.2]
structure RSt where
  k : Int
  c : Nat
  cs : List Cl
  s : Heap
  l : Nat
  cap : Nat
  q : Int
  L : List ByteArray
  n : Int
structure USt where
  j : Int
  vs : List Val
  q : Int
def ReadO (σ : Heap) (l ls : Nat) (bs : List CV) (p : Int) (m : Nat) (out : COut) : Prop := ∃ cs c l1 cap σ' p' L' n', (∀ x ∈ cs, ClG x) ∧ c = cs.length ∧ c ≤ 2 ∧ NG (m + 50) L' n' ∧ p ≤ p' ∧ p' ≤ p + 3000 ∧ Sub σ σ' ∧ σ l1 = none ∧ l1 ≠ l ∧ l1 ≠ ls ∧ σ' l1 = some (.arr 55 19 cap (cls cs)) ∧ out = .ret (.grow l1 c cap) (rd (upd σ' ls (scO L' n')) l bs p')
set_option maxHeartbeats 4000000 in
theorem read_o {σ : Heap} {l ls : Nat} {bs : List CV} (hb : BytesOk bs) (hl : bs.length ≤ 2000) {p : Int} {L : List ByteArray} {n : Int} {m : Nat} (hne : ls ≠ l) (g : NG m L n) (hm : m ≤ 500) (hp : 0 ≤ p) (hp' : p ≤ 500000) :
    CRun Tryz.prog 185 [.ptr (.g l) 0, .ptr (.g ls) 0] (rd (upd σ ls (scO L n)) l bs p) (ReadO σ l ls bs p m) := by
  have c0 : costE 0 = 50 := rfl
  have c2 : costE 2 = 380 := rfl
  have v1 : cost 1 = 20 := rfl
  refine crun_of (X := G [10,79]) (G_ok _) (G_sat _) (body := bodyOf Tryz.f185) Tryz.func185 rfl (by kernel_rfl) (by kernel_rfl) ?_
  rw [Tryz.ntmps185]
  conv => whnf
  repeat' (first | (refine AllocN.go (fun l1 hl1 => ?_)) | ((refine CallN.many (to_dh hl1 (pick_n hb hl (by omega) (by omega))) ?_; rintro _ ⟨kk, hkk1, hkk2, rfl⟩)) | refine ExtN.wr ?_) <;> try (conv => whnf)
  refine LoopN.rule (α := RSt) (fun a => ⟨81, [(0, .ptr (.g l) 0), (1, .ptr (.g ls) 0), (5, .grow a.l a.c a.cap), (6, i64 a.k)], []⟩)
    (fun a => rd (upd a.s ls (scO a.L a.n)) l bs a.q) (fun a => a.k.toNat) (fun a => 0 ≤ a.k ∧ a.cs.length + a.k ≤ 2 ∧ a.c = a.cs.length ∧ (∀ x ∈ a.cs, ClG x) ∧ NG (m + 22 * a.cs.length) a.L a.n ∧ p ≤ a.q ∧ a.q ≤ p + 1 + 1000 * a.cs.length ∧ Sub σ a.s ∧ σ a.l = none ∧ a.l ≠ l ∧ a.l ≠ ls ∧ a.s a.l = some (.arr 55 19 a.cap (cls a.cs))) ?_
    ⟨kk, 0, [], upd σ l1 (.arr 55 19 0 []), l1, 0, p + 1, L, n⟩ ⟨by dsimp only; omega, by simp; omega, rfl, by simp, g, by dsimp only; omega, by simp, (Sub.refl σ).upd (dh_no hl1).1, (dh_no hl1).1, (dh_no hl1).2.1, (dh_no hl1).2.2, upd_same _ _ _⟩ ?_
  rotate_left
  · (refine ⟨rfl, ?_, ?_, Sub.refl _⟩ <;> repeat' (first | exact EnvLe.nil | exact LocsLe.nil | refine EnvLe.cons _ _ _ ?_ ?_ | refine LocsLe.cons _ _ _ ?_ ?_ | exact CVle.same _ rfl | exact CVle.vec _ _ | exact CVle.nil | exact CVle.tok _ _ _ rfl rfl | exact ObLe.tok _ _ rfl | exact CVles.nil | refine CVles.cons ?_ ?_ | exact ObLe.same _ rfl rfl | refine ObLe.cells rfl ?_))
  clear hl1 hkk1 hkk2
  rintro ⟨k, c, cs, s, l1, cap, q, L2, n2⟩ K ⟨i1, i2, i3, i4, i5, i6, i7, i8, i9, i10, i11, i12⟩ hK
  dsimp only at i1 i2 i3 i4 i5 i6 i7 i8 i9 i10 i11 i12 ⊢
  have e3 := cls_len cs
  by_cases hk : ¬ 0 < k
  · conv => whnf
    repeat' (first | refine Fork.np ?_ | refine finGo ?_) <;> try (conv => whnf)
    exact ⟨cs, c, l1, cap, s, q, L2, n2, i4, i3, by omega, i5.mono (by omega), by omega, by omega, i8, i9, i10, i11, i12, rfl⟩
  have hN := i5.names (by omega)
  have hh := fun q' => dh_at' (σ := s) (bs := bs) (p := q') (L := L2) (n := n2) hne
  have ex2 := fun (q' : Int) (h4 : 0 ≤ q') (h5 : q' ≤ 800000) => eopen_draw (expr_c (l := l) hb hl hN 2 (deep := 3) (p := q') (by omega) (by omega) (by omega) h4 (by omega) (upd s ls (scO L2 n2)))
  have ex0 := fun (q' : Int) (h4 : 0 ≤ q') (h5 : q' ≤ 800000) => eopen_draw (expr_c (l := l) hb hl hN 0 (deep := 1) (p := q') (by omega) (by omega) (by omega) h4 (by omega) (upd s ls (scO L2 n2)))
  have len1 : ∀ (x : Cl), (cs ++ [x]).length = cs.length + 1 := fun x => by simp
  have mem : ∀ {x : Cl}, ClG x → ∀ y ∈ cs ++ [x], ClG y := fun h y hy => by
    rcases List.mem_append.1 hy with hy | hy
    · exact i4 y hy
    · rw [List.mem_singleton.1 hy]; exact h
  have z7 : (⟨#[]⟩ : ByteArray).size ≤ 1000 := Nat.zero_le _
  have hv := vName_size (n2 + 1)
  have i5s := i5.snoc
  conv => whnf
  repeat' (first | (refine AllocC.go (fun l2 cap2 hl2 hcap2 => ?_)) | (refine GetN.go ?_ (h := get_dh ‹_› i10 i11)) | (refine Need.go ?_ (h := ⟨rfl, by omega, by simp only [List.length_cons, List.length_nil]; omega, by simp only [List.length_cons, List.length_nil]; omega, ElsOk.one rfl rfl⟩)) | ((refine CallN.many (one_c (lo := 1) (hi := 5) hb hl (by omega) (by omega) ?_ (Nat.le_of_ble_eq_true rfl) (Nat.le_of_ble_eq_true rfl)) ?_; (repeat' (first | exact (trivial : True) | refine And.intro ?_ ?_ | refine ⟨_, rfl, ?_⟩ | omega | decide)); rintro _ ⟨kk, hkk1, hkk2, rfl⟩)) | (refine CallN.one clause_d ?_) | ((refine CallN.many (pick_n hb hl (by omega) (by omega)) ?_; rintro _ ⟨j, hj1, hj2, rfl⟩)) | (refine GetN.go ?_ (h := hh _)) | ((refine CallN.many (paths_d hb hl hne i5 (by omega) (by omega) (by omega)) ?_; rintro _ ⟨ps, p1, L3, n3, hps, hg3, hq1, hq2, rfl⟩)) | ((refine CallN.many (ex2 _ (by omega) (by omega)) ?_; rintro _ ⟨ek, evk, evn, evt, evl, es, ec, eps, p1, g1, hq1, hq2, rfl⟩)) | ((refine CallN.many (cols_d hb hl hne i5 (by omega) (by omega) (by omega) (kd := 5) ⟨by omega, by omega⟩) ?_; rintro _ ⟨is, di, os, sk, li, p1, L3, n3, hcl, hg3, hq1, hq2, rfl⟩)) | refine Fork.yp ?_ | refine Fork.nb ?_ | refine Fork.dp (fun h => ?_) (fun h => ?_) | refine Need.go ?_ | refine ExtN.ext ?_ | refine ExtN.wr ?_) <;> try (conv => whnf)
  all_goals first
    | (exfalso; omega)
    | (refine hK ⟨k - 1, c + 1, cs ++ [⟨kk, ps, .mk 0 (.mk 0 0 ⟨#[]⟩ []) ⟨#[]⟩ ⟨#[]⟩ [], ⟨#[]⟩, [], false, [], -1, -1, [], [], false⟩], upd s l1 (.arr 55 19 cap (cls (cs ++ [⟨kk, ps, .mk 0 (.mk 0 0 ⟨#[]⟩ []) ⟨#[]⟩ ⟨#[]⟩ [], ⟨#[]⟩, [], false, [], -1, -1, [], [], false⟩]))), l1, cap, p1, L3, n3⟩ _ _ ⟨by dsimp only; omega, by dsimp only; rw [len1]; omega, by dsimp only; rw [len1]; omega, mem (clgP ⟨by omega, by omega⟩ hps), NG.mono (hg3) (by dsimp only; rw [len1]; omega), by dsimp only; omega, by dsimp only; rw [len1]; omega, i8.upd i9, i9, i10, i11, upd_same _ _ _⟩ (by dsimp only; omega) ?_
       refine ⟨rfl, ?_, ?_, sub_eq (dh_in (c := ⟨kk, ps, .mk 0 (.mk 0 0 ⟨#[]⟩ []) ⟨#[]⟩ ⟨#[]⟩ [], ⟨#[]⟩, [], false, [], -1, -1, [], [], false⟩) i3 i10 i11)⟩
       all_goals repeat' (first | exact EnvLe.nil | exact LocsLe.nil | refine EnvLe.cons _ _ _ ?_ ?_ | exact CVle.same _ rfl | exact CVle.vec _ _)
       done)
    | (refine hK ⟨k - 1, c + 1, cs ++ [⟨kk, ps, .mk 0 (.mk 0 0 ⟨#[]⟩ []) ⟨#[]⟩ ⟨#[]⟩ [], ⟨#[]⟩, [], false, [], -1, -1, [], [], false⟩], upd s l2 (.arr 55 19 cap2 (cls (cs ++ [⟨kk, ps, .mk 0 (.mk 0 0 ⟨#[]⟩ []) ⟨#[]⟩ ⟨#[]⟩ [], ⟨#[]⟩, [], false, [], -1, -1, [], [], false⟩]))), l2, cap2, p1, L3, n3⟩ _ _ ⟨by dsimp only; omega, by dsimp only; rw [len1]; omega, by dsimp only; rw [len1]; omega, mem (clgP ⟨by omega, by omega⟩ hps), NG.mono (hg3) (by dsimp only; rw [len1]; omega), by dsimp only; omega, by dsimp only; rw [len1]; omega, i8.upd (dh_fr i8 hl2), dh_fr i8 hl2, (dh_no hl2).2.1, (dh_no hl2).2.2, upd_same _ _ _⟩ (by dsimp only; omega) ?_
       refine ⟨rfl, ?_, ?_, sub_eq (dh_new (c := ⟨kk, ps, .mk 0 (.mk 0 0 ⟨#[]⟩ []) ⟨#[]⟩ ⟨#[]⟩ [], ⟨#[]⟩, [], false, [], -1, -1, [], [], false⟩) i3 hl2)⟩
       all_goals repeat' (first | exact EnvLe.nil | exact LocsLe.nil | refine EnvLe.cons _ _ _ ?_ ?_ | exact CVle.same _ rfl | exact CVle.vec _ _)
       done)
    | (refine hK ⟨k - 1, c + 1, cs ++ [⟨kk, [], .mk ek (.mk evk evn evt evl) es ec eps, ⟨#[]⟩, [], false, [], -1, -1, [], [], false⟩], upd s l1 (.arr 55 19 cap (cls (cs ++ [⟨kk, [], .mk ek (.mk evk evn evt evl) es ec eps, ⟨#[]⟩, [], false, [], -1, -1, [], [], false⟩]))), l1, cap, p1, L2, n2⟩ _ _ ⟨by dsimp only; omega, by dsimp only; rw [len1]; omega, by dsimp only; rw [len1]; omega, mem (clgE ⟨by omega, by omega⟩ g1.t z7), NG.mono (i5) (by dsimp only; rw [len1]; omega), by dsimp only; omega, by dsimp only; rw [len1]; omega, i8.upd i9, i9, i10, i11, upd_same _ _ _⟩ (by dsimp only; omega) ?_
       refine ⟨rfl, ?_, ?_, sub_eq (dh_in (c := ⟨kk, [], .mk ek (.mk evk evn evt evl) es ec eps, ⟨#[]⟩, [], false, [], -1, -1, [], [], false⟩) i3 i10 i11)⟩
       all_goals repeat' (first | exact EnvLe.nil | exact LocsLe.nil | refine EnvLe.cons _ _ _ ?_ ?_ | exact CVle.same _ rfl | exact CVle.vec _ _)
       done)
    | (refine hK ⟨k - 1, c + 1, cs ++ [⟨kk, [], .mk ek (.mk evk evn evt evl) es ec eps, ⟨#[]⟩, [], false, [], -1, -1, [], [], false⟩], upd s l2 (.arr 55 19 cap2 (cls (cs ++ [⟨kk, [], .mk ek (.mk evk evn evt evl) es ec eps, ⟨#[]⟩, [], false, [], -1, -1, [], [], false⟩]))), l2, cap2, p1, L2, n2⟩ _ _ ⟨by dsimp only; omega, by dsimp only; rw [len1]; omega, by dsimp only; rw [len1]; omega, mem (clgE ⟨by omega, by omega⟩ g1.t z7), NG.mono (i5) (by dsimp only; rw [len1]; omega), by dsimp only; omega, by dsimp only; rw [len1]; omega, i8.upd (dh_fr i8 hl2), dh_fr i8 hl2, (dh_no hl2).2.1, (dh_no hl2).2.2, upd_same _ _ _⟩ (by dsimp only; omega) ?_
       refine ⟨rfl, ?_, ?_, sub_eq (dh_new (c := ⟨kk, [], .mk ek (.mk evk evn evt evl) es ec eps, ⟨#[]⟩, [], false, [], -1, -1, [], [], false⟩) i3 hl2)⟩
       all_goals repeat' (first | exact EnvLe.nil | exact LocsLe.nil | refine EnvLe.cons _ _ _ ?_ ?_ | exact CVle.same _ rfl | exact CVle.vec _ _)
       done)
    | (refine hK ⟨k - 1, c + 1, cs ++ [⟨5, [], .mk 0 (.mk 0 0 ⟨#[]⟩ []) ⟨#[]⟩ ⟨#[]⟩ [], ⟨#[]⟩, is, di, os, sk, li, [], [], false⟩], upd s l1 (.arr 55 19 cap (cls (cs ++ [⟨5, [], .mk 0 (.mk 0 0 ⟨#[]⟩ []) ⟨#[]⟩ ⟨#[]⟩ [], ⟨#[]⟩, is, di, os, sk, li, [], [], false⟩]))), l1, cap, p1, L3, n3⟩ _ _ ⟨by dsimp only; omega, by dsimp only; rw [len1]; omega, by dsimp only; rw [len1]; omega, mem (hcl), NG.mono (hg3) (by dsimp only; rw [len1]; omega), by dsimp only; omega, by dsimp only; rw [len1]; omega, i8.upd i9, i9, i10, i11, upd_same _ _ _⟩ (by dsimp only; omega) ?_
       refine ⟨rfl, ?_, ?_, sub_eq (dh_in (c := ⟨5, [], .mk 0 (.mk 0 0 ⟨#[]⟩ []) ⟨#[]⟩ ⟨#[]⟩ [], ⟨#[]⟩, is, di, os, sk, li, [], [], false⟩) i3 i10 i11)⟩
       all_goals repeat' (first | exact EnvLe.nil | exact LocsLe.nil | refine EnvLe.cons _ _ _ ?_ ?_ | exact CVle.same _ rfl | exact CVle.vec _ _)
       done)
    | (refine hK ⟨k - 1, c + 1, cs ++ [⟨5, [], .mk 0 (.mk 0 0 ⟨#[]⟩ []) ⟨#[]⟩ ⟨#[]⟩ [], ⟨#[]⟩, is, di, os, sk, li, [], [], false⟩], upd s l2 (.arr 55 19 cap2 (cls (cs ++ [⟨5, [], .mk 0 (.mk 0 0 ⟨#[]⟩ []) ⟨#[]⟩ ⟨#[]⟩ [], ⟨#[]⟩, is, di, os, sk, li, [], [], false⟩]))), l2, cap2, p1, L3, n3⟩ _ _ ⟨by dsimp only; omega, by dsimp only; rw [len1]; omega, by dsimp only; rw [len1]; omega, mem (hcl), NG.mono (hg3) (by dsimp only; rw [len1]; omega), by dsimp only; omega, by dsimp only; rw [len1]; omega, i8.upd (dh_fr i8 hl2), dh_fr i8 hl2, (dh_no hl2).2.1, (dh_no hl2).2.2, upd_same _ _ _⟩ (by dsimp only; omega) ?_
       refine ⟨rfl, ?_, ?_, sub_eq (dh_new (c := ⟨5, [], .mk 0 (.mk 0 0 ⟨#[]⟩ []) ⟨#[]⟩ ⟨#[]⟩ [], ⟨#[]⟩, is, di, os, sk, li, [], [], false⟩) i3 hl2)⟩
       all_goals repeat' (first | exact EnvLe.nil | exact LocsLe.nil | refine EnvLe.cons _ _ _ ?_ ?_ | exact CVle.same _ rfl | exact CVle.vec _ _)
       done)
    | skip
  refine LoopN.rule (α := USt) (fun a => ⟨81, [(0, .ptr (.g l) 0), (1, .ptr (.g ls) 0), (5, .grow l1 c cap), (6, i64 k), (7, .ptr (.f 7) 0), (8, .ptr (.f 8) 0), (9, i64 a.j)], [(7, .cells [i64 kk, .vec [], i64 0, i64 0, i64 0, .sc (.string ⟨#[]⟩), .vec [], .sc (.string ⟨#[]⟩), .sc (.string ⟨#[]⟩), .vec [], .sc (.string ⟨#[]⟩), .vec [], .sc (.bool false), .vec [], i64 (-1), i64 (-1), .vec [], .vec [], .sc (.bool false)]), (8, .cells [i64 4, i64 0, .sc (.string ⟨#[]⟩), .avec 53 (Val.cvs a.vs)]), (53, .tok 30 4 (Val.cvs a.vs).length)]⟩)
    (fun a => rd (upd s ls (scO L2 n2)) l bs a.q) (fun a => a.j.toNat) (fun a => 0 ≤ a.j ∧ a.vs.length + a.j ≤ 3 ∧ (∀ x ∈ a.vs, Tame x) ∧ q ≤ a.q ∧ a.q ≤ q + 2 + 20 * a.vs.length) ?_
    ⟨j, [], q + 1 + 1⟩ ⟨by dsimp only; omega, by simp; omega, by simp, by dsimp only; omega, by simp; omega⟩ ?_
  rotate_left
  · (refine ⟨rfl, ?_, ?_, Sub.refl _⟩ <;> repeat' (first | exact EnvLe.nil | exact LocsLe.nil | refine EnvLe.cons _ _ _ ?_ ?_ | refine LocsLe.cons _ _ _ ?_ ?_ | exact CVle.same _ rfl | exact CVle.vec _ _ | exact CVle.nil | exact CVle.tok _ _ _ rfl rfl | exact ObLe.tok _ _ rfl | exact CVles.nil | refine CVles.cons ?_ ?_ | exact ObLe.same _ rfl rfl | refine ObLe.cells rfl ?_))
  rintro ⟨j, vs, q2⟩ K2 ⟨j1, j2, j3, j4, j5⟩ hK2
  dsimp only at j1 j2 j3 j4 j5 ⊢
  have e6 := cvs_length vs
  by_cases hj : 0 < j
  · clear hK
    have hK2 := fun (vk vn : Int) (vt : ByteArray) (vl : List Val) (q' : Int) => hK2 ⟨j - 1, vs ++ [.mk vk vn vt vl], q'⟩
    have cvs1 : ∀ (v : Val), Val.cvs [v] = [v.cv] := fun v => by simp [cvs_map]
    simp only [cvs_append, cvs1, List.length_append, List.length_cons, List.length_nil] at hK2
    conv => whnf
    repeat' (first | (refine Need.ap1 ?_ (h1 := by simp only [List.length_replicate, List.length_append, List.length_cons, List.length_nil]; omega)) | ((refine CallN.many (plain_c hb hl 1 (by omega) (by omega) (by omega) (by omega) (by omega)) ?_; rintro _ ⟨⟨vk, vn, vt, vl⟩, p1, hv1, hq1, hq2, rfl⟩)) | refine OrdN.go ?_ | refine Fork.yp ?_ | refine Fork.nb ?_ | refine Need.go ?_ | refine Need.draw ?_ | refine ExtN.wr ?_) <;> try (conv => whnf)
    refine hK2 vk vn vt vl p1 _ _ ⟨by omega, by omega, fun x hx => ?_, by omega, by omega⟩ (by omega) ?_
    · rcases List.mem_append.1 hx with hx | hx
      · exact j3 x hx
      · rw [List.mem_singleton.1 hx]; exact hv1
    · (refine ⟨rfl, ?_, ?_, Sub.refl _⟩ <;> repeat' (first | exact EnvLe.nil | exact LocsLe.nil | refine EnvLe.cons _ _ _ ?_ ?_ | refine LocsLe.cons _ _ _ ?_ ?_ | exact CVle.same _ rfl | exact CVle.vec _ _ | exact CVle.nil | exact CVle.tok _ _ _ rfl rfl | exact ObLe.tok _ _ rfl | exact CVles.nil | refine CVles.cons ?_ ?_ | exact ObLe.same _ rfl rfl | refine ObLe.cells rfl ?_))
  · have uT : ETame (.mk 1 (.mk 4 0 ⟨#[]⟩ vs) ⟨#[]⟩ ⟨#[]⟩ []) := .mk (.mk (by omega) (by omega) (by decide) (by omega) j3) (by decide) (by decide) (by simp) (by simp)
    have hv2 : (vName (n2 + 1)).size ≤ 1000 := by omega
    conv => whnf
    repeat' (first | (refine AllocC.go (fun l2 cap2 hl2 hcap2 => ?_)) | (refine GetN.go ?_ (h := get_dh ‹_› i10 i11)) | (refine Need.go ?_ (h := ⟨rfl, by omega, by simp only [List.length_cons, List.length_nil]; omega, by simp only [List.length_cons, List.length_nil]; omega, ElsOk.one rfl rfl⟩)) | ((refine CallN.many (pick_n hb hl (by omega) (by omega)) ?_; rintro _ ⟨j, hj1, hj2, rfl⟩)) | (refine GetN.go ?_ (h := hh _)) | ((refine CallN.many (ex0 _ (by omega) (by omega)) ?_; rintro _ ⟨ek, evk, evn, evt, evl, es, ec, eps, p1, g1, hq1, hq2, rfl⟩)) | (refine CallN.one (freshD hne i5 (by omega)) ?_) | refine Fork.np ?_ | refine Fork.nb ?_ | refine Fork.dp (fun h => ?_) (fun h => ?_) | refine Need.go ?_ | refine ExtN.wr ?_) <;> try (conv => whnf)
    all_goals first
      | (refine hK ⟨k - 1, c + 1, cs ++ [⟨kk, [], .mk 1 (.mk 4 0 ⟨#[]⟩ vs) ⟨#[]⟩ ⟨#[]⟩ [], vName (n2 + 1), [], false, [], -1, -1, [], [], false⟩], upd s l1 (.arr 55 19 cap (cls (cs ++ [⟨kk, [], .mk 1 (.mk 4 0 ⟨#[]⟩ vs) ⟨#[]⟩ ⟨#[]⟩ [], vName (n2 + 1), [], false, [], -1, -1, [], [], false⟩]))), l1, cap, (q2 + 1), (L2 ++ [vName (n2 + 1)]), (n2 + 1)⟩ _ _ ⟨by dsimp only; omega, by dsimp only; rw [len1]; omega, by dsimp only; rw [len1]; omega, mem (clgE ⟨by omega, by omega⟩ uT hv2), NG.mono (i5s) (by dsimp only; rw [len1]; omega), by dsimp only; omega, by dsimp only; rw [len1]; omega, i8.upd i9, i9, i10, i11, upd_same _ _ _⟩ (by dsimp only; omega) ?_
         refine ⟨rfl, ?_, ?_, sub_eq (dh_in (c := ⟨kk, [], .mk 1 (.mk 4 0 ⟨#[]⟩ vs) ⟨#[]⟩ ⟨#[]⟩ [], vName (n2 + 1), [], false, [], -1, -1, [], [], false⟩) i3 i10 i11)⟩
         all_goals repeat' (first | exact EnvLe.nil | exact LocsLe.nil | refine EnvLe.cons _ _ _ ?_ ?_ | exact CVle.same _ rfl | exact CVle.vec _ _)
         done)
      | (refine hK ⟨k - 1, c + 1, cs ++ [⟨kk, [], .mk 1 (.mk 4 0 ⟨#[]⟩ vs) ⟨#[]⟩ ⟨#[]⟩ [], vName (n2 + 1), [], false, [], -1, -1, [], [], false⟩], upd s l2 (.arr 55 19 cap2 (cls (cs ++ [⟨kk, [], .mk 1 (.mk 4 0 ⟨#[]⟩ vs) ⟨#[]⟩ ⟨#[]⟩ [], vName (n2 + 1), [], false, [], -1, -1, [], [], false⟩]))), l2, cap2, (q2 + 1), (L2 ++ [vName (n2 + 1)]), (n2 + 1)⟩ _ _ ⟨by dsimp only; omega, by dsimp only; rw [len1]; omega, by dsimp only; rw [len1]; omega, mem (clgE ⟨by omega, by omega⟩ uT hv2), NG.mono (i5s) (by dsimp only; rw [len1]; omega), by dsimp only; omega, by dsimp only; rw [len1]; omega, i8.upd (dh_fr i8 hl2), dh_fr i8 hl2, (dh_no hl2).2.1, (dh_no hl2).2.2, upd_same _ _ _⟩ (by dsimp only; omega) ?_
         refine ⟨rfl, ?_, ?_, sub_eq (dh_new (c := ⟨kk, [], .mk 1 (.mk 4 0 ⟨#[]⟩ vs) ⟨#[]⟩ ⟨#[]⟩ [], vName (n2 + 1), [], false, [], -1, -1, [], [], false⟩) i3 hl2)⟩
         all_goals repeat' (first | exact EnvLe.nil | exact LocsLe.nil | refine EnvLe.cons _ _ _ ?_ ?_ | exact CVle.same _ rfl | exact CVle.vec _ _)
         done)
      | (refine hK ⟨k - 1, c + 1, cs ++ [⟨kk, [], .mk ek (.mk evk evn evt evl) es ec eps, vName (n2 + 1), [], false, [], -1, -1, [], [], false⟩], upd s l1 (.arr 55 19 cap (cls (cs ++ [⟨kk, [], .mk ek (.mk evk evn evt evl) es ec eps, vName (n2 + 1), [], false, [], -1, -1, [], [], false⟩]))), l1, cap, p1, (L2 ++ [vName (n2 + 1)]), (n2 + 1)⟩ _ _ ⟨by dsimp only; omega, by dsimp only; rw [len1]; omega, by dsimp only; rw [len1]; omega, mem (clgE ⟨by omega, by omega⟩ g1.t hv2), NG.mono (i5s) (by dsimp only; rw [len1]; omega), by dsimp only; omega, by dsimp only; rw [len1]; omega, i8.upd i9, i9, i10, i11, upd_same _ _ _⟩ (by dsimp only; omega) ?_
         refine ⟨rfl, ?_, ?_, sub_eq (dh_in (c := ⟨kk, [], .mk ek (.mk evk evn evt evl) es ec eps, vName (n2 + 1), [], false, [], -1, -1, [], [], false⟩) i3 i10 i11)⟩
         all_goals repeat' (first | exact EnvLe.nil | exact LocsLe.nil | refine EnvLe.cons _ _ _ ?_ ?_ | exact CVle.same _ rfl | exact CVle.vec _ _)
         done)
      | (refine hK ⟨k - 1, c + 1, cs ++ [⟨kk, [], .mk ek (.mk evk evn evt evl) es ec eps, vName (n2 + 1), [], false, [], -1, -1, [], [], false⟩], upd s l2 (.arr 55 19 cap2 (cls (cs ++ [⟨kk, [], .mk ek (.mk evk evn evt evl) es ec eps, vName (n2 + 1), [], false, [], -1, -1, [], [], false⟩]))), l2, cap2, p1, (L2 ++ [vName (n2 + 1)]), (n2 + 1)⟩ _ _ ⟨by dsimp only; omega, by dsimp only; rw [len1]; omega, by dsimp only; rw [len1]; omega, mem (clgE ⟨by omega, by omega⟩ g1.t hv2), NG.mono (i5s) (by dsimp only; rw [len1]; omega), by dsimp only; omega, by dsimp only; rw [len1]; omega, i8.upd (dh_fr i8 hl2), dh_fr i8 hl2, (dh_no hl2).2.1, (dh_no hl2).2.2, upd_same _ _ _⟩ (by dsimp only; omega) ?_
         refine ⟨rfl, ?_, ?_, sub_eq (dh_new (c := ⟨kk, [], .mk ek (.mk evk evn evt evl) es ec eps, vName (n2 + 1), [], false, [], -1, -1, [], [], false⟩) i3 hl2)⟩
         all_goals repeat' (first | exact EnvLe.nil | exact LocsLe.nil | refine EnvLe.cons _ _ _ ?_ ?_ | exact CVle.same _ rfl | exact CVle.vec _ _)
         done)
end Go.Proofs.YthllnbfkfobcjaaGreat
