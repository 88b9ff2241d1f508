/-
  Contracts of the functions that the law reaches.
-/
import Derived.Test.YthllnbfkfobcjaaGreatGA
import Derived.Test.YthllnbfkfobcjaaGreatGJc
set_option linter.unusedVariables false
set_option linter.unusedSimpArgs false
namespace Go.Proofs.YthllnbfkfobcjaaGreat
open Go Go.CL
theorem st_nil : CV.strips0 [] = some [] := by simp [CV.strips0]
theorem st_cons {x x' : CV} {r r' : List CV} (h : CV.strip0 x = some x') (hr : CV.strips0 r = some r') : CV.strips0 (x :: r) = some (x' :: r') := by simp [CV.strips0, h, hr]
theorem s0_agg {cs cs' : List CV} (h : CV.strips0 cs = some cs') : CV.strip0 (.agg cs) = some (.agg cs') := by simp [CV.strip0, h]
theorem s0_nil : CV.strip0 .nil = some .nil := by simp [CV.strip0]
theorem s0_sc {v : Value} : CV.strip0 (.sc v) = some (.sc v) := by simp [CV.strip0, CV.strip]
theorem s0_grow {l n c : Nat} : CV.strip0 (.grow l n c) = some (.grow l n c) := by simp [CV.strip0, CV.strip]
theorem s0_vec {xs : List CV} : CV.strip0 (.vec xs) = some (.vec xs) := by simp [CV.strip0, CV.strip]
theorem s0_avec {d : Nat} {xs : List CV} : CV.strip0 (.avec d xs) = some (.vec xs) := by simp [CV.strip0, CV.strip]
theorem s0_ptr {l off : Nat} : CV.strip0 (.ptr (.g l) off) = some (.ptr (.g l) off) := by simp [CV.strip0, CV.strip]
end Go.Proofs.YthllnbfkfobcjaaGreat
namespace Go.Proofs.YthllnbfkfobcjaaGreat
open Go Go.CL
set_option maxRecDepth 10000
def QueryO (σ : Heap) (l : Nat) (bs : List CV) (p : Int) (out : COut) : Prop := ∃ cs c l1 cap σ' p', (∀ x ∈ cs, ClG x) ∧ c = cs.length ∧ 1 ≤ c ∧ c ≤ 4 ∧ p ≤ p' ∧ p' ≤ p + 9000 ∧ Sub σ σ' ∧ σ l1 = none ∧ l1 ≠ l ∧ σ' l1 = some (.arr 55 19 cap (cls cs)) ∧ out = .ret (.grow l1 c cap) (rd σ' l bs p')
section
variable {σ s : Heap} {l ls l1 n cap : Nat} {bs : List CV} {p q : Int} {A : Ob} {cs : List Cl} {c : Cl}
theorem q_at (g : ∀ x ∈ cs, ClG x) (hn : n = cs.length) (h1 : 1 ≤ n) (h4 : n ≤ 4) (q1 : p ≤ q) (q2 : q ≤ p + 9000) (hs : Sub σ s) (h0 : σ ls = none) (n1 : σ l1 = none) (n2 : l1 ≠ l) (n3 : l1 ≠ ls) (ha : s l1 = some (.arr 55 19 cap (cls cs))) :
    QueryO σ l bs p (.ret (.grow l1 n cap) (rd (upd s ls A) l bs q)) :=
  ⟨cs, n, l1, cap, upd s ls A, q, g, hn, h1, h4, q1, q2, hs.upd h0, n1, n2, by rw [upd_ne _ _ n3]; exact ha, rfl⟩
theorem mem_snoc (g : ∀ x ∈ cs, ClG x) (gc : ClG c) : ∀ x ∈ cs ++ [c], ClG x := fun y hy => by
  rcases List.mem_append.1 hy with hy | hy
  · exact g y hy
  · rw [List.mem_singleton.1 hy]; exact gc
theorem q_in (g : ∀ x ∈ cs, ClG x) (gc : ClG c) (hn : n = cs.length) (h4 : n ≤ 3) (q1 : p ≤ q) (q2 : q ≤ p + 9000) (hs : Sub σ s) (h0 : σ ls = none) (n1 : σ l1 = none) (n2 : l1 ≠ l) (n3 : l1 ≠ ls) :
    QueryO σ l bs p (.ret (.grow l1 (n + 1) cap) (upd (rd (upd s ls A) l bs q) l1 (.arr 55 19 cap ((cls cs).take n ++ [c.cv] ++ (cls cs).drop (n + 1))))) := by
  rw [dh_in hn n2 n3]
  exact q_at (mem_snoc g gc) (by simp; omega) (by omega) (by omega) q1 q2 (hs.upd n1) h0 n1 n2 n3 (upd_same _ _ _)
theorem q_new (g : ∀ x ∈ cs, ClG x) (gc : ClG c) (hn : n = cs.length) (h4 : n ≤ 3) (q1 : p ≤ q) (q2 : q ≤ p + 9000) (hs : Sub σ s) (h0 : σ ls = none) (h : rd (upd s ls A) l bs q l1 = none) :
    QueryO σ l bs p (.ret (.grow l1 (n + 1) cap) (upd (rd (upd s ls A) l bs q) l1 (.arr 55 19 cap ((cls cs).take n ++ [c.cv])))) := by
  rw [dh_new hn h]
  have n1 := dh_fr hs h
  exact q_at (mem_snoc g gc) (by simp; omega) (by omega) (by omega) q1 q2 (hs.upd n1) h0 n1 (dh_no h).2.1 (dh_no h).2.2 (upd_same _ _ _)
theorem call_in {f : FuncId} {args : List CV} {post : COut → Prop} (hn : n = cs.length) (h1 : l1 ≠ l) (h2 : l1 ≠ ls) (h : CRun Tryz.prog f args (rd (upd (upd s l1 (.arr 55 19 cap (cls (cs ++ [c])))) ls A) l bs q) post) :
    CRun Tryz.prog f args (upd (rd (upd s ls A) l bs q) l1 (.arr 55 19 cap ((cls cs).take n ++ [c.cv] ++ (cls cs).drop (n + 1)))) post := by
  rw [dh_in hn h1 h2]; exact h
theorem call_new {f : FuncId} {args : List CV} {post : COut → Prop} (hn : n = cs.length) (hl : rd (upd s ls A) l bs q l1 = none) (h : CRun Tryz.prog f args (rd (upd (upd s l1 (.arr 55 19 cap (cls (cs ++ [c])))) ls A) l bs q) post) :
    CRun Tryz.prog f args (upd (rd (upd s ls A) l bs q) l1 (.arr 55 19 cap ((cls cs).take n ++ [c.cv]))) post := by
  rw [dh_new hn hl]; exact h
end
theorem clause_d0 {σ : Heap} {k : Int} : CRun Tryz.prog 114 [i64 k] σ (· = .ret (.agg [i64 k, .nil, i64 0, i64 0, i64 0, .sc (.string ⟨#[]⟩), .nil, .sc (.string ⟨#[]⟩), .sc (.string ⟨#[]⟩), .nil, .sc (.string ⟨#[]⟩), .nil, .sc (.bool false), .nil, i64 (-1), i64 (-1), .nil, .nil, .sc (.bool false)]) σ) := by
  refine crun_of (X := X) X_ok X_sat (body := bodyOf Tryz.f114) Tryz.func114 rfl (by kernel_rfl) (by kernel_rfl) ?_
  rw [Tryz.ntmps114]
  conv => whnf
  repeat' (first | (apply fin0; (case hs => (repeat' (first | with_reducible exact st_nil | with_reducible apply st_cons | ((conv => enter [1, 1]; whnf); first | with_reducible exact st_nil | with_reducible apply st_cons | ((with_reducible refine Eq.trans s0_sc ?_); rfl) | ((with_reducible refine Eq.trans s0_nil ?_); rfl) | ((with_reducible refine Eq.trans s0_grow ?_); rfl) | ((with_reducible refine Eq.trans s0_vec ?_); rfl) | ((with_reducible refine Eq.trans s0_avec ?_); rfl) | ((with_reducible refine Eq.trans s0_ptr ?_); rfl) | with_reducible apply s0_agg)))))) <;> try (conv => whnf)
  all_goals rfl
theorem ng0 : NG 0 [] 0 := ⟨by simp, by simp, by omega, by omega⟩
structure TSt where
  k : Int
  ts : List Tg
  q : Int
theorem tgs_app (a : List Tg) (h : Tg) : tgs (a ++ [h]) = tgs a ++ [h.cv] := by simp [tgs]
set_option maxHeartbeats 4000000 in
theorem query_o {σ : Heap} {l : Nat} {bs : List CV} (hb : BytesOk bs) (hl : bs.length ≤ 2000) {p : Int} (hp : 0 ≤ p) (hp' : p ≤ 400000) :
    CRun Tryz.prog 113 [.ptr (.g l) 0] (rd σ l bs p) (QueryO σ l bs p) := by
  have c1 : costE 1 = 160 := rfl
  refine crun_of (X := (GM [10,26,71,100,106] fun n => match Nat.beq n 16 with | true => some [0,1,2,3,4,5,6,8,9,11,12,13,14,15,7,10,16,17,18,19,20,21] | false => (none))) (GM_ok _ _) (GM_sat _ _) (body := bodyOf Tryz.f113) Tryz.func113 rfl (by kernel_rfl) (by kernel_rfl) ?_
  rw [Tryz.ntmps113]
  conv => whnf
  repeat' (first | (refine AllocN.go (fun ls hls => ?_)) | ((refine CallN.many (to_rd hls (read_o hb hl (ne_rd hls) ng0 (by omega) (by omega) (by omega))) ?_; rintro _ ⟨cs, c, l1, cap, s, q, L2, n2, i4, i3, i2, i5, i6, i7, i8, i9, i10, i11, i12, rfl⟩)) | ((refine CallN.many (pick_n hb hl (by omega) (by omega)) ?_; rintro _ ⟨kk, hkk1, hkk2, rfl⟩)) | refine Fork.dp (fun h => ?_) (fun h => ?_) | refine ExtN.wr ?_) <;> try (conv => whnf)
  all_goals
    have e3 := cls_len cs
    have hN := i5.names (by omega)
    have hne := ne_rd hls
    have hl0 := no_rd hls
    have hh := fun q' => dh_at' (σ := s) (bs := bs) (p := q') (L := L2) (n := n2) hne
    have e5 := sts_len L2
    have ex1 := fun (q' : Int) (h4 : 0 ≤ q') (h5 : q' ≤ 800000) => eopen_draw (expr_c (l := l) hb hl hN 1 (deep := 2) (p := q') (by omega) (by omega) (by omega) h4 (by omega) (upd s ls (scO L2 n2)))
    have len1 : ∀ (x : Cl), c + 1 = (cs ++ [x]).length := fun x => by simp; omega
    have mem : ∀ {x : Cl}, ClG x → ∀ y ∈ cs ++ [x], ClG y := fun h y hy => by
      rcases List.mem_append.1 hy with hy | hy
      · exact i4 y hy
      · rw [List.mem_singleton.1 hy]; exact h
    conv => whnf
    repeat' (first | ((have hl2x := hl2; refine AllocC.go (fun l3 cap3 hl3 hcap3 => ?_))) | (refine AllocC.go (fun l2 cap2 hl2 hcap2 => ?_)) | (refine GetN.go ?_ (h := get_dh i12 i10 i11)) | (refine GetN.go ?_ (h := get_dh (upd_same _ _ _) i10 i11)) | (refine GetN.go ?_ (h := get_dh (upd_same _ _ _) (dh_no hl2).2.1 (dh_no hl2).2.2)) | (refine Need.go ?_ (h := ⟨rfl, by first | omega | (simp only [cls_len, List.length_append, List.length_cons, List.length_nil]; omega), by simp only [List.length_cons, List.length_nil]; omega, by simp only [List.length_cons, List.length_nil]; omega, ElsOk.one rfl rfl⟩)) | (refine CallN.one (clause_d0 (k := 8)) ?_) | (refine CallN.one clause_d ?_) | ((refine CallN.many (call_in (cs := cs) (c := ⟨7, ps, .mk 0 (.mk 0 0 ⟨#[]⟩ []) ⟨#[]⟩ ⟨#[]⟩ [], ⟨#[]⟩, [], false, [], -1, -1, [], [], false⟩) i3 i10 i11 (pick_n hb hl (by omega) (by omega))) ?_; rintro _ ⟨j, hj1, hj2, rfl⟩)) | ((refine CallN.many (call_new (cs := cs) (c := ⟨7, ps, .mk 0 (.mk 0 0 ⟨#[]⟩ []) ⟨#[]⟩ ⟨#[]⟩ [], ⟨#[]⟩, [], false, [], -1, -1, [], [], false⟩) i3 hl2 (pick_n hb hl (by omega) (by omega))) ?_; rintro _ ⟨j, hj1, hj2, rfl⟩)) | ((refine CallN.many (pick_n hb hl (by omega) (by omega)) ?_; rintro _ ⟨j, hj1, hj2, rfl⟩)) | (refine GetN.go ?_ (h := hh _)) | ((refine CallN.many (paths_d hb hl hne i5 (by omega) (by omega) (by omega)) ?_; rintro _ ⟨ps, p3, L3, n3, hps, hg3, hq1, hq2, rfl⟩)) | ((refine CallN.many (of_c (m := 7) hb hl (by omega) (by omega) hN.1 (by omega) hN.2) ?_; rintro _ ⟨t, ht, rfl⟩)) | ((refine CallN.many (cols_d hb hl hne hg3 (by omega) (by omega) (by omega) (kd := 6) ⟨by omega, by omega⟩) ?_; rintro _ ⟨is, di, os, sk, li, p4, L4, n4, hcl, hg4, hq3, hq4, rfl⟩)) | ((refine CallN.many (cols_d hb hl hne i5 (by omega) (by omega) (by omega) (kd := 6) ⟨by omega, by omega⟩) ?_; rintro _ ⟨is, di, os, sk, li, p4, L4, n4, hcl, hg4, hq3, hq4, rfl⟩)) | refine Fork.nb ?_ | refine Fork.dp (fun h => ?_) (fun h => ?_) | refine Need.go ?_ | refine ExtN.ext ?_ | refine ExtN.wr ?_ | refine finGo ?_) <;> try (conv => whnf)
  all_goals first
    | (exfalso; omega)
    | exact q_at (cs := (cs ++ [⟨7, ps, .mk 0 (.mk 0 0 ⟨#[]⟩ []) ⟨#[]⟩ ⟨#[]⟩ [], ⟨#[]⟩, [], false, [], -1, -1, [], [], false⟩])) (mem (clgP ⟨by omega, by omega⟩ hps)) (len1 ⟨7, ps, .mk 0 (.mk 0 0 ⟨#[]⟩ []) ⟨#[]⟩ ⟨#[]⟩ [], ⟨#[]⟩, [], false, [], -1, -1, [], [], false⟩) (by first | omega | (simp only [List.length_cons, List.length_nil]; omega)) (by first | omega | (simp only [List.length_cons, List.length_nil]; omega)) (by omega) (by omega) (i8.upd i9) hl0 i9 i10 i11 (upd_same _ _ _)
    | exact q_at (cs := (cs ++ [⟨7, ps, .mk 0 (.mk 0 0 ⟨#[]⟩ []) ⟨#[]⟩ ⟨#[]⟩ [], ⟨#[]⟩, [], false, [], -1, -1, [], [], false⟩])) (mem (clgP ⟨by omega, by omega⟩ hps)) (len1 ⟨7, ps, .mk 0 (.mk 0 0 ⟨#[]⟩ []) ⟨#[]⟩ ⟨#[]⟩ [], ⟨#[]⟩, [], false, [], -1, -1, [], [], false⟩) (by first | omega | (simp only [List.length_cons, List.length_nil]; omega)) (by first | omega | (simp only [List.length_cons, List.length_nil]; omega)) (by omega) (by omega) (i8.upd (dh_fr i8 hl2)) hl0 (dh_fr i8 hl2) (dh_no hl2).2.1 (dh_no hl2).2.2 (upd_same _ _ _)
    | exact q_in (cs := cs) (c := ⟨6, [], .mk 0 (.mk 0 0 ⟨#[]⟩ []) ⟨#[]⟩ ⟨#[]⟩ [], ⟨#[]⟩, is, di, os, sk, li, [], [], false⟩) i4 hcl i3 (by first | omega | (simp only [List.length_cons, List.length_nil]; omega)) (by omega) (by omega) i8 hl0 i9 i10 i11
    | exact q_new (cs := cs) (c := ⟨6, [], .mk 0 (.mk 0 0 ⟨#[]⟩ []) ⟨#[]⟩ ⟨#[]⟩ [], ⟨#[]⟩, is, di, os, sk, li, [], [], false⟩) i4 hcl i3 (by first | omega | (simp only [List.length_cons, List.length_nil]; omega)) (by omega) (by omega) i8 hl0 hl2
    | exact q_in (cs := cs) (c := ⟨9, [], .mk 0 (.mk 0 0 ⟨#[]⟩ []) ⟨#[]⟩ ⟨#[]⟩ [], ⟨#[]⟩, [], false, [], -1, -1, [], [t], true⟩) i4 (clgN ⟨by omega, by omega⟩ ht) i3 (by first | omega | (simp only [List.length_cons, List.length_nil]; omega)) (by omega) (by omega) i8 hl0 i9 i10 i11
    | exact q_new (cs := cs) (c := ⟨9, [], .mk 0 (.mk 0 0 ⟨#[]⟩ []) ⟨#[]⟩ ⟨#[]⟩ [], ⟨#[]⟩, [], false, [], -1, -1, [], [t], true⟩) i4 (clgN ⟨by omega, by omega⟩ ht) i3 (by first | omega | (simp only [List.length_cons, List.length_nil]; omega)) (by omega) (by omega) i8 hl0 hl2
    | exact q_in (cs := cs) (c := ⟨9, [], .mk 0 (.mk 0 0 ⟨#[]⟩ []) ⟨#[]⟩ ⟨#[]⟩ [], ⟨#[]⟩, [], false, [], -1, -1, [], [t], false⟩) i4 (clgN ⟨by omega, by omega⟩ ht) i3 (by first | omega | (simp only [List.length_cons, List.length_nil]; omega)) (by omega) (by omega) i8 hl0 i9 i10 i11
    | exact q_new (cs := cs) (c := ⟨9, [], .mk 0 (.mk 0 0 ⟨#[]⟩ []) ⟨#[]⟩ ⟨#[]⟩ [], ⟨#[]⟩, [], false, [], -1, -1, [], [t], false⟩) i4 (clgN ⟨by omega, by omega⟩ ht) i3 (by first | omega | (simp only [List.length_cons, List.length_nil]; omega)) (by omega) (by omega) i8 hl0 hl2
    | exact q_in (cs := (cs ++ [⟨7, ps, .mk 0 (.mk 0 0 ⟨#[]⟩ []) ⟨#[]⟩ ⟨#[]⟩ [], ⟨#[]⟩, [], false, [], -1, -1, [], [], false⟩])) (c := ⟨6, [], .mk 0 (.mk 0 0 ⟨#[]⟩ []) ⟨#[]⟩ ⟨#[]⟩ [], ⟨#[]⟩, is, di, os, sk, li, [], [], false⟩) (mem (clgP ⟨by omega, by omega⟩ hps)) hcl (len1 ⟨7, ps, .mk 0 (.mk 0 0 ⟨#[]⟩ []) ⟨#[]⟩ ⟨#[]⟩ [], ⟨#[]⟩, [], false, [], -1, -1, [], [], false⟩) (by first | omega | (simp only [List.length_cons, List.length_nil]; omega)) (by omega) (by omega) (i8.upd i9) hl0 i9 i10 i11
    | exact q_new (cs := (cs ++ [⟨7, ps, .mk 0 (.mk 0 0 ⟨#[]⟩ []) ⟨#[]⟩ ⟨#[]⟩ [], ⟨#[]⟩, [], false, [], -1, -1, [], [], false⟩])) (c := ⟨6, [], .mk 0 (.mk 0 0 ⟨#[]⟩ []) ⟨#[]⟩ ⟨#[]⟩ [], ⟨#[]⟩, is, di, os, sk, li, [], [], false⟩) (mem (clgP ⟨by omega, by omega⟩ hps)) hcl (len1 ⟨7, ps, .mk 0 (.mk 0 0 ⟨#[]⟩ []) ⟨#[]⟩ ⟨#[]⟩ [], ⟨#[]⟩, [], false, [], -1, -1, [], [], false⟩) (by first | omega | (simp only [List.length_cons, List.length_nil]; omega)) (by omega) (by omega) (i8.upd i9) hl0 hl3
    | exact q_new (cs := (cs ++ [⟨7, ps, .mk 0 (.mk 0 0 ⟨#[]⟩ []) ⟨#[]⟩ ⟨#[]⟩ [], ⟨#[]⟩, [], false, [], -1, -1, [], [], false⟩])) (c := ⟨6, [], .mk 0 (.mk 0 0 ⟨#[]⟩ []) ⟨#[]⟩ ⟨#[]⟩ [], ⟨#[]⟩, is, di, os, sk, li, [], [], false⟩) (mem (clgP ⟨by omega, by omega⟩ hps)) hcl (len1 ⟨7, ps, .mk 0 (.mk 0 0 ⟨#[]⟩ []) ⟨#[]⟩ ⟨#[]⟩ [], ⟨#[]⟩, [], false, [], -1, -1, [], [], false⟩) (by first | omega | (simp only [List.length_cons, List.length_nil]; omega)) (by omega) (by omega) (i8.upd i9) hl0 hl2
    | exact q_in (cs := (cs ++ [⟨7, ps, .mk 0 (.mk 0 0 ⟨#[]⟩ []) ⟨#[]⟩ ⟨#[]⟩ [], ⟨#[]⟩, [], false, [], -1, -1, [], [], false⟩])) (c := ⟨6, [], .mk 0 (.mk 0 0 ⟨#[]⟩ []) ⟨#[]⟩ ⟨#[]⟩ [], ⟨#[]⟩, is, di, os, sk, li, [], [], false⟩) (mem (clgP ⟨by omega, by omega⟩ hps)) hcl (len1 ⟨7, ps, .mk 0 (.mk 0 0 ⟨#[]⟩ []) ⟨#[]⟩ ⟨#[]⟩ [], ⟨#[]⟩, [], false, [], -1, -1, [], [], false⟩) (by first | omega | (simp only [List.length_cons, List.length_nil]; omega)) (by omega) (by omega) (i8.upd (dh_fr i8 hl2)) hl0 (dh_fr i8 hl2) (dh_no hl2).2.1 (dh_no hl2).2.2
    | exact q_new (cs := (cs ++ [⟨7, ps, .mk 0 (.mk 0 0 ⟨#[]⟩ []) ⟨#[]⟩ ⟨#[]⟩ [], ⟨#[]⟩, [], false, [], -1, -1, [], [], false⟩])) (c := ⟨6, [], .mk 0 (.mk 0 0 ⟨#[]⟩ []) ⟨#[]⟩ ⟨#[]⟩ [], ⟨#[]⟩, is, di, os, sk, li, [], [], false⟩) (mem (clgP ⟨by omega, by omega⟩ hps)) hcl (len1 ⟨7, ps, .mk 0 (.mk 0 0 ⟨#[]⟩ []) ⟨#[]⟩ ⟨#[]⟩ [], ⟨#[]⟩, [], false, [], -1, -1, [], [], false⟩) (by first | omega | (simp only [List.length_cons, List.length_nil]; omega)) (by omega) (by omega) (i8.upd (dh_fr i8 hl2)) hl0 hl3
    | exact q_new (cs := (cs ++ [⟨7, ps, .mk 0 (.mk 0 0 ⟨#[]⟩ []) ⟨#[]⟩ ⟨#[]⟩ [], ⟨#[]⟩, [], false, [], -1, -1, [], [], false⟩])) (c := ⟨6, [], .mk 0 (.mk 0 0 ⟨#[]⟩ []) ⟨#[]⟩ ⟨#[]⟩ [], ⟨#[]⟩, is, di, os, sk, li, [], [], false⟩) (mem (clgP ⟨by omega, by omega⟩ hps)) hcl (len1 ⟨7, ps, .mk 0 (.mk 0 0 ⟨#[]⟩ []) ⟨#[]⟩ ⟨#[]⟩ [], ⟨#[]⟩, [], false, [], -1, -1, [], [], false⟩) (by first | omega | (simp only [List.length_cons, List.length_nil]; omega)) (by omega) (by omega) (i8.upd (dh_fr i8 hl2)) hl0 hl2
    | skip
  refine LoopN.rule (α := TSt) (fun a => ⟨107, [(0, .ptr (.g l) 0), (3, .ptr (.g ls) 0), (4, .grow l1 c cap), (6, .ptr (.f 6) 0), (7, i64 a.k)], [(6, .cells [i64 8, .nil, i64 0, i64 0, i64 0, .sc (.string ⟨#[]⟩), .nil, .sc (.string ⟨#[]⟩), .sc (.string ⟨#[]⟩), .nil, .sc (.string ⟨#[]⟩), .nil, .sc (.bool false), .nil, i64 (-1), i64 (-1), .avec 66 (tgs a.ts), .nil, .sc (.bool false)]), (66, .tok 156 10 (tgs a.ts).length)]⟩)
    (fun a => rd (upd s ls (scO L2 n2)) l bs a.q) (fun a => a.k.toNat) (fun a => 0 ≤ a.k ∧ a.ts.length + a.k ≤ 2 ∧ 1 ≤ a.ts.length + a.k ∧ (∀ x ∈ a.ts, TgT x) ∧ q ≤ a.q ∧ a.q ≤ q + 2 + 170 * a.ts.length) ?_
    ⟨1 + j, [], q + 1 + 1⟩ ⟨by dsimp only; omega, by simp; omega, by simp; omega, by simp, by dsimp only; omega, by simp; omega⟩ ?_
  rotate_left
  · (refine ⟨rfl, ?_, ?_, Sub.refl _⟩ <;> repeat' (first | exact EnvLe.nil | exact LocsLe.nil | refine EnvLe.cons _ _ _ ?_ ?_ | refine LocsLe.cons _ _ _ ?_ ?_ | exact CVle.same _ rfl | exact CVle.vec _ _ | exact CVle.nil | exact CVle.tok _ _ _ rfl rfl | exact ObLe.tok _ _ rfl | exact CVles.nil | refine CVles.cons ?_ ?_ | exact ObLe.same _ rfl rfl | refine ObLe.cells rfl ?_))
  rintro ⟨k, ts, q2⟩ K ⟨t1, t2, t4, t3, t5, t6⟩ hK
  dsimp only at t1 t2 t3 t4 t5 t6 ⊢
  have e6 := tgs_len ts
  by_cases hk : 0 < k
  · have hK := fun (a b : ByteArray) (xk vk vn : Int) (vt : ByteArray) (vl : List Val) (xs xc : ByteArray) (xp : List Exp) (q' : Int) => hK ⟨k - 1, ts ++ [⟨a, b, .mk xk (.mk vk vn vt vl) xs xc xp⟩], q'⟩
    simp only [tgs_app, List.length_append, List.length_cons, List.length_nil] at hK
    conv => whnf
    repeat' (first | (refine Need.ap1 ?_ (h1 := by simp only [List.length_replicate, List.length_append, List.length_cons, List.length_nil]; omega)) | (refine GetN.go ?_ (h := hh _)) | (refine ExtN.wrk ?_) | (refine Need.mk (And.intro (rdk hne) (And.intro (rdk hne) trivial)) ?_) | ((refine CallN.many (of_c (m := 7) hb hl (by omega) (by omega) hN.1 (by omega) hN.2) ?_; rintro _ ⟨t, ht, rfl⟩)) | ((refine CallN.many (of_c (m := 7) hb hl (by omega) (by omega) ?_ (Nat.le_of_ble_eq_true rfl) (Nat.le_of_ble_eq_true rfl)) ?_; (repeat' (first | exact (trivial : True) | refine And.intro ?_ ?_ | refine ⟨_, rfl, ?_⟩ | omega | decide)); rintro _ ⟨t', ht', rfl⟩)) | ((refine CallN.many (ex1 _ (by omega) (by omega)) ?_; rintro _ ⟨ek, evk, evn, evt, evl, es, ec, eps, p1, g1, hq1, hq2, rfl⟩)) | refine OrdN.go ?_ | refine Fork.yp ?_ | refine Fork.nb ?_ | refine Need.go ?_ | refine Need.draw ?_) <;> try (conv => whnf)
    refine hK t t' ek evk evn evt evl es ec eps p1 _ _ ⟨by omega, by omega, by omega, fun x hx => ?_, by omega, by omega⟩ (by omega) ?_
    · rcases List.mem_append.1 hx with hx | hx
      · exact t3 x hx
      · rw [List.mem_singleton.1 hx]; exact ⟨Nat.le_trans ht (by omega), Nat.le_trans ht' (by omega), g1.t⟩
    · (refine ⟨rfl, ?_, ?_, Sub.refl _⟩ <;> repeat' (first | exact EnvLe.nil | exact LocsLe.nil | refine EnvLe.cons _ _ _ ?_ ?_ | refine LocsLe.cons _ _ _ ?_ ?_ | exact CVle.same _ rfl | exact CVle.vec _ _ | exact CVle.nil | exact CVle.tok _ _ _ rfl rfl | exact ObLe.tok _ _ rfl | exact CVles.nil | refine CVles.cons ?_ ?_ | exact ObLe.same _ rfl rfl | refine ObLe.cells rfl ?_))
  · clear hK
    have h1t : 1 ≤ ts.length := by omega
    have h2t : ts.length ≤ 2 := by omega
    conv => whnf
    repeat' (first | ((have hl2x := hl2; refine AllocC.go (fun l3 cap3 hl3 hcap3 => ?_))) | (refine AllocC.go (fun l2 cap2 hl2 hcap2 => ?_)) | (refine GetN.go ?_ (h := get_dh i12 i10 i11)) | (refine GetN.go ?_ (h := get_dh (upd_same _ _ _) i10 i11)) | (refine GetN.go ?_ (h := get_dh (upd_same _ _ _) (dh_no hl2).2.1 (dh_no hl2).2.2)) | (refine Need.go ?_ (h := ⟨rfl, by first | omega | (simp only [cls_len, List.length_append, List.length_cons, List.length_nil]; omega), by simp only [List.length_cons, List.length_nil]; omega, by simp only [List.length_cons, List.length_nil]; omega, ElsOk.one rfl rfl⟩)) | ((refine CallN.many (call_in (cs := cs) (c := ⟨8, [], .mk 0 (.mk 0 0 ⟨#[]⟩ []) ⟨#[]⟩ ⟨#[]⟩ [], ⟨#[]⟩, [], false, [], -1, -1, ts, [], false⟩) i3 i10 i11 (pick_n hb hl (by omega) (by omega))) ?_; rintro _ ⟨j, hj1, hj2, rfl⟩)) | ((refine CallN.many (call_new (cs := cs) (c := ⟨8, [], .mk 0 (.mk 0 0 ⟨#[]⟩ []) ⟨#[]⟩ ⟨#[]⟩ [], ⟨#[]⟩, [], false, [], -1, -1, ts, [], false⟩) i3 hl2 (pick_n hb hl (by omega) (by omega))) ?_; rintro _ ⟨j, hj1, hj2, rfl⟩)) | ((refine CallN.many (cols_d hb hl hne i5 (by omega) (by omega) (by omega) (kd := 6) ⟨by omega, by omega⟩) ?_; rintro _ ⟨is, di, os, sk, li, p4, L4, n4, hcl, hg4, hq3, hq4, rfl⟩)) | refine Fork.np ?_ | refine Fork.nb ?_ | refine Fork.dp (fun h => ?_) (fun h => ?_) | refine ExtN.wr ?_ | refine finGo ?_) <;> try (conv => whnf)
    all_goals first
      | exact q_at (cs := (cs ++ [⟨8, [], .mk 0 (.mk 0 0 ⟨#[]⟩ []) ⟨#[]⟩ ⟨#[]⟩ [], ⟨#[]⟩, [], false, [], -1, -1, ts, [], false⟩])) (mem (clgT ⟨by omega, by omega⟩ h1t h2t t3)) (len1 ⟨8, [], .mk 0 (.mk 0 0 ⟨#[]⟩ []) ⟨#[]⟩ ⟨#[]⟩ [], ⟨#[]⟩, [], false, [], -1, -1, ts, [], false⟩) (by first | omega | (simp only [List.length_cons, List.length_nil]; omega)) (by first | omega | (simp only [List.length_cons, List.length_nil]; omega)) (by omega) (by omega) (i8.upd i9) hl0 i9 i10 i11 (upd_same _ _ _)
      | exact q_at (cs := (cs ++ [⟨8, [], .mk 0 (.mk 0 0 ⟨#[]⟩ []) ⟨#[]⟩ ⟨#[]⟩ [], ⟨#[]⟩, [], false, [], -1, -1, ts, [], false⟩])) (mem (clgT ⟨by omega, by omega⟩ h1t h2t t3)) (len1 ⟨8, [], .mk 0 (.mk 0 0 ⟨#[]⟩ []) ⟨#[]⟩ ⟨#[]⟩ [], ⟨#[]⟩, [], false, [], -1, -1, ts, [], false⟩) (by first | omega | (simp only [List.length_cons, List.length_nil]; omega)) (by first | omega | (simp only [List.length_cons, List.length_nil]; omega)) (by omega) (by omega) (i8.upd (dh_fr i8 hl2)) hl0 (dh_fr i8 hl2) (dh_no hl2).2.1 (dh_no hl2).2.2 (upd_same _ _ _)
      | exact q_in (cs := (cs ++ [⟨8, [], .mk 0 (.mk 0 0 ⟨#[]⟩ []) ⟨#[]⟩ ⟨#[]⟩ [], ⟨#[]⟩, [], false, [], -1, -1, ts, [], false⟩])) (c := ⟨6, [], .mk 0 (.mk 0 0 ⟨#[]⟩ []) ⟨#[]⟩ ⟨#[]⟩ [], ⟨#[]⟩, is, di, os, sk, li, [], [], false⟩) (mem (clgT ⟨by omega, by omega⟩ h1t h2t t3)) hcl (len1 ⟨8, [], .mk 0 (.mk 0 0 ⟨#[]⟩ []) ⟨#[]⟩ ⟨#[]⟩ [], ⟨#[]⟩, [], false, [], -1, -1, ts, [], false⟩) (by first | omega | (simp only [List.length_cons, List.length_nil]; omega)) (by omega) (by omega) (i8.upd i9) hl0 i9 i10 i11
      | exact q_new (cs := (cs ++ [⟨8, [], .mk 0 (.mk 0 0 ⟨#[]⟩ []) ⟨#[]⟩ ⟨#[]⟩ [], ⟨#[]⟩, [], false, [], -1, -1, ts, [], false⟩])) (c := ⟨6, [], .mk 0 (.mk 0 0 ⟨#[]⟩ []) ⟨#[]⟩ ⟨#[]⟩ [], ⟨#[]⟩, is, di, os, sk, li, [], [], false⟩) (mem (clgT ⟨by omega, by omega⟩ h1t h2t t3)) hcl (len1 ⟨8, [], .mk 0 (.mk 0 0 ⟨#[]⟩ []) ⟨#[]⟩ ⟨#[]⟩ [], ⟨#[]⟩, [], false, [], -1, -1, ts, [], false⟩) (by first | omega | (simp only [List.length_cons, List.length_nil]; omega)) (by omega) (by omega) (i8.upd i9) hl0 hl3
      | exact q_new (cs := (cs ++ [⟨8, [], .mk 0 (.mk 0 0 ⟨#[]⟩ []) ⟨#[]⟩ ⟨#[]⟩ [], ⟨#[]⟩, [], false, [], -1, -1, ts, [], false⟩])) (c := ⟨6, [], .mk 0 (.mk 0 0 ⟨#[]⟩ []) ⟨#[]⟩ ⟨#[]⟩ [], ⟨#[]⟩, is, di, os, sk, li, [], [], false⟩) (mem (clgT ⟨by omega, by omega⟩ h1t h2t t3)) hcl (len1 ⟨8, [], .mk 0 (.mk 0 0 ⟨#[]⟩ []) ⟨#[]⟩ ⟨#[]⟩ [], ⟨#[]⟩, [], false, [], -1, -1, ts, [], false⟩) (by first | omega | (simp only [List.length_cons, List.length_nil]; omega)) (by omega) (by omega) (i8.upd i9) hl0 hl2
      | exact q_in (cs := (cs ++ [⟨8, [], .mk 0 (.mk 0 0 ⟨#[]⟩ []) ⟨#[]⟩ ⟨#[]⟩ [], ⟨#[]⟩, [], false, [], -1, -1, ts, [], false⟩])) (c := ⟨6, [], .mk 0 (.mk 0 0 ⟨#[]⟩ []) ⟨#[]⟩ ⟨#[]⟩ [], ⟨#[]⟩, is, di, os, sk, li, [], [], false⟩) (mem (clgT ⟨by omega, by omega⟩ h1t h2t t3)) hcl (len1 ⟨8, [], .mk 0 (.mk 0 0 ⟨#[]⟩ []) ⟨#[]⟩ ⟨#[]⟩ [], ⟨#[]⟩, [], false, [], -1, -1, ts, [], false⟩) (by first | omega | (simp only [List.length_cons, List.length_nil]; omega)) (by omega) (by omega) (i8.upd (dh_fr i8 hl2)) hl0 (dh_fr i8 hl2) (dh_no hl2).2.1 (dh_no hl2).2.2
      | exact q_new (cs := (cs ++ [⟨8, [], .mk 0 (.mk 0 0 ⟨#[]⟩ []) ⟨#[]⟩ ⟨#[]⟩ [], ⟨#[]⟩, [], false, [], -1, -1, ts, [], false⟩])) (c := ⟨6, [], .mk 0 (.mk 0 0 ⟨#[]⟩ []) ⟨#[]⟩ ⟨#[]⟩ [], ⟨#[]⟩, is, di, os, sk, li, [], [], false⟩) (mem (clgT ⟨by omega, by omega⟩ h1t h2t t3)) hcl (len1 ⟨8, [], .mk 0 (.mk 0 0 ⟨#[]⟩ []) ⟨#[]⟩ ⟨#[]⟩ [], ⟨#[]⟩, [], false, [], -1, -1, ts, [], false⟩) (by first | omega | (simp only [List.length_cons, List.length_nil]; omega)) (by omega) (by omega) (i8.upd (dh_fr i8 hl2)) hl0 hl3
      | exact q_new (cs := (cs ++ [⟨8, [], .mk 0 (.mk 0 0 ⟨#[]⟩ []) ⟨#[]⟩ ⟨#[]⟩ [], ⟨#[]⟩, [], false, [], -1, -1, ts, [], false⟩])) (c := ⟨6, [], .mk 0 (.mk 0 0 ⟨#[]⟩ []) ⟨#[]⟩ ⟨#[]⟩ [], ⟨#[]⟩, is, di, os, sk, li, [], [], false⟩) (mem (clgT ⟨by omega, by omega⟩ h1t h2t t3)) hcl (len1 ⟨8, [], .mk 0 (.mk 0 0 ⟨#[]⟩ []) ⟨#[]⟩ ⟨#[]⟩ [], ⟨#[]⟩, [], false, [], -1, -1, ts, [], false⟩) (by first | omega | (simp only [List.length_cons, List.length_nil]; omega)) (by omega) (by omega) (i8.upd (dh_fr i8 hl2)) hl0 hl2
end Go.Proofs.YthllnbfkfobcjaaGreat
