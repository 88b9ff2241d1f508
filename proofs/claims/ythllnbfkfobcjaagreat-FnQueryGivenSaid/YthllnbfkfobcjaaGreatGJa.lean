/-
  Contracts of the functions that the law reaches.
-/
import Derived.Test.YthllnbfkfobcjaaGreatGD
import Derived.Test.YthllnbfkfobcjaaGreatGI
set_option linter.unusedVariables false
set_option linter.unusedSimpArgs false
namespace Go.Proofs.YthllnbfkfobcjaaGreat
open Go Go.CL
set_option maxRecDepth 10000
noncomputable def GM (g : List Nat) (m : Nat → Option (List Nat)) : Ctx := { P := Tryz.prog, tt := tt, gl := fun n => g.contains n, ord := m }
theorem GM_ok (g : List Nat) (m : Nat → Option (List Nat)) : (GM g m).ok := X_ok
theorem GM_sat (g : List Nat) (m : Nat → Option (List Nat)) : DrawSat (GM g m) := drawSat (GM_ok g m) X_draw
def b1 (n : Int) : ByteArray := bstr [n]
theorem b1_size (n : Int) : (bstr [n]).size = 1 := rfl
def decF : Nat → Int → ByteArray
  | 0, n => bstr [48 + n]
  | d + 1, n => if n < 10 then bstr [48 + n] else decF d (n.tdiv 10) ++ bstr [48 + n.tmod 10]
theorem decF_size : ∀ (d : Nat) (n : Int), (decF d n).size ≤ d + 1
  | 0, n => Nat.le_of_eq (b1_size _)
  | d + 1, n => by
    have h := decF_size d (n.tdiv 10)
    unfold decF
    split
    · have := b1_size (48 + n); omega
    · rw [ByteArray.size_append, b1_size]; omega
theorem dec_c : ∀ (d : Nat) {σ : Heap} {n : Int}, 0 ≤ n → n < 10 ^ (d + 1) → d ≤ 3 → CRun Tryz.prog 245 [i64 n] σ (· = .ret (.sc (.string (decF d n))) σ) := by
  intro d
  induction d with
  | zero =>
    intro σ n h0 h1 hd
    have h2 : n < 10 := by simpa using h1
    refine crun_of (X := X) X_ok X_sat (body := bodyOf Tryz.f245) Tryz.func245 rfl (by kernel_rfl) (by kernel_rfl) ?_
    rw [Tryz.ntmps245]
    conv => whnf
    repeat' (first | refine Fork.yp ?_ | refine Fork.np ?_ | refine Need.go ?_ | refine finGo ?_) <;> try (conv => whnf)
    all_goals rfl
  | succ d ih =>
    intro σ n h0 h1 hd
    have hE : decF (d + 1) n = if n < 10 then bstr [48 + n] else decF d (n.tdiv 10) ++ bstr [48 + n.tmod 10] := rfl
    by_cases h2 : n < 10
    · rw [hE, if_pos h2]
      refine crun_of (X := X) X_ok X_sat (body := bodyOf Tryz.f245) Tryz.func245 rfl (by kernel_rfl) (by kernel_rfl) ?_
      rw [Tryz.ntmps245]
      conv => whnf
      repeat' (first | refine Fork.yp ?_ | refine Fork.np ?_ | refine Need.go ?_ | refine finGo ?_) <;> try (conv => whnf)
      all_goals rfl
    rw [hE, if_neg h2]
    have h3 : n < 100000 := by
      rcases (by omega : d = 0 ∨ d = 1 ∨ d = 2) with rfl | rfl | rfl <;> simp at h1 <;> omega
    have h4 : Int.tdiv n 10 = n / 10 := Int.tdiv_eq_ediv_of_nonneg h0
    have h5 : Int.tmod n 10 = n % 10 := Int.tmod_eq_emod_of_nonneg h0
    have h6 : n < 10 ^ (d + 1) * 10 := by rw [← Int.pow_succ]; exact h1
    have c1 := ih (σ := σ) (n := Int.tdiv n 10) (by rw [h4]; omega) (by rw [h4]; omega) (by omega)
    have i1 : (10 : Int) ≠ 0 ∧ inR .i64 (n.tdiv 10) := ⟨by decide, by rw [h4]; exact ⟨by omega, by omega⟩⟩
    have s1 := decF_size d (n.tdiv 10)
    have s2 := b1_size (48 + n.tmod 10)
    have i2 : (decF d (n.tdiv 10)).size + (bstr [48 + n.tmod 10]).size ≤ 140737488355328 := by omega
    refine crun_of (X := X) X_ok X_sat (body := bodyOf Tryz.f245) Tryz.func245 rfl (by kernel_rfl) (by kernel_rfl) ?_
    rw [Tryz.ntmps245]
    conv => whnf
    repeat' (first | (refine CallN.one c1 ?_) | refine OrdN.one ?_ | refine Fork.np ?_ | refine Need.go ?_ | refine Need.draw ?_ | refine ExtN.ext ?_ | refine finGo ?_) <;> try (conv => whnf)
    all_goals rfl
def vName (n : Int) : ByteArray := ⟨#[118]⟩ ++ decF 2 n
theorem vName_size (n : Int) : (vName n).size ≤ 4 := by
  have := decF_size 2 n
  unfold vName; rw [ByteArray.size_append]
  have h : (⟨#[118]⟩ : ByteArray).size = 1 := rfl
  omega
structure NG (m : Nat) (L : List ByteArray) (n : Int) : Prop where
  h : ∀ s ∈ L, s.size ≤ 7
  l : L.length ≤ m + 3
  n0 : 0 ≤ n
  n1 : n ≤ m
theorem NG.mono {m m' : Nat} {L : List ByteArray} {n : Int} (h : NG m L n) (hm : m ≤ m') : NG m' L n := ⟨h.h, by have := h.l; omega, h.n0, by have := h.n1; omega⟩
theorem NG.snoc {m : Nat} {L : List ByteArray} {n : Int} (h : NG m L n) : NG (m + 1) (L ++ [vName (n + 1)]) (n + 1) := by
  refine ⟨fun s hs => ?_, by have := h.l; simp; omega, by have := h.n0; omega, by have := h.n1; omega⟩
  rcases List.mem_append.1 hs with hs | hs
  · exact h.h s hs
  · rw [List.mem_singleton.1 hs]; have := vName_size (n + 1); omega
theorem NG.names {m : Nat} {L : List ByteArray} {n : Int} (h : NG m L n) (hm : m ≤ 900) : NamesD (sts L) := by
  refine ⟨?_, by rw [sts_len]; have := h.l; omega⟩
  have h1 := h.h
  clear h
  induction L with
  | nil => trivial
  | cons x r ih => exact ⟨⟨x, rfl, h1 x (by simp)⟩, ih fun s hs => h1 s (by simp [hs])⟩
theorem fresh_c {τ : Heap} {ls : Nat} {L : List ByteArray} {n : Int} {m : Nat} (hm : τ ls = some (scO L n)) (g : NG m L n) (hb : m ≤ 900) :
    CRun Tryz.prog 226 [.ptr (.g ls) 0] τ (· = .ret (.sc (.string (vName (n + 1)))) (upd τ ls (scO (L ++ [vName (n + 1)]) (n + 1)))) := by
  obtain ⟨g1, g2, g3, g4⟩ := g
  have e3 := sts_len L
  unfold scO at hm ⊢
  have hm2 : (upd τ ls (.cells [.vec (sts L), i64 (n + 1)])) ls = some (.cells [.vec (sts L), i64 (n + 1)]) := upd_same _ _ _
  have c1 := dec_c 2 (σ := upd τ ls (.cells [.vec (sts L), i64 (n + 1)])) (n := n + 1) (by omega) (by simp; omega) (by omega)
  have s1 := decF_size 2 (n + 1)
  have s0 : (⟨#[118]⟩ : ByteArray).size = 1 := rfl
  have i2 : (⟨#[118]⟩ : ByteArray).size + (decF 2 (n + 1)).size ≤ 140737488355328 := by omega
  rw [sts_app]
  have hv : vName (n + 1) = ⟨#[118]⟩ ++ decF 2 (n + 1) := rfl
  rw [hv]
  have up := fun B => upd_upd τ ls (.cells [.vec (sts L), i64 (n + 1)]) B
  refine crun_of (X := X) X_ok X_sat (body := bodyOf Tryz.f226) Tryz.func226 rfl (by kernel_rfl) (by kernel_rfl) ?_
  rw [Tryz.ntmps226]
  cases L with
  | nil =>
    conv => whnf
    repeat' (first | (refine CallN.one c1 ?_) | (refine Need.ap1 ?_ (h1 := by simp only [List.length_replicate, List.length_append, List.length_cons, List.length_nil]; omega) (h2 := by first | rfl | (simp only [List.length_append]))) | refine Fork.yb ?_ | refine Fork.nb ?_ | refine GetN.go ?_ | refine Need.go ?_ | refine ExtN.ext ?_ | refine finGo ?_) <;> try (conv => whnf)
    all_goals (rw [upd_upd]; rfl)
  | cons x r =>
    have hne : (sts (x :: r)).isEmpty = false := rfl
    have e5 : (x :: r).length = r.length + 1 := rfl
    conv => whnf
    repeat' (first | (refine CallN.one c1 ?_) | (refine Need.ap1 ?_ (h1 := by simp only [List.length_replicate, List.length_append, List.length_cons, List.length_nil]; omega) (h2 := by first | rfl | (simp only [List.length_append]))) | (refine Need.ap2 ?_ (h := els_sts) (h1 := by simp only [List.length_replicate, List.length_append, List.length_cons, List.length_nil]; omega) (h3 := by omega) (h2 := by first | rfl | (simp only [List.length_append]))) | refine Fork.nb ?_ | refine GetN.go ?_ | refine Need.go ?_ | refine ExtN.ext ?_ | refine finGo ?_) <;> try (conv => whnf)
    all_goals (rw [upd_upd]; simp)
theorem dh_at {σ : Heap} {l ls : Nat} {bs : List CV} {p : Int} {L : List ByteArray} {n : Int} (h : ls ≠ l) : rd (upd σ ls (scO L n)) l bs p ls = some (scO L n) := by
  rw [rd_ne h]; exact upd_same _ _ _
theorem dh_at' {σ : Heap} {l ls : Nat} {bs : List CV} {p : Int} {L : List ByteArray} {n : Int} (h : ls ≠ l) : rd (upd σ ls (scO L n)) l bs p ls = some (.cells [.vec (sts L), i64 n]) := dh_at h
theorem dh_upd {σ : Heap} {l ls : Nat} {bs : List CV} {p : Int} {L L' : List ByteArray} {n n' : Int} (h : ls ≠ l) : upd (rd (upd σ ls (scO L n)) l bs p) ls (scO L' n') = rd (upd σ ls (scO L' n')) l bs p := by
  rw [rd_upd' h, upd_upd]
theorem rdk {s : Heap} {l ls : Nat} {bs : List CV} {p p' : Int} (h : ls ≠ l) : rd s l bs p' ls = rd s l bs p ls := by rw [rd_ne h, rd_ne h]
theorem freshD {σ : Heap} {l ls : Nat} {bs : List CV} {p : Int} {L : List ByteArray} {n : Int} {m : Nat} (h : ls ≠ l) (g : NG m L n) (hb : m ≤ 900) :
    CRun Tryz.prog 226 [.ptr (.g ls) 0] (rd (upd σ ls (scO L n)) l bs p) (· = .ret (.sc (.string (vName (n + 1)))) (rd (upd σ ls (scO (L ++ [vName (n + 1)]) (n + 1))) l bs p)) := by
  have := fresh_c (τ := rd (upd σ ls (scO L n)) l bs p) (dh_at h) g hb
  rwa [dh_upd h] at this
structure PatsG (ps : List Pt) : Prop where
  l : ps.length ≤ 1
  t : ∀ q ∈ ps, PtT q
theorem PatsG.nil : PatsG [] := ⟨by simp, by simp⟩
theorem PatsG.one {t : ByteArray} {e : Exp} (ht : t.size ≤ 7) (he : ETame e) : PatsG [⟨t, e⟩] := ⟨by simp, fun q hq => by
  rw [List.mem_singleton.1 hq]; exact ⟨by show t.size ≤ 1000; omega, he⟩⟩
theorem pats_d {σ : Heap} {l ls : Nat} {bs : List CV} (hb : BytesOk bs) (hl : bs.length ≤ 2000) {p : Int} {L : List ByteArray} {n : Int} {m : Nat} (hne : ls ≠ l) (g : NG m L n) (hm : m ≤ 900) (hp : 0 ≤ p) (hp' : p ≤ 1000000) :
    CRun Tryz.prog 248 [.ptr (.g l) 0, .ptr (.g ls) 0] (rd (upd σ ls (scO L n)) l bs p) (fun out => ∃ ps p', PatsG ps ∧ p ≤ p' ∧ p' ≤ p + 60 ∧ out = .ret (.vec (pts ps)) (rd (upd σ ls (scO L n)) l bs p')) := by
  have hN := g.names hm
  have hh := fun q => dh_at' (σ := σ) (bs := bs) (p := q) (L := L) (n := n) hne
  refine crun_of (X := (GM [] fun n => match Nat.beq n 3 with | true => some [0,1,2,4,5,6,7,8,3,9,10,11,12,13] | false => (none))) (GM_ok _ _) (GM_sat _ _) (body := bodyOf Tryz.f248) Tryz.func248 rfl (by kernel_rfl) (by kernel_rfl) ?_
  rw [Tryz.ntmps248]
  conv => whnf
  repeat' (first | (refine GetN.go ?_ (h := hh _)) | (refine Need.ap1 ?_ (h1 := by simp only [List.length_replicate, List.length_append, List.length_cons, List.length_nil]; omega)) | (refine Need.mk (And.intro (rdk hne) trivial) ?_) | (refine ExtN.wrk ?_) | (refine CallN.many (pick_n hb hl (by omega) (by omega)) ?_; rintro _ ⟨k, hk1, hk2, rfl⟩) | (refine CallN.many (of_c (m := 7) hb hl (by omega) (by omega) ?_ (Nat.le_of_ble_eq_true rfl) (Nat.le_of_ble_eq_true rfl)) ?_; (repeat' (first | exact (trivial : True) | refine And.intro ?_ ?_ | refine ⟨_, rfl, ?_⟩ | omega | decide)); rintro _ ⟨t2, ht2, rfl⟩) | (refine CallN.many (eopen_draw (expr_c hb hl hN 0 (deep := 1) (by omega) (by omega) (by omega) (by omega) (by simp only [costE]; omega) _)) ?_; rintro _ ⟨ek, evk, evn, evt, evl, es, ec, eps, p1, g1, hq1, hq2, rfl⟩) | refine OrdN.go ?_ | refine Fork.nb ?_ | refine Fork.dp (fun h => ?_) (fun h => ?_) | refine Need.draw ?_ | refine finGo ?_) <;> try (conv => whnf)
  all_goals first
    | exact ⟨[⟨t2, .mk ek (.mk evk evn evt evl) es ec eps⟩], p1, .one ht2 g1.t, by omega, by simp only [costE] at hq2; omega, rfl⟩
    | exact ⟨[], _, .nil, by omega, by omega, rfl⟩
theorem spot_d {σ : Heap} {l ls : Nat} {bs : List CV} (hb : BytesOk bs) (hl : bs.length ≤ 2000) {p : Int} {L : List ByteArray} {n : Int} {m : Nat} (hne : ls ≠ l) (g : NG m L n) (hm : m ≤ 900) (hp : 0 ≤ p) (hp' : p ≤ 900000) {mk : Bool} :
    CRun Tryz.prog 246 [.ptr (.g l) 0, .ptr (.g ls) 0, .sc (.bool mk)] (rd (upd σ ls (scO L n)) l bs p) (fun out => ∃ sn sl ps p' L' n', SpT ⟨sn, sl, ps⟩ ∧ NG (m + 1) L' n' ∧ p ≤ p' ∧ p' ≤ p + 70 ∧ out = .ret (Sp.cv ⟨sn, sl, ps⟩) (rd (upd σ ls (scO L' n')) l bs p')) := by
  have hN := g.names hm
  have hg0 := g.mono (m' := m + 1) (by omega)
  have hg1 := g.snoc
  have hh := fun q => dh_at' (σ := σ) (bs := bs) (p := q) (L := L) (n := n) hne
  have e3 := sts_len L
  have hv := vName_size (n + 1)
  have sp : ∀ {a b : ByteArray} {ps : List Pt}, a.size ≤ 7 → b.size ≤ 7 → PatsG ps → SpT ⟨a, b, ps⟩ := fun h1 h2 h3 => ⟨Nat.le_trans h1 (by omega), Nat.le_trans h2 (by omega), Nat.le_trans h3.l (by omega), h3.t⟩
  have z7 : (⟨#[]⟩ : ByteArray).size ≤ 7 := Nat.zero_le _
  by_cases h0 : L.length = 0
  all_goals
    refine crun_of (X := X) X_ok X_sat (body := bodyOf Tryz.f246) Tryz.func246 rfl (by kernel_rfl) (by kernel_rfl) ?_
    rw [Tryz.ntmps246]
    conv => whnf
    repeat' (first | (refine GetN.go ?_ (h := hh _)) | (refine CallN.many (pick_n hb hl (by omega) (by omega)) ?_; rintro _ ⟨k, hk1, hk2, rfl⟩) | (refine CallN.many (of_c (m := 7) hb hl (by omega) (by omega) hN.1 (by omega) hN.2) ?_; rintro _ ⟨t, ht, rfl⟩) | (refine CallN.many (of_c (m := 7) hb hl (by omega) (by omega) ?_ (Nat.le_of_ble_eq_true rfl) (Nat.le_of_ble_eq_true rfl)) ?_; (repeat' (first | exact (trivial : True) | refine And.intro ?_ ?_ | refine ⟨_, rfl, ?_⟩ | omega | decide)); rintro _ ⟨t2, ht2, rfl⟩) | (refine CallN.many (pats_d hb hl hne g hm (by omega) (by omega)) ?_; rintro _ ⟨ps, p1, hps, hq1, hq2, rfl⟩) | (refine CallN.one (freshD hne g hm) ?_) | refine Fork.yp ?_ | refine Fork.np ?_ | refine Fork.dp (fun h => ?_) (fun h => ?_) | refine ExtN.wr ?_ | refine finGo ?_) <;> try (conv => whnf)
    all_goals first
      | exact ⟨_, _, [], _, _, _, sp ht z7 .nil, hg0, by omega, by omega, rfl⟩
      | exact ⟨_, _, ps, _, _, _, sp (Nat.le_trans hv (by omega)) ht2 hps, hg1, by omega, by omega, rfl⟩
      | exact ⟨_, _, ps, _, _, _, sp z7 ht2 hps, hg0, by omega, by omega, rfl⟩
structure PSt where
  k : Int
  hs : List Hp
  q : Int
  L : List ByteArray
  n : Int
structure PthG (p : Pth) : Prop where
  t : PthT p
  k : p.hops.length ≤ 2
theorem hps_app (a : List Hp) (h : Hp) : hps (a ++ [h]) = hps a ++ [h.cv] := by simp [hps]
set_option maxHeartbeats 1000000 in
theorem path_d {σ : Heap} {l ls : Nat} {bs : List CV} (hb : BytesOk bs) (hl : bs.length ≤ 2000) {p : Int} {L : List ByteArray} {n : Int} {m : Nat} (hne : ls ≠ l) (g : NG m L n) (hm : m ≤ 800) (hp : 0 ≤ p) (hp' : p ≤ 800000) {mk : Bool} :
    CRun Tryz.prog 227 [.ptr (.g l) 0, .ptr (.g ls) 0, .sc (.bool mk)] (rd (upd σ ls (scO L n)) l bs p) (fun out => ∃ sn sl ps hs p' L' n', PthG ⟨⟨sn, sl, ps⟩, hs⟩ ∧ NG (m + 10) L' n' ∧ p ≤ p' ∧ p' ≤ p + 300 ∧ out = .ret (Pth.cv ⟨⟨sn, sl, ps⟩, hs⟩) (rd (upd σ ls (scO L' n')) l bs p')) := by
  refine crun_of (X := X) X_ok X_sat (body := bodyOf Tryz.f227) Tryz.func227 rfl (by kernel_rfl) (by kernel_rfl) ?_
  rw [Tryz.ntmps227]
  conv => whnf
  repeat' (first | (refine CallN.many (spot_d hb hl hne g (by omega) (by omega) (by omega)) ?_; rintro _ ⟨sn, sl, ps, p1, L1, n1, hs1, hg1, hq1, hq2, rfl⟩) | (refine CallN.many (one_c (lo := 0) (hi := 2) hb hl (by omega) (by omega) ?_ (Nat.le_of_ble_eq_true rfl) (Nat.le_of_ble_eq_true rfl)) ?_; (repeat' (first | exact (trivial : True) | refine And.intro ?_ ?_ | refine ⟨_, rfl, ?_⟩ | omega | decide)); rintro _ ⟨kk, hkk1, hkk2, rfl⟩) | refine ExtN.wr ?_) <;> try (conv => whnf)
  refine LoopN.rule (α := PSt) (fun a => ⟨57, [(0, .ptr (.g l) 0), (1, .ptr (.g ls) 0), (2, .sc (.bool mk)), (6, .ptr (.f 6) 0), (7, .ptr (.f 7) 0), (8, i64 a.k)], [(6, .cells [.sc (.string ⟨#[]⟩), .sc (.string ⟨#[]⟩), .nil, .nil]), (7, .cells [.sc (.string sn), .sc (.string sl), .vec (pts ps), .avec 54 (hps a.hs)]), (54, .tok 168 6 (hps a.hs).length)]⟩)
    (fun a => rd (upd σ ls (scO a.L a.n)) l bs a.q) (fun a => a.k.toNat) (fun a => 0 ≤ a.k ∧ a.k + a.hs.length ≤ 2 ∧ (∀ h ∈ a.hs, HpT h) ∧ NG (m + 1 + 2 * a.hs.length) a.L a.n ∧ p ≤ a.q ∧ a.q ≤ p + 71 + 80 * a.hs.length) ?_ ⟨kk, [], p1 + 1, L1, n1⟩ ⟨hkk1, by simp; omega, by simp, hg1, by dsimp only; omega, by simp; omega⟩ ?_
  rotate_left
  · (refine ⟨rfl, ?_, ?_, Sub.refl _⟩ <;> repeat' (first | exact EnvLe.nil | exact LocsLe.nil | refine EnvLe.cons _ _ _ ?_ ?_ | refine LocsLe.cons _ _ _ ?_ ?_ | exact CVle.same _ rfl | exact CVle.vec _ _ | exact CVle.nil | exact CVle.tok _ _ _ rfl rfl | exact ObLe.tok _ _ rfl | exact CVles.nil | refine CVles.cons ?_ ?_ | exact ObLe.same _ rfl rfl | refine ObLe.cells rfl ?_))
  rintro ⟨k, hs, q, L2, n2⟩ K ⟨i1, i2, i3, i4, i5, i6⟩ hK
  dsimp only at i1 i2 i3 i4 i5 i6 ⊢
  have e3 := hps_len hs
  by_cases hk : 0 < k
  · have hv := vName_size (n2 + 1)
    have i4s := i4.snoc
    have z7 : (⟨#[]⟩ : ByteArray).size ≤ 7 := Nat.zero_le _
    have hK := fun (nm kd : ByteArray) (w : Int) (xn xl : ByteArray) (xp : List Pt) (q' : Int) (L' : List ByteArray) (n' : Int) => hK ⟨k - 1, hs ++ [⟨nm, kd, w, ⟨xn, xl, xp⟩⟩], q', L', n'⟩
    simp only [hps_app, List.length_append, List.length_cons, List.length_nil] at hK
    have mem : ∀ {nm kd : ByteArray} {w : Int} {xn xl : ByteArray} {xp : List Pt}, nm.size ≤ 7 → kd.size ≤ 7 → (-1 ≤ w ∧ w ≤ 1) → SpT ⟨xn, xl, xp⟩ → ∀ h ∈ hs ++ [⟨nm, kd, w, ⟨xn, xl, xp⟩⟩], HpT h := fun h1 h2 h3 h4 h hh => by
      rcases List.mem_append.1 hh with hh | hh
      · exact i3 h hh
      · rw [List.mem_singleton.1 hh]; exact ⟨Nat.le_trans h1 (by omega), Nat.le_trans h2 (by omega), ⟨by dsimp only; omega, by dsimp only; omega⟩, h4⟩
    cases mk
    all_goals
      conv => whnf
      repeat' (first | (refine Need.ap1 ?_ (h1 := by simp only [List.length_replicate, List.length_append, List.length_cons, List.length_nil]; omega)) | (refine CallN.many (pick_n hb hl (by omega) (by omega)) ?_; rintro _ ⟨k2, hk1, hk2, rfl⟩) | (refine CallN.many (of_c (m := 7) hb hl (by omega) (by omega) ?_ (Nat.le_of_ble_eq_true rfl) (Nat.le_of_ble_eq_true rfl)) ?_; (repeat' (first | exact (trivial : True) | refine And.intro ?_ ?_ | refine ⟨_, rfl, ?_⟩ | omega | decide)); rintro _ ⟨t2, ht2, rfl⟩) | (refine CallN.many (one_c (lo := -1) (hi := 1) hb hl (by omega) (by omega) ?_ (Nat.le_of_ble_eq_true rfl) (Nat.le_of_ble_eq_true rfl)) ?_; (repeat' (first | exact (trivial : True) | refine And.intro ?_ ?_ | refine ⟨_, rfl, ?_⟩ | omega | decide)); rintro _ ⟨w, hw1, hw2, rfl⟩) | (refine CallN.one (freshD hne i4 (by omega)) ?_) | (refine CallN.many (spot_d hb hl hne i4s (by omega) (by omega) (by omega)) ?_; rintro _ ⟨xn, xl, xp, p3, L3, n3, hs3, hg3, hq3, hq4, rfl⟩) | (refine CallN.many (spot_d hb hl hne i4 (by omega) (by omega) (by omega)) ?_; rintro _ ⟨xn, xl, xp, p3, L3, n3, hs3, hg3, hq3, hq4, rfl⟩) | refine Fork.yp ?_ | refine Fork.nb ?_ | refine Fork.dp (fun h => ?_) (fun h => ?_) | refine Need.go ?_ | refine ExtN.wr ?_) <;> try (conv => whnf)
      all_goals first
        | (refine hK ⟨#[]⟩ t2 w xn xl xp p3 L3 n3 _ _ ⟨by omega, by simp; omega, mem z7 ht2 ⟨by omega, by omega⟩ hs3, hg3.mono (by simp; omega), by omega, by simp; omega⟩ (by omega) ?_
           (refine ⟨rfl, ?_, ?_, Sub.refl _⟩ <;> repeat' (first | exact EnvLe.nil | exact LocsLe.nil | refine EnvLe.cons _ _ _ ?_ ?_ | refine LocsLe.cons _ _ _ ?_ ?_ | exact CVle.same _ rfl | exact CVle.vec _ _ | exact CVle.nil | exact CVle.tok _ _ _ rfl rfl | exact ObLe.tok _ _ rfl | exact CVles.nil | refine CVles.cons ?_ ?_ | exact ObLe.same _ rfl rfl | refine ObLe.cells rfl ?_))
           done)
        | (refine hK (vName (n2 + 1)) t2 w xn xl xp p3 L3 n3 _ _ ⟨by omega, by simp; omega, mem (Nat.le_trans hv (by omega)) ht2 ⟨by omega, by omega⟩ hs3, hg3.mono (by simp; omega), by omega, by simp; omega⟩ (by omega) ?_
           (refine ⟨rfl, ?_, ?_, Sub.refl _⟩ <;> repeat' (first | exact EnvLe.nil | exact LocsLe.nil | refine EnvLe.cons _ _ _ ?_ ?_ | refine LocsLe.cons _ _ _ ?_ ?_ | exact CVle.same _ rfl | exact CVle.vec _ _ | exact CVle.nil | exact CVle.tok _ _ _ rfl rfl | exact ObLe.tok _ _ rfl | exact CVles.nil | refine CVles.cons ?_ ?_ | exact ObLe.same _ rfl rfl | refine ObLe.cells rfl ?_))
           done)
  · conv => whnf
    repeat' (first | refine Fork.np ?_ | refine finGo ?_) <;> try (conv => whnf)
    all_goals exact ⟨sn, sl, ps, hs, q, L2, n2, ⟨⟨hs1, by dsimp only; omega, i3⟩, by dsimp only; omega⟩, i4.mono (by omega), by omega, by omega, rfl⟩
structure PthsG (ps : List Pth) : Prop where
  k : 1 ≤ ps.length
  l : ps.length ≤ 2
  t : ∀ p ∈ ps, PthT p
theorem paths_d {σ : Heap} {l ls : Nat} {bs : List CV} (hb : BytesOk bs) (hl : bs.length ≤ 2000) {p : Int} {L : List ByteArray} {n : Int} {m : Nat} (hne : ls ≠ l) (g : NG m L n) (hm : m ≤ 700) (hp : 0 ≤ p) (hp' : p ≤ 700000) {mk : Bool} :
    CRun Tryz.prog 186 [.ptr (.g l) 0, .ptr (.g ls) 0, .sc (.bool mk)] (rd (upd σ ls (scO L n)) l bs p) (fun out => ∃ ps p' L' n', PthsG ps ∧ NG (m + 20) L' n' ∧ p ≤ p' ∧ p' ≤ p + 610 ∧ out = .ret (.vec (pths ps)) (rd (upd σ ls (scO L' n')) l bs p')) := by
  refine crun_of (X := X) X_ok X_sat (body := bodyOf Tryz.f186) Tryz.func186 rfl (by kernel_rfl) (by kernel_rfl) ?_
  rw [Tryz.ntmps186]
  conv => whnf
  repeat' (first | (refine Need.ap1 ?_ (h1 := by simp only [List.length_replicate, List.length_append, List.length_cons, List.length_nil]; omega)) | ((refine CallN.many (path_d hb hl hne g (by omega) (by omega) (by omega)) ?_; rintro _ ⟨sn, sl, ps, hs, p1, L1, n1, g1, hg1, hq1, hq2, rfl⟩)) | (refine CallN.many (pick_n hb hl (by omega) (by omega)) ?_; rintro _ ⟨k2, hk1, hk2, rfl⟩) | ((refine CallN.many (path_d hb hl hne hg1 (by omega) (by omega) (by omega)) ?_; rintro _ ⟨sn2, sl2, ps2, hs2, p2, L2, n2, g2, hg2, hq3, hq4, rfl⟩)) | refine Fork.nb ?_ | refine Fork.dp (fun h => ?_) (fun h => ?_) | refine ExtN.wr ?_ | refine finGo ?_) <;> try (conv => whnf)
  all_goals first
    | exact ⟨[⟨⟨sn, sl, ps⟩, hs⟩, ⟨⟨sn2, sl2, ps2⟩, hs2⟩], p2, L2, n2, ⟨by simp, by simp, by simpa using ⟨g1.t, g2.t⟩⟩, hg2.mono (by omega), by omega, by omega, rfl⟩
    | exact ⟨[⟨⟨sn, sl, ps⟩, hs⟩], _, L1, n1, ⟨by simp, by simp, by simpa using g1.t⟩, hg1.mono (by omega), by omega, by omega, rfl⟩
end Go.Proofs.YthllnbfkfobcjaaGreat
