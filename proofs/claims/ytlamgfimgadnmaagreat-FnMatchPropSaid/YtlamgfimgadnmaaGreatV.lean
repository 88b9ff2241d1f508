/-
  Contracts of the functions that the law reaches.
-/
import Derived.Test.YtlamgfimgadnmaaGreatU
import Derived.Test.YtlamgfimgadnmaaGreatR
import Derived.Test.YtlamgfimgadnmaaGreatH
import Derived.Test.YtlamgfimgadnmaaGreatT
set_option linter.unusedVariables false
set_option linter.unusedSimpArgs false
namespace Go.Proofs.YtlamgfimgadnmaaGreat
open Go Go.CL
set_option maxRecDepth 10000
section
variable {g : Gr} {given : List Pr} {S : List StA} {lx ln lu : Nat} {ms : List (MK × Value)} {τ0 : Heap}
theorem z1n {l : Nat} {all : List Ev} {J : List (List Pr) → Heap → Prop} {KP : Int → Heap → Prop} (hJ : WJ2 g given S lx ln lu ms τ0 l all J KP) (hz : ∀ s ∈ S, s.s.name.size ≤ 1000 ∧ s.s.spot.name.size ≤ 1000) :
    ∀ (k i : Nat), i + k = S.length → zib g given lx lu l all J KP ((S.drop i).map StA.s) i := by
  intro k
  induction k with
  | zero =>
    intro i hi
    rw [List.drop_eq_nil_of_le (by omega)]
    exact z4b hJ (by omega)
  | succ k ih =>
    intro i hi
    have hg : S[i]? = some S[i] := List.getElem?_eq_getElem (by omega)
    rw [zan hg, List.map_cons]
    have h1 := @ih (i + 1) (by omega)
    have hm := hz _ (List.getElem_mem (l := S) (n := i) (by omega))
    cases hh : S[i].s.hop with
    | false => exact @z39 g given S lx ln lu ms τ0 l all J KP hJ i _ _ hg hh hm.2 h1
    | true => exact @z4a g given S lx ln lu ms τ0 l all J KP hJ i _ _ hg hh hm h1
theorem zof {l l2 l3 : Nat} {row : List Pr} {all : List Ev} {J : List (List Pr) → Heap → Prop} {KP : Int → Heap → Prop} {m0 : List (MK × Value)} {τ : Heap} (hW : WJ2 g given S lx ln lu ms τ0 l all J KP) (hz : ∀ s ∈ S, s.s.name.size ≤ 1000 ∧ s.s.spot.name.size ≤ 1000) (hsc : SceneOk g row given) (hl : row.length + 2 * S.length ≤ 500)
    (hall : zef g given (S.map StA.s) 0 row [] = all) (h2 : τ l2 = some (.cells [.ptr (.g lx) 0])) (h3 : τ l3 = some (.cells [.vec (prs row)])) (hJ : J [] τ) (hu : τ lu = some (.mp false m0)) (hu0 : UsedI [] m0) :
    CRun Tryz.prog 76 [.fn (.yield l) [] [], .ptr (.g l2) 0, .ptr (.g l3) 0] τ (fun out => (∃ rows τ' m', all = rows.map .inl ∧ J rows τ' ∧ τ' lu = some (.mp false m') ∧ UsedI [] m' ∧ out = .ret (.tup []) τ') ∨ ∃ c τ', KP c τ' ∧ out = .pan (trP c) τ') := by
  have c1 := z1n hW hz S.length 0 (by omega) (d := 0) (row := row) (us := []) (m := m0) (pre := []) (rest := []) (τ := τ) hsc (by rw [List.length_map, List.drop_zero]; exact hl) (by simpa using hall) hJ hu hu0
  unfold zn5 at c1
  rw [List.drop_zero, hall] at c1
  refine jq (X := X) zr5 zg9 (body := yz Tryz.f76) Tryz.func76 rfl (by kernel_rfl) (by kernel_rfl) ?_
  rw [Tryz.ntmps76]
  conv => whnf
  repeat' (first | (refine GetN.go ?_ (h := h2)) | (refine GetN.go ?_ (h := h3)) | ((refine CallN.many c1 ?_; rintro _ (⟨rows, τ', m', k0, k1, k2, k3, rfl⟩ | ⟨c, τ', k1, rfl⟩))) | refine Zq ?_ | refine Zr ?_) <;> try (conv => whnf)
  all_goals first
    | exact FinP.pan _ (Sub.refl _) (.inr ⟨_, _, k1, rfl⟩)
    | exact .inl ⟨rows, τ', m', k0, k1, k2, k3, rfl⟩
theorem z5m {σ τ : Heap} {lo lr : Nat} {ob : Ob} {rows : List (List Pr)} (h : GJ σ lo lr lu ob rows τ) (st : WS2 g given S lx ln lu ms τ0 σ) (hz : τ0 lu = none) (xu : lx ≠ lu) (nu : ln ≠ lu) : WS2 g given S lx ln lu ms τ0 τ := by
  refine ⟨h.sub _ _ xu st.x, h.sub _ _ nu st.n, fun d => ?_, fun x o hx => h.sub x o (fun e => by subst e; rw [hz] at hx; cases hx) (st.s x o hx)⟩
  rcases st.e d with h1 | ⟨j, l, n, cap, h1, h2, h3, h4, h5⟩
  · exact .inl h1
  · exact .inr ⟨j, l, n, cap, h1, h2, h3, h4, h.sub _ _ h4 h5⟩
def evE : List Ev → Nat → Option Int
  | [], _ => none
  | .inl _ :: r, k => if k = 60 then some 5 else evE r (k + 1)
  | .inr c :: _, _ => some c
theorem zrt : ∀ {pre : List (List Pr)} {x : List Pr} {r : List Ev} {k : Nat}, pre.length + k = 60 → evE (pre.map .inl ++ .inl x :: r) k = some 5
  | [], _, _, k, h => by rw [List.map_nil, List.nil_append, evE, if_pos (by simpa using h)]
  | p :: pre, x, r, k, h => by
    rw [List.map_cons, List.cons_append, evE]
    split
    · rfl
    · exact zrt (by simp at h; omega)
theorem zww : ∀ {pre : List (List Pr)} {c : Int} {r : List Ev} {k : Nat}, pre.length + k ≤ 60 → evE (pre.map .inl ++ .inr c :: r) k = some c
  | [], _, _, k, h => rfl
  | p :: pre, x, r, k, h => by
    simp only [List.length_cons] at h
    rw [List.map_cons, List.cons_append, evE, if_neg (by omega)]
    exact zww (by omega)
theorem zkq : ∀ {pre : List (List Pr)} {k : Nat}, pre.length + k ≤ 60 → evE (pre.map .inl) k = none
  | [], k, h => rfl
  | p :: pre, k, h => by
    simp only [List.length_cons] at h
    rw [List.map_cons, evE, if_neg (by omega)]
    exact zkq (by omega)
def z6g (σ : Heap) (lu : Nat) (all : List Ev) (out : COut) : Prop := ∃ τ', (∀ x o, x ≠ lu → σ x = some o → τ' x = some o) ∧ ((∃ c, evE all 0 = some c ∧ out = .pan (trP c) τ') ∨ ∃ rows m', evE all 0 = none ∧ all = rows.map .inl ∧ τ' lu = some (.mp false m') ∧ UsedI [] m' ∧ rows.length ≤ 60 ∧ ((rows = [] ∧ out = .ret (.vec []) τ') ∨ ∃ la cap, rows ≠ [] ∧ la ≠ lu ∧ σ la = none ∧ τ' la = some (.arr 51 1 cap (vj rows)) ∧ rows.length ≤ cap ∧ out = .ret (.grow la rows.length cap) τ'))
set_option maxHeartbeats 1000000 in
theorem zwf {σ : Heap} {l2 l3 : Nat} {row : List Pr} {all : List Ev} {m0 : List (MK × Value)} (st : WS2 g given S lx ln lu ms τ0 σ) (hn : τ0 lu = none) (us : σ lu = some (.mp false m0)) (hu0 : UsedI [] m0) (xu : lx ≠ lu) (nu : ln ≠ lu) (h2 : σ l2 = some (.cells [.ptr (.g lx) 0])) (h3 : σ l3 = some (.cells [.vec (prs row)]))
    (hsc : SceneOk g row given) (hl : row.length + 2 * S.length ≤ 500) (hall : zef g given (S.map StA.s) 0 row [] = all) (hz : ∀ s ∈ S, s.s.name.size ≤ 1000 ∧ s.s.spot.name.size ≤ 1000) (hso : ∀ s ∈ S, StOk s τ0) (hS : S.length ≤ 100) :
    CRun Tryz.prog 43 [.fn (.func 76) [] [.ptr (.g l2) 0, .ptr (.g l3) 0]] σ (z6g σ lu all) := by
  refine jq (X := G [3,14]) (z0h _) (zn8 _) (body := yz Tryz.f43) Tryz.func43 rfl (by kernel_rfl) (by kernel_rfl) ?_
  rw [Tryz.ntmps43]
  conv => whnf
  repeat' (first | (refine AllocN.go (fun lo hlo => ?_))) <;> try (conv => whnf)
  refine RngN.pan rfl fun f lr ob hfn hob hlr => ?_
  have n1 : lr ≠ lo := fun e => by subst e; rw [za] at hlr; cases hlr
  have z2 : σ lr = none := by rwa [zb _ _ n1] at hlr
  have n2 : lo ≠ lu := fun e => by subst e; rw [us] at hlo; cases hlo
  have n3 : lr ≠ lu := fun e => by subst e; rw [us] at z2; cases z2
  have start : GJ σ lo lr lu ob [] (upd (upd σ lo (.cells [.nil])) lr ob) := by
    refine ⟨fun x o hx ho => ?_, za _ _ _, ⟨m0, by rw [zb _ _ (Ne.symm n3), zb _ _ (Ne.symm n2)]; exact us⟩, Nat.zero_le _, .inl ⟨rfl, by rw [zb _ _ (Ne.symm n1)]; exact za _ _ _⟩⟩
    exact ((((Sub.refl σ).upd hlo).upd z2) x o ho)
  have e2 : (upd (upd σ lo (.cells [.nil])) lr ob) l2 = some (.cells [.ptr (.g lx) 0]) := (((Sub.refl σ).upd hlo).upd z2) _ _ h2
  have e3 : (upd (upd σ lo (.cells [.nil])) lr ob) l3 = some (.cells [.vec (prs row)]) := (((Sub.refl σ).upd hlo).upd z2) _ _ h3
  have eu : (upd (upd σ lo (.cells [.nil])) lr ob) lu = some (.mp false m0) := by rw [zb _ _ (Ne.symm n3), zb _ _ (Ne.symm n2)]; exact us
  have wj : WJ2 g given S lx ln lu ms τ0 lr all (GJ σ lo lr lu ob) (fun c τ => evE all 0 = some c ∧ ∀ x o, x ≠ lu → σ x = some o → τ x = some o) := by
    refine ⟨fun h => z5m h st hn xu nu, fun h _ => z7a h n2 n3, fun {pre x r τ} hp hJ => ?_, fun {pre c r τ} hp hJ => ⟨by rw [← hp]; exact zww (by have := hJ.len; omega), hJ.sub⟩, hso, hS⟩
    have hpl := hJ.len
    have hmany : pre.length = 60 → evE all 0 = some 5 := fun e => by rw [← hp]; exact zrt (by omega)
    have hrec := hJ.rec_
    rw [hob] at hrec
    refine zod (X := G [3,14]) (z0h _) (zn8 _) hfn hrec rfl rfl rfl ?_
    conv => whnf
    repeat' (first | refine Zh ?_ | refine Za ?_ | refine Zb ?_ | refine Zc ?_ | refine Zd ?_ | refine Ze ?_ | refine Zg ?_ | refine Zv (fun h => ?_) (fun h => ?_) | refine Zj ?_ | refine Zk ?_ | refine Zl ?_ | refine Zm ?_ | refine Zn ?_ | refine Zo ?_ | refine Zp ?_ | refine Zq ?_ | refine Zu (fun l hl => ?_) | refine Zr ?_) <;> try (conv => whnf)
    refine AsgN.mk hrec fun τ2 hτ2 => ?_
    have b0 : ∀ y, y ≠ lr → τ2 y = τ y := fun y hy => by rw [hτ2, zb _ _ hy]
    have bl := hτ2 ▸ za τ lr _
    have bs : Sub (del σ lu) τ2 := fun y o hy => by
      have y1 : y ≠ lu := fun e => by subst e; rw [za1] at hy; cases hy
      rw [zbr _ y1] at hy
      have y2 : y ≠ lr := fun e => by subst e; rw [z2] at hy; cases hy
      rw [b0 _ y2]; exact hJ.sub y o y1 hy
    have bu : ∃ m, τ2 lu = some (.mp false m) := by rw [b0 _ (Ne.symm n3)]; exact hJ.us
    have b3 := b0 lo (Ne.symm n1)
    have hne : pre ++ [x] ≠ [] := by simp
    have fresh : ∀ {l2 : Nat}, τ2 l2 = none → σ l2 = none ∧ l2 ≠ lo ∧ l2 ≠ lr ∧ l2 ≠ lu := by
      intro l2 hl2
      have f3 : l2 ≠ lu := fun e => by subst e; obtain ⟨m, hm⟩ := bu; rw [hm] at hl2; cases hl2
      have f0 : σ l2 = none := by
        have := zdv bs hl2
        rwa [zbr _ f3] at this
      refine ⟨f0, fun e => ?_, (fun e => by subst e; rw [bl] at hl2; cases hl2), f3⟩
      subst e
      rcases hJ.out with ⟨_, h4⟩ | ⟨la, cap, _, _, _, _, _, h4, _, _⟩
      · rw [← b3] at h4; rw [h4] at hl2; cases hl2
      · rw [← b3] at h4; rw [h4] at hl2; cases hl2
    have bt : ∀ y o, y ≠ lu → σ y = some o → τ2 y = some o := fun y o hy ho => bs y o (by rw [zbr _ hy]; exact ho)
    have putA := fun (l2 n cap : Nat) (arr : List CV) => z5n (rows' := pre ++ [x]) (l2 := l2) (n := n) (cap := cap) (arr := arr) hJ b0 bl hlo z2 
    rcases hJ.out with ⟨e0, h4⟩ | ⟨la, cap, e0, m1, m2, m4, m3, h4, h5, h6⟩
    · rw [← b3] at h4
      have arr0 : [CV.vec (prs x)] = vj (pre ++ [x]) := by rw [e0]; rfl
      have len0 : 1 = (pre ++ [x]).length := by rw [e0]; rfl
      have l60 : (pre ++ [x]).length ≤ 60 := by rw [← len0]; omega
      clear hτ2 hp
      conv => whnf
      repeat' (first | (refine Need.mk ⟨by simp only [List.length_cons, List.length_nil]; omega, by simp only [List.length_cons, List.length_nil]; omega, ElsOk.one rfl rfl⟩ ?_) | (refine AllocC.go (fun l2 cap2 hl2 hcap2 => ?_)) | (refine GetN.go ?_ (h := h4)) | (refine GetN.go ?_ (h := by exact zrf h4 ‹_›)) | refine Zg ?_) <;> try (conv => whnf)
      all_goals
        obtain ⟨f0, f1, f2, f3⟩ := fresh hl2
        have q := putA l2 1 cap2 _ f0 n1 n2 n3 f1 f2 f3 len0 arr0 hne l60 hcap2
        exact RndN.mk q.1 ⟨_, Sub.refl _, .inl ⟨_, hob ▸ q.2.1, hob ▸ q.2.2, rfl⟩⟩
    · have b4 := b0 la m2
      rw [← b3] at h4
      rw [← b4] at h5
      have nml : pre.length + 1 = (pre ++ [x]).length := by simp
      have et : List.take pre.length (vj pre) = vj pre := List.take_of_length_le (by rw [kr]; omega)
      have ed : List.drop (pre.length + [CV.vec (prs x)].length) (vj pre) = [] := List.drop_eq_nil_of_le (by rw [kr]; simp)
      have arrN : List.take pre.length (vj pre) ++ [CV.vec (prs x)] = vj (pre ++ [x]) := by rw [et, zsg]
      have arrI : List.take pre.length (vj pre) ++ [CV.vec (prs x)] ++ List.drop (pre.length + [CV.vec (prs x)].length) (vj pre) = vj (pre ++ [x]) := by rw [ed, List.append_nil]; exact arrN
      have hpl2 : pre.length = 60 ∨ pre.length < 60 := by omega
      clear hτ2 hp et ed
      rcases hpl2 with hpe | hpl2
      · rw [hpe] at h4
        conv => whnf
        repeat' (first | (refine GetN.go ?_ (h := h4)) | refine Za ?_) <;> try (conv => whnf)
        all_goals exact ⟨_, Sub.refl _, .inr ⟨5, _, ⟨hmany hpe, bt⟩, rfl⟩⟩
      have l60 : (pre ++ [x]).length ≤ 60 := by rw [← nml]; omega
      conv => whnf
      repeat' (first | (refine Need.mk ⟨rfl, by rw [kr]; omega, by simp only [List.length_cons, List.length_nil]; omega, by simp only [List.length_cons, List.length_nil]; omega, ElsOk.one rfl rfl⟩ ?_) | (refine AllocC.go (fun l2 cap2 hl2 hcap2 => ?_)) | (refine GetN.go ?_ (h := h4)) | (refine GetN.go ?_ (h := h5)) | (refine GetN.go ?_ (h := by first | exact zrf h4 ‹_› | exact zre m1 h4)) | refine Zb ?_ | refine Zg ?_ | refine Zv (fun h => ?_) (fun h => ?_)) <;> try (conv => whnf)
      all_goals first
        | (have q := putA la (pre.length + 1) cap _ m3 n1 n2 n3 m1 m2 m4 nml arrI hne l60 (by simpa using h)
           exact RndN.mk q.1 ⟨_, Sub.refl _, .inl ⟨_, hob ▸ q.2.1, hob ▸ q.2.2, rfl⟩⟩)
        | (obtain ⟨f0, f1, f2, f3⟩ := fresh hl2
           have q := putA l2 (pre.length + 1) cap2 _ f0 n1 n2 n3 f1 f2 f3 nml arrN hne l60 hcap2
           exact RndN.mk q.1 ⟨_, Sub.refl _, .inl ⟨_, hob ▸ q.2.1, hob ▸ q.2.2, rfl⟩⟩)
  refine ⟨fun τ => ∃ rows m', all = rows.map .inl ∧ GJ σ lo lr lu ob rows τ ∧ τ lu = some (.mp false m') ∧ UsedI [] m', fun c τ => ∃ k, c = trP k ∧ evE all 0 = some k ∧ ∀ x o, x ≠ lu → σ x = some o → τ x = some o, ?_, fun τ ⟨_, _, _, hJ, _⟩ => hJ.rec_, ?_, ?_⟩
  · refine (zof (l := lr) (l2 := l2) (l3 := l3) (row := row) wj hz hsc hl hall e2 e3 start eu hu0).mono ?_
    rintro out (⟨rows, τ', m', k0, hJ, k2, k3, rfl⟩ | ⟨c, τ', hK, rfl⟩)
    · exact .inl ⟨_, _, ⟨rows, m', k0, hJ, k2, k3⟩, rfl⟩
    · exact .inr ⟨_, _, ⟨c, rfl, hK⟩, rfl⟩
  · rintro τ τ' ⟨rows, m', k0, hJ, k2, k3⟩ hd
    have d0 : ∀ y, y ≠ lr → τ' y = τ y := fun y hy => by rw [hd, zbr _ hy]
    have hs' : ∀ y o, y ≠ lu → σ y = some o → τ' y = some o := fun y o hy ho => by
      have : y ≠ lr := fun e => by subst e; rw [z2] at ho; cases ho
      rw [d0 y this]; exact hJ.sub y o hy ho
    have d1 := d0 lo (Ne.symm n1)
    rw [← d0 lu (Ne.symm n3)] at k2
    have hev : evE all 0 = none := by rw [k0]; exact zkq (by have := hJ.len; omega)
    have hln := hJ.len
    rcases hJ.out with ⟨e0, h4⟩ | ⟨la, cap, e0, m1, m2, m4, m3, h4, h5, h6⟩
    · rw [← d1] at h4
      clear hd d0 d1 hob
      conv => whnf
      repeat' (first | refine Zj ?_ | refine Zr ?_) <;> try (conv => whnf)
      all_goals exact ⟨_, hs', .inr ⟨rows, m', hev, k0, k2, k3, hln, .inl ⟨e0, rfl⟩⟩⟩
    · rw [← d1] at h4
      rw [← d0 la m2] at h5
      clear hd d0 d1 hob
      conv => whnf
      repeat' (first | refine Zj ?_ | refine Zr ?_) <;> try (conv => whnf)
      all_goals exact ⟨_, hs', .inr ⟨rows, m', hev, k0, k2, k3, hln, .inr ⟨la, cap, e0, m4, m3, h5, h6, rfl⟩⟩⟩
  · rintro c τ τ' ⟨k, rfl, h60, hK⟩ hd
    have hs' : ∀ y o, y ≠ lu → σ y = some o → τ' y = some o := fun y o hy ho => by
      have : y ≠ lr := fun e => by subst e; rw [z2] at ho; cases ho
      rw [hd, zbr _ this]; exact hK y o hy ho
    exact FinP.pan _ (Sub.refl _) ⟨_, hs', .inl ⟨k, h60, rfl⟩⟩
end
theorem zsr {d k : Int} {v : Val} {s c : ByteArray} {ps : List Exp} (h : okE d (.mk k v s c ps) = true) : OkH d k v s c ps.length ∧ ∀ e ∈ ps, okE (d - 1) e = true := by
  simp only [okE, Bool.and_eq_true] at h
  refine ⟨okH_iff.1 h.1, ?_⟩
  rw [yr] at h
  exact List.all_eq_true.1 h.2
theorem zxi (k : Int) : qr k ≤ 2 := by
  unfold qr; split
  · omega
  · split
    · omega
    · split <;> omega
mutual
theorem zk9 : ∀ (e : Exp) {d : Int}, okE d e = true → (vu e).length + 1 ≤ 2 ^ d.toNat
  | .mk k v s c ps, d, h => by
    obtain ⟨h1, h2⟩ := zsr h
    have hd := h1.deep
    have ha := h1.ar
    have h3 := zxi k
    have h4 := zhg ps (d := d - 1) h2
    have e0 : (vu (.mk k v s c ps)).length = (zac ps).length + 1 := by simp only [vu, List.length_cons]
    have e1 : d.toNat = (d - 1).toNat + 1 := by omega
    have h6 : ps.length ≤ 2 := by omega
    have h7 : ps.length * (2 ^ (d - 1).toNat - 1) ≤ 2 * (2 ^ (d - 1).toNat - 1) := Nat.mul_le_mul_right _ h6
    have h8 : 1 ≤ 2 ^ (d - 1).toNat := Nat.one_le_two_pow
    rw [e0, e1, Nat.pow_succ]
    omega
theorem zhg : ∀ (l : List Exp) {d : Int}, (∀ e ∈ l, okE d e = true) → (zac l).length ≤ l.length * (2 ^ d.toNat - 1)
  | [], d, _ => by simp [zac]
  | e :: r, d, h => by
    have h1 := zk9 e (h e (by simp))
    have h2 := zhg r fun e he => h e (by simp [he])
    have h8 : 1 ≤ 2 ^ d.toNat := Nat.one_le_two_pow
    simp only [zac, List.length_append, List.length_cons, Nat.add_mul, Nat.one_mul]
    omega
end
theorem z61 {e : Exp} (h : okE 4 e = true) : Sh e := by
  have := zk9 e h
  have e1 : 2 ^ (4 : Int).toNat = 16 := rfl
  unfold Sh; omega
theorem zym {l : List Pth} (h : zah l = true) : ∀ x ∈ l, z6d x := by
  have hp : ∀ {ps : List Pt}, zg3 ps = true → ∀ p ∈ ps, Sh p.e := fun {ps} h p hp => by
    simp only [zg3, Bool.and_eq_true] at h
    obtain ⟨i, hi, rfl⟩ := List.mem_iff_getElem.1 hp
    have := List.all_eq_true.1 h.2 i (List.mem_range.2 hi)
    rw [zos (List.getElem?_eq_getElem hi)] at this
    simp only [Bool.and_eq_true] at this
    exact z61 this.2.1
  have hs : ∀ {s : Sp}, zom s = true → z6c s := fun {s} h => by
    simp only [zom, Bool.and_eq_true] at h
    exact hp h.2.2
  intro x hx
  simp only [zah, Bool.and_eq_true] at h
  have h1 := List.all_eq_true.1 h.2 x hx
  simp only [pthOk, Bool.and_eq_true] at h1
  refine ⟨hs h1.1, fun y hy => ?_⟩
  have h2 := List.all_eq_true.1 h1.2.2 y hy
  simp only [z2t, Bool.and_eq_true] at h2
  exact hs h2.2.2.2
theorem zut {g : Gr} {given row ns : List Pr} (hsc : SceneOk g row given) : ∀ {ps : List Pt} {c : Int}, (∀ p ∈ ps, okE 4 p.e = true) → zxw g given row ns ps = .bad c → c = 1 ∨ c = 2 ∨ c = 3
  | [], _, _, h => by cases h
  | p :: r, c, ho, h => by
    have hk := ztm hsc p.e (ho p (by simp))
    unfold zxw at h
    cases hr : evR g row given p.e with
    | err e =>
      rw [hr] at h hk
      cases h
      exact hk
    | ok v =>
      rw [hr] at h
      dsimp only at h
      split at h
      · exact zut hsc (fun q hq => ho q (by simp [hq])) h
      · cases h
theorem zwh {g : Gr} {given row : List Pr} (hsc : SceneOk g row given) {s : Sp} {n : Nd} {c : Int} (ho : ∀ p ∈ s.props, okE 4 p.e = true) (h : zfi g given s n row = .bad c) : c = 1 ∨ c = 2 ∨ c = 3 := by
  unfold zfi at h
  split at h
  · exact zut hsc ho h
  · cases h
def EvG (g : Gr) (given : List Pr) (m : Nat) : Ev → Prop
  | .inl r => SceneOk g r given ∧ r.length ≤ m
  | .inr c => c = 1 ∨ c = 2 ∨ c = 3
structure StpG (s : Stp) : Prop where
  n : s.name.size ≤ 1000
  sn : s.spot.name.size ≤ 1000
  o : ∀ p ∈ s.spot.props, okE 4 p.e = true
theorem z26 {g : Gr} {given : List Pr} {m : Nat} : ∀ (R : List Stp) {d : Int} {row : List Pr} {us : List Int}, SceneOk g row given → (∀ s ∈ R, StpG s) → row.length + 2 * R.length ≤ m → m ≤ 500 → ∀ v ∈ zef g given R d row us, EvG g given m v
  | [], d, row, us, hsc, _, hl, _, v, hv => by
    rw [zef, List.mem_singleton] at hv
    subst hv
    exact ⟨hsc, by simpa using hl⟩
  | s :: R, d, row, us, hsc, hz, hl, hm, v, hv => by
    have hs := hz s (by simp)
    simp only [List.length_cons] at hl
    cases hh : s.hop with
    | false =>
      have e : zef g given (s :: R) d row us = g.nodes.flatMap fun n => (zfi g given s.spot n (yg row s.spot.name (yd n.id))).evs (zef g given R n.id (yg row s.spot.name (yd n.id)) us) := by
        rw [zef, hh]
      rw [e] at hv
      obtain ⟨n, hn, hv⟩ := List.mem_flatMap.1 hv
      have hsc2 := vb (s := s.spot.name) hsc (by omega) hs.sn (zu3 (zgd hsc.go n hn))
      have hb := jz (row := row) (s := s.spot.name) (v := yd n.id)
      cases hf : zfi g given s.spot n (yg row s.spot.name (yd n.id)) with
      | no => rw [hf] at hv; cases hv
      | yes => rw [hf] at hv; exact z26 R hsc2 (fun x hx => hz x (by simp [hx])) (by omega) hm v hv
      | bad c =>
        rw [hf] at hv
        rw [List.mem_singleton.1 hv]
        exact zwh hsc2 hs.o hf
    | true =>
      rw [zrr hh] at hv
      obtain ⟨i, hi, hv⟩ := List.mem_flatMap.1 hv
      unfold zv1 at hv
      split at hv
      · cases hv
      rename_i e he
      split at hv
      · cases hv
      split at hv
      · cases hv
      rename_i n hn
      have hsc1 := vb (s := s.name) hsc (by omega) hs.n (z2a (zv0 hsc.go e (List.mem_of_getElem? he)))
      have hb1 := jz (row := row) (s := s.name) (v := zam e.id)
      have hsc2 := vb (s := s.spot.name) hsc1 (by omega) hs.sn (zu3 (zgd hsc.go n (List.mem_of_getElem? hn)))
      have hb := z68 s.name s.spot.name row (zam e.id) (yd n.id)
      have hnx : zd6 s e n row = yg (yg row s.name (zam e.id)) s.spot.name (yd n.id) := rfl
      rw [hnx] at hv
      cases hf : zfi g given s.spot n (yg (yg row s.name (zam e.id)) s.spot.name (yd n.id)) with
      | no => rw [hf] at hv; cases hv
      | yes => rw [hf] at hv; exact z26 R hsc2 (fun x hx => hz x (by simp [hx])) (by omega) hm v hv
      | bad c =>
        rw [hf] at hv
        rw [List.mem_singleton.1 hv]
        exact zwh hsc2 hs.o hf
theorem zwv : ∀ {l : List Ev} {k : Nat} {c : Int}, evE l k = some c → c = 5 ∨ .inr c ∈ l
  | [], _, _, h => by cases h
  | .inl r :: l, k, c, h => by
    rw [evE] at h
    split at h
    · cases h; exact .inl rfl
    · rcases zwv h with h | h
      · exact .inl h
      · exact .inr (by simp [h])
  | .inr x :: l, k, c, h => by cases h; exact .inr (by simp)
def zuc (l : List Ev) : List (List Pr) := l.filterMap Sum.getLeft?
theorem zho (rows : List (List Pr)) : zuc (rows.map .inl) = rows := by
  unfold zuc
  rw [List.filterMap_map]
  induction rows with
  | nil => rfl
  | cons a r ih => simp only [List.filterMap_cons, Function.comp, Sum.getLeft?]; rw [ih]
def zvh (l : List Ev) : CV := match evE l 0 with
  | none => .tup [.vec (vj (zuc l)), i64 0]
  | some c => .tup [.vec [], i64 c]
def nmR (row : List Pr) : List ByteArray := row.foldl (fun L q => zk2 L q.name) []
theorem zyr {row : List Pr} {i : Nat} {q : Pr} (h : row[i]? = some q) : nmR (row.take (i + 1)) = zk2 (nmR (row.take i)) q.name := by
  unfold nmR; rw [List.take_add_one, h, List.foldl_append]; rfl
structure MatsT (g : Gr) (row given : List Pr) (ps : List Pth) : Prop where
  gt : GrTame g
  rl : row.length ≤ 80
  rt : ∀ p ∈ row, PrTame p
  vl : given.length ≤ 1000
  vt : ∀ p ∈ given, PrTame p
  k : ps.length ≤ 100
  pt : ∀ p ∈ ps, PthT p
def z1g (g : Gr) (row given : List Pr) (ps : List Pth) : Prop := zn g = true ∧ zbs row = true ∧ zbs given = true ∧ zah ps = true ∧ (zex (zf1 false) ps (nmR row)).1 = 0
theorem z14 {ps : List Pth} (h : zah ps = true) (ht : ∀ p ∈ ps, PthT p) : (∀ p ∈ ps, PthA p) ∧ (zfb ps ps.length).length ≤ 6 ∧ ∀ s ∈ zfb ps ps.length, StpG s := by
  have hp : ∀ {ps : List Pt}, zg3 ps = true → ∀ p ∈ ps, okE 4 p.e = true := fun {ps} h p hp => by
    simp only [zg3, Bool.and_eq_true] at h
    obtain ⟨i, hi, rfl⟩ := List.mem_iff_getElem.1 hp
    have := List.all_eq_true.1 h.2 i (List.mem_range.2 hi)
    rw [zos (List.getElem?_eq_getElem hi)] at this
    simp only [Bool.and_eq_true] at this
    exact this.2.1
  simp only [zah, Bool.and_eq_true, decide_eq_true_eq] at h
  obtain ⟨hl, h⟩ := h
  have key : ∀ p ∈ ps, PthA p ∧ p.hops.length ≤ 2 := fun p hm => by
    have h1 := List.all_eq_true.1 h p hm
    simp only [pthOk, Bool.and_eq_true, decide_eq_true_eq, zom] at h1
    refine ⟨⟨(ht p hm).s, hp h1.1.2.2, by omega, fun y hy => ⟨((ht p hm).h y hy).s, ?_⟩⟩, h1.2.1⟩
    have h2 := List.all_eq_true.1 h1.2.2 y hy
    simp only [z2t, Bool.and_eq_true, zom] at h2
    exact hp h2.2.2.2.2.2
  refine ⟨fun p hp => (key p hp).1, ?_, fun s hs => ?_⟩
  · have : ∀ (l : List Pth), (∀ p ∈ l, p.hops.length ≤ 2) → (l.flatMap zya).length ≤ 3 * l.length := by
      intro l
      induction l with
      | nil => simp
      | cons a r ih =>
        intro hl
        have h1 := ih fun p hp => hl p (by simp [hp])
        have h2 := hl a (by simp)
        have := zla a
        rw [List.flatMap_cons, List.length_append, List.length_cons]; omega
    have := this ps fun p hp => (key p hp).2
    unfold zfb
    rw [List.take_of_length_le (Nat.le_refl _)]; omega
  · unfold zfb at hs
    rw [List.take_of_length_le (Nat.le_refl _)] at hs
    obtain ⟨p, hm, hs⟩ := List.mem_flatMap.1 hs
    have ha := (key p hm).1
    rcases List.mem_cons.1 hs with rfl | hs
    · exact ⟨by show 0 ≤ 1000; omega, ha.s.n, ha.so⟩
    · obtain ⟨x, hx, rfl⟩ := List.mem_map.1 hs
      have hh := ((ht p hm).h x hx)
      obtain ⟨xn, xk, xw, xs⟩ := x
      exact ⟨hh.n, hh.s.n, (ha.h _ hx).2⟩
theorem z6w {σ : Heap} {lv lc : Nat} {c : Int} (hc : ¬ c = 0) (hne : ¬ lv = lc) (hv : σ lv = some (.cells [.nil])) (hn : σ lc = some (.cells [i64 0])) :
    z6s Tryz.prog (.fn (.func 41) [] [.ptr (.g lv) 0, .ptr (.g lc) 0]) σ (some (trP c)) true (· = upd (upd σ lv (.cells [.vec []])) lc (.cells [i64 c])) := by
  refine zrx (X := X) zr5 zg9 (rest := _) Tryz.func41 rfl (by kernel_rfl) (by kernel_rfl) rfl rfl rfl rfl rfl rfl ?_
  have h2 : (upd σ lv (.cells [.vec []])) lc = some (.cells [i64 0]) := by rw [zb _ _ (Ne.symm hne)]; exact hn
  conv => whnf
  repeat' (first | (refine ZC zxa ?_) | refine Zc ?_ | refine Zj ?_ | refine Zp ?_) <;> try (conv => whnf)
  all_goals exact ⟨rfl, rfl⟩
def z6e (σ : Heap) (l : List Ev) (out : COut) : Prop := (∃ c τ, evE l 0 = some c ∧ Sub σ τ ∧ out = .ret (.tup [.vec [], i64 c]) τ) ∨ ∃ rows, evE l 0 = none ∧ l = rows.map .inl ∧ ((rows = [] ∧ ∃ τ, Sub σ τ ∧ out = .ret (.tup [.vec [], i64 0]) τ) ∨ ∃ la cap τ, Sub σ τ ∧ σ la = none ∧ τ la = some (.arr 51 1 cap (vj rows)) ∧ out = .ret (.tup [.grow la rows.length cap, i64 0]) τ)
theorem zvg {f : FuncId} {args : List CV} {σ : Heap} {l : List Ev} (h : CRun Tryz.prog f args σ (z6e σ l)) : CRun Tryz.prog f args σ (· = .ret (zvh l) σ) := by
  refine h.freeze fun out ho => ?_
  unfold zvh
  rcases ho with ⟨c, τ, he, hs, rfl⟩ | ⟨rows, he, rfl, ⟨h0, τ, hs, rfl⟩ | ⟨la, cap, τ, hs, hl, ha, rfl⟩⟩
  · rw [he]
    exact ⟨.ret (.tup [.vec [], i64 c]) σ, ⟨hs, [], .inr ⟨_, _, rfl, rfl, .cons (.one (.same _)) (.cons (.one (.same _)) .nil)⟩, by simp⟩, rfl⟩
  · subst h0
    exact ⟨.ret (.tup [.vec [], i64 0]) σ, ⟨hs, [], .inr ⟨_, _, rfl, rfl, .cons (.one (.same _)) (.cons (.one (.same _)) .nil)⟩, by simp⟩, rfl⟩
  · rw [he, zho]
    refine ⟨.ret (.tup [.vec (vj rows), i64 0]) σ, ⟨hs, [la], .inr ⟨_, _, rfl, rfl, .cons (ls := [la]) (ms := []) (.one ?_) (.cons (.one (.same _)) .nil)⟩, fun l' h' => by rw [List.mem_singleton.1 h']; exact hl⟩, rfl⟩
    have := Frz.grow (σ := τ) la rows.length cap _ _ _ ha (by rw [kr]; exact Nat.le_refl _)
    rwa [List.take_of_length_le (by rw [kr]; exact Nat.le_refl _)] at this
theorem z1l {g : Gr} {given : List Pr} {S : List StA} {lx ln lu : Nat} {ms : List (MK × Value)} {τ0 σ τ : Heap} (st : WS2 g given S lx ln lu ms τ0 σ) (h : Sub σ τ) : WS2 g given S lx ln lu ms τ0 τ := by
  refine ⟨h _ _ st.x, h _ _ st.n, fun d => ?_, zp st.s h⟩
  rcases st.e d with h1 | ⟨j, l, n, cap, h1, h2, h3, h4, h5⟩
  · exact .inl h1
  · exact .inr ⟨j, l, n, cap, h1, h2, h3, h4, h _ _ h5⟩
def z6o (i : Nat) (L : List ByteArray) : Ob := if i = 0 then .mp true (yf L) else .mq true (yf L)
theorem zq3 {f : FuncId} {args : List CV} {H : Heap} {lm i : Nat} {L : List ByteArray} {p : COut → Prop} (h : CRun Tryz.prog f args (upd H lm (.mq true (yf L))) p) : CRun Tryz.prog f args (upd H lm (z6o i L)) p := by
  unfold z6o
  by_cases e : i = 0
  · rw [if_pos e]
    refine CRun.mq (za _ _ _) ?_
    rw [xe]; exact h
  · rw [if_neg e]; exact h
theorem z24 {g : Gr} {row given : List Pr} {ps : List Pth} {l2 l3 : Nat} {S : List StA} {τ0 τ1 τ2 : Heap} {lx ln lu : Nat} {ms : List (MK × Value)} {H : Heap} (hsc : SceneOk g row given) (rl : row.length ≤ 80) (hlen : (zfb ps ps.length).length ≤ 6) (hG : ∀ s ∈ zfb ps ps.length, StpG s)
    (mI : MatI2 g given S τ0 H τ1 lx ln lu ms) (hS : S.map StA.s = zfb ps ps.length) (hs2 : Sub τ1 τ2) (w2 : τ2 l2 = some (.cells [.ptr (.g lx) 0])) (w3 : τ2 l3 = some (.cells [.vec (prs row)])) :
    CRun Tryz.prog 43 [.fn (.func 76) [] [.ptr (.g l2) 0, .ptr (.g l3) 0]] τ2 (z6g τ2 lu (zef g given (zfb ps ps.length) 0 row [])) := by
  have e : S.length = (zfb ps ps.length).length := by rw [← hS, List.length_map]
  exact zwf (row := row) (z1l mI.st hs2) mI.zu (hs2 _ _ mI.us) UsedI.nil mI.xu mI.nu w2 w3 hsc (by omega) (by rw [hS]) (fun s hs => by
      have := hG s.s (by rw [← hS]; exact List.mem_map.2 ⟨s, hs, rfl⟩)
      exact ⟨this.n, this.sn⟩) mI.ok (by omega)
set_option maxHeartbeats 4000000 in
theorem zs0 {σ : Heap} {g : Gr} {row given : List Pr} {ps : List Pth} (T : MatsT g row given ps) (O : z1g g row given ps) :
    CRun Tryz.prog 10 [g.cv, .vec (prs row), .vec (prs given), .vec (ze7 ps)] σ (· = .ret (zvh (zef g given (zfb ps ps.length) 0 row [])) σ) := by
  refine zvg ?_
  obtain ⟨gt, rl, rt, vl, vt, hk, pt⟩ := T
  obtain ⟨o1, o2, o3, o4, o5⟩ := O
  have hsc : SceneOk g row given := ⟨gt, o1, by omega, rt, zr0 o2, vl, vt, zr0 o3⟩
  obtain ⟨hA, hlen, hG⟩ := z14 o4 pt
  have c1 := fun σ => zgc (σ := σ) gt
  rw [o1] at c1
  have c2 := fun σ => znw (σ := σ) (ps := row) (by omega) rt
  rw [o2] at c2
  have c2' := fun σ => znw (σ := σ) (ps := given) vl vt
  rw [o3] at c2'
  have c3 := fun σ => zov (σ := σ) (by omega) pt
  rw [o4] at c3
  have hsh := zym o4
  have c4 := fun (H : Heap) (lm i : Nat) => zq3 (f := 40) (i := i) (zyx (τ := upd H lm (.mq true (yf (nmR row)))) (lm := lm) (za _ _ _) (ps := ps) (cr := false) (by omega) (fun p hp => ⟨pt p hp, hsh p hp⟩))
  simp only [xe] at c4
  rw [o5] at c4
  have c5 := fun σ => zm7 (σ := σ) (given := given) gt hk hA
  have c7 := fun (H : Heap) (lm i : Nat) (L : List ByteArray) (s : ByteArray) => zq3 (f := 39) (i := i) (zvd (τ := upd H lm (.mq true (yf L))) (lm := lm) (L := L) (s := s) (za _ _ _))
  simp only [xe] at c7
  have e3 := vw row
  generalize (zex (zf1 false) ps (nmR row)).2 = NL at c4
  obtain ⟨ns, es, nn, ne⟩ := g
  refine zzs (X := G [8,9]) (z0h _) (zn8 _) (body := yz Tryz.f10) Tryz.func10 rfl (by kernel_rfl) (by kernel_rfl) ?_
  rw [Tryz.ntmps10]
  conv => whnf
  repeat' (first | (refine ZC (c1 _) ?_) | (refine ZC (c2 _) ?_) | (refine ZC (c2' _) ?_) | (refine ZC (c3 _) ?_) | ((have hm0 := h9; refine AllocN.go (fun lm hm => ?_))) | ((have h80 := h8; refine AllocN.go (fun l9 h9 => ?_))) | (refine AllocN.go (fun l8 h8 => ?_)) | refine Zp ?_) <;> try (conv => whnf)
  refine LoopN.rule (α := Nat) (fun i => ⟨72, [(1, .vec (prs row)), (2, .vec (prs given)), (3, .vec (ze7 ps)), (4, .ptr (.f 4) 0), (8, .ptr (.g l8) 0), (9, .ptr (.g l9) 0), (10, .map lm), (35, .vec (prs row)), (36, i64 (prs row).length), (37, i64 i)], [(4, .cells [.vec (nds ns), .vec (eds es), i64 nn, i64 ne])]⟩)
    (fun i => upd (upd (upd σ l8 (.cells [.nil])) l9 (.cells [i64 0])) lm (z6o i (nmR (row.take i)))) (fun i => row.length - i) (fun i => i ≤ row.length) ?_ 0 (by omega) ?_
  rotate_left
  · exact ZW
  rintro i K i1 hK
  dsimp only at hK ⊢
  by_cases hi : i < row.length
  · obtain ⟨⟨qn, ⟨qk, qm, qt, ql⟩⟩, hm', hg', hx⟩ := za5 (f := Pr.cv) hi
    have hx' : (prs row)[i]? = some (.agg [.sc (.string qn), i64 qk, i64 qm, .sc (.string qt), .vec (Val.cvs ql)]) := hx
    have c8 := c7 (upd (upd σ l8 (.cells [.nil])) l9 (.cells [i64 0])) lm i (nmR (row.take i)) qn
    have hK1 := hK (i + 1)
    try dsimp only at hK1
    have hst := zyr hg'
    try dsimp only at hst
    rw [hst] at hK1
    have hmo : z6o (i + 1) (zk2 (nmR (row.take i)) qn) = .mq true (yf (zk2 (nmR (row.take i)) qn)) := if_neg (by omega)
    rw [hmo] at hK1
    clear c7 c1 c2 c2' c3 c4 c5 hK
    conv => whnf
    repeat' (first | (refine ZC c8 ?_) | (refine ElemN.go ?_ (h := hx')) | refine Za ?_ | refine Zm ?_ | refine Zq ?_) <;> try (conv => whnf)
    all_goals
      refine hK1 _ _ (by omega) (by omega) ?_
      exact ZW
  have hie : i = row.length := by omega
  subst hie
  rw [List.take_of_length_le (Nat.le_refl _)]
  clear hK
  conv => whnf
  repeat' (first | (refine ZC (c4 _ _ _) ?_) | ((refine CallN.many (c5 _) ?_; rintro _ ⟨S, τ0, τ1, lx, ln, lu, ms, mI, hS, rfl⟩)) | ((refine CallN.many (z38 (row := row)) ?_; rintro _ ⟨l2, l3, τ2, hs2, w2, w3, rfl⟩)) | ((refine CallN.many (z24 hsc rl hlen hG mI hS hs2 w2 w3) ?_; rintro _ ⟨τ3, hs3, (⟨c, hc, rfl⟩ | ⟨rows, m', he, hro, hlu, hu0, h6, (⟨e0, rfl⟩ | ⟨la, cap, e0, nla, f0, f1, f2, rfl⟩)⟩)⟩)) | refine Zb ?_ | refine Zd ?_ | refine Zp ?_ | refine Zq ?_) <;> try (conv => whnf)
  all_goals
    have n89 : l8 ≠ l9 := fun e => by subst e; rw [za] at h9; cases h9
    have n8m : l8 ≠ lm := fun e => by subst e; rw [zb _ _ n89, za] at hm; cases hm
    have n9m : l9 ≠ lm := fun e => by subst e; rw [za] at hm; cases hm
    have z9 := zqh h9
    have zm := zqh (zqh hm)
    have s0 := mI.sub
    have q8 := s0 l8 (.cells [.nil]) (by rw [zb _ _ n8m, zb _ _ n89]; exact za _ _ _)
    have q9 := s0 l9 (.cells [i64 0]) (by rw [zb _ _ n9m]; exact za _ _ _)
    have fu := mI.fu
    have nu8 : l8 ≠ lu := fun e => by subst e; rw [zb _ _ n8m, zb _ _ n89, za] at fu; cases fu
    have nu9 : l9 ≠ lu := fun e => by subst e; rw [zb _ _ n9m, za] at fu; cases fu
    have hσ := (((Sub.refl σ).upd (o := .cells [.nil]) h8).upd (o := .cells [i64 0]) z9).upd (o := .mq true (yf NL)) zm
    have zu : σ lu = none := zdv hσ fu
    have k8 : τ3 l8 = some (.cells [.nil]) := hs3 _ _ nu8 (hs2 _ _ q8)
    have k9 : τ3 l9 = some (.cells [i64 0]) := hs3 _ _ nu9 (hs2 _ _ q9)
    have s3 : Sub σ τ3 := fun x o hx => hs3 _ _ (fun e => by subst e; rw [zu] at hx; cases hx) (hs2 _ _ (s0 _ _ (hσ _ _ hx)))
    have s2 : Sub σ τ2 := fun x o hx => hs2 _ _ (s0 _ _ (hσ _ _ hx))
    have fin : ∀ V W, Sub σ (upd (upd τ3 l8 V) l9 W) := fun V W => (s3.upd h8).upd z9
    have hev := z26 (m := 100) (zfb ps ps.length) (d := 0) (us := []) hsc hG (by omega) (by omega)
    clear s0 hσ fu mI c1 c2 c2' c3 c4 c5 c7 hs2 hs3 q8 q9
  · have hc0 : ¬ c = 0 := by
      rcases zwv hc with h | h
      · omega
      · have := hev _ h
        have : c = 1 ∨ c = 2 ∨ c = 3 := this
        omega
    clear hev
    conv => whnf
    repeat' (first | ((refine ⟨⟨true, _, z6w hc0 n89 k8 k9, ?_⟩⟩; rintro _ rfl)) | (refine GetN.go ?_ (h := by first | exact k8 | exact za _ _ _ | exact zre n89 k9 | exact zre n89 (za _ _ _) | exact zre (Ne.symm n89) (za _ _ _))) | refine Zr ?_) <;> try (conv => whnf)
    all_goals exact .inl ⟨c, _, hc, fin _ _, rfl⟩
  · subst e0
    clear hev
    conv => whnf
    repeat' (first | (refine LoopN.once (by rfl) (by repeat' (first | exact LocsLe.nil | refine LocsLe.cons _ _ _ ?_ ?_ | exact ObLe.same _ rfl rfl)) ?_) | (refine GetN.go ?_ (h := by first | exact k8 | exact za _ _ _ | exact zre n89 k9 | exact zre (Ne.symm n89) (za _ _ _))) | ((refine ⟨⟨false, _, z7q, ?_⟩⟩; rintro _ rfl)) | refine Zd ?_ | refine Zr ?_) <;> try (conv => whnf)
    all_goals exact .inr ⟨[], he, hro, .inl ⟨rfl, _, fin _ _, rfl⟩⟩
  · have e4 := kr rows
    have nla8 : la ≠ l8 := fun e => by subst e; rw [k8] at f1; cases f1
    have nla9 : la ≠ l9 := fun e => by subst e; rw [k9] at f1; cases f1
    have hrows : ∀ r ∈ rows, r.length ≤ 100 ∧ ∀ q ∈ r, Tame q.val ∧ okV 3 q.val = true := fun r hr => by
      have h1 : EvG _ given 100 (.inl r) := hev _ (by rw [hro]; exact List.mem_map.2 ⟨r, hr, rfl⟩)
      have h1 : SceneOk _ r given ∧ r.length ≤ 100 := h1
      exact ⟨h1.2, fun q hq => ⟨(h1.1.rt q hq).val, h1.1.ro q hq⟩⟩
    clear hev
    refine LoopN.rule (α := Nat) (fun i => ⟨72, [(8, .ptr (.g l8) 0), (9, .ptr (.g l9) 0), (13, .grow la rows.length cap), (58, .grow la rows.length cap), (59, i64 rows.length), (60, i64 i)], []⟩)
      (fun _ => τ3) (fun i => rows.length - i) (fun i => i ≤ rows.length) ?_ 0 (by omega) ?_
    rotate_left
    · exact ZW
    rintro i K i1 hK
    by_cases hi : i < rows.length
    · obtain ⟨r, hr, hx⟩ := zyf hi
      have cc := znu (σ := τ3) (vl := r) (hrows r hr).2 (hrows r hr).1
      have hsub : Sub τ3 (upd τ3 la (.arr 51 1 cap ((vj rows).set i (.vec (prs r))))) := by rw [zye hx, ze3 f1]; exact Sub.refl _
      conv => whnf
      repeat' (first | (refine GetN.go ?_ (h := f1)) | (refine ElemN.go ?_ (h := hx)) | (refine ZC cc ?_) | refine Za ?_ | refine Zm ?_ | refine Zp ?_) <;> try (conv => whnf)
      all_goals
        refine hK (i + 1) _ _ (by omega) (by omega) ?_
        refine Wk.sub ?_ hsub
        exact ZW
    · conv => whnf
      repeat' (first | (refine GetN.go ?_ (h := by first | exact k8 | exact za _ _ _ | exact zre n89 k9 | exact zre (Ne.symm n89) (za _ _ _))) | ((refine ⟨⟨false, _, z7q, ?_⟩⟩; rintro _ rfl)) | refine Zb ?_ | refine Zr ?_) <;> try (conv => whnf)
      all_goals exact .inr ⟨rows, he, hro, .inr ⟨la, cap, _, fin _ _, zdv s2 f0, by rw [zb _ _ nla9, zb _ _ nla8]; exact f1, rfl⟩⟩
end Go.Proofs.YtlamgfimgadnmaaGreat
