/-
  Contracts of the functions that the law reaches.
-/
import Derived.Test.YtjmgkhkpjffpbaaPt
set_option linter.unusedVariables false
set_option linter.unusedSimpArgs false
namespace Go.Proofs.Ytjmgkhkpjffpbaa
open Go Go.CL
set_option maxRecDepth 10000
set_option linter.unusedVariables false
set_option linter.unusedSimpArgs false

theorem ord_list_node {σ : Heap} {b : Int} {s : ByteArray} {m : List CV} : CRun Try.prog 75 [.vec m, .iface 68 (i64 b)] σ (· = .ret (i64 (intsF 2 0)) σ) := by
  refine crun_of (X := X) X_ok X_sat (body := bodyOf Try.f75) Try.func75 rfl (by kernel_rfl) (by kernel_rfl) ?_
  rw [Try.ntmps75]
  conv => whnf
  repeat' (first | (refine MethN.of m_node_rank ?_) | (refine CallN.one rank_list ?_) | (refine CallN.one rank_node ?_) | (refine CallN.one cmp_int ?_) | refine OrdN.one ?_ | refine Fork.yp ?_ | refine Fork.np ?_ | refine Fork.ny ?_ | refine Fork.nn ?_ | refine Fork.yb ?_ | refine Fork.nb ?_ | refine Fork.dp (fun h => ?_) (fun h => ?_) | refine Fork.dn (fun h => ?_) (fun h => ?_)|(refine Fork.mk (fun h => ?_) (fun h => ?_) <;> simp only [decide_eq_true_eq, decide_eq_false_iff_not, Bool.not_eq_true', Bool.not_eq_false', Bool.or_eq_true, Bool.or_eq_false_iff] at h) | refine GetN.go ?_ | refine Need.ap1 ?_ | refine Need.ap0 ?_ | refine Need.go ?_ | refine Need.draw ?_ | refine ElemN.go ?_ | refine AllocN.go (fun l hl => ?_) | refine finGo ?_) <;> try (conv => whnf)
  rfl

theorem ord_list_edge {σ : Heap} {b : Int} {s : ByteArray} {m : List CV} : CRun Try.prog 75 [.vec m, .iface 69 (i64 b)] σ (· = .ret (i64 (intsF 2 1)) σ) := by
  refine crun_of (X := X) X_ok X_sat (body := bodyOf Try.f75) Try.func75 rfl (by kernel_rfl) (by kernel_rfl) ?_
  rw [Try.ntmps75]
  conv => whnf
  repeat' (first | (refine MethN.of m_edge_rank ?_) | (refine CallN.one rank_list ?_) | (refine CallN.one rank_edge ?_) | (refine CallN.one cmp_int ?_) | refine OrdN.one ?_ | refine Fork.yp ?_ | refine Fork.np ?_ | refine Fork.ny ?_ | refine Fork.nn ?_ | refine Fork.yb ?_ | refine Fork.nb ?_ | refine Fork.dp (fun h => ?_) (fun h => ?_) | refine Fork.dn (fun h => ?_) (fun h => ?_)|(refine Fork.mk (fun h => ?_) (fun h => ?_) <;> simp only [decide_eq_true_eq, decide_eq_false_iff_not, Bool.not_eq_true', Bool.not_eq_false', Bool.or_eq_true, Bool.or_eq_false_iff] at h) | refine GetN.go ?_ | refine Need.ap1 ?_ | refine Need.ap0 ?_ | refine Need.go ?_ | refine Need.draw ?_ | refine ElemN.go ?_ | refine AllocN.go (fun l hl => ?_) | refine finGo ?_) <;> try (conv => whnf)
  rfl

theorem ord_list_text {σ : Heap} {b : Int} {s : ByteArray} {m : List CV} : CRun Try.prog 75 [.vec m, .iface 71 (.sc (.string s))] σ (· = .ret (i64 (intsF 2 3)) σ) := by
  refine crun_of (X := X) X_ok X_sat (body := bodyOf Try.f75) Try.func75 rfl (by kernel_rfl) (by kernel_rfl) ?_
  rw [Try.ntmps75]
  conv => whnf
  repeat' (first | (refine MethN.of m_text_rank ?_) | (refine CallN.one rank_list ?_) | (refine CallN.one rank_text ?_) | (refine CallN.one cmp_int ?_) | refine OrdN.one ?_ | refine Fork.yp ?_ | refine Fork.np ?_ | refine Fork.ny ?_ | refine Fork.nn ?_ | refine Fork.yb ?_ | refine Fork.nb ?_ | refine Fork.dp (fun h => ?_) (fun h => ?_) | refine Fork.dn (fun h => ?_) (fun h => ?_)|(refine Fork.mk (fun h => ?_) (fun h => ?_) <;> simp only [decide_eq_true_eq, decide_eq_false_iff_not, Bool.not_eq_true', Bool.not_eq_false', Bool.or_eq_true, Bool.or_eq_false_iff] at h) | refine GetN.go ?_ | refine Need.ap1 ?_ | refine Need.ap0 ?_ | refine Need.go ?_ | refine Need.draw ?_ | refine ElemN.go ?_ | refine AllocN.go (fun l hl => ?_) | refine finGo ?_) <;> try (conv => whnf)
  rfl

theorem ord_list_bool {σ : Heap} {b : Int} {s : ByteArray} {m : List CV} : CRun Try.prog 75 [.vec m, .iface 72 (i64 b)] σ (· = .ret (i64 (intsF 2 4)) σ) := by
  refine crun_of (X := X) X_ok X_sat (body := bodyOf Try.f75) Try.func75 rfl (by kernel_rfl) (by kernel_rfl) ?_
  rw [Try.ntmps75]
  conv => whnf
  repeat' (first | (refine MethN.of m_bool_rank ?_) | (refine CallN.one rank_list ?_) | (refine CallN.one rank_bool ?_) | (refine CallN.one cmp_int ?_) | refine OrdN.one ?_ | refine Fork.yp ?_ | refine Fork.np ?_ | refine Fork.ny ?_ | refine Fork.nn ?_ | refine Fork.yb ?_ | refine Fork.nb ?_ | refine Fork.dp (fun h => ?_) (fun h => ?_) | refine Fork.dn (fun h => ?_) (fun h => ?_)|(refine Fork.mk (fun h => ?_) (fun h => ?_) <;> simp only [decide_eq_true_eq, decide_eq_false_iff_not, Bool.not_eq_true', Bool.not_eq_false', Bool.or_eq_true, Bool.or_eq_false_iff] at h) | refine GetN.go ?_ | refine Need.ap1 ?_ | refine Need.ap0 ?_ | refine Need.go ?_ | refine Need.draw ?_ | refine ElemN.go ?_ | refine AllocN.go (fun l hl => ?_) | refine finGo ?_) <;> try (conv => whnf)
  rfl

theorem ord_list_num {σ : Heap} {b : Int} {s : ByteArray} {m : List CV} : CRun Try.prog 75 [.vec m, .iface 73 (i64 b)] σ (· = .ret (i64 (intsF 2 5)) σ) := by
  refine crun_of (X := X) X_ok X_sat (body := bodyOf Try.f75) Try.func75 rfl (by kernel_rfl) (by kernel_rfl) ?_
  rw [Try.ntmps75]
  conv => whnf
  repeat' (first | (refine MethN.of m_num_rank ?_) | (refine CallN.one rank_list ?_) | (refine CallN.one rank_num ?_) | (refine CallN.one cmp_int ?_) | refine OrdN.one ?_ | refine Fork.yp ?_ | refine Fork.np ?_ | refine Fork.ny ?_ | refine Fork.nn ?_ | refine Fork.yb ?_ | refine Fork.nb ?_ | refine Fork.dp (fun h => ?_) (fun h => ?_) | refine Fork.dn (fun h => ?_) (fun h => ?_)|(refine Fork.mk (fun h => ?_) (fun h => ?_) <;> simp only [decide_eq_true_eq, decide_eq_false_iff_not, Bool.not_eq_true', Bool.not_eq_false', Bool.or_eq_true, Bool.or_eq_false_iff] at h) | refine GetN.go ?_ | refine Need.ap1 ?_ | refine Need.ap0 ?_ | refine Need.go ?_ | refine Need.draw ?_ | refine ElemN.go ?_ | refine AllocN.go (fun l hl => ?_) | refine finGo ?_) <;> try (conv => whnf)
  rfl

theorem ord_list_null {σ : Heap} {b : Int} {s : ByteArray} {m : List CV} : CRun Try.prog 75 [.vec m, .iface 75 (.agg [])] σ (· = .ret (i64 (intsF 2 6)) σ) := by
  refine crun_of (X := X) X_ok X_sat (body := bodyOf Try.f75) Try.func75 rfl (by kernel_rfl) (by kernel_rfl) ?_
  rw [Try.ntmps75]
  conv => whnf
  repeat' (first | (refine MethN.of m_null_rank ?_) | (refine CallN.one rank_list ?_) | (refine CallN.one rank_null ?_) | (refine CallN.one cmp_int ?_) | refine OrdN.one ?_ | refine Fork.yp ?_ | refine Fork.np ?_ | refine Fork.ny ?_ | refine Fork.nn ?_ | refine Fork.yb ?_ | refine Fork.nb ?_ | refine Fork.dp (fun h => ?_) (fun h => ?_) | refine Fork.dn (fun h => ?_) (fun h => ?_)|(refine Fork.mk (fun h => ?_) (fun h => ?_) <;> simp only [decide_eq_true_eq, decide_eq_false_iff_not, Bool.not_eq_true', Bool.not_eq_false', Bool.or_eq_true, Bool.or_eq_false_iff] at h) | refine GetN.go ?_ | refine Need.ap1 ?_ | refine Need.ap0 ?_ | refine Need.go ?_ | refine Need.draw ?_ | refine ElemN.go ?_ | refine AllocN.go (fun l hl => ?_) | refine finGo ?_) <;> try (conv => whnf)
  rfl

theorem oo_node_node {σ : Heap} {v v' : Val} {n n' r : Int} {s s' : ByteArray} {m m' : List CV} (hv : termV v = .iface 68 (i64 n)) (hv' : termV v' = .iface 68 (i64 n')) : CRun Try.prog 21 [v.cv, v'.cv] σ (· = .ret (i64 (intsF n n')) σ) := by
  refine crun_of (X := X) X_ok X_sat (body := bodyOf Try.f21) Try.func21 rfl (by kernel_rfl) (by kernel_rfl) ?_
  rw [Try.ntmps21]
  have t1 : CRun Try.prog 36 [v.cv] σ (· = .ret (.iface 68 (i64 n)) σ) := hv ▸ term_c
  have t2 : CRun Try.prog 36 [v'.cv] σ (· = .ret (.iface 68 (i64 n')) σ) := hv' ▸ term_c
  clear hv hv'
  obtain ⟨vk, vn, vt, vl⟩ := v
  obtain ⟨vk', vn', vt', vl'⟩ := v'
  conv => whnf
  repeat' (first | (refine CallN.one t1 ?_) | (refine CallN.one t2 ?_) | (refine Need.mk n_node_order ?_) | (refine MethN.of m_node_order ?_) | (refine CallN.one (ord_node_node (a := n) (b := n') (s0 := s) (s := s') (m := m')) ?_) | refine OrdN.one ?_ | refine Fork.yp ?_ | refine Fork.np ?_ | refine Fork.ny ?_ | refine Fork.nn ?_ | refine Fork.yb ?_ | refine Fork.nb ?_ | refine Fork.dp (fun h => ?_) (fun h => ?_) | refine Fork.dn (fun h => ?_) (fun h => ?_)|(refine Fork.mk (fun h => ?_) (fun h => ?_) <;> simp only [decide_eq_true_eq, decide_eq_false_iff_not, Bool.not_eq_true', Bool.not_eq_false', Bool.or_eq_true, Bool.or_eq_false_iff] at h) | refine GetN.go ?_ | refine Need.ap1 ?_ | refine Need.ap0 ?_ | refine Need.go ?_ | refine Need.draw ?_ | refine ElemN.go ?_ | refine AllocN.go (fun l hl => ?_) | refine finGo ?_) <;> try (conv => whnf)
  rfl

theorem oo_node_edge {σ : Heap} {v v' : Val} {n n' r : Int} {s s' : ByteArray} {m m' : List CV} (hv : termV v = .iface 68 (i64 n)) (hv' : termV v' = .iface 69 (i64 n')) : CRun Try.prog 21 [v.cv, v'.cv] σ (· = .ret (i64 (intsF 0 1)) σ) := by
  refine crun_of (X := X) X_ok X_sat (body := bodyOf Try.f21) Try.func21 rfl (by kernel_rfl) (by kernel_rfl) ?_
  rw [Try.ntmps21]
  have t1 : CRun Try.prog 36 [v.cv] σ (· = .ret (.iface 68 (i64 n)) σ) := hv ▸ term_c
  have t2 : CRun Try.prog 36 [v'.cv] σ (· = .ret (.iface 69 (i64 n')) σ) := hv' ▸ term_c
  clear hv hv'
  obtain ⟨vk, vn, vt, vl⟩ := v
  obtain ⟨vk', vn', vt', vl'⟩ := v'
  conv => whnf
  repeat' (first | (refine CallN.one t1 ?_) | (refine CallN.one t2 ?_) | (refine Need.mk n_node_order ?_) | (refine MethN.of m_node_order ?_) | (refine CallN.one (ord_node_edge (a := n) (b := n') (s0 := s) (s := s') (m := m')) ?_) | refine OrdN.one ?_ | refine Fork.yp ?_ | refine Fork.np ?_ | refine Fork.ny ?_ | refine Fork.nn ?_ | refine Fork.yb ?_ | refine Fork.nb ?_ | refine Fork.dp (fun h => ?_) (fun h => ?_) | refine Fork.dn (fun h => ?_) (fun h => ?_)|(refine Fork.mk (fun h => ?_) (fun h => ?_) <;> simp only [decide_eq_true_eq, decide_eq_false_iff_not, Bool.not_eq_true', Bool.not_eq_false', Bool.or_eq_true, Bool.or_eq_false_iff] at h) | refine GetN.go ?_ | refine Need.ap1 ?_ | refine Need.ap0 ?_ | refine Need.go ?_ | refine Need.draw ?_ | refine ElemN.go ?_ | refine AllocN.go (fun l hl => ?_) | refine finGo ?_) <;> try (conv => whnf)
  rfl

theorem oo_node_list {σ : Heap} {v v' : Val} {n n' r : Int} {s s' : ByteArray} {m m' : List CV} (hv : termV v = .iface 68 (i64 n)) (hv' : termV v' = .iface 70 (.vec m')) : CRun Try.prog 21 [v.cv, v'.cv] σ (· = .ret (i64 (intsF 0 2)) σ) := by
  refine crun_of (X := X) X_ok X_sat (body := bodyOf Try.f21) Try.func21 rfl (by kernel_rfl) (by kernel_rfl) ?_
  rw [Try.ntmps21]
  have t1 : CRun Try.prog 36 [v.cv] σ (· = .ret (.iface 68 (i64 n)) σ) := hv ▸ term_c
  have t2 : CRun Try.prog 36 [v'.cv] σ (· = .ret (.iface 70 (.vec m')) σ) := hv' ▸ term_c
  clear hv hv'
  obtain ⟨vk, vn, vt, vl⟩ := v
  obtain ⟨vk', vn', vt', vl'⟩ := v'
  conv => whnf
  repeat' (first | (refine CallN.one t1 ?_) | (refine CallN.one t2 ?_) | (refine Need.mk n_node_order ?_) | (refine MethN.of m_node_order ?_) | (refine CallN.one (ord_node_list (a := n) (b := n') (s0 := s) (s := s') (m := m')) ?_) | refine OrdN.one ?_ | refine Fork.yp ?_ | refine Fork.np ?_ | refine Fork.ny ?_ | refine Fork.nn ?_ | refine Fork.yb ?_ | refine Fork.nb ?_ | refine Fork.dp (fun h => ?_) (fun h => ?_) | refine Fork.dn (fun h => ?_) (fun h => ?_)|(refine Fork.mk (fun h => ?_) (fun h => ?_) <;> simp only [decide_eq_true_eq, decide_eq_false_iff_not, Bool.not_eq_true', Bool.not_eq_false', Bool.or_eq_true, Bool.or_eq_false_iff] at h) | refine GetN.go ?_ | refine Need.ap1 ?_ | refine Need.ap0 ?_ | refine Need.go ?_ | refine Need.draw ?_ | refine ElemN.go ?_ | refine AllocN.go (fun l hl => ?_) | refine finGo ?_) <;> try (conv => whnf)
  rfl

theorem oo_node_text {σ : Heap} {v v' : Val} {n n' r : Int} {s s' : ByteArray} {m m' : List CV} (hv : termV v = .iface 68 (i64 n)) (hv' : termV v' = .iface 71 (.sc (.string s'))) : CRun Try.prog 21 [v.cv, v'.cv] σ (· = .ret (i64 (intsF 0 3)) σ) := by
  refine crun_of (X := X) X_ok X_sat (body := bodyOf Try.f21) Try.func21 rfl (by kernel_rfl) (by kernel_rfl) ?_
  rw [Try.ntmps21]
  have t1 : CRun Try.prog 36 [v.cv] σ (· = .ret (.iface 68 (i64 n)) σ) := hv ▸ term_c
  have t2 : CRun Try.prog 36 [v'.cv] σ (· = .ret (.iface 71 (.sc (.string s'))) σ) := hv' ▸ term_c
  clear hv hv'
  obtain ⟨vk, vn, vt, vl⟩ := v
  obtain ⟨vk', vn', vt', vl'⟩ := v'
  conv => whnf
  repeat' (first | (refine CallN.one t1 ?_) | (refine CallN.one t2 ?_) | (refine Need.mk n_node_order ?_) | (refine MethN.of m_node_order ?_) | (refine CallN.one (ord_node_text (a := n) (b := n') (s0 := s) (s := s') (m := m')) ?_) | refine OrdN.one ?_ | refine Fork.yp ?_ | refine Fork.np ?_ | refine Fork.ny ?_ | refine Fork.nn ?_ | refine Fork.yb ?_ | refine Fork.nb ?_ | refine Fork.dp (fun h => ?_) (fun h => ?_) | refine Fork.dn (fun h => ?_) (fun h => ?_)|(refine Fork.mk (fun h => ?_) (fun h => ?_) <;> simp only [decide_eq_true_eq, decide_eq_false_iff_not, Bool.not_eq_true', Bool.not_eq_false', Bool.or_eq_true, Bool.or_eq_false_iff] at h) | refine GetN.go ?_ | refine Need.ap1 ?_ | refine Need.ap0 ?_ | refine Need.go ?_ | refine Need.draw ?_ | refine ElemN.go ?_ | refine AllocN.go (fun l hl => ?_) | refine finGo ?_) <;> try (conv => whnf)
  rfl

theorem oo_node_bool {σ : Heap} {v v' : Val} {n n' r : Int} {s s' : ByteArray} {m m' : List CV} (hv : termV v = .iface 68 (i64 n)) (hv' : termV v' = .iface 72 (i64 n')) : CRun Try.prog 21 [v.cv, v'.cv] σ (· = .ret (i64 (intsF 0 4)) σ) := by
  refine crun_of (X := X) X_ok X_sat (body := bodyOf Try.f21) Try.func21 rfl (by kernel_rfl) (by kernel_rfl) ?_
  rw [Try.ntmps21]
  have t1 : CRun Try.prog 36 [v.cv] σ (· = .ret (.iface 68 (i64 n)) σ) := hv ▸ term_c
  have t2 : CRun Try.prog 36 [v'.cv] σ (· = .ret (.iface 72 (i64 n')) σ) := hv' ▸ term_c
  clear hv hv'
  obtain ⟨vk, vn, vt, vl⟩ := v
  obtain ⟨vk', vn', vt', vl'⟩ := v'
  conv => whnf
  repeat' (first | (refine CallN.one t1 ?_) | (refine CallN.one t2 ?_) | (refine Need.mk n_node_order ?_) | (refine MethN.of m_node_order ?_) | (refine CallN.one (ord_node_bool (a := n) (b := n') (s0 := s) (s := s') (m := m')) ?_) | refine OrdN.one ?_ | refine Fork.yp ?_ | refine Fork.np ?_ | refine Fork.ny ?_ | refine Fork.nn ?_ | refine Fork.yb ?_ | refine Fork.nb ?_ | refine Fork.dp (fun h => ?_) (fun h => ?_) | refine Fork.dn (fun h => ?_) (fun h => ?_)|(refine Fork.mk (fun h => ?_) (fun h => ?_) <;> simp only [decide_eq_true_eq, decide_eq_false_iff_not, Bool.not_eq_true', Bool.not_eq_false', Bool.or_eq_true, Bool.or_eq_false_iff] at h) | refine GetN.go ?_ | refine Need.ap1 ?_ | refine Need.ap0 ?_ | refine Need.go ?_ | refine Need.draw ?_ | refine ElemN.go ?_ | refine AllocN.go (fun l hl => ?_) | refine finGo ?_) <;> try (conv => whnf)
  rfl

theorem oo_node_num {σ : Heap} {v v' : Val} {n n' r : Int} {s s' : ByteArray} {m m' : List CV} (hv : termV v = .iface 68 (i64 n)) (hv' : termV v' = .iface 73 (i64 n')) : CRun Try.prog 21 [v.cv, v'.cv] σ (· = .ret (i64 (intsF 0 5)) σ) := by
  refine crun_of (X := X) X_ok X_sat (body := bodyOf Try.f21) Try.func21 rfl (by kernel_rfl) (by kernel_rfl) ?_
  rw [Try.ntmps21]
  have t1 : CRun Try.prog 36 [v.cv] σ (· = .ret (.iface 68 (i64 n)) σ) := hv ▸ term_c
  have t2 : CRun Try.prog 36 [v'.cv] σ (· = .ret (.iface 73 (i64 n')) σ) := hv' ▸ term_c
  clear hv hv'
  obtain ⟨vk, vn, vt, vl⟩ := v
  obtain ⟨vk', vn', vt', vl'⟩ := v'
  conv => whnf
  repeat' (first | (refine CallN.one t1 ?_) | (refine CallN.one t2 ?_) | (refine Need.mk n_node_order ?_) | (refine MethN.of m_node_order ?_) | (refine CallN.one (ord_node_num (a := n) (b := n') (s0 := s) (s := s') (m := m')) ?_) | refine OrdN.one ?_ | refine Fork.yp ?_ | refine Fork.np ?_ | refine Fork.ny ?_ | refine Fork.nn ?_ | refine Fork.yb ?_ | refine Fork.nb ?_ | refine Fork.dp (fun h => ?_) (fun h => ?_) | refine Fork.dn (fun h => ?_) (fun h => ?_)|(refine Fork.mk (fun h => ?_) (fun h => ?_) <;> simp only [decide_eq_true_eq, decide_eq_false_iff_not, Bool.not_eq_true', Bool.not_eq_false', Bool.or_eq_true, Bool.or_eq_false_iff] at h) | refine GetN.go ?_ | refine Need.ap1 ?_ | refine Need.ap0 ?_ | refine Need.go ?_ | refine Need.draw ?_ | refine ElemN.go ?_ | refine AllocN.go (fun l hl => ?_) | refine finGo ?_) <;> try (conv => whnf)
  rfl

theorem oo_node_null {σ : Heap} {v v' : Val} {n n' r : Int} {s s' : ByteArray} {m m' : List CV} (hv : termV v = .iface 68 (i64 n)) (hv' : termV v' = .iface 75 (.agg [])) : CRun Try.prog 21 [v.cv, v'.cv] σ (· = .ret (i64 (intsF 0 6)) σ) := by
  refine crun_of (X := X) X_ok X_sat (body := bodyOf Try.f21) Try.func21 rfl (by kernel_rfl) (by kernel_rfl) ?_
  rw [Try.ntmps21]
  have t1 : CRun Try.prog 36 [v.cv] σ (· = .ret (.iface 68 (i64 n)) σ) := hv ▸ term_c
  have t2 : CRun Try.prog 36 [v'.cv] σ (· = .ret (.iface 75 (.agg [])) σ) := hv' ▸ term_c
  clear hv hv'
  obtain ⟨vk, vn, vt, vl⟩ := v
  obtain ⟨vk', vn', vt', vl'⟩ := v'
  conv => whnf
  repeat' (first | (refine CallN.one t1 ?_) | (refine CallN.one t2 ?_) | (refine Need.mk n_node_order ?_) | (refine MethN.of m_node_order ?_) | (refine CallN.one (ord_node_null (a := n) (b := n') (s0 := s) (s := s') (m := m')) ?_) | refine OrdN.one ?_ | refine Fork.yp ?_ | refine Fork.np ?_ | refine Fork.ny ?_ | refine Fork.nn ?_ | refine Fork.yb ?_ | refine Fork.nb ?_ | refine Fork.dp (fun h => ?_) (fun h => ?_) | refine Fork.dn (fun h => ?_) (fun h => ?_)|(refine Fork.mk (fun h => ?_) (fun h => ?_) <;> simp only [decide_eq_true_eq, decide_eq_false_iff_not, Bool.not_eq_true', Bool.not_eq_false', Bool.or_eq_true, Bool.or_eq_false_iff] at h) | refine GetN.go ?_ | refine Need.ap1 ?_ | refine Need.ap0 ?_ | refine Need.go ?_ | refine Need.draw ?_ | refine ElemN.go ?_ | refine AllocN.go (fun l hl => ?_) | refine finGo ?_) <;> try (conv => whnf)
  rfl

theorem oo_edge_node {σ : Heap} {v v' : Val} {n n' r : Int} {s s' : ByteArray} {m m' : List CV} (hv : termV v = .iface 69 (i64 n)) (hv' : termV v' = .iface 68 (i64 n')) : CRun Try.prog 21 [v.cv, v'.cv] σ (· = .ret (i64 (intsF 1 0)) σ) := by
  refine crun_of (X := X) X_ok X_sat (body := bodyOf Try.f21) Try.func21 rfl (by kernel_rfl) (by kernel_rfl) ?_
  rw [Try.ntmps21]
  have t1 : CRun Try.prog 36 [v.cv] σ (· = .ret (.iface 69 (i64 n)) σ) := hv ▸ term_c
  have t2 : CRun Try.prog 36 [v'.cv] σ (· = .ret (.iface 68 (i64 n')) σ) := hv' ▸ term_c
  clear hv hv'
  obtain ⟨vk, vn, vt, vl⟩ := v
  obtain ⟨vk', vn', vt', vl'⟩ := v'
  conv => whnf
  repeat' (first | (refine CallN.one t1 ?_) | (refine CallN.one t2 ?_) | (refine Need.mk n_edge_order ?_) | (refine MethN.of m_edge_order ?_) | (refine CallN.one (ord_edge_node (a := n) (b := n') (s0 := s) (s := s') (m := m')) ?_) | refine OrdN.one ?_ | refine Fork.yp ?_ | refine Fork.np ?_ | refine Fork.ny ?_ | refine Fork.nn ?_ | refine Fork.yb ?_ | refine Fork.nb ?_ | refine Fork.dp (fun h => ?_) (fun h => ?_) | refine Fork.dn (fun h => ?_) (fun h => ?_)|(refine Fork.mk (fun h => ?_) (fun h => ?_) <;> simp only [decide_eq_true_eq, decide_eq_false_iff_not, Bool.not_eq_true', Bool.not_eq_false', Bool.or_eq_true, Bool.or_eq_false_iff] at h) | refine GetN.go ?_ | refine Need.ap1 ?_ | refine Need.ap0 ?_ | refine Need.go ?_ | refine Need.draw ?_ | refine ElemN.go ?_ | refine AllocN.go (fun l hl => ?_) | refine finGo ?_) <;> try (conv => whnf)
  rfl

theorem oo_edge_edge {σ : Heap} {v v' : Val} {n n' r : Int} {s s' : ByteArray} {m m' : List CV} (hv : termV v = .iface 69 (i64 n)) (hv' : termV v' = .iface 69 (i64 n')) : CRun Try.prog 21 [v.cv, v'.cv] σ (· = .ret (i64 (intsF n n')) σ) := by
  refine crun_of (X := X) X_ok X_sat (body := bodyOf Try.f21) Try.func21 rfl (by kernel_rfl) (by kernel_rfl) ?_
  rw [Try.ntmps21]
  have t1 : CRun Try.prog 36 [v.cv] σ (· = .ret (.iface 69 (i64 n)) σ) := hv ▸ term_c
  have t2 : CRun Try.prog 36 [v'.cv] σ (· = .ret (.iface 69 (i64 n')) σ) := hv' ▸ term_c
  clear hv hv'
  obtain ⟨vk, vn, vt, vl⟩ := v
  obtain ⟨vk', vn', vt', vl'⟩ := v'
  conv => whnf
  repeat' (first | (refine CallN.one t1 ?_) | (refine CallN.one t2 ?_) | (refine Need.mk n_edge_order ?_) | (refine MethN.of m_edge_order ?_) | (refine CallN.one (ord_edge_edge (a := n) (b := n') (s0 := s) (s := s') (m := m')) ?_) | refine OrdN.one ?_ | refine Fork.yp ?_ | refine Fork.np ?_ | refine Fork.ny ?_ | refine Fork.nn ?_ | refine Fork.yb ?_ | refine Fork.nb ?_ | refine Fork.dp (fun h => ?_) (fun h => ?_) | refine Fork.dn (fun h => ?_) (fun h => ?_)|(refine Fork.mk (fun h => ?_) (fun h => ?_) <;> simp only [decide_eq_true_eq, decide_eq_false_iff_not, Bool.not_eq_true', Bool.not_eq_false', Bool.or_eq_true, Bool.or_eq_false_iff] at h) | refine GetN.go ?_ | refine Need.ap1 ?_ | refine Need.ap0 ?_ | refine Need.go ?_ | refine Need.draw ?_ | refine ElemN.go ?_ | refine AllocN.go (fun l hl => ?_) | refine finGo ?_) <;> try (conv => whnf)
  rfl

theorem oo_edge_list {σ : Heap} {v v' : Val} {n n' r : Int} {s s' : ByteArray} {m m' : List CV} (hv : termV v = .iface 69 (i64 n)) (hv' : termV v' = .iface 70 (.vec m')) : CRun Try.prog 21 [v.cv, v'.cv] σ (· = .ret (i64 (intsF 1 2)) σ) := by
  refine crun_of (X := X) X_ok X_sat (body := bodyOf Try.f21) Try.func21 rfl (by kernel_rfl) (by kernel_rfl) ?_
  rw [Try.ntmps21]
  have t1 : CRun Try.prog 36 [v.cv] σ (· = .ret (.iface 69 (i64 n)) σ) := hv ▸ term_c
  have t2 : CRun Try.prog 36 [v'.cv] σ (· = .ret (.iface 70 (.vec m')) σ) := hv' ▸ term_c
  clear hv hv'
  obtain ⟨vk, vn, vt, vl⟩ := v
  obtain ⟨vk', vn', vt', vl'⟩ := v'
  conv => whnf
  repeat' (first | (refine CallN.one t1 ?_) | (refine CallN.one t2 ?_) | (refine Need.mk n_edge_order ?_) | (refine MethN.of m_edge_order ?_) | (refine CallN.one (ord_edge_list (a := n) (b := n') (s0 := s) (s := s') (m := m')) ?_) | refine OrdN.one ?_ | refine Fork.yp ?_ | refine Fork.np ?_ | refine Fork.ny ?_ | refine Fork.nn ?_ | refine Fork.yb ?_ | refine Fork.nb ?_ | refine Fork.dp (fun h => ?_) (fun h => ?_) | refine Fork.dn (fun h => ?_) (fun h => ?_)|(refine Fork.mk (fun h => ?_) (fun h => ?_) <;> simp only [decide_eq_true_eq, decide_eq_false_iff_not, Bool.not_eq_true', Bool.not_eq_false', Bool.or_eq_true, Bool.or_eq_false_iff] at h) | refine GetN.go ?_ | refine Need.ap1 ?_ | refine Need.ap0 ?_ | refine Need.go ?_ | refine Need.draw ?_ | refine ElemN.go ?_ | refine AllocN.go (fun l hl => ?_) | refine finGo ?_) <;> try (conv => whnf)
  rfl

theorem oo_edge_text {σ : Heap} {v v' : Val} {n n' r : Int} {s s' : ByteArray} {m m' : List CV} (hv : termV v = .iface 69 (i64 n)) (hv' : termV v' = .iface 71 (.sc (.string s'))) : CRun Try.prog 21 [v.cv, v'.cv] σ (· = .ret (i64 (intsF 1 3)) σ) := by
  refine crun_of (X := X) X_ok X_sat (body := bodyOf Try.f21) Try.func21 rfl (by kernel_rfl) (by kernel_rfl) ?_
  rw [Try.ntmps21]
  have t1 : CRun Try.prog 36 [v.cv] σ (· = .ret (.iface 69 (i64 n)) σ) := hv ▸ term_c
  have t2 : CRun Try.prog 36 [v'.cv] σ (· = .ret (.iface 71 (.sc (.string s'))) σ) := hv' ▸ term_c
  clear hv hv'
  obtain ⟨vk, vn, vt, vl⟩ := v
  obtain ⟨vk', vn', vt', vl'⟩ := v'
  conv => whnf
  repeat' (first | (refine CallN.one t1 ?_) | (refine CallN.one t2 ?_) | (refine Need.mk n_edge_order ?_) | (refine MethN.of m_edge_order ?_) | (refine CallN.one (ord_edge_text (a := n) (b := n') (s0 := s) (s := s') (m := m')) ?_) | refine OrdN.one ?_ | refine Fork.yp ?_ | refine Fork.np ?_ | refine Fork.ny ?_ | refine Fork.nn ?_ | refine Fork.yb ?_ | refine Fork.nb ?_ | refine Fork.dp (fun h => ?_) (fun h => ?_) | refine Fork.dn (fun h => ?_) (fun h => ?_)|(refine Fork.mk (fun h => ?_) (fun h => ?_) <;> simp only [decide_eq_true_eq, decide_eq_false_iff_not, Bool.not_eq_true', Bool.not_eq_false', Bool.or_eq_true, Bool.or_eq_false_iff] at h) | refine GetN.go ?_ | refine Need.ap1 ?_ | refine Need.ap0 ?_ | refine Need.go ?_ | refine Need.draw ?_ | refine ElemN.go ?_ | refine AllocN.go (fun l hl => ?_) | refine finGo ?_) <;> try (conv => whnf)
  rfl

theorem oo_edge_bool {σ : Heap} {v v' : Val} {n n' r : Int} {s s' : ByteArray} {m m' : List CV} (hv : termV v = .iface 69 (i64 n)) (hv' : termV v' = .iface 72 (i64 n')) : CRun Try.prog 21 [v.cv, v'.cv] σ (· = .ret (i64 (intsF 1 4)) σ) := by
  refine crun_of (X := X) X_ok X_sat (body := bodyOf Try.f21) Try.func21 rfl (by kernel_rfl) (by kernel_rfl) ?_
  rw [Try.ntmps21]
  have t1 : CRun Try.prog 36 [v.cv] σ (· = .ret (.iface 69 (i64 n)) σ) := hv ▸ term_c
  have t2 : CRun Try.prog 36 [v'.cv] σ (· = .ret (.iface 72 (i64 n')) σ) := hv' ▸ term_c
  clear hv hv'
  obtain ⟨vk, vn, vt, vl⟩ := v
  obtain ⟨vk', vn', vt', vl'⟩ := v'
  conv => whnf
  repeat' (first | (refine CallN.one t1 ?_) | (refine CallN.one t2 ?_) | (refine Need.mk n_edge_order ?_) | (refine MethN.of m_edge_order ?_) | (refine CallN.one (ord_edge_bool (a := n) (b := n') (s0 := s) (s := s') (m := m')) ?_) | refine OrdN.one ?_ | refine Fork.yp ?_ | refine Fork.np ?_ | refine Fork.ny ?_ | refine Fork.nn ?_ | refine Fork.yb ?_ | refine Fork.nb ?_ | refine Fork.dp (fun h => ?_) (fun h => ?_) | refine Fork.dn (fun h => ?_) (fun h => ?_)|(refine Fork.mk (fun h => ?_) (fun h => ?_) <;> simp only [decide_eq_true_eq, decide_eq_false_iff_not, Bool.not_eq_true', Bool.not_eq_false', Bool.or_eq_true, Bool.or_eq_false_iff] at h) | refine GetN.go ?_ | refine Need.ap1 ?_ | refine Need.ap0 ?_ | refine Need.go ?_ | refine Need.draw ?_ | refine ElemN.go ?_ | refine AllocN.go (fun l hl => ?_) | refine finGo ?_) <;> try (conv => whnf)
  rfl

theorem oo_edge_num {σ : Heap} {v v' : Val} {n n' r : Int} {s s' : ByteArray} {m m' : List CV} (hv : termV v = .iface 69 (i64 n)) (hv' : termV v' = .iface 73 (i64 n')) : CRun Try.prog 21 [v.cv, v'.cv] σ (· = .ret (i64 (intsF 1 5)) σ) := by
  refine crun_of (X := X) X_ok X_sat (body := bodyOf Try.f21) Try.func21 rfl (by kernel_rfl) (by kernel_rfl) ?_
  rw [Try.ntmps21]
  have t1 : CRun Try.prog 36 [v.cv] σ (· = .ret (.iface 69 (i64 n)) σ) := hv ▸ term_c
  have t2 : CRun Try.prog 36 [v'.cv] σ (· = .ret (.iface 73 (i64 n')) σ) := hv' ▸ term_c
  clear hv hv'
  obtain ⟨vk, vn, vt, vl⟩ := v
  obtain ⟨vk', vn', vt', vl'⟩ := v'
  conv => whnf
  repeat' (first | (refine CallN.one t1 ?_) | (refine CallN.one t2 ?_) | (refine Need.mk n_edge_order ?_) | (refine MethN.of m_edge_order ?_) | (refine CallN.one (ord_edge_num (a := n) (b := n') (s0 := s) (s := s') (m := m')) ?_) | refine OrdN.one ?_ | refine Fork.yp ?_ | refine Fork.np ?_ | refine Fork.ny ?_ | refine Fork.nn ?_ | refine Fork.yb ?_ | refine Fork.nb ?_ | refine Fork.dp (fun h => ?_) (fun h => ?_) | refine Fork.dn (fun h => ?_) (fun h => ?_)|(refine Fork.mk (fun h => ?_) (fun h => ?_) <;> simp only [decide_eq_true_eq, decide_eq_false_iff_not, Bool.not_eq_true', Bool.not_eq_false', Bool.or_eq_true, Bool.or_eq_false_iff] at h) | refine GetN.go ?_ | refine Need.ap1 ?_ | refine Need.ap0 ?_ | refine Need.go ?_ | refine Need.draw ?_ | refine ElemN.go ?_ | refine AllocN.go (fun l hl => ?_) | refine finGo ?_) <;> try (conv => whnf)
  rfl

theorem oo_edge_null {σ : Heap} {v v' : Val} {n n' r : Int} {s s' : ByteArray} {m m' : List CV} (hv : termV v = .iface 69 (i64 n)) (hv' : termV v' = .iface 75 (.agg [])) : CRun Try.prog 21 [v.cv, v'.cv] σ (· = .ret (i64 (intsF 1 6)) σ) := by
  refine crun_of (X := X) X_ok X_sat (body := bodyOf Try.f21) Try.func21 rfl (by kernel_rfl) (by kernel_rfl) ?_
  rw [Try.ntmps21]
  have t1 : CRun Try.prog 36 [v.cv] σ (· = .ret (.iface 69 (i64 n)) σ) := hv ▸ term_c
  have t2 : CRun Try.prog 36 [v'.cv] σ (· = .ret (.iface 75 (.agg [])) σ) := hv' ▸ term_c
  clear hv hv'
  obtain ⟨vk, vn, vt, vl⟩ := v
  obtain ⟨vk', vn', vt', vl'⟩ := v'
  conv => whnf
  repeat' (first | (refine CallN.one t1 ?_) | (refine CallN.one t2 ?_) | (refine Need.mk n_edge_order ?_) | (refine MethN.of m_edge_order ?_) | (refine CallN.one (ord_edge_null (a := n) (b := n') (s0 := s) (s := s') (m := m')) ?_) | refine OrdN.one ?_ | refine Fork.yp ?_ | refine Fork.np ?_ | refine Fork.ny ?_ | refine Fork.nn ?_ | refine Fork.yb ?_ | refine Fork.nb ?_ | refine Fork.dp (fun h => ?_) (fun h => ?_) | refine Fork.dn (fun h => ?_) (fun h => ?_)|(refine Fork.mk (fun h => ?_) (fun h => ?_) <;> simp only [decide_eq_true_eq, decide_eq_false_iff_not, Bool.not_eq_true', Bool.not_eq_false', Bool.or_eq_true, Bool.or_eq_false_iff] at h) | refine GetN.go ?_ | refine Need.ap1 ?_ | refine Need.ap0 ?_ | refine Need.go ?_ | refine Need.draw ?_ | refine ElemN.go ?_ | refine AllocN.go (fun l hl => ?_) | refine finGo ?_) <;> try (conv => whnf)
  rfl

theorem oo_list_node {σ : Heap} {v v' : Val} {n n' r : Int} {s s' : ByteArray} {m m' : List CV} (hv : termV v = .iface 70 (.vec m)) (hv' : termV v' = .iface 68 (i64 n')) : CRun Try.prog 21 [v.cv, v'.cv] σ (· = .ret (i64 (intsF 2 0)) σ) := by
  refine crun_of (X := X) X_ok X_sat (body := bodyOf Try.f21) Try.func21 rfl (by kernel_rfl) (by kernel_rfl) ?_
  rw [Try.ntmps21]
  have t1 : CRun Try.prog 36 [v.cv] σ (· = .ret (.iface 70 (.vec m)) σ) := hv ▸ term_c
  have t2 : CRun Try.prog 36 [v'.cv] σ (· = .ret (.iface 68 (i64 n')) σ) := hv' ▸ term_c
  clear hv hv'
  obtain ⟨vk, vn, vt, vl⟩ := v
  obtain ⟨vk', vn', vt', vl'⟩ := v'
  conv => whnf
  repeat' (first | (refine CallN.one t1 ?_) | (refine CallN.one t2 ?_) | (refine Need.mk n_list_order ?_) | (refine MethN.of m_list_order ?_) | (refine CallN.one (ord_list_node (b := n') (s := s') (m := m)) ?_) | refine OrdN.one ?_ | refine Fork.yp ?_ | refine Fork.np ?_ | refine Fork.ny ?_ | refine Fork.nn ?_ | refine Fork.yb ?_ | refine Fork.nb ?_ | refine Fork.dp (fun h => ?_) (fun h => ?_) | refine Fork.dn (fun h => ?_) (fun h => ?_)|(refine Fork.mk (fun h => ?_) (fun h => ?_) <;> simp only [decide_eq_true_eq, decide_eq_false_iff_not, Bool.not_eq_true', Bool.not_eq_false', Bool.or_eq_true, Bool.or_eq_false_iff] at h) | refine GetN.go ?_ | refine Need.ap1 ?_ | refine Need.ap0 ?_ | refine Need.go ?_ | refine Need.draw ?_ | refine ElemN.go ?_ | refine AllocN.go (fun l hl => ?_) | refine finGo ?_) <;> try (conv => whnf)
  rfl

theorem oo_list_edge {σ : Heap} {v v' : Val} {n n' r : Int} {s s' : ByteArray} {m m' : List CV} (hv : termV v = .iface 70 (.vec m)) (hv' : termV v' = .iface 69 (i64 n')) : CRun Try.prog 21 [v.cv, v'.cv] σ (· = .ret (i64 (intsF 2 1)) σ) := by
  refine crun_of (X := X) X_ok X_sat (body := bodyOf Try.f21) Try.func21 rfl (by kernel_rfl) (by kernel_rfl) ?_
  rw [Try.ntmps21]
  have t1 : CRun Try.prog 36 [v.cv] σ (· = .ret (.iface 70 (.vec m)) σ) := hv ▸ term_c
  have t2 : CRun Try.prog 36 [v'.cv] σ (· = .ret (.iface 69 (i64 n')) σ) := hv' ▸ term_c
  clear hv hv'
  obtain ⟨vk, vn, vt, vl⟩ := v
  obtain ⟨vk', vn', vt', vl'⟩ := v'
  conv => whnf
  repeat' (first | (refine CallN.one t1 ?_) | (refine CallN.one t2 ?_) | (refine Need.mk n_list_order ?_) | (refine MethN.of m_list_order ?_) | (refine CallN.one (ord_list_edge (b := n') (s := s') (m := m)) ?_) | refine OrdN.one ?_ | refine Fork.yp ?_ | refine Fork.np ?_ | refine Fork.ny ?_ | refine Fork.nn ?_ | refine Fork.yb ?_ | refine Fork.nb ?_ | refine Fork.dp (fun h => ?_) (fun h => ?_) | refine Fork.dn (fun h => ?_) (fun h => ?_)|(refine Fork.mk (fun h => ?_) (fun h => ?_) <;> simp only [decide_eq_true_eq, decide_eq_false_iff_not, Bool.not_eq_true', Bool.not_eq_false', Bool.or_eq_true, Bool.or_eq_false_iff] at h) | refine GetN.go ?_ | refine Need.ap1 ?_ | refine Need.ap0 ?_ | refine Need.go ?_ | refine Need.draw ?_ | refine ElemN.go ?_ | refine AllocN.go (fun l hl => ?_) | refine finGo ?_) <;> try (conv => whnf)
  rfl

theorem oo_list_list {σ : Heap} {v v' : Val} {n n' r : Int} {s s' : ByteArray} {m m' : List CV} (hv : termV v = .iface 70 (.vec m)) (hv' : termV v' = .iface 70 (.vec m')) (hc : CRun Try.prog 75 [.vec m, .iface 70 (.vec m')] σ (· = .ret (i64 r) σ)) : CRun Try.prog 21 [v.cv, v'.cv] σ (· = .ret (i64 (r)) σ) := by
  refine crun_of (X := X) X_ok X_sat (body := bodyOf Try.f21) Try.func21 rfl (by kernel_rfl) (by kernel_rfl) ?_
  rw [Try.ntmps21]
  have t1 : CRun Try.prog 36 [v.cv] σ (· = .ret (.iface 70 (.vec m)) σ) := hv ▸ term_c
  have t2 : CRun Try.prog 36 [v'.cv] σ (· = .ret (.iface 70 (.vec m')) σ) := hv' ▸ term_c
  clear hv hv'
  obtain ⟨vk, vn, vt, vl⟩ := v
  obtain ⟨vk', vn', vt', vl'⟩ := v'
  conv => whnf
  repeat' (first | (refine CallN.one t1 ?_) | (refine CallN.one t2 ?_) | (refine Need.mk n_list_order ?_) | (refine MethN.of m_list_order ?_) | (refine CallN.one hc ?_) | refine OrdN.one ?_ | refine Fork.yp ?_ | refine Fork.np ?_ | refine Fork.ny ?_ | refine Fork.nn ?_ | refine Fork.yb ?_ | refine Fork.nb ?_ | refine Fork.dp (fun h => ?_) (fun h => ?_) | refine Fork.dn (fun h => ?_) (fun h => ?_)|(refine Fork.mk (fun h => ?_) (fun h => ?_) <;> simp only [decide_eq_true_eq, decide_eq_false_iff_not, Bool.not_eq_true', Bool.not_eq_false', Bool.or_eq_true, Bool.or_eq_false_iff] at h) | refine GetN.go ?_ | refine Need.ap1 ?_ | refine Need.ap0 ?_ | refine Need.go ?_ | refine Need.draw ?_ | refine ElemN.go ?_ | refine AllocN.go (fun l hl => ?_) | refine finGo ?_) <;> try (conv => whnf)
  rfl

theorem oo_list_text {σ : Heap} {v v' : Val} {n n' r : Int} {s s' : ByteArray} {m m' : List CV} (hv : termV v = .iface 70 (.vec m)) (hv' : termV v' = .iface 71 (.sc (.string s'))) : CRun Try.prog 21 [v.cv, v'.cv] σ (· = .ret (i64 (intsF 2 3)) σ) := by
  refine crun_of (X := X) X_ok X_sat (body := bodyOf Try.f21) Try.func21 rfl (by kernel_rfl) (by kernel_rfl) ?_
  rw [Try.ntmps21]
  have t1 : CRun Try.prog 36 [v.cv] σ (· = .ret (.iface 70 (.vec m)) σ) := hv ▸ term_c
  have t2 : CRun Try.prog 36 [v'.cv] σ (· = .ret (.iface 71 (.sc (.string s'))) σ) := hv' ▸ term_c
  clear hv hv'
  obtain ⟨vk, vn, vt, vl⟩ := v
  obtain ⟨vk', vn', vt', vl'⟩ := v'
  conv => whnf
  repeat' (first | (refine CallN.one t1 ?_) | (refine CallN.one t2 ?_) | (refine Need.mk n_list_order ?_) | (refine MethN.of m_list_order ?_) | (refine CallN.one (ord_list_text (b := n') (s := s') (m := m)) ?_) | refine OrdN.one ?_ | refine Fork.yp ?_ | refine Fork.np ?_ | refine Fork.ny ?_ | refine Fork.nn ?_ | refine Fork.yb ?_ | refine Fork.nb ?_ | refine Fork.dp (fun h => ?_) (fun h => ?_) | refine Fork.dn (fun h => ?_) (fun h => ?_)|(refine Fork.mk (fun h => ?_) (fun h => ?_) <;> simp only [decide_eq_true_eq, decide_eq_false_iff_not, Bool.not_eq_true', Bool.not_eq_false', Bool.or_eq_true, Bool.or_eq_false_iff] at h) | refine GetN.go ?_ | refine Need.ap1 ?_ | refine Need.ap0 ?_ | refine Need.go ?_ | refine Need.draw ?_ | refine ElemN.go ?_ | refine AllocN.go (fun l hl => ?_) | refine finGo ?_) <;> try (conv => whnf)
  rfl

theorem oo_list_bool {σ : Heap} {v v' : Val} {n n' r : Int} {s s' : ByteArray} {m m' : List CV} (hv : termV v = .iface 70 (.vec m)) (hv' : termV v' = .iface 72 (i64 n')) : CRun Try.prog 21 [v.cv, v'.cv] σ (· = .ret (i64 (intsF 2 4)) σ) := by
  refine crun_of (X := X) X_ok X_sat (body := bodyOf Try.f21) Try.func21 rfl (by kernel_rfl) (by kernel_rfl) ?_
  rw [Try.ntmps21]
  have t1 : CRun Try.prog 36 [v.cv] σ (· = .ret (.iface 70 (.vec m)) σ) := hv ▸ term_c
  have t2 : CRun Try.prog 36 [v'.cv] σ (· = .ret (.iface 72 (i64 n')) σ) := hv' ▸ term_c
  clear hv hv'
  obtain ⟨vk, vn, vt, vl⟩ := v
  obtain ⟨vk', vn', vt', vl'⟩ := v'
  conv => whnf
  repeat' (first | (refine CallN.one t1 ?_) | (refine CallN.one t2 ?_) | (refine Need.mk n_list_order ?_) | (refine MethN.of m_list_order ?_) | (refine CallN.one (ord_list_bool (b := n') (s := s') (m := m)) ?_) | refine OrdN.one ?_ | refine Fork.yp ?_ | refine Fork.np ?_ | refine Fork.ny ?_ | refine Fork.nn ?_ | refine Fork.yb ?_ | refine Fork.nb ?_ | refine Fork.dp (fun h => ?_) (fun h => ?_) | refine Fork.dn (fun h => ?_) (fun h => ?_)|(refine Fork.mk (fun h => ?_) (fun h => ?_) <;> simp only [decide_eq_true_eq, decide_eq_false_iff_not, Bool.not_eq_true', Bool.not_eq_false', Bool.or_eq_true, Bool.or_eq_false_iff] at h) | refine GetN.go ?_ | refine Need.ap1 ?_ | refine Need.ap0 ?_ | refine Need.go ?_ | refine Need.draw ?_ | refine ElemN.go ?_ | refine AllocN.go (fun l hl => ?_) | refine finGo ?_) <;> try (conv => whnf)
  rfl

theorem oo_list_num {σ : Heap} {v v' : Val} {n n' r : Int} {s s' : ByteArray} {m m' : List CV} (hv : termV v = .iface 70 (.vec m)) (hv' : termV v' = .iface 73 (i64 n')) : CRun Try.prog 21 [v.cv, v'.cv] σ (· = .ret (i64 (intsF 2 5)) σ) := by
  refine crun_of (X := X) X_ok X_sat (body := bodyOf Try.f21) Try.func21 rfl (by kernel_rfl) (by kernel_rfl) ?_
  rw [Try.ntmps21]
  have t1 : CRun Try.prog 36 [v.cv] σ (· = .ret (.iface 70 (.vec m)) σ) := hv ▸ term_c
  have t2 : CRun Try.prog 36 [v'.cv] σ (· = .ret (.iface 73 (i64 n')) σ) := hv' ▸ term_c
  clear hv hv'
  obtain ⟨vk, vn, vt, vl⟩ := v
  obtain ⟨vk', vn', vt', vl'⟩ := v'
  conv => whnf
  repeat' (first | (refine CallN.one t1 ?_) | (refine CallN.one t2 ?_) | (refine Need.mk n_list_order ?_) | (refine MethN.of m_list_order ?_) | (refine CallN.one (ord_list_num (b := n') (s := s') (m := m)) ?_) | refine OrdN.one ?_ | refine Fork.yp ?_ | refine Fork.np ?_ | refine Fork.ny ?_ | refine Fork.nn ?_ | refine Fork.yb ?_ | refine Fork.nb ?_ | refine Fork.dp (fun h => ?_) (fun h => ?_) | refine Fork.dn (fun h => ?_) (fun h => ?_)|(refine Fork.mk (fun h => ?_) (fun h => ?_) <;> simp only [decide_eq_true_eq, decide_eq_false_iff_not, Bool.not_eq_true', Bool.not_eq_false', Bool.or_eq_true, Bool.or_eq_false_iff] at h) | refine GetN.go ?_ | refine Need.ap1 ?_ | refine Need.ap0 ?_ | refine Need.go ?_ | refine Need.draw ?_ | refine ElemN.go ?_ | refine AllocN.go (fun l hl => ?_) | refine finGo ?_) <;> try (conv => whnf)
  rfl

theorem oo_list_null {σ : Heap} {v v' : Val} {n n' r : Int} {s s' : ByteArray} {m m' : List CV} (hv : termV v = .iface 70 (.vec m)) (hv' : termV v' = .iface 75 (.agg [])) : CRun Try.prog 21 [v.cv, v'.cv] σ (· = .ret (i64 (intsF 2 6)) σ) := by
  refine crun_of (X := X) X_ok X_sat (body := bodyOf Try.f21) Try.func21 rfl (by kernel_rfl) (by kernel_rfl) ?_
  rw [Try.ntmps21]
  have t1 : CRun Try.prog 36 [v.cv] σ (· = .ret (.iface 70 (.vec m)) σ) := hv ▸ term_c
  have t2 : CRun Try.prog 36 [v'.cv] σ (· = .ret (.iface 75 (.agg [])) σ) := hv' ▸ term_c
  clear hv hv'
  obtain ⟨vk, vn, vt, vl⟩ := v
  obtain ⟨vk', vn', vt', vl'⟩ := v'
  conv => whnf
  repeat' (first | (refine CallN.one t1 ?_) | (refine CallN.one t2 ?_) | (refine Need.mk n_list_order ?_) | (refine MethN.of m_list_order ?_) | (refine CallN.one (ord_list_null (b := n') (s := s') (m := m)) ?_) | refine OrdN.one ?_ | refine Fork.yp ?_ | refine Fork.np ?_ | refine Fork.ny ?_ | refine Fork.nn ?_ | refine Fork.yb ?_ | refine Fork.nb ?_ | refine Fork.dp (fun h => ?_) (fun h => ?_) | refine Fork.dn (fun h => ?_) (fun h => ?_)|(refine Fork.mk (fun h => ?_) (fun h => ?_) <;> simp only [decide_eq_true_eq, decide_eq_false_iff_not, Bool.not_eq_true', Bool.not_eq_false', Bool.or_eq_true, Bool.or_eq_false_iff] at h) | refine GetN.go ?_ | refine Need.ap1 ?_ | refine Need.ap0 ?_ | refine Need.go ?_ | refine Need.draw ?_ | refine ElemN.go ?_ | refine AllocN.go (fun l hl => ?_) | refine finGo ?_) <;> try (conv => whnf)
  rfl

theorem oo_text_node {σ : Heap} {v v' : Val} {n n' r : Int} {s s' : ByteArray} {m m' : List CV} (hv : termV v = .iface 71 (.sc (.string s))) (hv' : termV v' = .iface 68 (i64 n')) : CRun Try.prog 21 [v.cv, v'.cv] σ (· = .ret (i64 (intsF 3 0)) σ) := by
  refine crun_of (X := X) X_ok X_sat (body := bodyOf Try.f21) Try.func21 rfl (by kernel_rfl) (by kernel_rfl) ?_
  rw [Try.ntmps21]
  have t1 : CRun Try.prog 36 [v.cv] σ (· = .ret (.iface 71 (.sc (.string s))) σ) := hv ▸ term_c
  have t2 : CRun Try.prog 36 [v'.cv] σ (· = .ret (.iface 68 (i64 n')) σ) := hv' ▸ term_c
  clear hv hv'
  obtain ⟨vk, vn, vt, vl⟩ := v
  obtain ⟨vk', vn', vt', vl'⟩ := v'
  conv => whnf
  repeat' (first | (refine CallN.one t1 ?_) | (refine CallN.one t2 ?_) | (refine Need.mk n_text_order ?_) | (refine MethN.of m_text_order ?_) | (refine CallN.one (ord_text_node (a := 0) (b := n') (s0 := s) (s := s) (m := m')) ?_) | refine OrdN.one ?_ | refine Fork.yp ?_ | refine Fork.np ?_ | refine Fork.ny ?_ | refine Fork.nn ?_ | refine Fork.yb ?_ | refine Fork.nb ?_ | refine Fork.dp (fun h => ?_) (fun h => ?_) | refine Fork.dn (fun h => ?_) (fun h => ?_)|(refine Fork.mk (fun h => ?_) (fun h => ?_) <;> simp only [decide_eq_true_eq, decide_eq_false_iff_not, Bool.not_eq_true', Bool.not_eq_false', Bool.or_eq_true, Bool.or_eq_false_iff] at h) | refine GetN.go ?_ | refine Need.ap1 ?_ | refine Need.ap0 ?_ | refine Need.go ?_ | refine Need.draw ?_ | refine ElemN.go ?_ | refine AllocN.go (fun l hl => ?_) | refine finGo ?_) <;> try (conv => whnf)
  rfl

theorem oo_text_edge {σ : Heap} {v v' : Val} {n n' r : Int} {s s' : ByteArray} {m m' : List CV} (hv : termV v = .iface 71 (.sc (.string s))) (hv' : termV v' = .iface 69 (i64 n')) : CRun Try.prog 21 [v.cv, v'.cv] σ (· = .ret (i64 (intsF 3 1)) σ) := by
  refine crun_of (X := X) X_ok X_sat (body := bodyOf Try.f21) Try.func21 rfl (by kernel_rfl) (by kernel_rfl) ?_
  rw [Try.ntmps21]
  have t1 : CRun Try.prog 36 [v.cv] σ (· = .ret (.iface 71 (.sc (.string s))) σ) := hv ▸ term_c
  have t2 : CRun Try.prog 36 [v'.cv] σ (· = .ret (.iface 69 (i64 n')) σ) := hv' ▸ term_c
  clear hv hv'
  obtain ⟨vk, vn, vt, vl⟩ := v
  obtain ⟨vk', vn', vt', vl'⟩ := v'
  conv => whnf
  repeat' (first | (refine CallN.one t1 ?_) | (refine CallN.one t2 ?_) | (refine Need.mk n_text_order ?_) | (refine MethN.of m_text_order ?_) | (refine CallN.one (ord_text_edge (a := 0) (b := n') (s0 := s) (s := s) (m := m')) ?_) | refine OrdN.one ?_ | refine Fork.yp ?_ | refine Fork.np ?_ | refine Fork.ny ?_ | refine Fork.nn ?_ | refine Fork.yb ?_ | refine Fork.nb ?_ | refine Fork.dp (fun h => ?_) (fun h => ?_) | refine Fork.dn (fun h => ?_) (fun h => ?_)|(refine Fork.mk (fun h => ?_) (fun h => ?_) <;> simp only [decide_eq_true_eq, decide_eq_false_iff_not, Bool.not_eq_true', Bool.not_eq_false', Bool.or_eq_true, Bool.or_eq_false_iff] at h) | refine GetN.go ?_ | refine Need.ap1 ?_ | refine Need.ap0 ?_ | refine Need.go ?_ | refine Need.draw ?_ | refine ElemN.go ?_ | refine AllocN.go (fun l hl => ?_) | refine finGo ?_) <;> try (conv => whnf)
  rfl

theorem oo_text_list {σ : Heap} {v v' : Val} {n n' r : Int} {s s' : ByteArray} {m m' : List CV} (hv : termV v = .iface 71 (.sc (.string s))) (hv' : termV v' = .iface 70 (.vec m')) : CRun Try.prog 21 [v.cv, v'.cv] σ (· = .ret (i64 (intsF 3 2)) σ) := by
  refine crun_of (X := X) X_ok X_sat (body := bodyOf Try.f21) Try.func21 rfl (by kernel_rfl) (by kernel_rfl) ?_
  rw [Try.ntmps21]
  have t1 : CRun Try.prog 36 [v.cv] σ (· = .ret (.iface 71 (.sc (.string s))) σ) := hv ▸ term_c
  have t2 : CRun Try.prog 36 [v'.cv] σ (· = .ret (.iface 70 (.vec m')) σ) := hv' ▸ term_c
  clear hv hv'
  obtain ⟨vk, vn, vt, vl⟩ := v
  obtain ⟨vk', vn', vt', vl'⟩ := v'
  conv => whnf
  repeat' (first | (refine CallN.one t1 ?_) | (refine CallN.one t2 ?_) | (refine Need.mk n_text_order ?_) | (refine MethN.of m_text_order ?_) | (refine CallN.one (ord_text_list (a := 0) (b := 0) (s0 := s) (s := s) (m := m')) ?_) | refine OrdN.one ?_ | refine Fork.yp ?_ | refine Fork.np ?_ | refine Fork.ny ?_ | refine Fork.nn ?_ | refine Fork.yb ?_ | refine Fork.nb ?_ | refine Fork.dp (fun h => ?_) (fun h => ?_) | refine Fork.dn (fun h => ?_) (fun h => ?_)|(refine Fork.mk (fun h => ?_) (fun h => ?_) <;> simp only [decide_eq_true_eq, decide_eq_false_iff_not, Bool.not_eq_true', Bool.not_eq_false', Bool.or_eq_true, Bool.or_eq_false_iff] at h) | refine GetN.go ?_ | refine Need.ap1 ?_ | refine Need.ap0 ?_ | refine Need.go ?_ | refine Need.draw ?_ | refine ElemN.go ?_ | refine AllocN.go (fun l hl => ?_) | refine finGo ?_) <;> try (conv => whnf)
  rfl

theorem oo_text_text {σ : Heap} {v v' : Val} {n n' r : Int} {s s' : ByteArray} {m m' : List CV} (hv : termV v = .iface 71 (.sc (.string s))) (hv' : termV v' = .iface 71 (.sc (.string s'))) : CRun Try.prog 21 [v.cv, v'.cv] σ (· = .ret (i64 (textsF s s')) σ) := by
  refine crun_of (X := X) X_ok X_sat (body := bodyOf Try.f21) Try.func21 rfl (by kernel_rfl) (by kernel_rfl) ?_
  rw [Try.ntmps21]
  have t1 : CRun Try.prog 36 [v.cv] σ (· = .ret (.iface 71 (.sc (.string s))) σ) := hv ▸ term_c
  have t2 : CRun Try.prog 36 [v'.cv] σ (· = .ret (.iface 71 (.sc (.string s'))) σ) := hv' ▸ term_c
  clear hv hv'
  obtain ⟨vk, vn, vt, vl⟩ := v
  obtain ⟨vk', vn', vt', vl'⟩ := v'
  conv => whnf
  repeat' (first | (refine CallN.one t1 ?_) | (refine CallN.one t2 ?_) | (refine Need.mk n_text_order ?_) | (refine MethN.of m_text_order ?_) | (refine CallN.one (ord_text_text (a := 0) (b := 0) (s0 := s) (s := s') (m := m')) ?_) | refine OrdN.one ?_ | refine Fork.yp ?_ | refine Fork.np ?_ | refine Fork.ny ?_ | refine Fork.nn ?_ | refine Fork.yb ?_ | refine Fork.nb ?_ | refine Fork.dp (fun h => ?_) (fun h => ?_) | refine Fork.dn (fun h => ?_) (fun h => ?_)|(refine Fork.mk (fun h => ?_) (fun h => ?_) <;> simp only [decide_eq_true_eq, decide_eq_false_iff_not, Bool.not_eq_true', Bool.not_eq_false', Bool.or_eq_true, Bool.or_eq_false_iff] at h) | refine GetN.go ?_ | refine Need.ap1 ?_ | refine Need.ap0 ?_ | refine Need.go ?_ | refine Need.draw ?_ | refine ElemN.go ?_ | refine AllocN.go (fun l hl => ?_) | refine finGo ?_) <;> try (conv => whnf)
  rfl

theorem oo_text_bool {σ : Heap} {v v' : Val} {n n' r : Int} {s s' : ByteArray} {m m' : List CV} (hv : termV v = .iface 71 (.sc (.string s))) (hv' : termV v' = .iface 72 (i64 n')) : CRun Try.prog 21 [v.cv, v'.cv] σ (· = .ret (i64 (intsF 3 4)) σ) := by
  refine crun_of (X := X) X_ok X_sat (body := bodyOf Try.f21) Try.func21 rfl (by kernel_rfl) (by kernel_rfl) ?_
  rw [Try.ntmps21]
  have t1 : CRun Try.prog 36 [v.cv] σ (· = .ret (.iface 71 (.sc (.string s))) σ) := hv ▸ term_c
  have t2 : CRun Try.prog 36 [v'.cv] σ (· = .ret (.iface 72 (i64 n')) σ) := hv' ▸ term_c
  clear hv hv'
  obtain ⟨vk, vn, vt, vl⟩ := v
  obtain ⟨vk', vn', vt', vl'⟩ := v'
  conv => whnf
  repeat' (first | (refine CallN.one t1 ?_) | (refine CallN.one t2 ?_) | (refine Need.mk n_text_order ?_) | (refine MethN.of m_text_order ?_) | (refine CallN.one (ord_text_bool (a := 0) (b := n') (s0 := s) (s := s) (m := m')) ?_) | refine OrdN.one ?_ | refine Fork.yp ?_ | refine Fork.np ?_ | refine Fork.ny ?_ | refine Fork.nn ?_ | refine Fork.yb ?_ | refine Fork.nb ?_ | refine Fork.dp (fun h => ?_) (fun h => ?_) | refine Fork.dn (fun h => ?_) (fun h => ?_)|(refine Fork.mk (fun h => ?_) (fun h => ?_) <;> simp only [decide_eq_true_eq, decide_eq_false_iff_not, Bool.not_eq_true', Bool.not_eq_false', Bool.or_eq_true, Bool.or_eq_false_iff] at h) | refine GetN.go ?_ | refine Need.ap1 ?_ | refine Need.ap0 ?_ | refine Need.go ?_ | refine Need.draw ?_ | refine ElemN.go ?_ | refine AllocN.go (fun l hl => ?_) | refine finGo ?_) <;> try (conv => whnf)
  rfl

theorem oo_text_num {σ : Heap} {v v' : Val} {n n' r : Int} {s s' : ByteArray} {m m' : List CV} (hv : termV v = .iface 71 (.sc (.string s))) (hv' : termV v' = .iface 73 (i64 n')) : CRun Try.prog 21 [v.cv, v'.cv] σ (· = .ret (i64 (intsF 3 5)) σ) := by
  refine crun_of (X := X) X_ok X_sat (body := bodyOf Try.f21) Try.func21 rfl (by kernel_rfl) (by kernel_rfl) ?_
  rw [Try.ntmps21]
  have t1 : CRun Try.prog 36 [v.cv] σ (· = .ret (.iface 71 (.sc (.string s))) σ) := hv ▸ term_c
  have t2 : CRun Try.prog 36 [v'.cv] σ (· = .ret (.iface 73 (i64 n')) σ) := hv' ▸ term_c
  clear hv hv'
  obtain ⟨vk, vn, vt, vl⟩ := v
  obtain ⟨vk', vn', vt', vl'⟩ := v'
  conv => whnf
  repeat' (first | (refine CallN.one t1 ?_) | (refine CallN.one t2 ?_) | (refine Need.mk n_text_order ?_) | (refine MethN.of m_text_order ?_) | (refine CallN.one (ord_text_num (a := 0) (b := n') (s0 := s) (s := s) (m := m')) ?_) | refine OrdN.one ?_ | refine Fork.yp ?_ | refine Fork.np ?_ | refine Fork.ny ?_ | refine Fork.nn ?_ | refine Fork.yb ?_ | refine Fork.nb ?_ | refine Fork.dp (fun h => ?_) (fun h => ?_) | refine Fork.dn (fun h => ?_) (fun h => ?_)|(refine Fork.mk (fun h => ?_) (fun h => ?_) <;> simp only [decide_eq_true_eq, decide_eq_false_iff_not, Bool.not_eq_true', Bool.not_eq_false', Bool.or_eq_true, Bool.or_eq_false_iff] at h) | refine GetN.go ?_ | refine Need.ap1 ?_ | refine Need.ap0 ?_ | refine Need.go ?_ | refine Need.draw ?_ | refine ElemN.go ?_ | refine AllocN.go (fun l hl => ?_) | refine finGo ?_) <;> try (conv => whnf)
  rfl

theorem oo_text_null {σ : Heap} {v v' : Val} {n n' r : Int} {s s' : ByteArray} {m m' : List CV} (hv : termV v = .iface 71 (.sc (.string s))) (hv' : termV v' = .iface 75 (.agg [])) : CRun Try.prog 21 [v.cv, v'.cv] σ (· = .ret (i64 (intsF 3 6)) σ) := by
  refine crun_of (X := X) X_ok X_sat (body := bodyOf Try.f21) Try.func21 rfl (by kernel_rfl) (by kernel_rfl) ?_
  rw [Try.ntmps21]
  have t1 : CRun Try.prog 36 [v.cv] σ (· = .ret (.iface 71 (.sc (.string s))) σ) := hv ▸ term_c
  have t2 : CRun Try.prog 36 [v'.cv] σ (· = .ret (.iface 75 (.agg [])) σ) := hv' ▸ term_c
  clear hv hv'
  obtain ⟨vk, vn, vt, vl⟩ := v
  obtain ⟨vk', vn', vt', vl'⟩ := v'
  conv => whnf
  repeat' (first | (refine CallN.one t1 ?_) | (refine CallN.one t2 ?_) | (refine Need.mk n_text_order ?_) | (refine MethN.of m_text_order ?_) | (refine CallN.one (ord_text_null (a := 0) (b := 0) (s0 := s) (s := s) (m := m')) ?_) | refine OrdN.one ?_ | refine Fork.yp ?_ | refine Fork.np ?_ | refine Fork.ny ?_ | refine Fork.nn ?_ | refine Fork.yb ?_ | refine Fork.nb ?_ | refine Fork.dp (fun h => ?_) (fun h => ?_) | refine Fork.dn (fun h => ?_) (fun h => ?_)|(refine Fork.mk (fun h => ?_) (fun h => ?_) <;> simp only [decide_eq_true_eq, decide_eq_false_iff_not, Bool.not_eq_true', Bool.not_eq_false', Bool.or_eq_true, Bool.or_eq_false_iff] at h) | refine GetN.go ?_ | refine Need.ap1 ?_ | refine Need.ap0 ?_ | refine Need.go ?_ | refine Need.draw ?_ | refine ElemN.go ?_ | refine AllocN.go (fun l hl => ?_) | refine finGo ?_) <;> try (conv => whnf)
  rfl

theorem oo_bool_node {σ : Heap} {v v' : Val} {n n' r : Int} {s s' : ByteArray} {m m' : List CV} (hv : termV v = .iface 72 (i64 n)) (hv' : termV v' = .iface 68 (i64 n')) : CRun Try.prog 21 [v.cv, v'.cv] σ (· = .ret (i64 (intsF 4 0)) σ) := by
  refine crun_of (X := X) X_ok X_sat (body := bodyOf Try.f21) Try.func21 rfl (by kernel_rfl) (by kernel_rfl) ?_
  rw [Try.ntmps21]
  have t1 : CRun Try.prog 36 [v.cv] σ (· = .ret (.iface 72 (i64 n)) σ) := hv ▸ term_c
  have t2 : CRun Try.prog 36 [v'.cv] σ (· = .ret (.iface 68 (i64 n')) σ) := hv' ▸ term_c
  clear hv hv'
  obtain ⟨vk, vn, vt, vl⟩ := v
  obtain ⟨vk', vn', vt', vl'⟩ := v'
  conv => whnf
  repeat' (first | (refine CallN.one t1 ?_) | (refine CallN.one t2 ?_) | (refine Need.mk n_bool_order ?_) | (refine MethN.of m_bool_order ?_) | (refine CallN.one (ord_bool_node (a := n) (b := n') (s0 := s) (s := s') (m := m')) ?_) | refine OrdN.one ?_ | refine Fork.yp ?_ | refine Fork.np ?_ | refine Fork.ny ?_ | refine Fork.nn ?_ | refine Fork.yb ?_ | refine Fork.nb ?_ | refine Fork.dp (fun h => ?_) (fun h => ?_) | refine Fork.dn (fun h => ?_) (fun h => ?_)|(refine Fork.mk (fun h => ?_) (fun h => ?_) <;> simp only [decide_eq_true_eq, decide_eq_false_iff_not, Bool.not_eq_true', Bool.not_eq_false', Bool.or_eq_true, Bool.or_eq_false_iff] at h) | refine GetN.go ?_ | refine Need.ap1 ?_ | refine Need.ap0 ?_ | refine Need.go ?_ | refine Need.draw ?_ | refine ElemN.go ?_ | refine AllocN.go (fun l hl => ?_) | refine finGo ?_) <;> try (conv => whnf)
  rfl

theorem oo_bool_edge {σ : Heap} {v v' : Val} {n n' r : Int} {s s' : ByteArray} {m m' : List CV} (hv : termV v = .iface 72 (i64 n)) (hv' : termV v' = .iface 69 (i64 n')) : CRun Try.prog 21 [v.cv, v'.cv] σ (· = .ret (i64 (intsF 4 1)) σ) := by
  refine crun_of (X := X) X_ok X_sat (body := bodyOf Try.f21) Try.func21 rfl (by kernel_rfl) (by kernel_rfl) ?_
  rw [Try.ntmps21]
  have t1 : CRun Try.prog 36 [v.cv] σ (· = .ret (.iface 72 (i64 n)) σ) := hv ▸ term_c
  have t2 : CRun Try.prog 36 [v'.cv] σ (· = .ret (.iface 69 (i64 n')) σ) := hv' ▸ term_c
  clear hv hv'
  obtain ⟨vk, vn, vt, vl⟩ := v
  obtain ⟨vk', vn', vt', vl'⟩ := v'
  conv => whnf
  repeat' (first | (refine CallN.one t1 ?_) | (refine CallN.one t2 ?_) | (refine Need.mk n_bool_order ?_) | (refine MethN.of m_bool_order ?_) | (refine CallN.one (ord_bool_edge (a := n) (b := n') (s0 := s) (s := s') (m := m')) ?_) | refine OrdN.one ?_ | refine Fork.yp ?_ | refine Fork.np ?_ | refine Fork.ny ?_ | refine Fork.nn ?_ | refine Fork.yb ?_ | refine Fork.nb ?_ | refine Fork.dp (fun h => ?_) (fun h => ?_) | refine Fork.dn (fun h => ?_) (fun h => ?_)|(refine Fork.mk (fun h => ?_) (fun h => ?_) <;> simp only [decide_eq_true_eq, decide_eq_false_iff_not, Bool.not_eq_true', Bool.not_eq_false', Bool.or_eq_true, Bool.or_eq_false_iff] at h) | refine GetN.go ?_ | refine Need.ap1 ?_ | refine Need.ap0 ?_ | refine Need.go ?_ | refine Need.draw ?_ | refine ElemN.go ?_ | refine AllocN.go (fun l hl => ?_) | refine finGo ?_) <;> try (conv => whnf)
  rfl

theorem oo_bool_list {σ : Heap} {v v' : Val} {n n' r : Int} {s s' : ByteArray} {m m' : List CV} (hv : termV v = .iface 72 (i64 n)) (hv' : termV v' = .iface 70 (.vec m')) : CRun Try.prog 21 [v.cv, v'.cv] σ (· = .ret (i64 (intsF 4 2)) σ) := by
  refine crun_of (X := X) X_ok X_sat (body := bodyOf Try.f21) Try.func21 rfl (by kernel_rfl) (by kernel_rfl) ?_
  rw [Try.ntmps21]
  have t1 : CRun Try.prog 36 [v.cv] σ (· = .ret (.iface 72 (i64 n)) σ) := hv ▸ term_c
  have t2 : CRun Try.prog 36 [v'.cv] σ (· = .ret (.iface 70 (.vec m')) σ) := hv' ▸ term_c
  clear hv hv'
  obtain ⟨vk, vn, vt, vl⟩ := v
  obtain ⟨vk', vn', vt', vl'⟩ := v'
  conv => whnf
  repeat' (first | (refine CallN.one t1 ?_) | (refine CallN.one t2 ?_) | (refine Need.mk n_bool_order ?_) | (refine MethN.of m_bool_order ?_) | (refine CallN.one (ord_bool_list (a := n) (b := n') (s0 := s) (s := s') (m := m')) ?_) | refine OrdN.one ?_ | refine Fork.yp ?_ | refine Fork.np ?_ | refine Fork.ny ?_ | refine Fork.nn ?_ | refine Fork.yb ?_ | refine Fork.nb ?_ | refine Fork.dp (fun h => ?_) (fun h => ?_) | refine Fork.dn (fun h => ?_) (fun h => ?_)|(refine Fork.mk (fun h => ?_) (fun h => ?_) <;> simp only [decide_eq_true_eq, decide_eq_false_iff_not, Bool.not_eq_true', Bool.not_eq_false', Bool.or_eq_true, Bool.or_eq_false_iff] at h) | refine GetN.go ?_ | refine Need.ap1 ?_ | refine Need.ap0 ?_ | refine Need.go ?_ | refine Need.draw ?_ | refine ElemN.go ?_ | refine AllocN.go (fun l hl => ?_) | refine finGo ?_) <;> try (conv => whnf)
  rfl

theorem oo_bool_text {σ : Heap} {v v' : Val} {n n' r : Int} {s s' : ByteArray} {m m' : List CV} (hv : termV v = .iface 72 (i64 n)) (hv' : termV v' = .iface 71 (.sc (.string s'))) : CRun Try.prog 21 [v.cv, v'.cv] σ (· = .ret (i64 (intsF 4 3)) σ) := by
  refine crun_of (X := X) X_ok X_sat (body := bodyOf Try.f21) Try.func21 rfl (by kernel_rfl) (by kernel_rfl) ?_
  rw [Try.ntmps21]
  have t1 : CRun Try.prog 36 [v.cv] σ (· = .ret (.iface 72 (i64 n)) σ) := hv ▸ term_c
  have t2 : CRun Try.prog 36 [v'.cv] σ (· = .ret (.iface 71 (.sc (.string s'))) σ) := hv' ▸ term_c
  clear hv hv'
  obtain ⟨vk, vn, vt, vl⟩ := v
  obtain ⟨vk', vn', vt', vl'⟩ := v'
  conv => whnf
  repeat' (first | (refine CallN.one t1 ?_) | (refine CallN.one t2 ?_) | (refine Need.mk n_bool_order ?_) | (refine MethN.of m_bool_order ?_) | (refine CallN.one (ord_bool_text (a := n) (b := n') (s0 := s) (s := s') (m := m')) ?_) | refine OrdN.one ?_ | refine Fork.yp ?_ | refine Fork.np ?_ | refine Fork.ny ?_ | refine Fork.nn ?_ | refine Fork.yb ?_ | refine Fork.nb ?_ | refine Fork.dp (fun h => ?_) (fun h => ?_) | refine Fork.dn (fun h => ?_) (fun h => ?_)|(refine Fork.mk (fun h => ?_) (fun h => ?_) <;> simp only [decide_eq_true_eq, decide_eq_false_iff_not, Bool.not_eq_true', Bool.not_eq_false', Bool.or_eq_true, Bool.or_eq_false_iff] at h) | refine GetN.go ?_ | refine Need.ap1 ?_ | refine Need.ap0 ?_ | refine Need.go ?_ | refine Need.draw ?_ | refine ElemN.go ?_ | refine AllocN.go (fun l hl => ?_) | refine finGo ?_) <;> try (conv => whnf)
  rfl

theorem oo_bool_bool {σ : Heap} {v v' : Val} {n n' r : Int} {s s' : ByteArray} {m m' : List CV} (hv : termV v = .iface 72 (i64 n)) (hv' : termV v' = .iface 72 (i64 n')) : CRun Try.prog 21 [v.cv, v'.cv] σ (· = .ret (i64 (intsF n n')) σ) := by
  refine crun_of (X := X) X_ok X_sat (body := bodyOf Try.f21) Try.func21 rfl (by kernel_rfl) (by kernel_rfl) ?_
  rw [Try.ntmps21]
  have t1 : CRun Try.prog 36 [v.cv] σ (· = .ret (.iface 72 (i64 n)) σ) := hv ▸ term_c
  have t2 : CRun Try.prog 36 [v'.cv] σ (· = .ret (.iface 72 (i64 n')) σ) := hv' ▸ term_c
  clear hv hv'
  obtain ⟨vk, vn, vt, vl⟩ := v
  obtain ⟨vk', vn', vt', vl'⟩ := v'
  conv => whnf
  repeat' (first | (refine CallN.one t1 ?_) | (refine CallN.one t2 ?_) | (refine Need.mk n_bool_order ?_) | (refine MethN.of m_bool_order ?_) | (refine CallN.one (ord_bool_bool (a := n) (b := n') (s0 := s) (s := s') (m := m')) ?_) | refine OrdN.one ?_ | refine Fork.yp ?_ | refine Fork.np ?_ | refine Fork.ny ?_ | refine Fork.nn ?_ | refine Fork.yb ?_ | refine Fork.nb ?_ | refine Fork.dp (fun h => ?_) (fun h => ?_) | refine Fork.dn (fun h => ?_) (fun h => ?_)|(refine Fork.mk (fun h => ?_) (fun h => ?_) <;> simp only [decide_eq_true_eq, decide_eq_false_iff_not, Bool.not_eq_true', Bool.not_eq_false', Bool.or_eq_true, Bool.or_eq_false_iff] at h) | refine GetN.go ?_ | refine Need.ap1 ?_ | refine Need.ap0 ?_ | refine Need.go ?_ | refine Need.draw ?_ | refine ElemN.go ?_ | refine AllocN.go (fun l hl => ?_) | refine finGo ?_) <;> try (conv => whnf)
  rfl

theorem oo_bool_num {σ : Heap} {v v' : Val} {n n' r : Int} {s s' : ByteArray} {m m' : List CV} (hv : termV v = .iface 72 (i64 n)) (hv' : termV v' = .iface 73 (i64 n')) : CRun Try.prog 21 [v.cv, v'.cv] σ (· = .ret (i64 (intsF 4 5)) σ) := by
  refine crun_of (X := X) X_ok X_sat (body := bodyOf Try.f21) Try.func21 rfl (by kernel_rfl) (by kernel_rfl) ?_
  rw [Try.ntmps21]
  have t1 : CRun Try.prog 36 [v.cv] σ (· = .ret (.iface 72 (i64 n)) σ) := hv ▸ term_c
  have t2 : CRun Try.prog 36 [v'.cv] σ (· = .ret (.iface 73 (i64 n')) σ) := hv' ▸ term_c
  clear hv hv'
  obtain ⟨vk, vn, vt, vl⟩ := v
  obtain ⟨vk', vn', vt', vl'⟩ := v'
  conv => whnf
  repeat' (first | (refine CallN.one t1 ?_) | (refine CallN.one t2 ?_) | (refine Need.mk n_bool_order ?_) | (refine MethN.of m_bool_order ?_) | (refine CallN.one (ord_bool_num (a := n) (b := n') (s0 := s) (s := s') (m := m')) ?_) | refine OrdN.one ?_ | refine Fork.yp ?_ | refine Fork.np ?_ | refine Fork.ny ?_ | refine Fork.nn ?_ | refine Fork.yb ?_ | refine Fork.nb ?_ | refine Fork.dp (fun h => ?_) (fun h => ?_) | refine Fork.dn (fun h => ?_) (fun h => ?_)|(refine Fork.mk (fun h => ?_) (fun h => ?_) <;> simp only [decide_eq_true_eq, decide_eq_false_iff_not, Bool.not_eq_true', Bool.not_eq_false', Bool.or_eq_true, Bool.or_eq_false_iff] at h) | refine GetN.go ?_ | refine Need.ap1 ?_ | refine Need.ap0 ?_ | refine Need.go ?_ | refine Need.draw ?_ | refine ElemN.go ?_ | refine AllocN.go (fun l hl => ?_) | refine finGo ?_) <;> try (conv => whnf)
  rfl

theorem oo_bool_null {σ : Heap} {v v' : Val} {n n' r : Int} {s s' : ByteArray} {m m' : List CV} (hv : termV v = .iface 72 (i64 n)) (hv' : termV v' = .iface 75 (.agg [])) : CRun Try.prog 21 [v.cv, v'.cv] σ (· = .ret (i64 (intsF 4 6)) σ) := by
  refine crun_of (X := X) X_ok X_sat (body := bodyOf Try.f21) Try.func21 rfl (by kernel_rfl) (by kernel_rfl) ?_
  rw [Try.ntmps21]
  have t1 : CRun Try.prog 36 [v.cv] σ (· = .ret (.iface 72 (i64 n)) σ) := hv ▸ term_c
  have t2 : CRun Try.prog 36 [v'.cv] σ (· = .ret (.iface 75 (.agg [])) σ) := hv' ▸ term_c
  clear hv hv'
  obtain ⟨vk, vn, vt, vl⟩ := v
  obtain ⟨vk', vn', vt', vl'⟩ := v'
  conv => whnf
  repeat' (first | (refine CallN.one t1 ?_) | (refine CallN.one t2 ?_) | (refine Need.mk n_bool_order ?_) | (refine MethN.of m_bool_order ?_) | (refine CallN.one (ord_bool_null (a := n) (b := n') (s0 := s) (s := s') (m := m')) ?_) | refine OrdN.one ?_ | refine Fork.yp ?_ | refine Fork.np ?_ | refine Fork.ny ?_ | refine Fork.nn ?_ | refine Fork.yb ?_ | refine Fork.nb ?_ | refine Fork.dp (fun h => ?_) (fun h => ?_) | refine Fork.dn (fun h => ?_) (fun h => ?_)|(refine Fork.mk (fun h => ?_) (fun h => ?_) <;> simp only [decide_eq_true_eq, decide_eq_false_iff_not, Bool.not_eq_true', Bool.not_eq_false', Bool.or_eq_true, Bool.or_eq_false_iff] at h) | refine GetN.go ?_ | refine Need.ap1 ?_ | refine Need.ap0 ?_ | refine Need.go ?_ | refine Need.draw ?_ | refine ElemN.go ?_ | refine AllocN.go (fun l hl => ?_) | refine finGo ?_) <;> try (conv => whnf)
  rfl

theorem oo_num_node {σ : Heap} {v v' : Val} {n n' r : Int} {s s' : ByteArray} {m m' : List CV} (hv : termV v = .iface 73 (i64 n)) (hv' : termV v' = .iface 68 (i64 n')) : CRun Try.prog 21 [v.cv, v'.cv] σ (· = .ret (i64 (intsF 5 0)) σ) := by
  refine crun_of (X := X) X_ok X_sat (body := bodyOf Try.f21) Try.func21 rfl (by kernel_rfl) (by kernel_rfl) ?_
  rw [Try.ntmps21]
  have t1 : CRun Try.prog 36 [v.cv] σ (· = .ret (.iface 73 (i64 n)) σ) := hv ▸ term_c
  have t2 : CRun Try.prog 36 [v'.cv] σ (· = .ret (.iface 68 (i64 n')) σ) := hv' ▸ term_c
  clear hv hv'
  obtain ⟨vk, vn, vt, vl⟩ := v
  obtain ⟨vk', vn', vt', vl'⟩ := v'
  conv => whnf
  repeat' (first | (refine CallN.one t1 ?_) | (refine CallN.one t2 ?_) | (refine Need.mk n_num_order ?_) | (refine MethN.of m_num_order ?_) | (refine CallN.one (ord_num_node (a := n) (b := n') (s0 := s) (s := s') (m := m')) ?_) | refine OrdN.one ?_ | refine Fork.yp ?_ | refine Fork.np ?_ | refine Fork.ny ?_ | refine Fork.nn ?_ | refine Fork.yb ?_ | refine Fork.nb ?_ | refine Fork.dp (fun h => ?_) (fun h => ?_) | refine Fork.dn (fun h => ?_) (fun h => ?_)|(refine Fork.mk (fun h => ?_) (fun h => ?_) <;> simp only [decide_eq_true_eq, decide_eq_false_iff_not, Bool.not_eq_true', Bool.not_eq_false', Bool.or_eq_true, Bool.or_eq_false_iff] at h) | refine GetN.go ?_ | refine Need.ap1 ?_ | refine Need.ap0 ?_ | refine Need.go ?_ | refine Need.draw ?_ | refine ElemN.go ?_ | refine AllocN.go (fun l hl => ?_) | refine finGo ?_) <;> try (conv => whnf)
  rfl

theorem oo_num_edge {σ : Heap} {v v' : Val} {n n' r : Int} {s s' : ByteArray} {m m' : List CV} (hv : termV v = .iface 73 (i64 n)) (hv' : termV v' = .iface 69 (i64 n')) : CRun Try.prog 21 [v.cv, v'.cv] σ (· = .ret (i64 (intsF 5 1)) σ) := by
  refine crun_of (X := X) X_ok X_sat (body := bodyOf Try.f21) Try.func21 rfl (by kernel_rfl) (by kernel_rfl) ?_
  rw [Try.ntmps21]
  have t1 : CRun Try.prog 36 [v.cv] σ (· = .ret (.iface 73 (i64 n)) σ) := hv ▸ term_c
  have t2 : CRun Try.prog 36 [v'.cv] σ (· = .ret (.iface 69 (i64 n')) σ) := hv' ▸ term_c
  clear hv hv'
  obtain ⟨vk, vn, vt, vl⟩ := v
  obtain ⟨vk', vn', vt', vl'⟩ := v'
  conv => whnf
  repeat' (first | (refine CallN.one t1 ?_) | (refine CallN.one t2 ?_) | (refine Need.mk n_num_order ?_) | (refine MethN.of m_num_order ?_) | (refine CallN.one (ord_num_edge (a := n) (b := n') (s0 := s) (s := s') (m := m')) ?_) | refine OrdN.one ?_ | refine Fork.yp ?_ | refine Fork.np ?_ | refine Fork.ny ?_ | refine Fork.nn ?_ | refine Fork.yb ?_ | refine Fork.nb ?_ | refine Fork.dp (fun h => ?_) (fun h => ?_) | refine Fork.dn (fun h => ?_) (fun h => ?_)|(refine Fork.mk (fun h => ?_) (fun h => ?_) <;> simp only [decide_eq_true_eq, decide_eq_false_iff_not, Bool.not_eq_true', Bool.not_eq_false', Bool.or_eq_true, Bool.or_eq_false_iff] at h) | refine GetN.go ?_ | refine Need.ap1 ?_ | refine Need.ap0 ?_ | refine Need.go ?_ | refine Need.draw ?_ | refine ElemN.go ?_ | refine AllocN.go (fun l hl => ?_) | refine finGo ?_) <;> try (conv => whnf)
  rfl

theorem oo_num_list {σ : Heap} {v v' : Val} {n n' r : Int} {s s' : ByteArray} {m m' : List CV} (hv : termV v = .iface 73 (i64 n)) (hv' : termV v' = .iface 70 (.vec m')) : CRun Try.prog 21 [v.cv, v'.cv] σ (· = .ret (i64 (intsF 5 2)) σ) := by
  refine crun_of (X := X) X_ok X_sat (body := bodyOf Try.f21) Try.func21 rfl (by kernel_rfl) (by kernel_rfl) ?_
  rw [Try.ntmps21]
  have t1 : CRun Try.prog 36 [v.cv] σ (· = .ret (.iface 73 (i64 n)) σ) := hv ▸ term_c
  have t2 : CRun Try.prog 36 [v'.cv] σ (· = .ret (.iface 70 (.vec m')) σ) := hv' ▸ term_c
  clear hv hv'
  obtain ⟨vk, vn, vt, vl⟩ := v
  obtain ⟨vk', vn', vt', vl'⟩ := v'
  conv => whnf
  repeat' (first | (refine CallN.one t1 ?_) | (refine CallN.one t2 ?_) | (refine Need.mk n_num_order ?_) | (refine MethN.of m_num_order ?_) | (refine CallN.one (ord_num_list (a := n) (b := n') (s0 := s) (s := s') (m := m')) ?_) | refine OrdN.one ?_ | refine Fork.yp ?_ | refine Fork.np ?_ | refine Fork.ny ?_ | refine Fork.nn ?_ | refine Fork.yb ?_ | refine Fork.nb ?_ | refine Fork.dp (fun h => ?_) (fun h => ?_) | refine Fork.dn (fun h => ?_) (fun h => ?_)|(refine Fork.mk (fun h => ?_) (fun h => ?_) <;> simp only [decide_eq_true_eq, decide_eq_false_iff_not, Bool.not_eq_true', Bool.not_eq_false', Bool.or_eq_true, Bool.or_eq_false_iff] at h) | refine GetN.go ?_ | refine Need.ap1 ?_ | refine Need.ap0 ?_ | refine Need.go ?_ | refine Need.draw ?_ | refine ElemN.go ?_ | refine AllocN.go (fun l hl => ?_) | refine finGo ?_) <;> try (conv => whnf)
  rfl

theorem oo_num_text {σ : Heap} {v v' : Val} {n n' r : Int} {s s' : ByteArray} {m m' : List CV} (hv : termV v = .iface 73 (i64 n)) (hv' : termV v' = .iface 71 (.sc (.string s'))) : CRun Try.prog 21 [v.cv, v'.cv] σ (· = .ret (i64 (intsF 5 3)) σ) := by
  refine crun_of (X := X) X_ok X_sat (body := bodyOf Try.f21) Try.func21 rfl (by kernel_rfl) (by kernel_rfl) ?_
  rw [Try.ntmps21]
  have t1 : CRun Try.prog 36 [v.cv] σ (· = .ret (.iface 73 (i64 n)) σ) := hv ▸ term_c
  have t2 : CRun Try.prog 36 [v'.cv] σ (· = .ret (.iface 71 (.sc (.string s'))) σ) := hv' ▸ term_c
  clear hv hv'
  obtain ⟨vk, vn, vt, vl⟩ := v
  obtain ⟨vk', vn', vt', vl'⟩ := v'
  conv => whnf
  repeat' (first | (refine CallN.one t1 ?_) | (refine CallN.one t2 ?_) | (refine Need.mk n_num_order ?_) | (refine MethN.of m_num_order ?_) | (refine CallN.one (ord_num_text (a := n) (b := n') (s0 := s) (s := s') (m := m')) ?_) | refine OrdN.one ?_ | refine Fork.yp ?_ | refine Fork.np ?_ | refine Fork.ny ?_ | refine Fork.nn ?_ | refine Fork.yb ?_ | refine Fork.nb ?_ | refine Fork.dp (fun h => ?_) (fun h => ?_) | refine Fork.dn (fun h => ?_) (fun h => ?_)|(refine Fork.mk (fun h => ?_) (fun h => ?_) <;> simp only [decide_eq_true_eq, decide_eq_false_iff_not, Bool.not_eq_true', Bool.not_eq_false', Bool.or_eq_true, Bool.or_eq_false_iff] at h) | refine GetN.go ?_ | refine Need.ap1 ?_ | refine Need.ap0 ?_ | refine Need.go ?_ | refine Need.draw ?_ | refine ElemN.go ?_ | refine AllocN.go (fun l hl => ?_) | refine finGo ?_) <;> try (conv => whnf)
  rfl

theorem oo_num_bool {σ : Heap} {v v' : Val} {n n' r : Int} {s s' : ByteArray} {m m' : List CV} (hv : termV v = .iface 73 (i64 n)) (hv' : termV v' = .iface 72 (i64 n')) : CRun Try.prog 21 [v.cv, v'.cv] σ (· = .ret (i64 (intsF 5 4)) σ) := by
  refine crun_of (X := X) X_ok X_sat (body := bodyOf Try.f21) Try.func21 rfl (by kernel_rfl) (by kernel_rfl) ?_
  rw [Try.ntmps21]
  have t1 : CRun Try.prog 36 [v.cv] σ (· = .ret (.iface 73 (i64 n)) σ) := hv ▸ term_c
  have t2 : CRun Try.prog 36 [v'.cv] σ (· = .ret (.iface 72 (i64 n')) σ) := hv' ▸ term_c
  clear hv hv'
  obtain ⟨vk, vn, vt, vl⟩ := v
  obtain ⟨vk', vn', vt', vl'⟩ := v'
  conv => whnf
  repeat' (first | (refine CallN.one t1 ?_) | (refine CallN.one t2 ?_) | (refine Need.mk n_num_order ?_) | (refine MethN.of m_num_order ?_) | (refine CallN.one (ord_num_bool (a := n) (b := n') (s0 := s) (s := s') (m := m')) ?_) | refine OrdN.one ?_ | refine Fork.yp ?_ | refine Fork.np ?_ | refine Fork.ny ?_ | refine Fork.nn ?_ | refine Fork.yb ?_ | refine Fork.nb ?_ | refine Fork.dp (fun h => ?_) (fun h => ?_) | refine Fork.dn (fun h => ?_) (fun h => ?_)|(refine Fork.mk (fun h => ?_) (fun h => ?_) <;> simp only [decide_eq_true_eq, decide_eq_false_iff_not, Bool.not_eq_true', Bool.not_eq_false', Bool.or_eq_true, Bool.or_eq_false_iff] at h) | refine GetN.go ?_ | refine Need.ap1 ?_ | refine Need.ap0 ?_ | refine Need.go ?_ | refine Need.draw ?_ | refine ElemN.go ?_ | refine AllocN.go (fun l hl => ?_) | refine finGo ?_) <;> try (conv => whnf)
  rfl

theorem oo_num_num {σ : Heap} {v v' : Val} {n n' r : Int} {s s' : ByteArray} {m m' : List CV} (hv : termV v = .iface 73 (i64 n)) (hv' : termV v' = .iface 73 (i64 n')) : CRun Try.prog 21 [v.cv, v'.cv] σ (· = .ret (i64 (intsF n n')) σ) := by
  refine crun_of (X := X) X_ok X_sat (body := bodyOf Try.f21) Try.func21 rfl (by kernel_rfl) (by kernel_rfl) ?_
  rw [Try.ntmps21]
  have t1 : CRun Try.prog 36 [v.cv] σ (· = .ret (.iface 73 (i64 n)) σ) := hv ▸ term_c
  have t2 : CRun Try.prog 36 [v'.cv] σ (· = .ret (.iface 73 (i64 n')) σ) := hv' ▸ term_c
  clear hv hv'
  obtain ⟨vk, vn, vt, vl⟩ := v
  obtain ⟨vk', vn', vt', vl'⟩ := v'
  conv => whnf
  repeat' (first | (refine CallN.one t1 ?_) | (refine CallN.one t2 ?_) | (refine Need.mk n_num_order ?_) | (refine MethN.of m_num_order ?_) | (refine CallN.one (ord_num_num (a := n) (b := n') (s0 := s) (s := s') (m := m')) ?_) | refine OrdN.one ?_ | refine Fork.yp ?_ | refine Fork.np ?_ | refine Fork.ny ?_ | refine Fork.nn ?_ | refine Fork.yb ?_ | refine Fork.nb ?_ | refine Fork.dp (fun h => ?_) (fun h => ?_) | refine Fork.dn (fun h => ?_) (fun h => ?_)|(refine Fork.mk (fun h => ?_) (fun h => ?_) <;> simp only [decide_eq_true_eq, decide_eq_false_iff_not, Bool.not_eq_true', Bool.not_eq_false', Bool.or_eq_true, Bool.or_eq_false_iff] at h) | refine GetN.go ?_ | refine Need.ap1 ?_ | refine Need.ap0 ?_ | refine Need.go ?_ | refine Need.draw ?_ | refine ElemN.go ?_ | refine AllocN.go (fun l hl => ?_) | refine finGo ?_) <;> try (conv => whnf)
  rfl

theorem oo_num_null {σ : Heap} {v v' : Val} {n n' r : Int} {s s' : ByteArray} {m m' : List CV} (hv : termV v = .iface 73 (i64 n)) (hv' : termV v' = .iface 75 (.agg [])) : CRun Try.prog 21 [v.cv, v'.cv] σ (· = .ret (i64 (intsF 5 6)) σ) := by
  refine crun_of (X := X) X_ok X_sat (body := bodyOf Try.f21) Try.func21 rfl (by kernel_rfl) (by kernel_rfl) ?_
  rw [Try.ntmps21]
  have t1 : CRun Try.prog 36 [v.cv] σ (· = .ret (.iface 73 (i64 n)) σ) := hv ▸ term_c
  have t2 : CRun Try.prog 36 [v'.cv] σ (· = .ret (.iface 75 (.agg [])) σ) := hv' ▸ term_c
  clear hv hv'
  obtain ⟨vk, vn, vt, vl⟩ := v
  obtain ⟨vk', vn', vt', vl'⟩ := v'
  conv => whnf
  repeat' (first | (refine CallN.one t1 ?_) | (refine CallN.one t2 ?_) | (refine Need.mk n_num_order ?_) | (refine MethN.of m_num_order ?_) | (refine CallN.one (ord_num_null (a := n) (b := n') (s0 := s) (s := s') (m := m')) ?_) | refine OrdN.one ?_ | refine Fork.yp ?_ | refine Fork.np ?_ | refine Fork.ny ?_ | refine Fork.nn ?_ | refine Fork.yb ?_ | refine Fork.nb ?_ | refine Fork.dp (fun h => ?_) (fun h => ?_) | refine Fork.dn (fun h => ?_) (fun h => ?_)|(refine Fork.mk (fun h => ?_) (fun h => ?_) <;> simp only [decide_eq_true_eq, decide_eq_false_iff_not, Bool.not_eq_true', Bool.not_eq_false', Bool.or_eq_true, Bool.or_eq_false_iff] at h) | refine GetN.go ?_ | refine Need.ap1 ?_ | refine Need.ap0 ?_ | refine Need.go ?_ | refine Need.draw ?_ | refine ElemN.go ?_ | refine AllocN.go (fun l hl => ?_) | refine finGo ?_) <;> try (conv => whnf)
  rfl

theorem oo_null_node {σ : Heap} {v v' : Val} {n n' r : Int} {s s' : ByteArray} {m m' : List CV} (hv : termV v = .iface 75 (.agg [])) (hv' : termV v' = .iface 68 (i64 n')) : CRun Try.prog 21 [v.cv, v'.cv] σ (· = .ret (i64 (intsF 6 0)) σ) := by
  refine crun_of (X := X) X_ok X_sat (body := bodyOf Try.f21) Try.func21 rfl (by kernel_rfl) (by kernel_rfl) ?_
  rw [Try.ntmps21]
  have t1 : CRun Try.prog 36 [v.cv] σ (· = .ret (.iface 75 (.agg [])) σ) := hv ▸ term_c
  have t2 : CRun Try.prog 36 [v'.cv] σ (· = .ret (.iface 68 (i64 n')) σ) := hv' ▸ term_c
  clear hv hv'
  obtain ⟨vk, vn, vt, vl⟩ := v
  obtain ⟨vk', vn', vt', vl'⟩ := v'
  conv => whnf
  repeat' (first | (refine CallN.one t1 ?_) | (refine CallN.one t2 ?_) | (refine Need.mk n_null_order ?_) | (refine MethN.of m_null_order ?_) | (refine CallN.one (ord_null_node (a := n) (b := n') (s0 := s) (s := s') (m := m')) ?_) | refine OrdN.one ?_ | refine Fork.yp ?_ | refine Fork.np ?_ | refine Fork.ny ?_ | refine Fork.nn ?_ | refine Fork.yb ?_ | refine Fork.nb ?_ | refine Fork.dp (fun h => ?_) (fun h => ?_) | refine Fork.dn (fun h => ?_) (fun h => ?_)|(refine Fork.mk (fun h => ?_) (fun h => ?_) <;> simp only [decide_eq_true_eq, decide_eq_false_iff_not, Bool.not_eq_true', Bool.not_eq_false', Bool.or_eq_true, Bool.or_eq_false_iff] at h) | refine GetN.go ?_ | refine Need.ap1 ?_ | refine Need.ap0 ?_ | refine Need.go ?_ | refine Need.draw ?_ | refine ElemN.go ?_ | refine AllocN.go (fun l hl => ?_) | refine finGo ?_) <;> try (conv => whnf)
  rfl

theorem oo_null_edge {σ : Heap} {v v' : Val} {n n' r : Int} {s s' : ByteArray} {m m' : List CV} (hv : termV v = .iface 75 (.agg [])) (hv' : termV v' = .iface 69 (i64 n')) : CRun Try.prog 21 [v.cv, v'.cv] σ (· = .ret (i64 (intsF 6 1)) σ) := by
  refine crun_of (X := X) X_ok X_sat (body := bodyOf Try.f21) Try.func21 rfl (by kernel_rfl) (by kernel_rfl) ?_
  rw [Try.ntmps21]
  have t1 : CRun Try.prog 36 [v.cv] σ (· = .ret (.iface 75 (.agg [])) σ) := hv ▸ term_c
  have t2 : CRun Try.prog 36 [v'.cv] σ (· = .ret (.iface 69 (i64 n')) σ) := hv' ▸ term_c
  clear hv hv'
  obtain ⟨vk, vn, vt, vl⟩ := v
  obtain ⟨vk', vn', vt', vl'⟩ := v'
  conv => whnf
  repeat' (first | (refine CallN.one t1 ?_) | (refine CallN.one t2 ?_) | (refine Need.mk n_null_order ?_) | (refine MethN.of m_null_order ?_) | (refine CallN.one (ord_null_edge (a := n) (b := n') (s0 := s) (s := s') (m := m')) ?_) | refine OrdN.one ?_ | refine Fork.yp ?_ | refine Fork.np ?_ | refine Fork.ny ?_ | refine Fork.nn ?_ | refine Fork.yb ?_ | refine Fork.nb ?_ | refine Fork.dp (fun h => ?_) (fun h => ?_) | refine Fork.dn (fun h => ?_) (fun h => ?_)|(refine Fork.mk (fun h => ?_) (fun h => ?_) <;> simp only [decide_eq_true_eq, decide_eq_false_iff_not, Bool.not_eq_true', Bool.not_eq_false', Bool.or_eq_true, Bool.or_eq_false_iff] at h) | refine GetN.go ?_ | refine Need.ap1 ?_ | refine Need.ap0 ?_ | refine Need.go ?_ | refine Need.draw ?_ | refine ElemN.go ?_ | refine AllocN.go (fun l hl => ?_) | refine finGo ?_) <;> try (conv => whnf)
  rfl

theorem oo_null_list {σ : Heap} {v v' : Val} {n n' r : Int} {s s' : ByteArray} {m m' : List CV} (hv : termV v = .iface 75 (.agg [])) (hv' : termV v' = .iface 70 (.vec m')) : CRun Try.prog 21 [v.cv, v'.cv] σ (· = .ret (i64 (intsF 6 2)) σ) := by
  refine crun_of (X := X) X_ok X_sat (body := bodyOf Try.f21) Try.func21 rfl (by kernel_rfl) (by kernel_rfl) ?_
  rw [Try.ntmps21]
  have t1 : CRun Try.prog 36 [v.cv] σ (· = .ret (.iface 75 (.agg [])) σ) := hv ▸ term_c
  have t2 : CRun Try.prog 36 [v'.cv] σ (· = .ret (.iface 70 (.vec m')) σ) := hv' ▸ term_c
  clear hv hv'
  obtain ⟨vk, vn, vt, vl⟩ := v
  obtain ⟨vk', vn', vt', vl'⟩ := v'
  conv => whnf
  repeat' (first | (refine CallN.one t1 ?_) | (refine CallN.one t2 ?_) | (refine Need.mk n_null_order ?_) | (refine MethN.of m_null_order ?_) | (refine CallN.one (ord_null_list (a := n) (b := n') (s0 := s) (s := s') (m := m')) ?_) | refine OrdN.one ?_ | refine Fork.yp ?_ | refine Fork.np ?_ | refine Fork.ny ?_ | refine Fork.nn ?_ | refine Fork.yb ?_ | refine Fork.nb ?_ | refine Fork.dp (fun h => ?_) (fun h => ?_) | refine Fork.dn (fun h => ?_) (fun h => ?_)|(refine Fork.mk (fun h => ?_) (fun h => ?_) <;> simp only [decide_eq_true_eq, decide_eq_false_iff_not, Bool.not_eq_true', Bool.not_eq_false', Bool.or_eq_true, Bool.or_eq_false_iff] at h) | refine GetN.go ?_ | refine Need.ap1 ?_ | refine Need.ap0 ?_ | refine Need.go ?_ | refine Need.draw ?_ | refine ElemN.go ?_ | refine AllocN.go (fun l hl => ?_) | refine finGo ?_) <;> try (conv => whnf)
  rfl

theorem oo_null_text {σ : Heap} {v v' : Val} {n n' r : Int} {s s' : ByteArray} {m m' : List CV} (hv : termV v = .iface 75 (.agg [])) (hv' : termV v' = .iface 71 (.sc (.string s'))) : CRun Try.prog 21 [v.cv, v'.cv] σ (· = .ret (i64 (intsF 6 3)) σ) := by
  refine crun_of (X := X) X_ok X_sat (body := bodyOf Try.f21) Try.func21 rfl (by kernel_rfl) (by kernel_rfl) ?_
  rw [Try.ntmps21]
  have t1 : CRun Try.prog 36 [v.cv] σ (· = .ret (.iface 75 (.agg [])) σ) := hv ▸ term_c
  have t2 : CRun Try.prog 36 [v'.cv] σ (· = .ret (.iface 71 (.sc (.string s'))) σ) := hv' ▸ term_c
  clear hv hv'
  obtain ⟨vk, vn, vt, vl⟩ := v
  obtain ⟨vk', vn', vt', vl'⟩ := v'
  conv => whnf
  repeat' (first | (refine CallN.one t1 ?_) | (refine CallN.one t2 ?_) | (refine Need.mk n_null_order ?_) | (refine MethN.of m_null_order ?_) | (refine CallN.one (ord_null_text (a := n) (b := n') (s0 := s) (s := s') (m := m')) ?_) | refine OrdN.one ?_ | refine Fork.yp ?_ | refine Fork.np ?_ | refine Fork.ny ?_ | refine Fork.nn ?_ | refine Fork.yb ?_ | refine Fork.nb ?_ | refine Fork.dp (fun h => ?_) (fun h => ?_) | refine Fork.dn (fun h => ?_) (fun h => ?_)|(refine Fork.mk (fun h => ?_) (fun h => ?_) <;> simp only [decide_eq_true_eq, decide_eq_false_iff_not, Bool.not_eq_true', Bool.not_eq_false', Bool.or_eq_true, Bool.or_eq_false_iff] at h) | refine GetN.go ?_ | refine Need.ap1 ?_ | refine Need.ap0 ?_ | refine Need.go ?_ | refine Need.draw ?_ | refine ElemN.go ?_ | refine AllocN.go (fun l hl => ?_) | refine finGo ?_) <;> try (conv => whnf)
  rfl

theorem oo_null_bool {σ : Heap} {v v' : Val} {n n' r : Int} {s s' : ByteArray} {m m' : List CV} (hv : termV v = .iface 75 (.agg [])) (hv' : termV v' = .iface 72 (i64 n')) : CRun Try.prog 21 [v.cv, v'.cv] σ (· = .ret (i64 (intsF 6 4)) σ) := by
  refine crun_of (X := X) X_ok X_sat (body := bodyOf Try.f21) Try.func21 rfl (by kernel_rfl) (by kernel_rfl) ?_
  rw [Try.ntmps21]
  have t1 : CRun Try.prog 36 [v.cv] σ (· = .ret (.iface 75 (.agg [])) σ) := hv ▸ term_c
  have t2 : CRun Try.prog 36 [v'.cv] σ (· = .ret (.iface 72 (i64 n')) σ) := hv' ▸ term_c
  clear hv hv'
  obtain ⟨vk, vn, vt, vl⟩ := v
  obtain ⟨vk', vn', vt', vl'⟩ := v'
  conv => whnf
  repeat' (first | (refine CallN.one t1 ?_) | (refine CallN.one t2 ?_) | (refine Need.mk n_null_order ?_) | (refine MethN.of m_null_order ?_) | (refine CallN.one (ord_null_bool (a := n) (b := n') (s0 := s) (s := s') (m := m')) ?_) | refine OrdN.one ?_ | refine Fork.yp ?_ | refine Fork.np ?_ | refine Fork.ny ?_ | refine Fork.nn ?_ | refine Fork.yb ?_ | refine Fork.nb ?_ | refine Fork.dp (fun h => ?_) (fun h => ?_) | refine Fork.dn (fun h => ?_) (fun h => ?_)|(refine Fork.mk (fun h => ?_) (fun h => ?_) <;> simp only [decide_eq_true_eq, decide_eq_false_iff_not, Bool.not_eq_true', Bool.not_eq_false', Bool.or_eq_true, Bool.or_eq_false_iff] at h) | refine GetN.go ?_ | refine Need.ap1 ?_ | refine Need.ap0 ?_ | refine Need.go ?_ | refine Need.draw ?_ | refine ElemN.go ?_ | refine AllocN.go (fun l hl => ?_) | refine finGo ?_) <;> try (conv => whnf)
  rfl

theorem oo_null_num {σ : Heap} {v v' : Val} {n n' r : Int} {s s' : ByteArray} {m m' : List CV} (hv : termV v = .iface 75 (.agg [])) (hv' : termV v' = .iface 73 (i64 n')) : CRun Try.prog 21 [v.cv, v'.cv] σ (· = .ret (i64 (intsF 6 5)) σ) := by
  refine crun_of (X := X) X_ok X_sat (body := bodyOf Try.f21) Try.func21 rfl (by kernel_rfl) (by kernel_rfl) ?_
  rw [Try.ntmps21]
  have t1 : CRun Try.prog 36 [v.cv] σ (· = .ret (.iface 75 (.agg [])) σ) := hv ▸ term_c
  have t2 : CRun Try.prog 36 [v'.cv] σ (· = .ret (.iface 73 (i64 n')) σ) := hv' ▸ term_c
  clear hv hv'
  obtain ⟨vk, vn, vt, vl⟩ := v
  obtain ⟨vk', vn', vt', vl'⟩ := v'
  conv => whnf
  repeat' (first | (refine CallN.one t1 ?_) | (refine CallN.one t2 ?_) | (refine Need.mk n_null_order ?_) | (refine MethN.of m_null_order ?_) | (refine CallN.one (ord_null_num (a := n) (b := n') (s0 := s) (s := s') (m := m')) ?_) | refine OrdN.one ?_ | refine Fork.yp ?_ | refine Fork.np ?_ | refine Fork.ny ?_ | refine Fork.nn ?_ | refine Fork.yb ?_ | refine Fork.nb ?_ | refine Fork.dp (fun h => ?_) (fun h => ?_) | refine Fork.dn (fun h => ?_) (fun h => ?_)|(refine Fork.mk (fun h => ?_) (fun h => ?_) <;> simp only [decide_eq_true_eq, decide_eq_false_iff_not, Bool.not_eq_true', Bool.not_eq_false', Bool.or_eq_true, Bool.or_eq_false_iff] at h) | refine GetN.go ?_ | refine Need.ap1 ?_ | refine Need.ap0 ?_ | refine Need.go ?_ | refine Need.draw ?_ | refine ElemN.go ?_ | refine AllocN.go (fun l hl => ?_) | refine finGo ?_) <;> try (conv => whnf)
  rfl

theorem oo_null_null {σ : Heap} {v v' : Val} {n n' r : Int} {s s' : ByteArray} {m m' : List CV} (hv : termV v = .iface 75 (.agg [])) (hv' : termV v' = .iface 75 (.agg [])) : CRun Try.prog 21 [v.cv, v'.cv] σ (· = .ret (i64 (intsF 6 6)) σ) := by
  refine crun_of (X := X) X_ok X_sat (body := bodyOf Try.f21) Try.func21 rfl (by kernel_rfl) (by kernel_rfl) ?_
  rw [Try.ntmps21]
  have t1 : CRun Try.prog 36 [v.cv] σ (· = .ret (.iface 75 (.agg [])) σ) := hv ▸ term_c
  have t2 : CRun Try.prog 36 [v'.cv] σ (· = .ret (.iface 75 (.agg [])) σ) := hv' ▸ term_c
  clear hv hv'
  obtain ⟨vk, vn, vt, vl⟩ := v
  obtain ⟨vk', vn', vt', vl'⟩ := v'
  conv => whnf
  repeat' (first | (refine CallN.one t1 ?_) | (refine CallN.one t2 ?_) | (refine Need.mk n_null_order ?_) | (refine MethN.of m_null_order ?_) | (refine CallN.one (ord_null_null (a := n) (b := n') (s0 := s) (s := s') (m := m')) ?_) | refine OrdN.one ?_ | refine Fork.yp ?_ | refine Fork.np ?_ | refine Fork.ny ?_ | refine Fork.nn ?_ | refine Fork.yb ?_ | refine Fork.nb ?_ | refine Fork.dp (fun h => ?_) (fun h => ?_) | refine Fork.dn (fun h => ?_) (fun h => ?_)|(refine Fork.mk (fun h => ?_) (fun h => ?_) <;> simp only [decide_eq_true_eq, decide_eq_false_iff_not, Bool.not_eq_true', Bool.not_eq_false', Bool.or_eq_true, Bool.or_eq_false_iff] at h) | refine GetN.go ?_ | refine Need.ap1 ?_ | refine Need.ap0 ?_ | refine Need.go ?_ | refine Need.draw ?_ | refine ElemN.go ?_ | refine AllocN.go (fun l hl => ?_) | refine finGo ?_) <;> try (conv => whnf)
  rfl
end Go.Proofs.Ytjmgkhkpjffpbaa
namespace Go.Proofs.Ytjmgkhkpjffpbaa
open Go Go.CL
set_option maxRecDepth 10000
set_option linter.unusedVariables false
set_option linter.unusedSimpArgs false

theorem term_cases (k n : Int) (t : ByteArray) (l : List Val) :
    (k = 5 ∧ rankI k = 0 ∧ termV (.mk k n t l) = .iface 68 (i64 n)) ∨
    (k = 6 ∧ rankI k = 1 ∧ termV (.mk k n t l) = .iface 69 (i64 n)) ∨
    (k = 4 ∧ rankI k = 2 ∧ termV (.mk k n t l) = .iface 70 (.vec (Val.cvs l))) ∨
    (k = 3 ∧ rankI k = 3 ∧ termV (.mk k n t l) = .iface 71 (.sc (.string t))) ∨
    (k = 1 ∧ rankI k = 4 ∧ termV (.mk k n t l) = .iface 72 (i64 n)) ∨
    (k = 2 ∧ rankI k = 5 ∧ termV (.mk k n t l) = .iface 73 (i64 n)) ∨
    ((k ≠ 4 ∧ k ≠ 3) ∧ rankI k = 6 ∧ termV (.mk k n t l) = .iface 75 (.agg [])) := by
  by_cases h5 : k = 5
  · subst h5; exact .inl ⟨rfl, rfl, rfl⟩
  by_cases h6 : k = 6
  · subst h6; exact .inr (.inl ⟨rfl, rfl, rfl⟩)
  by_cases h4 : k = 4
  · subst h4; exact .inr (.inr (.inl ⟨rfl, rfl, rfl⟩))
  by_cases h3 : k = 3
  · subst h3; exact .inr (.inr (.inr (.inl ⟨rfl, rfl, rfl⟩)))
  by_cases h1 : k = 1
  · subst h1; exact .inr (.inr (.inr (.inr (.inl ⟨rfl, rfl, rfl⟩))))
  by_cases h2 : k = 2
  · subst h2; exact .inr (.inr (.inr (.inr (.inr (.inl ⟨rfl, rfl, rfl⟩)))))
  · refine .inr (.inr (.inr (.inr (.inr (.inr ⟨⟨h4, h3⟩, ?_, ?_⟩)))))
    · unfold rankI; rw [if_neg h5, if_neg h6, if_neg h4, if_neg h3, if_neg h1, if_neg h2]
    · simp only [termV]; rw [if_neg h5, if_neg h6, if_neg h4, if_neg h3, if_neg h1, if_neg h2]

theorem fin {f : FuncId} {args : List CV} {σ : Heap} {r q : Int} (h : CRun Try.prog f args σ (· = .ret (i64 r) σ)) (e : q = r) : CRun Try.prog f args σ (· = .ret (i64 q) σ) := e ▸ h

theorem orderOf_c {σ : Heap} {v : Val} (hv : Tame v) : ∀ {v' : Val}, Tame v' → CRun Try.prog 21 [v.cv, v'.cv] σ (· = .ret (i64 (ordI v v')) σ) := by
  induction hv with
  | @mk k n t l hk hn ht hl h ih =>
    intro v' hv'
    obtain ⟨k', n', t', l'⟩ := v'
    obtain ⟨b1, b2, b3, b4, b5⟩ := hv'.inv
    have hll := ord_list_list hl b4 b5 ih
    rcases term_cases k n t l with ⟨e1, r1, h1⟩ | ⟨e1, r1, h1⟩ | ⟨e1, r1, h1⟩ | ⟨e1, r1, h1⟩ | ⟨e1, r1, h1⟩ | ⟨e1, r1, h1⟩ | ⟨e1, r1, h1⟩
    · rcases term_cases k' n' t' l' with ⟨e2, r2, h2⟩ | ⟨e2, r2, h2⟩ | ⟨e2, r2, h2⟩ | ⟨e2, r2, h2⟩ | ⟨e2, r2, h2⟩ | ⟨e2, r2, h2⟩ | ⟨e2, r2, h2⟩
      · exact fin (oo_node_node (n := n) (n' := n') (r := ordIL l l') (s := t) (s' := t') (m := Val.cvs l) (m' := Val.cvs l') h1 h2) (by simp only [ordI]; rw [if_neg (by rw [r1, r2]; simp), if_neg (by omega), if_neg (by omega), if_neg (by rw [r1]; decide)])
      · exact fin (oo_node_edge (n := n) (n' := n') (r := ordIL l l') (s := t) (s' := t') (m := Val.cvs l) (m' := Val.cvs l') h1 h2) (by simp only [ordI]; rw [if_pos (by rw [r1, r2]; decide), r1, r2])
      · exact fin (oo_node_list (n := n) (n' := n') (r := ordIL l l') (s := t) (s' := t') (m := Val.cvs l) (m' := Val.cvs l') h1 h2) (by simp only [ordI]; rw [if_pos (by rw [r1, r2]; decide), r1, r2])
      · exact fin (oo_node_text (n := n) (n' := n') (r := ordIL l l') (s := t) (s' := t') (m := Val.cvs l) (m' := Val.cvs l') h1 h2) (by simp only [ordI]; rw [if_pos (by rw [r1, r2]; decide), r1, r2])
      · exact fin (oo_node_bool (n := n) (n' := n') (r := ordIL l l') (s := t) (s' := t') (m := Val.cvs l) (m' := Val.cvs l') h1 h2) (by simp only [ordI]; rw [if_pos (by rw [r1, r2]; decide), r1, r2])
      · exact fin (oo_node_num (n := n) (n' := n') (r := ordIL l l') (s := t) (s' := t') (m := Val.cvs l) (m' := Val.cvs l') h1 h2) (by simp only [ordI]; rw [if_pos (by rw [r1, r2]; decide), r1, r2])
      · exact fin (oo_node_null (n := n) (n' := n') (r := ordIL l l') (s := t) (s' := t') (m := Val.cvs l) (m' := Val.cvs l') h1 h2) (by simp only [ordI]; rw [if_pos (by rw [r1, r2]; decide), r1, r2])
    · rcases term_cases k' n' t' l' with ⟨e2, r2, h2⟩ | ⟨e2, r2, h2⟩ | ⟨e2, r2, h2⟩ | ⟨e2, r2, h2⟩ | ⟨e2, r2, h2⟩ | ⟨e2, r2, h2⟩ | ⟨e2, r2, h2⟩
      · exact fin (oo_edge_node (n := n) (n' := n') (r := ordIL l l') (s := t) (s' := t') (m := Val.cvs l) (m' := Val.cvs l') h1 h2) (by simp only [ordI]; rw [if_pos (by rw [r1, r2]; decide), r1, r2])
      · exact fin (oo_edge_edge (n := n) (n' := n') (r := ordIL l l') (s := t) (s' := t') (m := Val.cvs l) (m' := Val.cvs l') h1 h2) (by simp only [ordI]; rw [if_neg (by rw [r1, r2]; simp), if_neg (by omega), if_neg (by omega), if_neg (by rw [r1]; decide)])
      · exact fin (oo_edge_list (n := n) (n' := n') (r := ordIL l l') (s := t) (s' := t') (m := Val.cvs l) (m' := Val.cvs l') h1 h2) (by simp only [ordI]; rw [if_pos (by rw [r1, r2]; decide), r1, r2])
      · exact fin (oo_edge_text (n := n) (n' := n') (r := ordIL l l') (s := t) (s' := t') (m := Val.cvs l) (m' := Val.cvs l') h1 h2) (by simp only [ordI]; rw [if_pos (by rw [r1, r2]; decide), r1, r2])
      · exact fin (oo_edge_bool (n := n) (n' := n') (r := ordIL l l') (s := t) (s' := t') (m := Val.cvs l) (m' := Val.cvs l') h1 h2) (by simp only [ordI]; rw [if_pos (by rw [r1, r2]; decide), r1, r2])
      · exact fin (oo_edge_num (n := n) (n' := n') (r := ordIL l l') (s := t) (s' := t') (m := Val.cvs l) (m' := Val.cvs l') h1 h2) (by simp only [ordI]; rw [if_pos (by rw [r1, r2]; decide), r1, r2])
      · exact fin (oo_edge_null (n := n) (n' := n') (r := ordIL l l') (s := t) (s' := t') (m := Val.cvs l) (m' := Val.cvs l') h1 h2) (by simp only [ordI]; rw [if_pos (by rw [r1, r2]; decide), r1, r2])
    · rcases term_cases k' n' t' l' with ⟨e2, r2, h2⟩ | ⟨e2, r2, h2⟩ | ⟨e2, r2, h2⟩ | ⟨e2, r2, h2⟩ | ⟨e2, r2, h2⟩ | ⟨e2, r2, h2⟩ | ⟨e2, r2, h2⟩
      · exact fin (oo_list_node (n := n) (n' := n') (r := ordIL l l') (s := t) (s' := t') (m := Val.cvs l) (m' := Val.cvs l') h1 h2) (by simp only [ordI]; rw [if_pos (by rw [r1, r2]; decide), r1, r2])
      · exact fin (oo_list_edge (n := n) (n' := n') (r := ordIL l l') (s := t) (s' := t') (m := Val.cvs l) (m' := Val.cvs l') h1 h2) (by simp only [ordI]; rw [if_pos (by rw [r1, r2]; decide), r1, r2])
      · exact fin (oo_list_list (n := n) (n' := n') (r := ordIL l l') (s := t) (s' := t') (m := Val.cvs l) (m' := Val.cvs l') h1 h2 hll) (by simp only [ordI]; rw [if_neg (by rw [r1, r2]; simp), if_pos e1])
      · exact fin (oo_list_text (n := n) (n' := n') (r := ordIL l l') (s := t) (s' := t') (m := Val.cvs l) (m' := Val.cvs l') h1 h2) (by simp only [ordI]; rw [if_pos (by rw [r1, r2]; decide), r1, r2])
      · exact fin (oo_list_bool (n := n) (n' := n') (r := ordIL l l') (s := t) (s' := t') (m := Val.cvs l) (m' := Val.cvs l') h1 h2) (by simp only [ordI]; rw [if_pos (by rw [r1, r2]; decide), r1, r2])
      · exact fin (oo_list_num (n := n) (n' := n') (r := ordIL l l') (s := t) (s' := t') (m := Val.cvs l) (m' := Val.cvs l') h1 h2) (by simp only [ordI]; rw [if_pos (by rw [r1, r2]; decide), r1, r2])
      · exact fin (oo_list_null (n := n) (n' := n') (r := ordIL l l') (s := t) (s' := t') (m := Val.cvs l) (m' := Val.cvs l') h1 h2) (by simp only [ordI]; rw [if_pos (by rw [r1, r2]; decide), r1, r2])
    · rcases term_cases k' n' t' l' with ⟨e2, r2, h2⟩ | ⟨e2, r2, h2⟩ | ⟨e2, r2, h2⟩ | ⟨e2, r2, h2⟩ | ⟨e2, r2, h2⟩ | ⟨e2, r2, h2⟩ | ⟨e2, r2, h2⟩
      · exact fin (oo_text_node (n := n) (n' := n') (r := ordIL l l') (s := t) (s' := t') (m := Val.cvs l) (m' := Val.cvs l') h1 h2) (by simp only [ordI]; rw [if_pos (by rw [r1, r2]; decide), r1, r2])
      · exact fin (oo_text_edge (n := n) (n' := n') (r := ordIL l l') (s := t) (s' := t') (m := Val.cvs l) (m' := Val.cvs l') h1 h2) (by simp only [ordI]; rw [if_pos (by rw [r1, r2]; decide), r1, r2])
      · exact fin (oo_text_list (n := n) (n' := n') (r := ordIL l l') (s := t) (s' := t') (m := Val.cvs l) (m' := Val.cvs l') h1 h2) (by simp only [ordI]; rw [if_pos (by rw [r1, r2]; decide), r1, r2])
      · exact fin (oo_text_text (n := n) (n' := n') (r := ordIL l l') (s := t) (s' := t') (m := Val.cvs l) (m' := Val.cvs l') h1 h2) (by simp only [ordI]; rw [if_neg (by rw [r1, r2]; simp), if_neg (by omega), if_pos e1])
      · exact fin (oo_text_bool (n := n) (n' := n') (r := ordIL l l') (s := t) (s' := t') (m := Val.cvs l) (m' := Val.cvs l') h1 h2) (by simp only [ordI]; rw [if_pos (by rw [r1, r2]; decide), r1, r2])
      · exact fin (oo_text_num (n := n) (n' := n') (r := ordIL l l') (s := t) (s' := t') (m := Val.cvs l) (m' := Val.cvs l') h1 h2) (by simp only [ordI]; rw [if_pos (by rw [r1, r2]; decide), r1, r2])
      · exact fin (oo_text_null (n := n) (n' := n') (r := ordIL l l') (s := t) (s' := t') (m := Val.cvs l) (m' := Val.cvs l') h1 h2) (by simp only [ordI]; rw [if_pos (by rw [r1, r2]; decide), r1, r2])
    · rcases term_cases k' n' t' l' with ⟨e2, r2, h2⟩ | ⟨e2, r2, h2⟩ | ⟨e2, r2, h2⟩ | ⟨e2, r2, h2⟩ | ⟨e2, r2, h2⟩ | ⟨e2, r2, h2⟩ | ⟨e2, r2, h2⟩
      · exact fin (oo_bool_node (n := n) (n' := n') (r := ordIL l l') (s := t) (s' := t') (m := Val.cvs l) (m' := Val.cvs l') h1 h2) (by simp only [ordI]; rw [if_pos (by rw [r1, r2]; decide), r1, r2])
      · exact fin (oo_bool_edge (n := n) (n' := n') (r := ordIL l l') (s := t) (s' := t') (m := Val.cvs l) (m' := Val.cvs l') h1 h2) (by simp only [ordI]; rw [if_pos (by rw [r1, r2]; decide), r1, r2])
      · exact fin (oo_bool_list (n := n) (n' := n') (r := ordIL l l') (s := t) (s' := t') (m := Val.cvs l) (m' := Val.cvs l') h1 h2) (by simp only [ordI]; rw [if_pos (by rw [r1, r2]; decide), r1, r2])
      · exact fin (oo_bool_text (n := n) (n' := n') (r := ordIL l l') (s := t) (s' := t') (m := Val.cvs l) (m' := Val.cvs l') h1 h2) (by simp only [ordI]; rw [if_pos (by rw [r1, r2]; decide), r1, r2])
      · exact fin (oo_bool_bool (n := n) (n' := n') (r := ordIL l l') (s := t) (s' := t') (m := Val.cvs l) (m' := Val.cvs l') h1 h2) (by simp only [ordI]; rw [if_neg (by rw [r1, r2]; simp), if_neg (by omega), if_neg (by omega), if_neg (by rw [r1]; decide)])
      · exact fin (oo_bool_num (n := n) (n' := n') (r := ordIL l l') (s := t) (s' := t') (m := Val.cvs l) (m' := Val.cvs l') h1 h2) (by simp only [ordI]; rw [if_pos (by rw [r1, r2]; decide), r1, r2])
      · exact fin (oo_bool_null (n := n) (n' := n') (r := ordIL l l') (s := t) (s' := t') (m := Val.cvs l) (m' := Val.cvs l') h1 h2) (by simp only [ordI]; rw [if_pos (by rw [r1, r2]; decide), r1, r2])
    · rcases term_cases k' n' t' l' with ⟨e2, r2, h2⟩ | ⟨e2, r2, h2⟩ | ⟨e2, r2, h2⟩ | ⟨e2, r2, h2⟩ | ⟨e2, r2, h2⟩ | ⟨e2, r2, h2⟩ | ⟨e2, r2, h2⟩
      · exact fin (oo_num_node (n := n) (n' := n') (r := ordIL l l') (s := t) (s' := t') (m := Val.cvs l) (m' := Val.cvs l') h1 h2) (by simp only [ordI]; rw [if_pos (by rw [r1, r2]; decide), r1, r2])
      · exact fin (oo_num_edge (n := n) (n' := n') (r := ordIL l l') (s := t) (s' := t') (m := Val.cvs l) (m' := Val.cvs l') h1 h2) (by simp only [ordI]; rw [if_pos (by rw [r1, r2]; decide), r1, r2])
      · exact fin (oo_num_list (n := n) (n' := n') (r := ordIL l l') (s := t) (s' := t') (m := Val.cvs l) (m' := Val.cvs l') h1 h2) (by simp only [ordI]; rw [if_pos (by rw [r1, r2]; decide), r1, r2])
      · exact fin (oo_num_text (n := n) (n' := n') (r := ordIL l l') (s := t) (s' := t') (m := Val.cvs l) (m' := Val.cvs l') h1 h2) (by simp only [ordI]; rw [if_pos (by rw [r1, r2]; decide), r1, r2])
      · exact fin (oo_num_bool (n := n) (n' := n') (r := ordIL l l') (s := t) (s' := t') (m := Val.cvs l) (m' := Val.cvs l') h1 h2) (by simp only [ordI]; rw [if_pos (by rw [r1, r2]; decide), r1, r2])
      · exact fin (oo_num_num (n := n) (n' := n') (r := ordIL l l') (s := t) (s' := t') (m := Val.cvs l) (m' := Val.cvs l') h1 h2) (by simp only [ordI]; rw [if_neg (by rw [r1, r2]; simp), if_neg (by omega), if_neg (by omega), if_neg (by rw [r1]; decide)])
      · exact fin (oo_num_null (n := n) (n' := n') (r := ordIL l l') (s := t) (s' := t') (m := Val.cvs l) (m' := Val.cvs l') h1 h2) (by simp only [ordI]; rw [if_pos (by rw [r1, r2]; decide), r1, r2])
    · rcases term_cases k' n' t' l' with ⟨e2, r2, h2⟩ | ⟨e2, r2, h2⟩ | ⟨e2, r2, h2⟩ | ⟨e2, r2, h2⟩ | ⟨e2, r2, h2⟩ | ⟨e2, r2, h2⟩ | ⟨e2, r2, h2⟩
      · exact fin (oo_null_node (n := n) (n' := n') (r := ordIL l l') (s := t) (s' := t') (m := Val.cvs l) (m' := Val.cvs l') h1 h2) (by simp only [ordI]; rw [if_pos (by rw [r1, r2]; decide), r1, r2])
      · exact fin (oo_null_edge (n := n) (n' := n') (r := ordIL l l') (s := t) (s' := t') (m := Val.cvs l) (m' := Val.cvs l') h1 h2) (by simp only [ordI]; rw [if_pos (by rw [r1, r2]; decide), r1, r2])
      · exact fin (oo_null_list (n := n) (n' := n') (r := ordIL l l') (s := t) (s' := t') (m := Val.cvs l) (m' := Val.cvs l') h1 h2) (by simp only [ordI]; rw [if_pos (by rw [r1, r2]; decide), r1, r2])
      · exact fin (oo_null_text (n := n) (n' := n') (r := ordIL l l') (s := t) (s' := t') (m := Val.cvs l) (m' := Val.cvs l') h1 h2) (by simp only [ordI]; rw [if_pos (by rw [r1, r2]; decide), r1, r2])
      · exact fin (oo_null_bool (n := n) (n' := n') (r := ordIL l l') (s := t) (s' := t') (m := Val.cvs l) (m' := Val.cvs l') h1 h2) (by simp only [ordI]; rw [if_pos (by rw [r1, r2]; decide), r1, r2])
      · exact fin (oo_null_num (n := n) (n' := n') (r := ordIL l l') (s := t) (s' := t') (m := Val.cvs l) (m' := Val.cvs l') h1 h2) (by simp only [ordI]; rw [if_pos (by rw [r1, r2]; decide), r1, r2])
      · exact fin (oo_null_null (n := n) (n' := n') (r := ordIL l l') (s := t) (s' := t') (m := Val.cvs l) (m' := Val.cvs l') h1 h2) (by simp only [ordI]; rw [if_neg (by rw [r1, r2]; simp), if_neg e1.1, if_neg e1.2, if_pos r1]; rfl)
end Go.Proofs.Ytjmgkhkpjffpbaa
namespace Go.Proofs.Ytjmgkhkpjffpbaa
open Go Go.CL
set_option maxRecDepth 10000
set_option linter.unusedVariables false
set_option linter.unusedSimpArgs false

theorem rankI_F {k : Int} (h : k = 0 ∨ k = 1 ∨ k = 2 ∨ k = 3 ∨ k = 4 ∨ k = 5 ∨ k = 6) : rankI k = rankF k := by
  rcases h with rfl | rfl | rfl | rfl | rfl | rfl | rfl <;> rfl

theorem okV_kind {d k n : Int} {t : ByteArray} {l : List Val} (h : okV d (.mk k n t l) = true) : (k = 0 ∧ n = 0) ∨ k = 1 ∨ k = 2 ∨ k = 3 ∨ k = 4 ∨ k = 5 ∨ k = 6 := by
  simp only [okV, Bool.and_eq_true] at h
  obtain ⟨_, h⟩ := h
  by_cases h0 : k = 0
  · subst h0
    rw [if_pos rfl] at h
    simp only [Bool.and_eq_true, decide_eq_true_eq] at h
    exact .inl ⟨rfl, h.1.1⟩
  by_cases h1 : k = 1
  · exact .inr (.inl h1)
  by_cases h2 : k = 2
  · exact .inr (.inr (.inl h2))
  by_cases h3 : k = 3
  · exact .inr (.inr (.inr (.inl h3)))
  by_cases h4 : k = 4
  · exact .inr (.inr (.inr (.inr (.inl h4))))
  by_cases h5 : k = 5
  · exact .inr (.inr (.inr (.inr (.inr (.inl h5)))))
  by_cases h6 : k = 6
  · exact .inr (.inr (.inr (.inr (.inr (.inr h6)))))
  · rw [if_neg h0, if_neg h1, if_neg h2, if_neg h3, if_neg (by omega), if_neg h4] at h
    cases h

theorem okV_list {d n : Int} {t : ByteArray} {l : List Val} (h : okV d (.mk 4 n t l) = true) : ∀ v ∈ l, okV (d - 1) v = true := by
  have okk : okV d (.mk 4 n t l) = (decide (1 ≤ d) && (decide (n = 0) && decide (t = ⟨#[]⟩) && decide (l.length ≤ 6) && okL (d - 1) l)) := by simp only [okV]; rfl
  rw [okk, okL_all] at h
  simp only [Bool.and_eq_true, List.all_eq_true] at h
  exact fun v hv => h.2.2 v hv

theorem rankF_inj {k k' : Int} (h : k = 0 ∨ k = 1 ∨ k = 2 ∨ k = 3 ∨ k = 4 ∨ k = 5 ∨ k = 6) (h' : k' = 0 ∨ k' = 1 ∨ k' = 2 ∨ k' = 3 ∨ k' = 4 ∨ k' = 5 ∨ k' = 6) (e : rankF k = rankF k') : k = k' := by
  rcases h with rfl | rfl | rfl | rfl | rfl | rfl | rfl <;> rcases h' with rfl | rfl | rfl | rfl | rfl | rfl | rfl <;> first | rfl | (exfalso; revert e; decide)

mutual
theorem ordI_V : ∀ (a b : Val) {d d' : Int}, okV d a = true → okV d' b = true → ordI a b = ordV a b
  | .mk k n t l, .mk k' n' t' l', d, d', ha, hb => by
    have ka := okV_kind ha
    have kb := okV_kind hb
    have ra := rankI_F (k := k) (by omega)
    have rb := rankI_F (k := k') (by omega)
    simp only [ordI, ordV]
    rw [ra, rb]
    by_cases e : k = k'
    · subst e
      rw [if_neg (show ¬ (rankF k ≠ rankF k) by simp), if_neg (show ¬ (k ≠ k) by simp)]
      by_cases h4 : k = 4
      · subst h4
        rw [if_pos (rfl : (4 : Int) = 4), if_neg (show ¬ (4 : Int) = 3 by decide), if_pos (rfl : (4 : Int) = 4)]
        exact ordIL_L l l' (okV_list ha) (okV_list hb)
      · rw [if_neg h4]
        by_cases h3 : k = 3
        · rw [if_pos h3, if_pos h3]
        · rw [if_neg h3, if_neg h3, if_neg h4]
          by_cases h0 : k = 0
          · subst h0
            have : n = 0 := by omega
            have : n' = 0 := by omega
            subst n; subst n'
            rfl
          · rw [if_neg]
            intro hr
            have := rankF_inj (k := k) (k' := 0) (by omega) (by omega) hr
            exact h0 this
    · rw [if_pos e, if_pos (fun h => e (rankF_inj (by omega) (by omega) h))]
theorem ordIL_L : ∀ (l m : List Val) {d d' : Int}, (∀ v ∈ l, okV d v = true) → (∀ v ∈ m, okV d' v = true) → ordIL l m = ordL l m
  | [], m, d, d', _, _ => by cases m <;> rfl
  | v :: r, [], d, d', _, _ => rfl
  | v :: r, w :: s, d, d', h, h' => by
    simp only [ordIL, ordL]
    rw [ordI_V v w (h v (by simp)) (h' w (by simp)), ordIL_L r s (fun x hx => h x (by simp [hx])) (fun x hx => h' x (by simp [hx]))]
end

theorem implOrder_c {σ : Heap} {a b : Val} (ha : Tame a) (hb : Tame b) : CRun Try.prog 7 [a.cv, b.cv] σ (· = .ret (i64 (orderF a b)) σ) := by
  refine crun_of (X := X) X_ok X_sat (body := bodyOf Try.f7) Try.func7 rfl (by kernel_rfl) (by kernel_rfl) ?_
  rw [Try.ntmps7]
  have ca := implOk_c (σ := σ) ha
  have cb := implOk_c (σ := σ) hb
  have co := orderOf_c (σ := σ) ha hb
  have ho : orderF a b = if okV 3 a = true ∧ okV 3 b = true then ordI a b else 0 := by
    unfold orderF
    by_cases hk : okV 3 a = true ∧ okV 3 b = true
    · rw [if_pos hk, if_pos hk, ordI_V a b hk.1 hk.2]
    · rw [if_neg hk, if_neg hk]
  generalize okV 3 a = x at *
  generalize okV 3 b = y at *
  generalize ordI a b = z at *
  generalize orderF a b = r at *
  obtain ⟨ak, an, at', al⟩ := a
  obtain ⟨bk, bn, bt, bl⟩ := b
  cases x <;> cases y
  all_goals
    conv => whnf
    repeat' (first | (refine CallN.one ca ?_) | (refine CallN.one cb ?_) | (refine CallN.one co ?_) | refine OrdN.one ?_ | refine Fork.yp ?_ | refine Fork.np ?_ | refine Fork.ny ?_ | refine Fork.nn ?_ | refine Fork.yb ?_ | refine Fork.nb ?_ | refine Fork.dp (fun h => ?_) (fun h => ?_) | refine Fork.dn (fun h => ?_) (fun h => ?_)|(refine Fork.mk (fun h => ?_) (fun h => ?_) <;> simp only [decide_eq_true_eq, decide_eq_false_iff_not, Bool.not_eq_true', Bool.not_eq_false', Bool.or_eq_true, Bool.or_eq_false_iff] at h) | refine GetN.go ?_ | refine Need.ap1 ?_ | refine Need.ap0 ?_ | refine Need.go ?_ | refine Need.draw ?_ | refine ElemN.go ?_ | refine AllocN.go (fun l hl => ?_) | refine finGo ?_) <;> try (conv => whnf)
    exact ansI (by rw [ho]; simp)
end Go.Proofs.Ytjmgkhkpjffpbaa
namespace Go.Proofs.Ytjmgkhkpjffpbaa
open Go Go.CL
set_option maxRecDepth 10000
set_option linter.unusedVariables false
set_option linter.unusedSimpArgs false

theorem ansV {a b : Val} {σ : Heap} (h : b = a) : COut.ret a.cv σ = .ret b.cv σ := by rw [h]

theorem yes_c {σ : Heap} {b : Bool} : CRun Try.prog 42 [.sc (.bool b)] σ (· = .ret (boolV b).cv σ) := by
  refine crun_of (X := X) X_ok X_sat (body := bodyOf Try.f42) Try.func42 rfl (by kernel_rfl) (by kernel_rfl) ?_
  rw [Try.ntmps42]
  cases b
  · conv => whnf
    repeat' (first | refine OrdN.one ?_ | refine Fork.yp ?_ | refine Fork.np ?_ | refine Fork.ny ?_ | refine Fork.nn ?_ | refine Fork.yb ?_ | refine Fork.nb ?_ | refine Fork.dp (fun h => ?_) (fun h => ?_) | refine Fork.dn (fun h => ?_) (fun h => ?_)|(refine Fork.mk (fun h => ?_) (fun h => ?_) <;> simp only [decide_eq_true_eq, decide_eq_false_iff_not, Bool.not_eq_true', Bool.not_eq_false', Bool.or_eq_true, Bool.or_eq_false_iff] at h) | refine GetN.go ?_ | refine Need.ap1 ?_ | refine Need.ap0 ?_ | refine Need.go ?_ | refine Need.draw ?_ | refine ElemN.go ?_ | refine AllocN.go (fun l hl => ?_) | refine finGo ?_) <;> try (conv => whnf)
    rfl
  · conv => whnf
    repeat' (first | refine OrdN.one ?_ | refine Fork.yp ?_ | refine Fork.np ?_ | refine Fork.ny ?_ | refine Fork.nn ?_ | refine Fork.yb ?_ | refine Fork.nb ?_ | refine Fork.dp (fun h => ?_) (fun h => ?_) | refine Fork.dn (fun h => ?_) (fun h => ?_)|(refine Fork.mk (fun h => ?_) (fun h => ?_) <;> simp only [decide_eq_true_eq, decide_eq_false_iff_not, Bool.not_eq_true', Bool.not_eq_false', Bool.or_eq_true, Bool.or_eq_false_iff] at h) | refine GetN.go ?_ | refine Need.ap1 ?_ | refine Need.ap0 ?_ | refine Need.go ?_ | refine Need.draw ?_ | refine ElemN.go ?_ | refine AllocN.go (fun l hl => ?_) | refine finGo ?_) <;> try (conv => whnf)
    rfl

theorem lessF_yes {a b : Int} {n n' : Int} {t t' : ByteArray} {l l' : List Val} (h : a = b ∧ (a = 2 ∨ a = 3 ∨ a = 1)) {z : Bool} (hz : decide (ordV (.mk a n t l) (.mk b n' t' l') < 0) = z) : lessF (.mk a n t l) (.mk b n' t' l') = boolV z := by
  simp only [lessF]; rw [if_pos h, hz]
theorem lessF_no {a b : Int} {n n' : Int} {t t' : ByteArray} {l l' : List Val} (h : ¬ (a = b ∧ (a = 2 ∨ a = 3 ∨ a = 1))) : lessF (.mk a n t l) (.mk b n' t' l') = nullV := by
  simp only [lessF]; rw [if_neg h]

theorem specLess0 {σ : Heap} {a b : Val} (ha : Tame a) (hb : Tame b) : CRun Try.prog 25 [a.cv, b.cv] σ (· = .ret (lessF a b).cv σ) := by
  have co : CRun Try.prog 22 [a.cv, b.cv] σ (· = .ret (i64 (ordV a b)) σ) := l1Order_c (σ := σ) ha hb
  obtain ⟨ak, an, at', al⟩ := a
  obtain ⟨bk, bn, bt, bl⟩ := b
  by_cases hk : ak = bk ∧ (ak = 2 ∨ ak = 3 ∨ ak = 1)
  · have key := fun z h => lessF_yes (n := an) (n' := bn) (t := at') (t' := bt) (l := al) (l' := bl) hk (z := z) h
    refine crun_of (X := X) X_ok X_sat (body := bodyOf Try.f25) Try.func25 rfl (by kernel_rfl) (by kernel_rfl) ?_
    rw [Try.ntmps25]
    generalize ordV (.mk ak an at' al) (.mk bk bn bt bl) = z at co key
    by_cases hz : z < 0
    · conv => whnf
      repeat' (first | (refine CallN.one co ?_) | (refine CallN.one (bool_c (b := true)) ?_) | refine OrdN.one ?_ | refine Fork.yp ?_ | refine Fork.np ?_ | refine Fork.ny ?_ | refine Fork.nn ?_ | refine Fork.yb ?_ | refine Fork.nb ?_ | refine Fork.dp (fun h => ?_) (fun h => ?_) | refine Fork.dn (fun h => ?_) (fun h => ?_)|(refine Fork.mk (fun h => ?_) (fun h => ?_) <;> simp only [decide_eq_true_eq, decide_eq_false_iff_not, Bool.not_eq_true', Bool.not_eq_false', Bool.or_eq_true, Bool.or_eq_false_iff] at h) | refine GetN.go ?_ | refine Need.ap1 ?_ | refine Need.ap0 ?_ | refine Need.go ?_ | refine Need.draw ?_ | refine ElemN.go ?_ | refine AllocN.go (fun l hl => ?_) | refine finGo ?_) <;> try (conv => whnf)
      all_goals exact ansV (key true (decide_eq_true hz))
    · conv => whnf
      repeat' (first | (refine CallN.one co ?_) | (refine CallN.one (bool_c (b := false)) ?_) | refine OrdN.one ?_ | refine Fork.yp ?_ | refine Fork.np ?_ | refine Fork.ny ?_ | refine Fork.nn ?_ | refine Fork.yb ?_ | refine Fork.nb ?_ | refine Fork.dp (fun h => ?_) (fun h => ?_) | refine Fork.dn (fun h => ?_) (fun h => ?_)|(refine Fork.mk (fun h => ?_) (fun h => ?_) <;> simp only [decide_eq_true_eq, decide_eq_false_iff_not, Bool.not_eq_true', Bool.not_eq_false', Bool.or_eq_true, Bool.or_eq_false_iff] at h) | refine GetN.go ?_ | refine Need.ap1 ?_ | refine Need.ap0 ?_ | refine Need.go ?_ | refine Need.draw ?_ | refine ElemN.go ?_ | refine AllocN.go (fun l hl => ?_) | refine finGo ?_) <;> try (conv => whnf)
      all_goals exact ansV (key false (decide_eq_false hz))
  · have key := lessF_no (n := an) (n' := bn) (t := at') (t' := bt) (l := al) (l' := bl) hk
    refine crun_of (X := X) X_ok X_sat (body := bodyOf Try.f25) Try.func25 rfl (by kernel_rfl) (by kernel_rfl) ?_
    rw [Try.ntmps25]
    conv => whnf
    repeat' (first | refine OrdN.one ?_ | refine Fork.yp ?_ | refine Fork.np ?_ | refine Fork.ny ?_ | refine Fork.nn ?_ | refine Fork.yb ?_ | refine Fork.nb ?_ | refine Fork.dp (fun h => ?_) (fun h => ?_) | refine Fork.dn (fun h => ?_) (fun h => ?_)|(refine Fork.mk (fun h => ?_) (fun h => ?_) <;> simp only [decide_eq_true_eq, decide_eq_false_iff_not, Bool.not_eq_true', Bool.not_eq_false', Bool.or_eq_true, Bool.or_eq_false_iff] at h) | refine GetN.go ?_ | refine Need.ap1 ?_ | refine Need.ap0 ?_ | refine Need.go ?_ | refine Need.draw ?_ | refine ElemN.go ?_ | refine AllocN.go (fun l hl => ?_) | refine finGo ?_) <;> try (conv => whnf)
    all_goals first
      | exact ansV key
      | (exfalso; omega)

theorem implLess0 {σ : Heap} {a b : Val} (ha : Tame a) (hb : Tame b) (hoa : okV 3 a = true) (hob : okV 3 b = true) : CRun Try.prog 27 [a.cv, b.cv] σ (· = .ret (lessF a b).cv σ) := by
  have co : CRun Try.prog 21 [a.cv, b.cv] σ (· = .ret (i64 (ordV a b)) σ) := (ordI_V a b hoa hob) ▸ orderOf_c (σ := σ) ha hb
  obtain ⟨ak, an, at', al⟩ := a
  obtain ⟨bk, bn, bt, bl⟩ := b
  by_cases hk : ak = bk ∧ (ak = 2 ∨ ak = 3 ∨ ak = 1)
  · have key := fun z h => lessF_yes (n := an) (n' := bn) (t := at') (t' := bt) (l := al) (l' := bl) hk (z := z) h
    refine crun_of (X := X) X_ok X_sat (body := bodyOf Try.f27) Try.func27 rfl (by kernel_rfl) (by kernel_rfl) ?_
    rw [Try.ntmps27]
    generalize ordV (.mk ak an at' al) (.mk bk bn bt bl) = z at co key
    by_cases hz : z < 0
    · conv => whnf
      repeat' (first | (refine CallN.one co ?_) | (refine CallN.one (yes_c (b := true)) ?_) | refine OrdN.one ?_ | refine Fork.yp ?_ | refine Fork.np ?_ | refine Fork.ny ?_ | refine Fork.nn ?_ | refine Fork.yb ?_ | refine Fork.nb ?_ | refine Fork.dp (fun h => ?_) (fun h => ?_) | refine Fork.dn (fun h => ?_) (fun h => ?_)|(refine Fork.mk (fun h => ?_) (fun h => ?_) <;> simp only [decide_eq_true_eq, decide_eq_false_iff_not, Bool.not_eq_true', Bool.not_eq_false', Bool.or_eq_true, Bool.or_eq_false_iff] at h) | refine GetN.go ?_ | refine Need.ap1 ?_ | refine Need.ap0 ?_ | refine Need.go ?_ | refine Need.draw ?_ | refine ElemN.go ?_ | refine AllocN.go (fun l hl => ?_) | refine finGo ?_) <;> try (conv => whnf)
      all_goals exact ansV (key true (decide_eq_true hz))
    · conv => whnf
      repeat' (first | (refine CallN.one co ?_) | (refine CallN.one (yes_c (b := false)) ?_) | refine OrdN.one ?_ | refine Fork.yp ?_ | refine Fork.np ?_ | refine Fork.ny ?_ | refine Fork.nn ?_ | refine Fork.yb ?_ | refine Fork.nb ?_ | refine Fork.dp (fun h => ?_) (fun h => ?_) | refine Fork.dn (fun h => ?_) (fun h => ?_)|(refine Fork.mk (fun h => ?_) (fun h => ?_) <;> simp only [decide_eq_true_eq, decide_eq_false_iff_not, Bool.not_eq_true', Bool.not_eq_false', Bool.or_eq_true, Bool.or_eq_false_iff] at h) | refine GetN.go ?_ | refine Need.ap1 ?_ | refine Need.ap0 ?_ | refine Need.go ?_ | refine Need.draw ?_ | refine ElemN.go ?_ | refine AllocN.go (fun l hl => ?_) | refine finGo ?_) <;> try (conv => whnf)
      all_goals exact ansV (key false (decide_eq_false hz))
  · have key := lessF_no (n := an) (n' := bn) (t := at') (t' := bt) (l := al) (l' := bl) hk
    refine crun_of (X := X) X_ok X_sat (body := bodyOf Try.f27) Try.func27 rfl (by kernel_rfl) (by kernel_rfl) ?_
    rw [Try.ntmps27]
    conv => whnf
    repeat' (first | refine OrdN.one ?_ | refine Fork.yp ?_ | refine Fork.np ?_ | refine Fork.ny ?_ | refine Fork.nn ?_ | refine Fork.yb ?_ | refine Fork.nb ?_ | refine Fork.dp (fun h => ?_) (fun h => ?_) | refine Fork.dn (fun h => ?_) (fun h => ?_)|(refine Fork.mk (fun h => ?_) (fun h => ?_) <;> simp only [decide_eq_true_eq, decide_eq_false_iff_not, Bool.not_eq_true', Bool.not_eq_false', Bool.or_eq_true, Bool.or_eq_false_iff] at h) | refine GetN.go ?_ | refine Need.ap1 ?_ | refine Need.ap0 ?_ | refine Need.go ?_ | refine Need.draw ?_ | refine ElemN.go ?_ | refine AllocN.go (fun l hl => ?_) | refine finGo ?_) <;> try (conv => whnf)
    all_goals first
      | exact ansV key
      | (exfalso; omega)

theorem specLess_c {σ : Heap} {a b : Val} (ha : Tame a) (hb : Tame b) : CRun Try.prog 12 [a.cv, b.cv] σ (· = .ret (lessV a b).cv σ) := by
  have ca := specOk_c (σ := σ) ha
  have cb := specOk_c (σ := σ) hb
  have co := specLess0 (σ := σ) ha hb
  have hl : lessV a b = if okV 3 a = true ∧ okV 3 b = true then lessF a b else nullV := rfl
  generalize okV 3 a = x at ca hl
  generalize okV 3 b = y at cb hl
  generalize lessF a b = q at co hl
  refine crun_of (X := X) X_ok X_sat (body := bodyOf Try.f12) Try.func12 rfl (by kernel_rfl) (by kernel_rfl) ?_
  rw [Try.ntmps12]
  generalize lessV a b = r at hl
  obtain ⟨ak, an, at', al⟩ := a
  obtain ⟨bk, bn, bt, bl⟩ := b
  obtain ⟨qk, qn, qt, ql⟩ := q
  cases x <;> cases y
  all_goals
    conv => whnf
    repeat' (first | (refine CallN.one ca ?_) | (refine CallN.one cb ?_) | (refine CallN.one co ?_) | refine OrdN.one ?_ | refine Fork.yp ?_ | refine Fork.np ?_ | refine Fork.ny ?_ | refine Fork.nn ?_ | refine Fork.yb ?_ | refine Fork.nb ?_ | refine Fork.dp (fun h => ?_) (fun h => ?_) | refine Fork.dn (fun h => ?_) (fun h => ?_)|(refine Fork.mk (fun h => ?_) (fun h => ?_) <;> simp only [decide_eq_true_eq, decide_eq_false_iff_not, Bool.not_eq_true', Bool.not_eq_false', Bool.or_eq_true, Bool.or_eq_false_iff] at h) | refine GetN.go ?_ | refine Need.ap1 ?_ | refine Need.ap0 ?_ | refine Need.go ?_ | refine Need.draw ?_ | refine ElemN.go ?_ | refine AllocN.go (fun l hl => ?_) | refine finGo ?_) <;> try (conv => whnf)
    (rw [hl]; rfl)

theorem implLess_c {σ : Heap} {a b : Val} (ha : Tame a) (hb : Tame b) : CRun Try.prog 14 [a.cv, b.cv] σ (· = .ret (lessV a b).cv σ) := by
  have ca := implOk_c (σ := σ) ha
  have cb := implOk_c (σ := σ) hb
  have co := implLess0 (σ := σ) ha hb
  have hl : lessV a b = if okV 3 a = true ∧ okV 3 b = true then lessF a b else nullV := rfl
  generalize okV 3 a = x at ca hl co
  generalize okV 3 b = y at cb hl co
  generalize lessF a b = q at co hl
  refine crun_of (X := X) X_ok X_sat (body := bodyOf Try.f14) Try.func14 rfl (by kernel_rfl) (by kernel_rfl) ?_
  rw [Try.ntmps14]
  generalize lessV a b = r at hl
  obtain ⟨ak, an, at', al⟩ := a
  obtain ⟨bk, bn, bt, bl⟩ := b
  obtain ⟨qk, qn, qt, ql⟩ := q
  cases x <;> cases y
  all_goals
    conv => whnf
    repeat' (first | (refine CallN.one ca ?_) | (refine CallN.one cb ?_) | (refine CallN.one (co rfl rfl) ?_) | refine OrdN.one ?_ | refine Fork.yp ?_ | refine Fork.np ?_ | refine Fork.ny ?_ | refine Fork.nn ?_ | refine Fork.yb ?_ | refine Fork.nb ?_ | refine Fork.dp (fun h => ?_) (fun h => ?_) | refine Fork.dn (fun h => ?_) (fun h => ?_)|(refine Fork.mk (fun h => ?_) (fun h => ?_) <;> simp only [decide_eq_true_eq, decide_eq_false_iff_not, Bool.not_eq_true', Bool.not_eq_false', Bool.or_eq_true, Bool.or_eq_false_iff] at h) | refine GetN.go ?_ | refine Need.ap1 ?_ | refine Need.ap0 ?_ | refine Need.go ?_ | refine Need.draw ?_ | refine ElemN.go ?_ | refine AllocN.go (fun l hl => ?_) | refine finGo ?_) <;> try (conv => whnf)
    (rw [hl]; rfl)
end Go.Proofs.Ytjmgkhkpjffpbaa
namespace Go.Proofs.Ytjmgkhkpjffpbaa
open Go Go.CL
set_option maxRecDepth 10000
set_option linter.unusedVariables false
set_option linter.unusedSimpArgs false

mutual
def sameV : Val → Val → Bool
  | .mk k n t l, .mk k' n' t' l' => decide (k = k' ∧ n = n' ∧ t = t') && sameL l l'
def sameL : List Val → List Val → Bool
  | [], [] => true
  | v :: r, w :: s => sameV v w && sameL r s
  | _, _ => false
end
mutual
theorem sameV_eq : ∀ (a b : Val), sameV a b = true → a = b
  | .mk k n t l, .mk k' n' t' l', h => by
    simp only [sameV, Bool.and_eq_true, decide_eq_true_eq] at h
    obtain ⟨⟨rfl, rfl, rfl⟩, h⟩ := h
    rw [sameL_eq l l' h]
theorem sameL_eq : ∀ (a b : List Val), sameL a b = true → a = b
  | [], [], _ => rfl
  | v :: r, w :: s, h => by
    simp only [sameL, Bool.and_eq_true] at h
    rw [sameV_eq v w h.1, sameL_eq r s h.2]
  | [], _ :: _, h => by simp [sameL] at h
  | _ :: _, [], h => by simp [sameL] at h
end
mutual
theorem sameV_refl : ∀ (a : Val), sameV a a = true
  | .mk k n t l => by simp only [sameV, sameL_refl l]; simp
theorem sameL_refl : ∀ (a : List Val), sameL a a = true
  | [] => rfl
  | v :: r => by simp only [sameL, sameV_refl v, sameL_refl r]; rfl
end
theorem sameL_len : ∀ {a b : List Val}, a.length ≠ b.length → sameL a b = false
  | [], [], h => absurd rfl h
  | v :: r, w :: s, h => by
    simp only [sameL]
    rw [sameL_len (a := r) (b := s) (by simpa using h), Bool.and_false]
  | [], _ :: _, _ => rfl
  | _ :: _, [], _ => rfl

theorem as_c {σ : Heap} {v : Val} (hv : Tame v) : ∀ {v' : Val}, Tame v' → CRun Try.prog 10 [v.cv, v'.cv] σ (· = .ret (.sc (.bool (sameV v v'))) σ) := by
  induction hv with
  | @mk k n t l hk hn ht hl h ih =>
    intro v' hv'
    obtain ⟨k', n', t', l'⟩ := v'
    obtain ⟨b1, b2, b3, b4, b5⟩ := hv'.inv
    have e3 := cvs_length l
    have e4 := cvs_length l'
    by_cases hk : k = k' ∧ n = n' ∧ t = t' ∧ l.length = l'.length
    case neg =>
      have o : sameV (.mk k n t l) (.mk k' n' t' l') = false := by
        simp only [sameV]
        by_cases h1 : k = k' ∧ n = n' ∧ t = t'
        · rw [sameL_len (fun e => hk ⟨h1.1, h1.2.1, h1.2.2, e⟩), Bool.and_false]
        · rw [decide_eq_false h1, Bool.false_and]
      refine crun_of (X := X) X_ok X_sat (body := bodyOf Try.f10) Try.func10 rfl (by kernel_rfl) (by kernel_rfl) ?_
      rw [Try.ntmps10]
      by_cases h1 : k = k'
      case neg =>
        conv => whnf
        repeat' (first | refine OrdN.one ?_ | refine Fork.yp ?_ | refine Fork.np ?_ | refine Fork.ny ?_ | refine Fork.nn ?_ | refine Fork.yb ?_ | refine Fork.nb ?_ | refine Fork.dp (fun h => ?_) (fun h => ?_) | refine Fork.dn (fun h => ?_) (fun h => ?_)|(refine Fork.mk (fun h => ?_) (fun h => ?_) <;> simp only [decide_eq_true_eq, decide_eq_false_iff_not, Bool.not_eq_true', Bool.not_eq_false', Bool.or_eq_true, Bool.or_eq_false_iff] at h) | refine GetN.go ?_ | refine Need.ap1 ?_ | refine Need.ap0 ?_ | refine Need.go ?_ | refine Need.draw ?_ | refine ElemN.go ?_ | refine AllocN.go (fun l hl => ?_) | refine finGo ?_) <;> try (conv => whnf)
        exact ansB o
      by_cases h2 : n = n'
      case neg =>
        conv => whnf
        repeat' (first | refine OrdN.one ?_ | refine Fork.yp ?_ | refine Fork.np ?_ | refine Fork.ny ?_ | refine Fork.nn ?_ | refine Fork.yb ?_ | refine Fork.nb ?_ | refine Fork.dp (fun h => ?_) (fun h => ?_) | refine Fork.dn (fun h => ?_) (fun h => ?_)|(refine Fork.mk (fun h => ?_) (fun h => ?_) <;> simp only [decide_eq_true_eq, decide_eq_false_iff_not, Bool.not_eq_true', Bool.not_eq_false', Bool.or_eq_true, Bool.or_eq_false_iff] at h) | refine GetN.go ?_ | refine Need.ap1 ?_ | refine Need.ap0 ?_ | refine Need.go ?_ | refine Need.draw ?_ | refine ElemN.go ?_ | refine AllocN.go (fun l hl => ?_) | refine finGo ?_) <;> try (conv => whnf)
        exact ansB o
      by_cases h3 : t = t'
      case neg =>
        conv => whnf
        repeat' (first | refine OrdN.one ?_ | refine Fork.yp ?_ | refine Fork.np ?_ | refine Fork.ny ?_ | refine Fork.nn ?_ | refine Fork.yb ?_ | refine Fork.nb ?_ | refine Fork.dp (fun h => ?_) (fun h => ?_) | refine Fork.dn (fun h => ?_) (fun h => ?_)|(refine Fork.mk (fun h => ?_) (fun h => ?_) <;> simp only [decide_eq_true_eq, decide_eq_false_iff_not, Bool.not_eq_true', Bool.not_eq_false', Bool.or_eq_true, Bool.or_eq_false_iff] at h) | refine GetN.go ?_ | refine Need.ap1 ?_ | refine Need.ap0 ?_ | refine Need.go ?_ | refine Need.draw ?_ | refine ElemN.go ?_ | refine AllocN.go (fun l hl => ?_) | refine finGo ?_) <;> try (conv => whnf)
        exact ansB o
      have h4 : l.length ≠ l'.length := fun e => hk ⟨h1, h2, h3, e⟩
      conv => whnf
      repeat' (first | refine OrdN.one ?_ | refine Fork.yp ?_ | refine Fork.np ?_ | refine Fork.ny ?_ | refine Fork.nn ?_ | refine Fork.yb ?_ | refine Fork.nb ?_ | refine Fork.dp (fun h => ?_) (fun h => ?_) | refine Fork.dn (fun h => ?_) (fun h => ?_)|(refine Fork.mk (fun h => ?_) (fun h => ?_) <;> simp only [decide_eq_true_eq, decide_eq_false_iff_not, Bool.not_eq_true', Bool.not_eq_false', Bool.or_eq_true, Bool.or_eq_false_iff] at h) | refine GetN.go ?_ | refine Need.ap1 ?_ | refine Need.ap0 ?_ | refine Need.go ?_ | refine Need.draw ?_ | refine ElemN.go ?_ | refine AllocN.go (fun l hl => ?_) | refine finGo ?_) <;> try (conv => whnf)
      exact ansB o
    obtain ⟨h1, h2, h3, h4⟩ := hk
    have o : sameV (.mk k n t l) (.mk k' n' t' l') = sameL l l' := by simp only [sameV]; rw [decide_eq_true ⟨h1, h2, h3⟩, Bool.true_and]
    refine crun_of (X := X) X_ok X_sat (body := bodyOf Try.f10) Try.func10 rfl (by kernel_rfl) (by kernel_rfl) ?_
    rw [Try.ntmps10]
    conv => whnf
    repeat' (first | refine OrdN.one ?_ | refine Fork.yp ?_ | refine Fork.np ?_ | refine Fork.ny ?_ | refine Fork.nn ?_ | refine Fork.yb ?_ | refine Fork.nb ?_ | refine Fork.dp (fun h => ?_) (fun h => ?_) | refine Fork.dn (fun h => ?_) (fun h => ?_)|(refine Fork.mk (fun h => ?_) (fun h => ?_) <;> simp only [decide_eq_true_eq, decide_eq_false_iff_not, Bool.not_eq_true', Bool.not_eq_false', Bool.or_eq_true, Bool.or_eq_false_iff] at h) | refine GetN.go ?_ | refine Need.ap1 ?_ | refine Need.ap0 ?_ | refine Need.go ?_ | refine Need.draw ?_ | refine ElemN.go ?_ | refine AllocN.go (fun l hl => ?_) | refine finGo ?_) <;> try (conv => whnf)
    refine LoopN.rule (α := Nat) (fun i => ⟨53, [(2, .ptr (.f 2) 0), (3, .ptr (.f 3) 0), (5, i64 i)], [(2, .cells [i64 k, i64 n, .sc (.string t), .vec (Val.cvs l)]), (3, .cells [i64 k', i64 n', .sc (.string t'), .vec (Val.cvs l')])]⟩)
      (fun _ => σ) (fun i => l.length - i) (fun i => i ≤ l.length ∧ sameL l l' = sameL (l.drop i) (l'.drop i)) ?_ 0 ⟨Nat.zero_le _, rfl⟩ ?_
    · rintro i K ⟨g1, g3⟩ hK
      dsimp only at g1 g3 ⊢
      by_cases hi : i < l.length
      · obtain ⟨w, hm, hw, hg⟩ := cvs_at hi
        obtain ⟨w', hm', hw', hg'⟩ := cvs_at (l := l') (i := i) (by omega)
        have hc := ih w hm (b5 w' hm')
        have hK := hK (i + 1)
        rw [drop_get hw, drop_get hw'] at g3
        simp only [sameL] at g3
        cases hz : sameV w w' with
        | true =>
          rw [hz] at hc
          rw [hz, Bool.true_and] at g3
          obtain ⟨wk, wn, wt, wl⟩ := w
          obtain ⟨wk', wn', wt', wl'⟩ := w'
          conv => whnf
          repeat' (first | (refine CallN.one hc ?_) | refine OrdN.one ?_ | refine Fork.yp ?_ | refine Fork.np ?_ | refine Fork.ny ?_ | refine Fork.nn ?_ | refine Fork.yb ?_ | refine Fork.nb ?_ | refine Fork.dp (fun h => ?_) (fun h => ?_) | refine Fork.dn (fun h => ?_) (fun h => ?_)|(refine Fork.mk (fun h => ?_) (fun h => ?_) <;> simp only [decide_eq_true_eq, decide_eq_false_iff_not, Bool.not_eq_true', Bool.not_eq_false', Bool.or_eq_true, Bool.or_eq_false_iff] at h) | refine GetN.go ?_ | refine Need.ap1 ?_ | refine Need.ap0 ?_ | refine Need.go ?_ | refine Need.draw ?_ | refine ElemN.go ?_ | refine AllocN.go (fun l hl => ?_) | refine finGo ?_) <;> try (conv => whnf)
          refine hK _ _ ⟨by omega, g3⟩ (by omega) ?_
          (refine ⟨rfl, ?_, ?_, Sub.refl _⟩ <;> repeat' (first | exact EnvLe.nil | exact LocsLe.nil | refine EnvLe.cons _ _ _ ?_ ?_ | refine LocsLe.cons _ _ _ ?_ ?_ | exact CVle.same _ rfl | exact CVle.vec _ _ | exact CVle.nil | exact CVle.tok _ _ _ rfl rfl | exact ObLe.tok _ _ rfl | exact CVles.nil | refine CVles.cons ?_ ?_ | exact ObLe.same _ rfl rfl | refine ObLe.cells rfl ?_))
        | false =>
          rw [hz] at hc
          rw [hz, Bool.false_and] at g3
          obtain ⟨wk, wn, wt, wl⟩ := w
          obtain ⟨wk', wn', wt', wl'⟩ := w'
          conv => whnf
          repeat' (first | (refine CallN.one hc ?_) | refine OrdN.one ?_ | refine Fork.yp ?_ | refine Fork.np ?_ | refine Fork.ny ?_ | refine Fork.nn ?_ | refine Fork.yb ?_ | refine Fork.nb ?_ | refine Fork.dp (fun h => ?_) (fun h => ?_) | refine Fork.dn (fun h => ?_) (fun h => ?_)|(refine Fork.mk (fun h => ?_) (fun h => ?_) <;> simp only [decide_eq_true_eq, decide_eq_false_iff_not, Bool.not_eq_true', Bool.not_eq_false', Bool.or_eq_true, Bool.or_eq_false_iff] at h) | refine GetN.go ?_ | refine Need.ap1 ?_ | refine Need.ap0 ?_ | refine Need.go ?_ | refine Need.draw ?_ | refine ElemN.go ?_ | refine AllocN.go (fun l hl => ?_) | refine finGo ?_) <;> try (conv => whnf)
          exact ansB (o.trans g3)
      · rw [List.drop_eq_nil_of_le (by omega), List.drop_eq_nil_of_le (by omega)] at g3
        conv => whnf
        repeat' (first | refine OrdN.one ?_ | refine Fork.yp ?_ | refine Fork.np ?_ | refine Fork.ny ?_ | refine Fork.nn ?_ | refine Fork.yb ?_ | refine Fork.nb ?_ | refine Fork.dp (fun h => ?_) (fun h => ?_) | refine Fork.dn (fun h => ?_) (fun h => ?_)|(refine Fork.mk (fun h => ?_) (fun h => ?_) <;> simp only [decide_eq_true_eq, decide_eq_false_iff_not, Bool.not_eq_true', Bool.not_eq_false', Bool.or_eq_true, Bool.or_eq_false_iff] at h) | refine GetN.go ?_ | refine Need.ap1 ?_ | refine Need.ap0 ?_ | refine Need.go ?_ | refine Need.draw ?_ | refine ElemN.go ?_ | refine AllocN.go (fun l hl => ?_) | refine finGo ?_) <;> try (conv => whnf)
        exact ansB (o.trans g3)
    · (refine ⟨rfl, ?_, ?_, Sub.refl _⟩ <;> repeat' (first | exact EnvLe.nil | exact LocsLe.nil | refine EnvLe.cons _ _ _ ?_ ?_ | refine LocsLe.cons _ _ _ ?_ ?_ | exact CVle.same _ rfl | exact CVle.vec _ _ | exact CVle.nil | exact CVle.tok _ _ _ rfl rfl | exact ObLe.tok _ _ rfl | exact CVles.nil | refine CVles.cons ?_ ?_ | exact ObLe.same _ rfl rfl | refine ObLe.cells rfl ?_))
theorem as_v {σ : Heap} {v v' : Val} {b : Bool} (hb : sameV v v' = b) (hv : Tame v) (hv' : Tame v') : CRun Try.prog 10 [v.cv, v'.cv] σ (· = .ret (.sc (.bool b)) σ) := hb ▸ as_c hv hv'
end Go.Proofs.Ytjmgkhkpjffpbaa
namespace Go.Proofs.Ytjmgkhkpjffpbaa
open Go Go.CL
set_option maxRecDepth 10000
set_option linter.unusedVariables false
set_option linter.unusedSimpArgs false

theorem bl_eq : ∀ (x y : List UInt8), Op.bytesLess x y = decide (x < y)
  | [], [] => by simp [Op.bytesLess]
  | [], _ :: _ => by simp [Op.bytesLess]
  | _ :: _, [] => by simp [Op.bytesLess]
  | a :: r, b :: s => by
    rw [Op.bytesLess, bl_eq r s]
    simp only [List.cons_lt_cons_iff]
    by_cases h1 : a < b <;> by_cases h2 : a = b <;> by_cases h3 : r < s <;> simp [h1, h2, h3]

theorem toList_inj {s t : ByteArray} (h : s.toList = t.toList) : s = t := by
  have e := bytes_toList_eq s t
  rw [h] at e
  simpa using e.symm

/-- texts in order -/
theorem texts_lt {s t : ByteArray} : textsF s t = -1 ↔ s.toList < t.toList := by
  unfold textsF
  rw [bl_eq]
  by_cases h : s.toList < t.toList
  · simp [h]
  · rw [if_neg (by simpa using h)]
    constructor
    · intro e; split at e <;> simp at e
    · intro e; exact absurd e h
theorem texts_zero {s t : ByteArray} : textsF s t = 0 ↔ s = t := by
  unfold textsF
  rw [bl_eq]
  by_cases h : s.toList < t.toList
  · rw [if_pos (by simpa using h)]
    constructor
    · intro e; simp at e
    · intro e; subst e; exact absurd h (List.lt_irrefl _)
  · rw [if_neg (by simpa using h)]
    by_cases e : s = t
    · simp [e]
    · simp [h, e]
theorem texts_gt {s t : ByteArray} : textsF s t = 1 ↔ t.toList < s.toList := by
  unfold textsF
  rw [bl_eq]
  by_cases h : s.toList < t.toList
  · rw [if_pos (by simpa using h)]
    constructor
    · intro e; simp at e
    · intro e; exact absurd e (List.lt_asymm h)
  · rw [if_neg (by simpa using h)]
    by_cases e : s = t
    · subst e
      simp [List.lt_irrefl]
    · have : t.toList < s.toList := by
        rcases List.le_total s.toList t.toList with h1 | h1
        · exact absurd (List.le_antisymm h1 (List.not_lt.1 h)) (fun h => e (toList_inj h))
        · refine (Decidable.byContradiction fun h2 => e (toList_inj (List.le_antisymm (List.not_lt.1 h2) h1)))
      simp [h, e, this]
theorem texts_all (s t : ByteArray) : textsF s t = -1 ∨ textsF s t = 0 ∨ textsF s t = 1 := by
  unfold textsF
  split
  · exact .inl rfl
  · split
    · exact .inr (.inr rfl)
    · exact .inr (.inl rfl)
theorem texts_neg (s t : ByteArray) : textsF t s = - textsF s t := by
  rcases texts_all s t with h | h | h
  · rw [h]; exact texts_gt.2 (texts_lt.1 h)
  · rw [h]; exact texts_zero.2 (texts_zero.1 h).symm
  · rw [h]; exact texts_lt.2 (texts_gt.1 h)
theorem texts_trans {s t u : ByteArray} (h : textsF s t = -1) (k : textsF t u = -1) : textsF s u = -1 := texts_lt.2 (List.lt_trans (texts_lt.1 h) (texts_lt.1 k))

theorem ints_all (a b : Int) : (a < b ∧ intsF a b = -1) ∨ (a = b ∧ intsF a b = 0) ∨ (b < a ∧ intsF a b = 1) := by
  unfold intsF
  by_cases h : a < b
  · rw [if_pos h]; omega
  · rw [if_neg h]
    by_cases h2 : b < a
    · rw [if_pos h2]; omega
    · rw [if_neg h2]; omega
theorem ints_neg (a b : Int) : intsF b a = - intsF a b := by
  rcases ints_all a b with h | h | h <;> rcases ints_all b a with k | k | k <;> omega

mutual
theorem ord_all : ∀ (a b : Val), ordV a b = -1 ∨ ordV a b = 0 ∨ ordV a b = 1
  | .mk k n t l, .mk k' n' t' l' => by
    simp only [ordV]
    split
    · rcases ints_all (rankF k) (rankF k') with h | h | h <;> omega
    · split
      · exact texts_all t t'
      · split
        · exact ordL_all l l'
        · rcases ints_all n n' with h | h | h <;> omega
theorem ordL_all : ∀ (l m : List Val), ordL l m = -1 ∨ ordL l m = 0 ∨ ordL l m = 1
  | [], m => by simp only [ordL]; rcases ints_all 0 m.length with h | h | h <;> omega
  | v :: r, [] => by simp only [ordL]; rcases ints_all (r.length + 1) 0 with h | h | h <;> omega
  | v :: r, w :: s => by
    simp only [ordL]
    split
    · exact ord_all v w
    · exact ordL_all r s
end
mutual
theorem ord_neg : ∀ (a b : Val), ordV b a = - ordV a b
  | .mk k n t l, .mk k' n' t' l' => by
    by_cases h : k = k'
    · subst h
      simp only [ordV, ne_eq, not_true_eq_false, if_false]
      by_cases h3 : k = 3
      · rw [if_pos h3, if_pos h3]; exact texts_neg t t'
      · rw [if_neg h3, if_neg h3]
        by_cases h4 : k = 4
        · rw [if_pos h4, if_pos h4]; exact ordL_neg l l'
        · rw [if_neg h4, if_neg h4]; exact ints_neg n n'
    · simp only [ordV]
      rw [if_pos (fun e => h e.symm), if_pos h]
      exact ints_neg _ _
theorem ordL_neg : ∀ (l m : List Val), ordL m l = - ordL l m
  | [], [] => rfl
  | [], w :: s => by simp only [ordL]; rw [ints_neg]; rfl
  | v :: r, [] => by simp only [ordL]; rw [ints_neg]; rfl
  | v :: r, w :: s => by
    simp only [ordL]
    rw [ord_neg v w]
    by_cases h : ordV v w = 0
    · rw [h]; simpa using ordL_neg r s
    · rw [if_pos h, if_pos (by omega)]
end

theorem okL_of {d : Int} {l : List Val} (h : ∀ v ∈ l, okV d v = true) : ∀ {v : Val} {r : List Val}, l = v :: r → okV d v = true ∧ ∀ v ∈ r, okV d v = true := fun e => by
  subst e
  exact ⟨h _ (by simp), fun v hv => h v (by simp [hv])⟩

theorem rankF_eq {k k' : Int} {d d' n n' : Int} {t t' : ByteArray} {l l' : List Val} (ha : okV d (.mk k n t l) = true) (hb : okV d' (.mk k' n' t' l') = true) (h : rankF k = rankF k') : k = k' := by
  have := okV_kind ha
  have := okV_kind hb
  exact rankF_inj (by omega) (by omega) h

/-- what an ok value of a kind has beside -/
theorem okV_num {k : Int} {d n : Int} {t : ByteArray} {l : List Val} (ha : okV d (.mk k n t l) = true) (h3 : k ≠ 3) (h4 : k ≠ 4) : t = ⟨#[]⟩ ∧ l = [] := by
  simp only [okV, Bool.and_eq_true] at ha
  obtain ⟨_, h⟩ := ha
  by_cases h0 : k = 0
  · rw [if_pos h0] at h; simp only [Bool.and_eq_true, decide_eq_true_eq] at h; exact ⟨h.1.2, List.length_eq_zero_iff.1 h.2⟩
  rw [if_neg h0] at h
  by_cases h1 : k = 1
  · rw [if_pos h1] at h; simp only [Bool.and_eq_true, decide_eq_true_eq] at h; exact ⟨h.1.2, List.length_eq_zero_iff.1 h.2⟩
  rw [if_neg h1] at h
  by_cases h2 : k = 2
  · rw [if_pos h2] at h; simp only [Bool.and_eq_true, decide_eq_true_eq] at h; exact ⟨h.1.2, List.length_eq_zero_iff.1 h.2⟩
  rw [if_neg h2, if_neg h3] at h
  by_cases h5 : k = 5 ∨ k = 6
  · rw [if_pos h5] at h; simp only [Bool.and_eq_true, decide_eq_true_eq] at h; exact ⟨h.1.2, List.length_eq_zero_iff.1 h.2⟩
  · rw [if_neg h5, if_neg h4] at h; cases h
theorem okV_text {d n : Int} {t : ByteArray} {l : List Val} (ha : okV d (.mk 3 n t l) = true) : n = 0 ∧ l = [] := by
  have e : okV d (.mk 3 n t l) = (decide (1 ≤ d) && (decide (n = 0) && textOk t && decide (l.length = 0))) := by simp only [okV]; rfl
  rw [e] at ha
  simp only [Bool.and_eq_true, decide_eq_true_eq] at ha
  exact ⟨ha.2.1.1, List.length_eq_zero_iff.1 ha.2.2⟩
theorem okV_list0 {d n : Int} {t : ByteArray} {l : List Val} (ha : okV d (.mk 4 n t l) = true) : n = 0 ∧ t = ⟨#[]⟩ := by
  have e : okV d (.mk 4 n t l) = (decide (1 ≤ d) && (decide (n = 0) && decide (t = ⟨#[]⟩) && decide (l.length ≤ 6) && okL (d - 1) l)) := by simp only [okV]; rfl
  rw [e] at ha
  simp only [Bool.and_eq_true, decide_eq_true_eq] at ha
  exact ⟨ha.2.1.1.1, ha.2.1.1.2⟩

mutual
theorem ord_zero : ∀ (a b : Val) {d d' : Int}, okV d a = true → okV d' b = true → ordV a b = 0 → a = b
  | .mk k n t l, .mk k' n' t' l', d, d', ha, hb, h => by
    simp only [ordV] at h
    by_cases e : k = k'
    · subst e
      rw [if_neg (by simp)] at h
      by_cases h3 : k = 3
      · subst h3
        rw [if_pos rfl] at h
        have := texts_zero.1 h
        obtain ⟨rfl, rfl⟩ := okV_text ha
        obtain ⟨rfl, rfl⟩ := okV_text hb
        rw [this]
      · rw [if_neg h3] at h
        by_cases h4 : k = 4
        · subst h4
          rw [if_pos rfl] at h
          have := ordL_zero l l' (okV_list ha) (okV_list hb) h
          obtain ⟨rfl, rfl⟩ := okV_list0 ha
          obtain ⟨rfl, rfl⟩ := okV_list0 hb
          rw [this]
        · rw [if_neg h4] at h
          obtain ⟨rfl, rfl⟩ := okV_num ha h3 h4
          obtain ⟨rfl, rfl⟩ := okV_num hb h3 h4
          rcases ints_all n n' with h' | h' | h'
          · omega
          · rw [h'.1]
          · omega
    · rw [if_pos e] at h
      refine absurd (rankF_eq ha hb ?_) e
      rcases ints_all (rankF k) (rankF k') with h' | h' | h' <;> omega
theorem ordL_zero : ∀ (l m : List Val) {d d' : Int}, (∀ v ∈ l, okV d v = true) → (∀ v ∈ m, okV d' v = true) → ordL l m = 0 → l = m
  | [], [], _, _, _, _, _ => rfl
  | [], w :: s, d, d', _, _, h => by
    simp only [ordL] at h
    rcases ints_all 0 ((w :: s).length : Int) with h' | h' | h' <;> simp only [List.length_cons] at h h' <;> omega
  | v :: r, [], d, d', _, _, h => by
    simp only [ordL] at h
    rcases ints_all ((r.length : Int) + 1) 0 with h' | h' | h' <;> omega
  | v :: r, w :: s, d, d', ha, hb, h => by
    simp only [ordL] at h
    by_cases e : ordV v w = 0
    · rw [if_neg (by simpa using e)] at h
      rw [ord_zero v w (ha v (by simp)) (hb w (by simp)) e, ordL_zero r s (fun x hx => ha x (by simp [hx])) (fun x hx => hb x (by simp [hx])) h]
    · rw [if_pos e] at h; exact absurd h e
end
mutual
theorem ord_refl : ∀ (a : Val), ordV a a = 0
  | .mk k n t l => by
    simp only [ordV]
    rw [if_neg (by simp)]
    split
    · exact texts_zero.2 rfl
    · split
      · exact ordL_refl l
      · rcases ints_all n n with h | h | h <;> omega
theorem ordL_refl : ∀ (l : List Val), ordL l l = 0
  | [] => rfl
  | v :: r => by simp only [ordL]; rw [if_neg (by simp [ord_refl v])]; exact ordL_refl r
end

mutual
theorem ord_trans : ∀ (a b c : Val) {d d' d'' : Int}, okV d a = true → okV d' b = true → okV d'' c = true → ordV a b ≤ 0 → ordV b c ≤ 0 → ordV a c ≤ 0
  | .mk k n t l, .mk k' n' t' l', .mk k'' n'' t'' l'', d, d', d'', ha, hb, hc, h, g => by
    simp only [ordV] at h g ⊢
    by_cases e : k = k'
    · subst e
      rw [if_neg (by simp)] at h
      by_cases e2 : k = k''
      · subst e2
        rw [if_neg (by simp)] at g ⊢
        by_cases h3 : k = 3
        · rw [if_pos h3] at h g ⊢
          rcases texts_all t t' with h1 | h1 | h1
          · rcases texts_all t' t'' with g1 | g1 | g1
            · rw [texts_trans h1 g1]; omega
            · rw [← texts_zero.1 g1]; omega
            · omega
          · rw [texts_zero.1 h1]; omega
          · omega
        · rw [if_neg h3] at h g ⊢
          by_cases h4 : k = 4
          · subst h4
            rw [if_pos rfl] at h g ⊢
            exact ordL_trans l l' l'' (okV_list ha) (okV_list hb) (okV_list hc) h g
          · rw [if_neg h4] at h g ⊢
            rcases ints_all n n' with a1 | a1 | a1 <;> rcases ints_all n' n'' with a2 | a2 | a2 <;> rcases ints_all n n'' with a3 | a3 | a3 <;> omega
      · rw [if_pos e2] at g ⊢; exact g
    · rw [if_pos e] at h
      by_cases e2 : k' = k''
      · subst e2; rw [if_pos e]; exact h
      · rw [if_pos e2] at g
        by_cases e3 : k = k''
        · subst e3
          have := rankF_eq ha hb
          rcases ints_all (rankF k) (rankF k') with a1 | a1 | a1 <;> rcases ints_all (rankF k') (rankF k) with a2 | a2 | a2 <;> first | omega | exact absurd (this a1.1) e
        · rw [if_pos e3]
          rcases ints_all (rankF k) (rankF k') with a1 | a1 | a1 <;> rcases ints_all (rankF k') (rankF k'') with a2 | a2 | a2 <;> rcases ints_all (rankF k) (rankF k'') with a3 | a3 | a3 <;> omega
theorem ordL_trans : ∀ (l m r : List Val) {d d' d'' : Int}, (∀ v ∈ l, okV d v = true) → (∀ v ∈ m, okV d' v = true) → (∀ v ∈ r, okV d'' v = true) → ordL l m ≤ 0 → ordL m r ≤ 0 → ordL l r ≤ 0
  | [], m, r, _, _, _, _, _, _, _, _ => by simp only [ordL]; rcases ints_all 0 (r.length : Int) with h | h | h <;> omega
  | v :: l, [], r, _, _, _, _, _, _, h, _ => by simp only [ordL] at h; rcases ints_all ((l.length : Int) + 1) 0 with h' | h' | h' <;> omega
  | v :: l, w :: m, [], _, _, _, _, _, _, _, h => by simp only [ordL] at h; rcases ints_all ((m.length : Int) + 1) 0 with h' | h' | h' <;> omega
  | v :: l, w :: m, x :: r, d, d', d'', ha, hb, hc, h, g => by
    simp only [ordL] at h g ⊢
    have oa := ha v (by simp)
    have ob := hb w (by simp)
    have oc := hc x (by simp)
    have ih := ordL_trans l m r (fun y hy => ha y (by simp [hy])) (fun y hy => hb y (by simp [hy])) (fun y hy => hc y (by simp [hy]))
    by_cases e1 : ordV v w = 0
    · rw [if_neg (by simpa using e1)] at h
      have := ord_zero v w oa ob e1
      subst this
      by_cases e2 : ordV v x = 0
      · rw [if_neg (by simpa using e2)] at g ⊢
        exact ih h g
      · rw [if_pos e2] at g ⊢; exact g
    · rw [if_pos e1] at h
      by_cases e2 : ordV w x = 0
      · have := ord_zero w x ob oc e2
        subst this
        rw [if_pos e1]; exact h
      · rw [if_pos e2] at g
        have t := ord_trans v w x oa ob oc h g
        have : ordV v x ≠ 0 := fun e => by
          have := ord_zero v x oa oc e
          subst this
          have := ord_neg v w
          omega
        rw [if_pos this]; exact t
end
end Go.Proofs.Ytjmgkhkpjffpbaa
namespace Go.Proofs.Ytjmgkhkpjffpbaa
open Go Go.CL
set_option maxRecDepth 10000
set_option linter.unusedVariables false
set_option linter.unusedSimpArgs false

def Yes (out : COut) : Prop := ∃ σ, out = .ret (.sc (.bool true)) σ

theorem lessV_no {a b : Val} (h : ¬ (okV 3 a = true ∧ okV 3 b = true)) : lessV a b = nullV := by unfold lessV; rw [if_neg h]
theorem lessV_yes {a b : Val} (h : okV 3 a = true) (h' : okV 3 b = true) : lessV a b = lessF a b := by unfold lessV; rw [if_pos ⟨h, h'⟩]
theorem boolV_of {b : Bool} : ∃ k n t l, boolV b = .mk k n t l ∧ k = 1 ∧ (n = 1 ↔ b = true) ∧ (n = 0 ↔ b = false) := by
  cases b
  · exact ⟨_, _, _, _, rfl, rfl, by simp, by simp⟩
  · exact ⟨_, _, _, _, rfl, rfl, by simp, by simp⟩

/-- what the law asks of what is less -/
theorem less_facts (ak an : Int) (at' : ByteArray) (al : List Val) (bk bn : Int) (bt : ByteArray) (bl : List Val) : ∃ vk vn vt vl wk wn wt wl, lessV (.mk ak an at' al) (.mk bk bn bt bl) = .mk vk vn vt vl ∧ lessV (.mk bk bn bt bl) (.mk ak an at' al) = .mk wk wn wt wl ∧ vk = wk ∧
    (okV 3 (.mk ak an at' al) = true → okV 3 (.mk bk bn bt bl) = true → (vk = 0 ∧ (ak ≠ bk ∨ ak = 0 ∨ 3 < ak)) ∨
      (vk ≠ 0 ∧ 0 ≤ vn ∧ 0 ≤ wn ∧ vn + wn ≤ 1 ∧ ak = bk ∧ ((vn = 1 ∧ orderF (.mk ak an at' al) (.mk bk bn bt bl) < 0) ∨ (vn ≠ 1 ∧ 0 ≤ orderF (.mk ak an at' al) (.mk bk bn bt bl))))) := by
  by_cases hok : okV 3 (.mk ak an at' al) = true ∧ okV 3 (.mk bk bn bt bl) = true
  case neg =>
    rw [lessV_no hok, lessV_no (fun h => hok ⟨h.2, h.1⟩)]
    exact ⟨_, _, _, _, _, _, _, _, rfl, rfl, rfl, fun h h' => absurd ⟨h, h'⟩ hok⟩
  obtain ⟨ha, hb⟩ := hok
  rw [lessV_yes ha hb, lessV_yes hb ha]
  have ho : orderF (.mk ak an at' al) (.mk bk bn bt bl) = ordV (.mk ak an at' al) (.mk bk bn bt bl) := by unfold orderF; rw [if_pos ⟨ha, hb⟩]
  rw [ho]
  have kb := okV_kind hb
  have ka := okV_kind ha
  by_cases hk : ak = bk ∧ (ak = 2 ∨ ak = 3 ∨ ak = 1)
  · rw [lessF_yes hk rfl, lessF_yes (a := bk) (b := ak) (by omega) rfl]
    have hn := ord_neg (.mk ak an at' al) (.mk bk bn bt bl)
    rw [hn]
    generalize ordV (.mk ak an at' al) (.mk bk bn bt bl) = z
    obtain ⟨k1, n1, t1, l1, e1, f1, g1, i1⟩ := boolV_of (b := decide (z < 0))
    obtain ⟨k2, n2, t2, l2, e2, f2, g2, i2⟩ := boolV_of (b := decide (- z < 0))
    refine ⟨k1, n1, t1, l1, k2, n2, t2, l2, e1, e2, f1.trans f2.symm, fun _ _ => .inr ?_⟩
    rw [decide_eq_true_eq] at g1 g2
    rw [decide_eq_false_iff_not] at i1 i2
    omega
  · rw [lessF_no hk, lessF_no (a := bk) (b := ak) (by omega)]
    exact ⟨_, _, _, _, _, _, _, _, rfl, rfl, rfl, fun _ _ => .inl ⟨rfl, by omega⟩⟩

theorem bool_tame (b : Bool) : Tame (boolV b) := by
  cases b
  · exact .mk (by omega) (by omega) (by decide) (by decide) (by simp)
  · exact .mk (by omega) (by omega) (by decide) (by decide) (by simp)
theorem null_tame : Tame nullV := .mk (by omega) (by omega) (by decide) (by decide) (by simp)
theorem less_tame {a b : Val} (ha : Tame a) (hb : Tame b) : Tame (lessV a b) := by
  unfold lessV
  split
  · obtain ⟨ak, an, at', al⟩ := a
    obtain ⟨bk, bn, bt, bl⟩ := b
    simp only [lessF]
    split
    · exact bool_tame _
    · exact null_tame
  · exact null_tame

theorem lawLess {σ : Heap} {bs : List CV} (hb : BytesOk bs) : CRun Try.prog 5 [.vec bs] σ Yes := by
  refine crun_of (X := X) X_ok X_sat (body := bodyOf Try.f5) Try.func5 rfl (by kernel_rfl) (by kernel_rfl) ?_
  rw [Try.ntmps5]
  by_cases h2 : 1048576 < bs.length
  · conv => whnf
    repeat' (first | refine OrdN.one ?_ | refine Fork.yp ?_ | refine Fork.np ?_ | refine Fork.ny ?_ | refine Fork.nn ?_ | refine Fork.yb ?_ | refine Fork.nb ?_ | refine Fork.dp (fun h => ?_) (fun h => ?_) | refine Fork.dn (fun h => ?_) (fun h => ?_)|(refine Fork.mk (fun h => ?_) (fun h => ?_) <;> simp only [decide_eq_true_eq, decide_eq_false_iff_not, Bool.not_eq_true', Bool.not_eq_false', Bool.or_eq_true, Bool.or_eq_false_iff] at h) | refine GetN.go ?_ | refine Need.ap1 ?_ | refine Need.ap0 ?_ | refine Need.go ?_ | refine Need.draw ?_ | refine ElemN.go ?_ | refine AllocN.go (fun l hl => ?_) | refine finGo ?_) <;> try (conv => whnf)
    exact ⟨_, rfl⟩
  conv => whnf
  repeat' (first | (refine CallN.many (drawLess_c hb (by omega)) ?_; rintro _ ⟨⟨ak, an, at', al⟩, ⟨bk, bn, bt, bl⟩, τ, ha, hb', rfl⟩) | refine OrdN.go ?_ | refine Fork.yp ?_ | refine Fork.np ?_ | refine Fork.ny ?_ | refine Fork.nn ?_ | refine Fork.yb ?_ | refine Fork.nb ?_ | refine Fork.dp (fun h => ?_) (fun h => ?_) | refine Fork.dn (fun h => ?_) (fun h => ?_)|(refine Fork.mk (fun h => ?_) (fun h => ?_) <;> simp only [decide_eq_true_eq, decide_eq_false_iff_not, Bool.not_eq_true', Bool.not_eq_false', Bool.or_eq_true, Bool.or_eq_false_iff] at h) | refine GetN.go ?_ | refine Need.ap1 ?_ | refine Need.ap0 ?_ | refine Need.go ?_ | refine Need.draw ?_ | refine ElemN.go ?_ | refine AllocN.go (fun l hl => ?_) | refine finGo ?_) <;> try (conv => whnf)
  have c1 := implLess_c (σ := τ) ha hb'
  have c2 := implLess_c (σ := τ) hb' ha
  have c3 := specLess_c (σ := τ) ha hb'
  have c4 := specOk_c (σ := τ) ha
  have c5 := specOk_c (σ := τ) hb'
  have c6 := implOrder_c (σ := τ) ha hb'
  have ht := less_tame ha hb'
  obtain ⟨vk, vn, vt, vl, wk, wn, wt, wl, e1, e2, e3, e4⟩ := less_facts ak an at' al bk bn bt bl
  rw [e1] at c1 c3 ht
  rw [e2] at c2
  have c7 := as_v (σ := τ) (sameV_refl _) ht ht
  generalize okV 3 (.mk ak an at' al) = x at c4 e4
  generalize okV 3 (.mk bk bn bt bl) = y at c5 e4
  generalize orderF (.mk ak an at' al) (.mk bk bn bt bl) = z at c6 e4
  cases x
  · conv => whnf
    repeat' (first | (refine CallN.one c1 ?_) | (refine CallN.one c2 ?_) | (refine CallN.one c3 ?_) | (refine CallN.one c4 ?_) | (refine CallN.one c5 ?_) | (refine CallN.one c6 ?_) | (refine CallN.one c7 ?_) | refine OrdN.one ?_ | refine Fork.yp ?_ | refine Fork.np ?_ | refine Fork.ny ?_ | refine Fork.nn ?_ | refine Fork.yb ?_ | refine Fork.nb ?_ | refine Fork.dp (fun h => ?_) (fun h => ?_) | refine Fork.dn (fun h => ?_) (fun h => ?_)|(refine Fork.mk (fun h => ?_) (fun h => ?_) <;> simp only [decide_eq_true_eq, decide_eq_false_iff_not, Bool.not_eq_true', Bool.not_eq_false', Bool.or_eq_true, Bool.or_eq_false_iff] at h) | refine GetN.go ?_ | refine Need.ap1 ?_ | refine Need.ap0 ?_ | refine Need.go ?_ | refine Need.draw ?_ | refine ElemN.go ?_ | refine AllocN.go (fun l hl => ?_) | refine finGo ?_) <;> try (conv => whnf)
    exact ⟨_, rfl⟩
  cases y
  · conv => whnf
    repeat' (first | (refine CallN.one c1 ?_) | (refine CallN.one c2 ?_) | (refine CallN.one c3 ?_) | (refine CallN.one c4 ?_) | (refine CallN.one c5 ?_) | (refine CallN.one c6 ?_) | (refine CallN.one c7 ?_) | refine OrdN.one ?_ | refine Fork.yp ?_ | refine Fork.np ?_ | refine Fork.ny ?_ | refine Fork.nn ?_ | refine Fork.yb ?_ | refine Fork.nb ?_ | refine Fork.dp (fun h => ?_) (fun h => ?_) | refine Fork.dn (fun h => ?_) (fun h => ?_)|(refine Fork.mk (fun h => ?_) (fun h => ?_) <;> simp only [decide_eq_true_eq, decide_eq_false_iff_not, Bool.not_eq_true', Bool.not_eq_false', Bool.or_eq_true, Bool.or_eq_false_iff] at h) | refine GetN.go ?_ | refine Need.ap1 ?_ | refine Need.ap0 ?_ | refine Need.go ?_ | refine Need.draw ?_ | refine ElemN.go ?_ | refine AllocN.go (fun l hl => ?_) | refine finGo ?_) <;> try (conv => whnf)
    exact ⟨_, rfl⟩
  rcases e4 rfl rfl with h | h
  · conv => whnf
    repeat' (first | (refine CallN.one c1 ?_) | (refine CallN.one c2 ?_) | (refine CallN.one c3 ?_) | (refine CallN.one c4 ?_) | (refine CallN.one c5 ?_) | (refine CallN.one c6 ?_) | (refine CallN.one c7 ?_) | refine OrdN.one ?_ | refine Fork.yp ?_ | refine Fork.np ?_ | refine Fork.ny ?_ | refine Fork.nn ?_ | refine Fork.yb ?_ | refine Fork.nb ?_ | refine Fork.dp (fun h => ?_) (fun h => ?_) | refine Fork.dn (fun h => ?_) (fun h => ?_)|(refine Fork.mk (fun h => ?_) (fun h => ?_) <;> simp only [decide_eq_true_eq, decide_eq_false_iff_not, Bool.not_eq_true', Bool.not_eq_false', Bool.or_eq_true, Bool.or_eq_false_iff] at h) | refine GetN.go ?_ | refine Need.ap1 ?_ | refine Need.ap0 ?_ | refine Need.go ?_ | refine Need.draw ?_ | refine ElemN.go ?_ | refine AllocN.go (fun l hl => ?_) | refine finGo ?_) <;> try (conv => whnf)
    all_goals exact ⟨_, rfl⟩
  · have hv : vn = 0 ∨ vn = 1 := by omega
    conv => whnf
    repeat' (first | (refine CallN.one c1 ?_) | (refine CallN.one c2 ?_) | (refine CallN.one c3 ?_) | (refine CallN.one c4 ?_) | (refine CallN.one c5 ?_) | (refine CallN.one c6 ?_) | (refine CallN.one c7 ?_) | refine OrdN.one ?_ | refine Fork.yp ?_ | refine Fork.np ?_ | refine Fork.ny ?_ | refine Fork.nn ?_ | refine Fork.yb ?_ | refine Fork.nb ?_ | refine Fork.dp (fun h => ?_) (fun h => ?_) | refine Fork.dn (fun h => ?_) (fun h => ?_)|(refine Fork.mk (fun h => ?_) (fun h => ?_) <;> simp only [decide_eq_true_eq, decide_eq_false_iff_not, Bool.not_eq_true', Bool.not_eq_false', Bool.or_eq_true, Bool.or_eq_false_iff] at h) | refine GetN.go ?_ | refine Need.ap1 ?_ | refine Need.ap0 ?_ | refine Need.go ?_ | refine Need.draw ?_ | refine ElemN.go ?_ | refine AllocN.go (fun l hl => ?_) | refine finGo ?_) <;> try (conv => whnf)
    all_goals exact ⟨_, rfl⟩
end Go.Proofs.Ytjmgkhkpjffpbaa
