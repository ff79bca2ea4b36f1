/-
  A part of the proof that 'typecaselaw.SpliceComposes' returns true, whatever the input: the steps of Compose, in plain Lean. No conditions.
-/
import Derived.Test.YtjlbaagnoppfgaaSplE
namespace Go.Proofs.Ytjlbaagnoppfgaa
open Go Go.SX Go.Spl
set_option maxRecDepth 100000
set_option maxHeartbeats 0
theorem ex_length {p : Part} (h : Ok p) : ((ex p).length : Int) = p.n + p.s.length := by
  obtain ⟨k, n, s⟩ := p
  have h0 := h.n0
  simp only at h0
  rcases h.kind with h1 | h1 | h1 <;> simp only at h1 <;> subst h1
  · have hs : s = [] := h.s0 (by simp [-List.getD_eq_getElem?_getD])
    subst hs
    simp [-List.getD_eq_getElem?_getD, ex]; omega
  · have hs : s = [] := h.s0 (by simp [-List.getD_eq_getElem?_getD])
    subst hs
    simp [-List.getD_eq_getElem?_getD, ex]; omega
  · have hn : n = 0 := h.n3 rfl
    subst hn
    simp [-List.getD_eq_getElem?_getD, ex]
theorem tk_all {l : List Part} {k n : Nat} (h : Ok (l.getD k default)) (hn : n = (ex (l.getD k default)).length) : tkP (l.getD k default) n = l.getD k default ∧ tkL l k n = l ∧ tkK l k n = k + 1 := by
  have h1 := ex_length h
  have h2 := h.n0
  have e1 : ¬ ((l.getD k default).kind = 3 ∧ n < (l.getD k default).s.length) := fun ⟨h3, h4⟩ => by have := h.n3 h3; omega
  have e2 : ¬ ((l.getD k default).kind ≠ 3 ∧ (n : Int) < (l.getD k default).n) := fun ⟨h3, h4⟩ => by have := h.s0 h3; rw [this] at h1; simp [-List.getD_eq_getElem?_getD] at h1; omega
  simp only [tkP, tkL, tkK]
  rw [if_neg e1, if_neg e1, if_neg e1, if_neg e2, if_neg e2, if_neg e2]
  exact ⟨rfl, rfl, rfl⟩
theorem drop_cons {l : List Part} {k : Nat} (hk : k < l.length) : l.drop k = l.getD k default :: l.drop (k + 1) := by
  rw [List.drop_eq_getElem_cons hk, List.getD_eq_getElem?_getD, List.getElem?_eq_getElem hk]; rfl
structure TkOK (l : List Part) (k n : Nat) : Prop where
  le : tkK l k n ≤ (tkL l k n).length
  eq : exs (l.drop k) = ex (tkP (l.getD k default) n) ++ exs ((tkL l k n).drop (tkK l k n))
  ok : Ok (tkP (l.getD k default) n)
  kind : (tkP (l.getD k default) n).kind = (l.getD k default).kind
  len : (ex (tkP (l.getD k default) n)).length = n
  oks : ∀ p ∈ (tkL l k n).drop (tkK l k n), Ok p ∧ ex p ≠ []
theorem drop_set {l : List Part} {k : Nat} (hk : k < l.length) (p : Part) : (l.set k p).drop k = p :: l.drop (k + 1) := by
  rw [drop_cons (by simpa using hk)]
  congr 1
  · simp [hk]
  · rw [List.drop_set, if_pos (by omega)]
theorem tk_ok {l : List Part} {k n : Nat} (hk : k < l.length) (hok : ∀ p ∈ l.drop k, Ok p ∧ ex p ≠ []) (hn0 : 0 < n) (hn : n ≤ (ex (l.getD k default)).length) : TkOK l k n := by
  have hd := drop_cons hk
  obtain ⟨h, hne⟩ := hok (l.getD k default) (by rw [hd]; exact List.mem_cons_self ..)
  have hrest : ∀ p ∈ l.drop (k + 1), Ok p ∧ ex p ≠ [] := fun p hp => hok p (by rw [hd]; exact List.mem_cons_of_mem _ hp)
  have hlen := ex_length h
  have hn0' := h.n0
  rcases Nat.lt_or_eq_of_le hn with hlt | heq
  · by_cases h3 : (l.getD k default).kind = 3
    · have hz := h.n3 h3
      have h4 : n < (l.getD k default).s.length := by omega
      have eP : tkP (l.getD k default) n = ⟨3, 0, (l.getD k default).s.take n⟩ := by rw [tkP, if_pos ⟨h3, h4⟩, h3, hz]
      have eL : tkL l k n = l.set k ⟨3, 0, (l.getD k default).s.drop n⟩ := by simp only [tkL]; rw [if_pos ⟨h3, h4⟩, h3, hz]
      have eK : tkK l k n = k := by simp only [tkK]; rw [if_pos ⟨h3, h4⟩]
      refine ⟨?_, ?_, ?_, ?_, ?_, ?_⟩
      · rw [eK, eL]; simp [-List.getD_eq_getElem?_getD]; omega
      · rw [eP, eL, eK, drop_set hk, hd, exs_cons, exs_cons, ← List.append_assoc]
        congr 1
        have e0 : ex (l.getD k default) = (l.getD k default).s.map Prim.put := by unfold ex; rw [if_neg (by omega), if_neg (by omega), if_pos h3]
        rw [e0]
        simp only [ex, show ((3 : Int) = 1) = False by simp [-List.getD_eq_getElem?_getD], show ((3 : Int) = 2) = False by simp [-List.getD_eq_getElem?_getD], if_false, if_true]
        rw [← List.map_append, List.take_append_drop]
      · rw [eP]; exact ⟨by simp [-List.getD_eq_getElem?_getD], by simp [-List.getD_eq_getElem?_getD], by simp [-List.getD_eq_getElem?_getD], by simp [-List.getD_eq_getElem?_getD]⟩
      · rw [eP]; exact h3.symm
      · rw [eP]; simp [-List.getD_eq_getElem?_getD, ex]; omega
      · rw [eL, eK, drop_set hk]
        intro p hp
        rcases List.mem_cons.1 hp with rfl | hp
        · exact ⟨⟨by simp [-List.getD_eq_getElem?_getD], by simp [-List.getD_eq_getElem?_getD], by simp [-List.getD_eq_getElem?_getD], by simp [-List.getD_eq_getElem?_getD]⟩, by simp [-List.getD_eq_getElem?_getD, ex]; omega⟩
        · exact hrest p hp
    · have hs := h.s0 h3
      have h4 : (n : Int) < (l.getD k default).n := by rw [hs] at hlen; simp [-List.getD_eq_getElem?_getD] at hlen; omega
      have eP : tkP (l.getD k default) n = ⟨(l.getD k default).kind, n, []⟩ := by rw [tkP, if_neg (fun h => h3 h.1), if_pos ⟨h3, h4⟩, hs]
      have eL : tkL l k n = l.set k ⟨(l.getD k default).kind, (l.getD k default).n - n, []⟩ := by simp only [tkL]; rw [if_neg (fun h => h3 h.1), if_pos ⟨h3, h4⟩, hs]
      have eK : tkK l k n = k := by simp only [tkK]; rw [if_neg (fun h => h3 h.1), if_pos ⟨h3, h4⟩]
      have hk12 : (l.getD k default).kind = 1 ∨ (l.getD k default).kind = 2 := by have := h.kind; omega
      have hrep : ∀ (c : Prim), List.replicate (l.getD k default).n.toNat c = List.replicate n c ++ List.replicate ((l.getD k default).n - n).toNat c := by
        intro c; rw [List.replicate_append_replicate]; congr 1; omega
      refine ⟨?_, ?_, ?_, ?_, ?_, ?_⟩
      · rw [eK, eL]; simp [-List.getD_eq_getElem?_getD]; omega
      · rw [eP, eL, eK, drop_set hk, hd, exs_cons, exs_cons, ← List.append_assoc]
        congr 1
        simp only [ex]
        rcases hk12 with h5 | h5 <;> rw [h5]
        · simp [-List.getD_eq_getElem?_getD, hrep]
        · simp [-List.getD_eq_getElem?_getD, hrep]
      · rw [eP]; exact ⟨by simp only; omega, by simp [-List.getD_eq_getElem?_getD], by simp [-List.getD_eq_getElem?_getD], fun h => absurd h h3⟩
      · rw [eP]
      · rw [eP]
        rcases hk12 with h5 | h5 <;> rw [h5] <;> simp [-List.getD_eq_getElem?_getD, ex]
      · rw [eL, eK, drop_set hk]
        intro p hp
        rcases List.mem_cons.1 hp with rfl | hp
        · refine ⟨⟨by simp only; omega, by simp only; omega, by simp [-List.getD_eq_getElem?_getD], fun h => absurd h h3⟩, ?_⟩
          rcases hk12 with h5 | h5 <;> rw [h5] <;> simp [-List.getD_eq_getElem?_getD, ex] <;> omega
        · exact hrest p hp
  · obtain ⟨e1, e2, e3⟩ := tk_all h heq
    refine ⟨?_, ?_, ?_, ?_, ?_, ?_⟩
    · rw [e2, e3]; omega
    · rw [e1, e2, e3, hd, exs_cons]
    · rw [e1]; exact h
    · rw [e1]
    · rw [e1]; exact heq.symm
    · rw [e2, e3]; exact hrest

structure CS where
  x : List Part
  kx : Nat
  y : List Part
  ky : Nat
  pre : List Prim
structure CI (T : List Prim) (s : CS) : Prop where
  hx : s.kx ≤ s.x.length
  hy : s.ky ≤ s.y.length
  okx : ∀ p ∈ s.x.drop s.kx, Ok p ∧ ex p ≠ []
  oky : ∀ p ∈ s.y.drop s.ky, Ok p ∧ ex p ≠ []
  lx : (exs (s.x.drop s.kx)).length ≤ 10000000
  ly : (exs (s.y.drop s.ky)).length ≤ 10000000
  bal : wt fMk (exs (s.x.drop s.kx)) = wt fOv (exs (s.y.drop s.ky))
  eq : s.pre ++ comp (exs (s.x.drop s.kx)) (exs (s.y.drop s.ky)) = T
def CS.mu (s : CS) : Nat := (exs (s.x.drop s.kx)).length + (exs (s.y.drop s.ky)).length
def CS.bld (s : CS) : Bld := s.pre.foldl addP .init
theorem CS.bld_add (s : CS) {p : Part} (h : Ok p) (x : List Part) (kx : Nat) (y : List Part) (ky : Nat) : add s.bld p = (CS.mk x kx y ky (s.pre ++ ex p)).bld := by
  simp only [CS.bld, List.foldl_append, add_ex h]
theorem CI.headx {T : List Prim} {s : CS} (h : CI T s) (hk : s.kx < s.x.length) : Ok (s.x.getD s.kx default) ∧ ex (s.x.getD s.kx default) ≠ [] ∧ (ex (s.x.getD s.kx default)).length ≤ 10000000 ∧ 0 < (ex (s.x.getD s.kx default)).length := by
  have hd := drop_cons hk
  have h1 := h.okx (s.x.getD s.kx default) (by rw [hd]; exact List.mem_cons_self ..)
  have h2 := h.lx
  rw [hd, exs_cons, List.length_append] at h2
  exact ⟨h1.1, h1.2, by omega, List.length_pos_iff.2 h1.2⟩
theorem CI.heady {T : List Prim} {s : CS} (h : CI T s) (hk : s.ky < s.y.length) : Ok (s.y.getD s.ky default) ∧ ex (s.y.getD s.ky default) ≠ [] ∧ (ex (s.y.getD s.ky default)).length ≤ 10000000 ∧ 0 < (ex (s.y.getD s.ky default)).length := by
  have hd := drop_cons hk
  have h1 := h.oky (s.y.getD s.ky default) (by rw [hd]; exact List.mem_cons_self ..)
  have h2 := h.ly
  rw [hd, exs_cons, List.length_append] at h2
  exact ⟨h1.1, h1.2, by omega, List.length_pos_iff.2 h1.2⟩
theorem ex_put {p : Part} (h : p.kind = 3) : ex p = p.s.map Prim.put := by unfold ex; rw [if_neg (by omega), if_neg (by omega), if_pos h]
theorem ex_cut {p : Part} (h : p.kind = 2) : ex p = List.replicate p.n.toNat Prim.cut := by unfold ex; rw [if_neg (by omega), if_pos h]
theorem ex_keep {p : Part} (h : p.kind = 1) : ex p = List.replicate p.n.toNat Prim.keep := by unfold ex; rw [if_pos h]
theorem wt_puts (f : Prim → Nat) (c : Nat) (hf : ∀ b, f (.put b) = c) (s : Str) : wt f (s.map Prim.put) = c * s.length := by
  induction s with
  | nil => rfl
  | cons b s ih => simp only [List.map_cons, wt, hf, ih, List.length_cons, Nat.mul_add]; omega
theorem wt_rep (f : Prim → Nat) (x : Prim) (n : Nat) : wt f (List.replicate n x) = f x * n := by
  induction n with
  | zero => rfl
  | succ n ih => simp only [List.replicate_succ, wt, ih, Nat.mul_add]; omega
/-- all of the head of y, which is put -/
theorem CI.step1 {T : List Prim} {s : CS} (h : CI T s) (hk : s.ky < s.y.length) (hq : (s.y.getD s.ky default).kind = 3) :
    CI T ⟨s.x, s.kx, s.y, s.ky + 1, s.pre ++ ex (s.y.getD s.ky default)⟩ ∧ CS.mu ⟨s.x, s.kx, s.y, s.ky + 1, s.pre ++ ex (s.y.getD s.ky default)⟩ < s.mu := by
  obtain ⟨h1, h2, h3, h4⟩ := h.heady hk
  have hd := drop_cons hk
  have e := ex_put hq
  refine ⟨⟨h.hx, hk, h.okx, fun p hp => h.oky p (by rw [hd]; exact List.mem_cons_of_mem _ hp), h.lx, ?_, ?_, ?_⟩, ?_⟩
  · have := h.ly; rw [hd, exs_cons, List.length_append] at this; simp only; omega
  · have := h.bal; rw [hd, exs_cons, wt_append, e, wt_puts fOv 0 (fun _ => rfl)] at this; simp only; omega
  · have := h.eq
    rw [hd, exs_cons, e, comp_puts] at this
    simp only
    rw [e, List.append_assoc]
    exact this
  · simp only [CS.mu]
    rw [hd, exs_cons, List.length_append]
    omega
/-- all of the head of x, which is cut -/
theorem CI.step2 {T : List Prim} {s : CS} (h : CI T s) (hk : s.kx < s.x.length) (hp : (s.x.getD s.kx default).kind = 2) (hq : s.ky < s.y.length → (s.y.getD s.ky default).kind ≠ 3) :
    CI T ⟨s.x, s.kx + 1, s.y, s.ky, s.pre ++ ex (s.x.getD s.kx default)⟩ ∧ CS.mu ⟨s.x, s.kx + 1, s.y, s.ky, s.pre ++ ex (s.x.getD s.kx default)⟩ < s.mu := by
  obtain ⟨h1, h2, h3, h4⟩ := h.headx hk
  have hd := drop_cons hk
  have e := ex_cut hp
  have hnp : noPut (exs (s.y.drop s.ky)) := by
    rcases Nat.lt_or_eq_of_le h.hy with hlt | heq
    · obtain ⟨k1, k2, k3, k4⟩ := h.heady hlt
      have hq := hq hlt
      rw [drop_cons hlt, exs_cons]
      rcases k1.kind with k5 | k5 | k5
      · rw [ex_keep k5] at k4 ⊢
        simp [-List.getD_eq_getElem?_getD] at k4
        obtain ⟨m, hm⟩ : ∃ m, (s.y.getD s.ky default).n.toNat = m + 1 := ⟨(s.y.getD s.ky default).n.toNat - 1, by omega⟩
        rw [hm, List.replicate_succ]; trivial
      · rw [ex_cut k5] at k4 ⊢
        simp [-List.getD_eq_getElem?_getD] at k4
        obtain ⟨m, hm⟩ : ∃ m, (s.y.getD s.ky default).n.toNat = m + 1 := ⟨(s.y.getD s.ky default).n.toNat - 1, by omega⟩
        rw [hm, List.replicate_succ]; trivial
      · exact absurd k5 hq
    · rw [heq, List.drop_length]; trivial
  refine ⟨⟨hk, h.hy, fun p hp => h.okx p (by rw [hd]; exact List.mem_cons_of_mem _ hp), h.oky, ?_, h.ly, ?_, ?_⟩, ?_⟩
  · have := h.lx; rw [hd, exs_cons, List.length_append] at this; simp only; omega
  · have := h.bal; rw [hd, exs_cons, wt_append, e, wt_rep] at this; simp only [fMk] at this ⊢; omega
  · have := h.eq
    rw [hd, exs_cons, e, comp_cuts _ _ hnp] at this
    simp only
    rw [e, List.append_assoc]
    exact this
  · simp only [CS.mu]
    rw [hd, exs_cons, List.length_append]
    omega
/-- neither: both are there -/
theorem CI.both {T : List Prim} {s : CS} (h : CI T s) (hne : s.kx < s.x.length ∨ s.ky < s.y.length) (hp : s.kx < s.x.length → (s.x.getD s.kx default).kind ≠ 2) (hq : s.ky < s.y.length → (s.y.getD s.ky default).kind ≠ 3) :
    s.kx < s.x.length ∧ s.ky < s.y.length := by
  have hmk := h.bal
  by_cases hx : s.kx < s.x.length
  · refine ⟨hx, ?_⟩
    by_cases hy : s.ky < s.y.length
    · exact hy
    · exfalso
      obtain ⟨k1, k2, k3, k4⟩ := h.headx hx
      have hp := hp hx
      rw [List.drop_eq_nil_of_le (by omega : s.y.length ≤ s.ky), drop_cons hx, exs_cons, wt_append] at hmk
      simp only [exs_nil, wt] at hmk
      rcases k1.kind with k5 | k5 | k5
      · rw [ex_keep k5] at hmk k4; rw [wt_rep] at hmk; simp [-List.getD_eq_getElem?_getD, fMk] at hmk k4; omega
      · exact hp k5
      · rw [ex_put k5] at hmk k4; rw [wt_puts fMk 1 (fun _ => rfl)] at hmk; simp only [List.length_map] at k4; omega
  · exfalso
    have hy : s.ky < s.y.length := by omega
    obtain ⟨k1, k2, k3, k4⟩ := h.heady hy
    have hq := hq hy
    rw [List.drop_eq_nil_of_le (by omega : s.x.length ≤ s.kx), drop_cons hy, exs_cons, wt_append] at hmk
    simp only [exs_nil, wt] at hmk
    rcases k1.kind with k5 | k5 | k5
    · rw [ex_keep k5] at hmk k4; rw [wt_rep] at hmk; simp [-List.getD_eq_getElem?_getD, fOv] at hmk k4; omega
    · rw [ex_cut k5] at hmk k4; rw [wt_rep] at hmk; simp [-List.getD_eq_getElem?_getD, fOv] at hmk k4; omega
    · exact hq k5
theorem comp_pk' {s : Str} {n : Nat} (h : s.length = n) (x y : List Prim) : comp (s.map Prim.put ++ x) (List.replicate n Prim.keep ++ y) = s.map Prim.put ++ comp x y := by subst h; exact comp_pk s x y
theorem comp_pc' {s : Str} {n : Nat} (h : s.length = n) (x y : List Prim) : comp (s.map Prim.put ++ x) (List.replicate n Prim.cut ++ y) = comp x y := by subst h; exact comp_pc s x y
/-- n of both -/
def CS.three (s : CS) (n : Nat) : CS :=
  ⟨tkL s.x s.kx n, tkK s.x s.kx n, tkL s.y s.ky n, tkK s.y s.ky n, s.pre ++ (if (s.x.getD s.kx default).kind = 1 then ex (tkP (s.y.getD s.ky default) n) else if (s.y.getD s.ky default).kind = 1 then ex (tkP (s.x.getD s.kx default) n) else [])⟩
theorem CI.step3 {T : List Prim} {s : CS} (h : CI T s) (hx : s.kx < s.x.length) (hy : s.ky < s.y.length) (hp : (s.x.getD s.kx default).kind ≠ 2) (hq : (s.y.getD s.ky default).kind ≠ 3) {n : Nat} (hn0 : 0 < n)
    (hnx : n ≤ (ex (s.x.getD s.kx default)).length) (hny : n ≤ (ex (s.y.getD s.ky default)).length) : CI T (s.three n) ∧ (s.three n).mu < s.mu := by
  have tx := tk_ok hx h.okx hn0 hnx
  have ty := tk_ok hy h.oky hn0 hny
  have hmk := h.bal
  have heq := h.eq
  have hlx := h.lx
  have hly := h.ly
  have hkx := (h.headx hx).1.kind
  have hky := (h.heady hy).1.kind
  have lenx := tx.len
  have leny := ty.len
  have okx := tx.ok
  have oky := ty.ok
  rw [tx.eq, ty.eq, wt_append, wt_append] at hmk
  rw [tx.eq, ty.eq] at heq
  rw [tx.eq, List.length_append] at hlx
  rw [ty.eq, List.length_append] at hly
  have hkpx : (tkP (s.x.getD s.kx default) n).kind = 1 ∨ (tkP (s.x.getD s.kx default) n).kind = 3 := by rw [tx.kind]; omega
  have hkpy : (tkP (s.y.getD s.ky default) n).kind = 1 ∨ (tkP (s.y.getD s.ky default) n).kind = 2 := by rw [ty.kind]; omega
  have hmu : (s.three n).mu < s.mu := by
    simp only [CS.mu, CS.three]
    rw [tx.eq, ty.eq, List.length_append, List.length_append]
    omega
  have ey : (ex (tkP (s.y.getD s.ky default) n) = List.replicate n Prim.keep ∧ (s.y.getD s.ky default).kind = 1) ∨ (ex (tkP (s.y.getD s.ky default) n) = List.replicate n Prim.cut ∧ (s.y.getD s.ky default).kind = 2) := by
    rcases hkpy with k | k
    · left; rw [ex_keep k] at leny ⊢; simp [-List.getD_eq_getElem?_getD] at leny; exact ⟨by rw [leny], by rw [← ty.kind]; exact k⟩
    · right; rw [ex_cut k] at leny ⊢; simp [-List.getD_eq_getElem?_getD] at leny; exact ⟨by rw [leny], by rw [← ty.kind]; exact k⟩
  refine ⟨?_, hmu⟩
  rcases hkpx with kx | kx
  · have k1 : (s.x.getD s.kx default).kind = 1 := by rw [← tx.kind]; exact kx
    have ex1 : ex (tkP (s.x.getD s.kx default) n) = List.replicate n Prim.keep := by rw [ex_keep kx] at lenx ⊢; simp [-List.getD_eq_getElem?_getD] at lenx; rw [lenx]
    refine ⟨tx.le, ty.le, tx.oks, ty.oks, by simp only [CS.three]; omega, by simp only [CS.three]; omega, ?_, ?_⟩
    · simp only [CS.three]
      rw [ex1, wt_rep] at hmk
      rcases ey with ⟨e, _⟩ | ⟨e, _⟩ <;> rw [e, wt_rep] at hmk <;> simp [-List.getD_eq_getElem?_getD, fMk, fOv] at hmk <;> exact hmk
    · simp only [CS.three]
      rw [if_pos k1]
      rw [ex1] at heq
      rcases ey with ⟨e, _⟩ | ⟨e, _⟩
      · rw [e] at heq ⊢; rw [comp_kk] at heq; rw [List.append_assoc]; exact heq
      · rw [e] at heq ⊢; rw [comp_kc] at heq; rw [List.append_assoc]; exact heq
  · have k1 : (s.x.getD s.kx default).kind = 3 := by rw [← tx.kind]; exact kx
    have ex1 : ex (tkP (s.x.getD s.kx default) n) = (tkP (s.x.getD s.kx default) n).s.map Prim.put := ex_put kx
    have hls : (tkP (s.x.getD s.kx default) n).s.length = n := by rw [ex1] at lenx; simpa using lenx
    refine ⟨tx.le, ty.le, tx.oks, ty.oks, by simp only [CS.three]; omega, by simp only [CS.three]; omega, ?_, ?_⟩
    · simp only [CS.three]
      rw [ex1, wt_puts fMk 1 (fun _ => rfl)] at hmk
      rcases ey with ⟨e, _⟩ | ⟨e, _⟩ <;> rw [e, wt_rep] at hmk <;> simp [-List.getD_eq_getElem?_getD, fOv] at hmk <;> omega
    · simp only [CS.three]
      rw [if_neg (by omega)]
      rw [ex1] at heq
      rcases ey with ⟨e, k⟩ | ⟨e, k⟩
      · rw [e, comp_pk' hls] at heq
        rw [if_pos k, ex1, List.append_assoc]
        exact heq
      · rw [e, comp_pc' hls] at heq
        rw [if_neg (by omega), List.append_nil]
        exact heq
end Go.Proofs.Ytjlbaagnoppfgaa
