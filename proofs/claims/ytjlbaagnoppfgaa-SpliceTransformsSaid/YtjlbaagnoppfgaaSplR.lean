/-
  A part of the proof that 'typecaselaw.SpliceTransforms' returns true, whatever the input: the steps of Transform, in plain Lean. No conditions.
-/
import Derived.Test.YtjlbaagnoppfgaaSplQ
namespace Go.Proofs.Ytjlbaagnoppfgaa
open Go Go.SX Go.Spl
set_option maxRecDepth 100000
set_option maxHeartbeats 0
structure TS where
  x : List Part
  kx : Nat
  y : List Part
  ky : Nat
  preL : List Prim
  preR : List Prim
structure TI (T : List Prim × List Prim) (s : TS) : Prop where
  hx : s.kx ≤ s.x.length
  hy : s.ky ≤ s.y.length
  okx : ∀ p ∈ s.x.drop s.kx, Ok p ∧ ex p ≠ []
  oky : ∀ p ∈ s.y.drop s.ky, Ok p ∧ ex p ≠ []
  lx : (exs (s.x.drop s.kx)).length ≤ 10000000
  ly : (exs (s.y.drop s.ky)).length ≤ 10000000
  bal : wt fOv (exs (s.x.drop s.kx)) = wt fOv (exs (s.y.drop s.ky))
  eqL : s.preL ++ (tr (exs (s.x.drop s.kx)) (exs (s.y.drop s.ky))).1 = T.1
  eqR : s.preR ++ (tr (exs (s.x.drop s.kx)) (exs (s.y.drop s.ky))).2 = T.2
def TS.mu (s : TS) : Nat := (exs (s.x.drop s.kx)).length + (exs (s.y.drop s.ky)).length
def TS.bl (s : TS) : Bld := s.preL.foldl addP .init
def TS.br (s : TS) : Bld := s.preR.foldl addP .init
theorem bl_add (pre : List Prim) {p : Part} (h : Ok p) : add (pre.foldl addP .init) p = (pre ++ ex p).foldl addP .init := by
  simp only [List.foldl_append, add_ex h]
theorem TI.headx {T : List Prim × List Prim} {s : TS} (h : TI T s) (hk : s.kx < s.x.length) : Ok (s.x.getD s.kx default) ∧ ex (s.x.getD s.kx default) ≠ [] ∧ (ex (s.x.getD s.kx default)).length ≤ 10000000 ∧ 0 < (ex (s.x.getD s.kx default)).length := by
  have hd := drop_cons hk
  have h1 := h.okx (s.x.getD s.kx default) (by rw [hd]; exact List.mem_cons_self ..)
  have h2 := h.lx
  rw [hd, exs_cons, List.length_append] at h2
  exact ⟨h1.1, h1.2, by omega, List.length_pos_iff.2 h1.2⟩
theorem TI.heady {T : List Prim × List Prim} {s : TS} (h : TI T s) (hk : s.ky < s.y.length) : Ok (s.y.getD s.ky default) ∧ ex (s.y.getD s.ky default) ≠ [] ∧ (ex (s.y.getD s.ky default)).length ≤ 10000000 ∧ 0 < (ex (s.y.getD s.ky default)).length := by
  have hd := drop_cons hk
  have h1 := h.oky (s.y.getD s.ky default) (by rw [hd]; exact List.mem_cons_self ..)
  have h2 := h.ly
  rw [hd, exs_cons, List.length_append] at h2
  exact ⟨h1.1, h1.2, by omega, List.length_pos_iff.2 h1.2⟩
theorem TI.bdl {T : List Prim × List Prim} (hT : T.1.length ≤ 30000000) {s : TS} (h : TI T s) : Bd s.bl := by
  refine bd_adds _ ?_
  have h2 : (s.preL ++ (tr (exs (s.x.drop s.kx)) (exs (s.y.drop s.ky))).1).length = T.1.length := by rw [h.eqL]
  rw [List.length_append] at h2
  omega
theorem TI.bdr {T : List Prim × List Prim} (hT : T.2.length ≤ 30000000) {s : TS} (h : TI T s) : Bd s.br := by
  refine bd_adds _ ?_
  have h2 : (s.preR ++ (tr (exs (s.x.drop s.kx)) (exs (s.y.drop s.ky))).2).length = T.2.length := by rw [h.eqR]
  rw [List.length_append] at h2
  omega
theorem TI.hdx {T : List Prim × List Prim} {s : TS} (_h : TI T s) (hk : (hd s.x s.kx).kind ≠ 0) : s.kx < s.x.length := by
  by_cases h1 : s.kx < s.x.length
  · exact h1
  · rw [hd_none h1] at hk; exact absurd rfl hk
theorem TI.hdy {T : List Prim × List Prim} {s : TS} (_h : TI T s) (hk : (hd s.y s.ky).kind ≠ 0) : s.ky < s.y.length := by
  by_cases h1 : s.ky < s.y.length
  · exact h1
  · rw [hd_none h1] at hk; exact absurd rfl hk
theorem TI.hdx0 {T : List Prim × List Prim} {s : TS} (h : TI T s) (hk : (hd s.x s.kx).kind = 0) : ¬ s.kx < s.x.length := fun h1 => by
  have := (h.headx h1).1.kind
  rw [hd_some h1] at hk; omega
theorem TI.hdy0 {T : List Prim × List Prim} {s : TS} (h : TI T s) (hk : (hd s.y s.ky).kind = 0) : ¬ s.ky < s.y.length := fun h1 => by
  have := (h.heady h1).1.kind
  rw [hd_some h1] at hk; omega
/-- the head is none that is put -/
theorem noPut_of {l : List Part} {k : Nat} (hk : k ≤ l.length) (hok : ∀ p ∈ l.drop k, Ok p ∧ ex p ≠ []) (h : k < l.length → (l.getD k default).kind ≠ 3) : noPut (exs (l.drop k)) := by
  rcases Nat.lt_or_eq_of_le hk with hlt | heq
  · have hd := drop_cons hlt
    obtain ⟨h1, h2⟩ := hok (l.getD k default) (by rw [hd]; exact List.mem_cons_self ..)
    have h3 := h hlt
    have h4 := List.length_pos_iff.2 h2
    rw [hd, exs_cons]
    rcases h1.kind with k5 | k5 | k5
    · rw [ex_keep k5] at h4 ⊢
      rw [List.length_replicate] at h4
      obtain ⟨m, hm⟩ : ∃ m, (l.getD k default).n.toNat = m + 1 := ⟨(l.getD k default).n.toNat - 1, by omega⟩
      rw [hm, List.replicate_succ]; trivial
    · rw [ex_cut k5] at h4 ⊢
      rw [List.length_replicate] at h4
      obtain ⟨m, hm⟩ : ∃ m, (l.getD k default).n.toNat = m + 1 := ⟨(l.getD k default).n.toNat - 1, by omega⟩
      rw [hm, List.replicate_succ]; trivial
    · exact absurd k5 h3
  · rw [heq, List.drop_length]; trivial
theorem TI.step1 {T : List Prim × List Prim} {s : TS} (h : TI T s) (hk : s.kx < s.x.length) (hp : (s.x.getD s.kx default).kind = 3) :
    TI T ⟨s.x, s.kx + 1, s.y, s.ky, s.preL ++ ex (s.x.getD s.kx default), s.preR ++ List.replicate (s.x.getD s.kx default).s.length Prim.keep⟩ ∧
    TS.mu ⟨s.x, s.kx + 1, s.y, s.ky, s.preL ++ ex (s.x.getD s.kx default), s.preR ++ List.replicate (s.x.getD s.kx default).s.length Prim.keep⟩ < s.mu := by
  obtain ⟨h1, h2, h3, h4⟩ := h.headx hk
  have hd := drop_cons hk
  have e := ex_put hp
  refine ⟨⟨hk, h.hy, fun p hp => h.okx p (by rw [hd]; exact List.mem_cons_of_mem _ hp), h.oky, ?_, h.ly, ?_, ?_, ?_⟩, ?_⟩
  · have := h.lx; rw [hd, exs_cons, List.length_append] at this; simp only; omega
  · have := h.bal; rw [hd, exs_cons, wt_append, e, wt_puts fOv 0 (fun _ => rfl)] at this; simp only; omega
  · have := h.eqL; rw [hd, exs_cons, e, tr_putsx] at this; simp only; rw [e, List.append_assoc]; exact this
  · have := h.eqR; rw [hd, exs_cons, e, tr_putsx] at this; simp only; rw [List.append_assoc]; exact this
  · simp only [TS.mu]; rw [hd, exs_cons, List.length_append]; omega
theorem TI.step2 {T : List Prim × List Prim} {s : TS} (h : TI T s) (hk : s.ky < s.y.length) (hq : (s.y.getD s.ky default).kind = 3) (hp : s.kx < s.x.length → (s.x.getD s.kx default).kind ≠ 3) :
    TI T ⟨s.x, s.kx, s.y, s.ky + 1, s.preL ++ List.replicate (s.y.getD s.ky default).s.length Prim.keep, s.preR ++ ex (s.y.getD s.ky default)⟩ ∧
    TS.mu ⟨s.x, s.kx, s.y, s.ky + 1, s.preL ++ List.replicate (s.y.getD s.ky default).s.length Prim.keep, s.preR ++ ex (s.y.getD s.ky default)⟩ < s.mu := by
  obtain ⟨h1, h2, h3, h4⟩ := h.heady hk
  have hd := drop_cons hk
  have e := ex_put hq
  have hnp := noPut_of h.hx h.okx hp
  refine ⟨⟨h.hx, hk, h.okx, fun p hp => h.oky p (by rw [hd]; exact List.mem_cons_of_mem _ hp), h.lx, ?_, ?_, ?_, ?_⟩, ?_⟩
  · have := h.ly; rw [hd, exs_cons, List.length_append] at this; simp only; omega
  · have := h.bal; rw [hd, exs_cons, wt_append, e, wt_puts fOv 0 (fun _ => rfl)] at this; simp only; omega
  · have := h.eqL; rw [hd, exs_cons, e, tr_putsy _ hnp] at this; simp only; rw [List.append_assoc]; exact this
  · have := h.eqR; rw [hd, exs_cons, e, tr_putsy _ hnp] at this; simp only; rw [e, List.append_assoc]; exact this
  · simp only [TS.mu]; rw [hd, exs_cons, List.length_append]; omega
theorem TI.both {T : List Prim × List Prim} {s : TS} (h : TI T s) (hne : s.kx < s.x.length ∨ s.ky < s.y.length) (hp : s.kx < s.x.length → (s.x.getD s.kx default).kind ≠ 3) (hq : s.ky < s.y.length → (s.y.getD s.ky default).kind ≠ 3) :
    s.kx < s.x.length ∧ s.ky < s.y.length := by
  have hbal := h.bal
  have aux : ∀ {p : Part}, Ok p → 0 < (ex p).length → p.kind ≠ 3 → 0 < wt fOv (ex p) := by
    intro p h1 h2 h3
    rcases h1.kind with k | k | k
    · rw [ex_keep k] at h2 ⊢; rw [wt_rep]; rw [List.length_replicate] at h2; simp only [fOv]; omega
    · rw [ex_cut k] at h2 ⊢; rw [wt_rep]; rw [List.length_replicate] at h2; simp only [fOv]; omega
    · exact absurd k h3
  by_cases hx : s.kx < s.x.length
  · refine ⟨hx, ?_⟩
    by_cases hy : s.ky < s.y.length
    · exact hy
    · exfalso
      obtain ⟨k1, k2, k3, k4⟩ := h.headx hx
      have := aux k1 k4 (hp hx)
      rw [List.drop_eq_nil_of_le (by omega : s.y.length ≤ s.ky), drop_cons hx, exs_cons, wt_append] at hbal
      simp only [exs_nil, wt] at hbal
      omega
  · exfalso
    have hy : s.ky < s.y.length := by omega
    obtain ⟨k1, k2, k3, k4⟩ := h.heady hy
    have := aux k1 k4 (hq hy)
    rw [List.drop_eq_nil_of_le (by omega : s.x.length ≤ s.kx), drop_cons hy, exs_cons, wt_append] at hbal
    simp only [exs_nil, wt] at hbal
    omega
def TS.three (s : TS) (n : Nat) : TS :=
  ⟨tkL s.x s.kx n, tkK s.x s.kx n, tkL s.y s.ky n, tkK s.y s.ky n, s.preL ++ (if (s.y.getD s.ky default).kind = 1 then ex (tkP (s.x.getD s.kx default) n) else []), s.preR ++ (if (s.x.getD s.kx default).kind = 1 then ex (tkP (s.y.getD s.ky default) n) else [])⟩
theorem TI.step3 {T : List Prim × List Prim} {s : TS} (h : TI T s) (hx : s.kx < s.x.length) (hy : s.ky < s.y.length) (hp : (s.x.getD s.kx default).kind ≠ 3) (hq : (s.y.getD s.ky default).kind ≠ 3) {n : Nat} (hn0 : 0 < n)
    (hnx : n ≤ (ex (s.x.getD s.kx default)).length) (hny : n ≤ (ex (s.y.getD s.ky default)).length) : TI T (s.three n) ∧ (s.three n).mu < s.mu := by
  have tx := tk_ok hx h.okx hn0 hnx
  have ty := tk_ok hy h.oky hn0 hny
  have hbal := h.bal
  have heqL := h.eqL
  have heqR := h.eqR
  have hlx := h.lx
  have hly := h.ly
  have hkx := (h.headx hx).1.kind
  have hky := (h.heady hy).1.kind
  have lenx := tx.len
  have leny := ty.len
  rw [tx.eq, ty.eq, wt_append, wt_append] at hbal
  rw [tx.eq, ty.eq] at heqL heqR
  rw [tx.eq, List.length_append] at hlx
  rw [ty.eq, List.length_append] at hly
  have hmu : (s.three n).mu < s.mu := by
    simp only [TS.mu, TS.three]
    rw [tx.eq, ty.eq, List.length_append, List.length_append]
    omega
  have aux : ∀ {p : Part} {k : Int}, p.kind = k → (k = 1 ∨ k = 2) → (ex p).length = n → (ex p = List.replicate n Prim.keep ∧ k = 1) ∨ (ex p = List.replicate n Prim.cut ∧ k = 2) := by
    intro p k e hk hl
    rcases hk with rfl | rfl
    · left; rw [ex_keep e] at hl ⊢; rw [List.length_replicate] at hl; exact ⟨by rw [hl], rfl⟩
    · right; rw [ex_cut e] at hl ⊢; rw [List.length_replicate] at hl; exact ⟨by rw [hl], rfl⟩
  have hX := aux tx.kind (by omega) lenx
  have hY := aux ty.kind (by omega) leny
  refine ⟨?_, hmu⟩
  rcases hX with ⟨eX, kX⟩ | ⟨eX, kX⟩ <;> rcases hY with ⟨eY, kY⟩ | ⟨eY, kY⟩
  all_goals rw [eX, eY] at hbal heqL heqR
  all_goals simp only [wt_rep, fOv] at hbal
  · rw [tr_kk] at heqL heqR
    refine ⟨tx.le, ty.le, tx.oks, ty.oks, by simp only [TS.three]; omega, by simp only [TS.three]; omega, by simp only [TS.three]; omega, ?_, ?_⟩
    · simp only [TS.three]; rw [if_pos kY, eX, List.append_assoc]; exact heqL
    · simp only [TS.three]; rw [if_pos kX, eY, List.append_assoc]; exact heqR
  · rw [tr_kc] at heqL heqR
    refine ⟨tx.le, ty.le, tx.oks, ty.oks, by simp only [TS.three]; omega, by simp only [TS.three]; omega, by simp only [TS.three]; omega, ?_, ?_⟩
    · simp only [TS.three]; rw [if_neg (by omega), List.append_nil]; exact heqL
    · simp only [TS.three]; rw [if_pos kX, eY, List.append_assoc]; exact heqR
  · rw [tr_ck] at heqL heqR
    refine ⟨tx.le, ty.le, tx.oks, ty.oks, by simp only [TS.three]; omega, by simp only [TS.three]; omega, by simp only [TS.three]; omega, ?_, ?_⟩
    · simp only [TS.three]; rw [if_pos kY, eX, List.append_assoc]; exact heqL
    · simp only [TS.three]; rw [if_neg (by omega), List.append_nil]; exact heqR
  · rw [tr_cc] at heqL heqR
    refine ⟨tx.le, ty.le, tx.oks, ty.oks, by simp only [TS.three]; omega, by simp only [TS.three]; omega, by simp only [TS.three]; omega, ?_, ?_⟩
    · simp only [TS.three]; rw [if_neg (by omega), List.append_nil]; exact heqL
    · simp only [TS.three]; rw [if_neg (by omega), List.append_nil]; exact heqR
theorem init_ti {a b : List Part} (ha : ∀ p ∈ a, pfault p = 0) (hb : ∀ p ∈ b, pfault p = 0) (hla : a.length ≤ 400) (hlb : b.length ≤ 400) (h : sumOv b = sumOv a) : TI (tr (exs (norm a)) (exs (norm b))) ⟨norm a, 0, norm b, 0, [], []⟩ := by
  refine ⟨Nat.zero_le _, Nat.zero_le _, norm_ok ha, norm_ok hb, norm_len ha hla, norm_len hb hlb, ?_, rfl, rfl⟩
  simp only [List.drop_zero]
  rw [norm_wt _ ha, norm_wt _ hb]
  have h1 := (wt_sums ha).1
  have h2 := (wt_sums hb).1
  omega
end Go.Proofs.Ytjlbaagnoppfgaa
