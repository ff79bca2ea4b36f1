/-
  A part of the proof that 'typecaselaw.SpliceTransforms' returns true, whatever the input: the document's Over, place by place, in plain Lean. No conditions.
-/
import Derived.Test.YtjlbaagnoppfgaaSplT
namespace Go.Proofs.Ytjlbaagnoppfgaa
open Go Go.SX Go.Spl
set_option maxRecDepth 100000
set_option maxHeartbeats 0
theorem tr_wt (x y : List Prim) (h : wt fOv x = wt fOv y) : wt fOv (tr x y).1 = wt fMk y ∧ wt fOv (tr x y).2 = wt fMk x := by
  match x, y with
  | .put c :: x, y =>
    have ih := tr_wt x y (by simpa [wt, fOv] using h)
    rw [tr_putx]; simp only [wt, fOv, fMk]; omega
  | [], .put c :: y =>
    have ih := tr_wt [] y (by simpa [wt, fOv] using h)
    rw [tr_puty c (x := []) trivial]; simp only [wt, fOv, fMk] at ih ⊢; omega
  | .keep :: x, .put c :: y =>
    have ih := tr_wt (.keep :: x) y (by simpa [wt, fOv] using h)
    rw [tr_puty c (x := .keep :: x) trivial]; simp only [wt, fOv, fMk] at ih ⊢; omega
  | .cut :: x, .put c :: y =>
    have ih := tr_wt (.cut :: x) y (by simpa [wt, fOv] using h)
    rw [tr_puty c (x := .cut :: x) trivial]; simp only [wt, fOv, fMk] at ih ⊢; omega
  | .keep :: x, .keep :: y => have ih := tr_wt x y (by simp [wt, fOv] at h; omega); rw [tr]; simp only [wt, fOv, fMk]; omega
  | .keep :: x, .cut :: y => have ih := tr_wt x y (by simp [wt, fOv] at h; omega); rw [tr]; simp only [wt, fOv, fMk]; omega
  | .cut :: x, .keep :: y => have ih := tr_wt x y (by simp [wt, fOv] at h; omega); rw [tr]; simp only [wt, fOv, fMk]; omega
  | .cut :: x, .cut :: y => have ih := tr_wt x y (by simp [wt, fOv] at h; omega); rw [tr]; simp only [wt, fMk]; omega
  | [], [] => simp [tr, wt]
  | [], .keep :: y => simp [wt, fOv] at h; omega
  | [], .cut :: y => simp [wt, fOv] at h; omega
  | .keep :: x, [] => simp [wt, fOv] at h
  | .cut :: x, [] => simp [wt, fOv] at h
termination_by x.length + y.length
theorem at_app (L : List Prim) : ∀ (u v : List Atom) (q : List Prim), wt fOv L = u.length → at' (u ++ v) (L ++ q) = at' u L ++ at' v q := by
  induction L with
  | nil =>
    intro u v q h
    have : u = [] := List.eq_nil_of_length_eq_zero (by simpa [wt] using h.symm)
    subst this
    simp [at']
  | cons x L ih =>
    intro u v q h
    cases x with
    | put b => simp only [List.cons_append, at', wt, fOv, Nat.zero_add] at h ⊢; rw [ih u v q h]
    | keep =>
      cases u with
      | nil => simp [wt, fOv] at h
      | cons a u => simp only [wt, fOv, List.length_cons] at h; simp only [List.cons_append, at', List.take_succ_cons, List.take_zero, List.drop_succ_cons, List.drop_zero]; rw [ih u v q (by omega)]; simp
    | cut =>
      cases u with
      | nil => simp [wt, fOv] at h
      | cons a u => simp only [wt, fOv, List.length_cons] at h; simp only [List.cons_append, at', List.drop_succ_cons, List.drop_zero]; rw [ih u v q (by omega)]
theorem whole_split (i m : Nat) : ∀ a, wholeFrom a (i + m) = wholeFrom a i ++ wholeFrom (a + i) m := by
  induction i with
  | zero => intro a; simp [wholeFrom]
  | succ i ih => intro a; rw [show i + 1 + m = (i + m) + 1 by omega, wholeFrom, ih, wholeFrom]; simp [show a + 1 + i = a + (i + 1) by omega]
/-- the atoms of a part -/
def am (L : List Prim) : List Atom := at' (wholeFrom 0 (wt fOv L)) L
theorem am_puts (L : List Prim) (s : Str) : am (L ++ s.map Prim.put) = am L ++ s.map (fun b => ⟨-1, (b.toNat : Int)⟩) := by
  have hw : wt fOv (L ++ s.map Prim.put) = wt fOv L + 0 := by rw [wt_append, wt_puts fOv 0 (fun _ => rfl)]; simp
  rw [am, hw, whole_split, at_app L _ _ _ (by rw [wholeFrom_length])]
  have := at_puts s (wholeFrom (0 + wt fOv L) 0) []
  rw [List.append_nil] at this
  rw [this]
  simp [am, at']
theorem am_keeps (L : List Prim) (m : Nat) : am (L ++ List.replicate m Prim.keep) = am L ++ wholeFrom (wt fOv L) m := by
  have hw : wt fOv (L ++ List.replicate m Prim.keep) = wt fOv L + m := by rw [wt_append, wt_rep]; simp [fOv]
  rw [am, hw, whole_split, at_app L _ _ _ (by rw [wholeFrom_length])]
  have := at_keeps m (wholeFrom (0 + wt fOv L) m) []
  rw [List.append_nil] at this
  rw [this, List.take_of_length_le (by rw [wholeFrom_length]; omega)]
  simp [am, at']
theorem am_cut (L : List Prim) : am (L ++ [Prim.cut]) = am L := by
  have hw : wt fOv (L ++ [Prim.cut]) = wt fOv L + 1 := by rw [wt_append]; rfl
  rw [am, hw, whole_split, at_app L _ _ _ (by rw [wholeFrom_length])]
  simp [am, at']
theorem am_len (L : List Prim) : (am L).length ≤ L.length := by
  rw [am, at_length _ _ (by rw [wholeFrom_length]; exact Nat.le_refl _)]
  have : ∀ l : List Prim, wt fMk l ≤ l.length := by
    intro l; induction l with
    | nil => exact Nat.le_refl _
    | cons x l ih => simp only [wt, List.length_cons]; have : fMk x ≤ 1 := by cases x <;> simp [fMk]
                     omega
  exact this L
theorem wt_ov_len (l : List Prim) : wt fOv l ≤ l.length := by
  induction l with
  | nil => exact Nat.le_refl _
  | cons x l ih => simp only [wt, List.length_cons]; have : fOv x ≤ 1 := by cases x <;> simp [fOv]
                   omega
theorem am_pos (L : List Prim) {m : Nat} (h : wt fOv L ≤ m) : ∀ a ∈ am L, a.pos ≤ (m : Int) := by
  intro a ha
  rcases at_mem _ _ _ ha with h1 | h1
  · have := whole_pos _ _ _ h1; omega
  · omega
structure OS where
  c : Nat
  L : List Prim
  R : List Prim
structure OI (pa : List Str) (sa : List Bool) (pb : List Str) (sb : List Bool) (T : List Prim × List Prim) (n : Nat) (s : OS) : Prop where
  le : s.c ≤ n
  eqL : s.L ++ (trG (pa.drop s.c) (sa.drop s.c) (pb.drop s.c) (sb.drop s.c)).1 = T.1
  eqR : s.R ++ (trG (pa.drop s.c) (sa.drop s.c) (pb.drop s.c) (sb.drop s.c)).2 = T.2
theorem dropS {α : Type} {l : List α} {k : Nat} (d : α) (hk : k < l.length) : l.drop k = l.getD k d :: l.drop (k + 1) := by
  rw [List.drop_eq_getElem_cons hk, List.getD_eq_getElem?_getD, List.getElem?_eq_getElem hk]; rfl
theorem OI.last {pa pb : List Str} {sa sb : List Bool} {T : List Prim × List Prim} {n : Nat} {s : OS} (h : OI pa sa pb sb T n s) (hpa : pa.length = n + 1) (hpb : pb.length = n + 1) (hsa : sa.length = n) (_hsb : sb.length = n) (hc : s.c = n) :
    (s.L ++ (pa.getD s.c []).map Prim.put) ++ List.replicate (pb.getD s.c []).length Prim.keep = T.1 ∧ (s.R ++ List.replicate (pa.getD s.c []).length Prim.keep) ++ (pb.getD s.c []).map Prim.put = T.2 := by
  have h1 := h.eqL
  have h2 := h.eqR
  rw [dropS [] (by omega : s.c < pa.length), dropS [] (by omega : s.c < pb.length), List.drop_eq_nil_of_le (by omega : sa.length ≤ s.c)] at h1 h2
  simp only [trG] at h1 h2
  exact ⟨by rw [List.append_assoc]; exact h1, by rw [List.append_assoc]; exact h2⟩
theorem OI.next {pa pb : List Str} {sa sb : List Bool} {T : List Prim × List Prim} {n : Nat} {s : OS} (h : OI pa sa pb sb T n s) (hpa : pa.length = n + 1) (hpb : pb.length = n + 1) (hsa : sa.length = n) (hsb : sb.length = n) (hc : s.c < n) :
    OI pa sa pb sb T n ⟨s.c + 1, s.L ++ segL (pa.getD s.c []) (pb.getD s.c []) (sa.getD s.c false) (sb.getD s.c false), s.R ++ segR (pa.getD s.c []) (pb.getD s.c []) (sa.getD s.c false) (sb.getD s.c false)⟩ := by
  have h1 := h.eqL
  have h2 := h.eqR
  rw [dropS [] (by omega : s.c < pa.length), dropS [] (by omega : s.c < pb.length), dropS false (by omega : s.c < sa.length), dropS false (by omega : s.c < sb.length)] at h1 h2
  simp only [trG] at h1 h2
  exact ⟨hc, by rw [List.append_assoc]; exact h1, by rw [List.append_assoc]; exact h2⟩
theorem OI.bound {pa pb : List Str} {sa sb : List Bool} {T : List Prim × List Prim} {n : Nat} {s : OS} (h : OI pa sa pb sb T n s) (hpa : pa.length = n + 1) (hpb : pb.length = n + 1) :
    s.L.length + (pa.getD s.c []).length + (pb.getD s.c []).length ≤ T.1.length ∧ s.R.length + (pa.getD s.c []).length + (pb.getD s.c []).length ≤ T.2.length := by
  have h1 := h.eqL
  have h2 := h.eqR
  have hle := h.le
  rw [dropS [] (by omega : s.c < pa.length), dropS [] (by omega : s.c < pb.length)] at h1 h2
  have aux : ∀ ss ts, (pa.getD s.c []).length + (pb.getD s.c []).length ≤ (trG (pa.getD s.c [] :: pa.drop (s.c + 1)) ss (pb.getD s.c [] :: pb.drop (s.c + 1)) ts).1.length ∧
      (pa.getD s.c []).length + (pb.getD s.c []).length ≤ (trG (pa.getD s.c [] :: pa.drop (s.c + 1)) ss (pb.getD s.c [] :: pb.drop (s.c + 1)) ts).2.length := by
    intro ss ts
    cases ss with
    | nil => simp only [trG, List.length_append, List.length_map, List.length_replicate]; omega
    | cons s0 ss => cases ts with
      | nil => simp only [trG, List.length_append, List.length_map, List.length_replicate]; omega
      | cons t ts => simp only [trG, segL, segR, List.length_append, List.length_map, List.length_replicate]; omega
  obtain ⟨a1, a2⟩ := aux (sa.drop s.c) (sb.drop s.c)
  have l1 := congrArg List.length h1
  have l2 := congrArg List.length h2
  rw [List.length_append] at l1 l2
  omega
end Go.Proofs.Ytjlbaagnoppfgaa
