/-
  A part of the proof that 'typecaselaw.SpliceTransforms' returns true, whatever the input: two changes over each other, in plain Lean. No conditions.
-/
import Derived.Test.YtjlbaagnoppfgaaSplL
namespace Go.Proofs.Ytjlbaagnoppfgaa
open Go Go.SX Go.Spl
set_option maxRecDepth 100000
set_option maxHeartbeats 0
def tr : List Prim → List Prim → List Prim × List Prim
  | .put c :: x, y => (.put c :: (tr x y).1, .keep :: (tr x y).2)
  | x, .put c :: y => (.keep :: (tr x y).1, .put c :: (tr x y).2)
  | .keep :: x, .keep :: y => (.keep :: (tr x y).1, .keep :: (tr x y).2)
  | .keep :: x, .cut :: y => ((tr x y).1, .cut :: (tr x y).2)
  | .cut :: x, .keep :: y => (.cut :: (tr x y).1, (tr x y).2)
  | .cut :: x, .cut :: y => ((tr x y).1, (tr x y).2)
  | _, _ => ([], [])
termination_by x y => x.length + y.length
theorem tr_putx (c : UInt8) (x y : List Prim) : tr (.put c :: x) y = (.put c :: (tr x y).1, .keep :: (tr x y).2) := by rw [tr]
theorem tr_puty (c : UInt8) {x : List Prim} (h : noPut x) (y : List Prim) : tr x (.put c :: y) = (.keep :: (tr x y).1, .put c :: (tr x y).2) := by
  match x with
  | [] => rw [tr]; simp
  | .put b :: x => exact h.elim
  | .keep :: x => rw [tr]; simp
  | .cut :: x => rw [tr]; simp
theorem tr_putsx (s : Str) (x y : List Prim) : tr (s.map Prim.put ++ x) y = (s.map Prim.put ++ (tr x y).1, List.replicate s.length Prim.keep ++ (tr x y).2) := by
  induction s with
  | nil => rfl
  | cons c s ih => simp [tr_putx, ih, List.replicate_succ]
theorem tr_putsy (s : Str) {x : List Prim} (h : noPut x) (y : List Prim) : tr x (s.map Prim.put ++ y) = (List.replicate s.length Prim.keep ++ (tr x y).1, s.map Prim.put ++ (tr x y).2) := by
  induction s with
  | nil => rfl
  | cons c s ih => simp [tr_puty c h, ih, List.replicate_succ]
theorem tr_kk (n : Nat) (x y : List Prim) : tr (List.replicate n Prim.keep ++ x) (List.replicate n Prim.keep ++ y) = (List.replicate n Prim.keep ++ (tr x y).1, List.replicate n Prim.keep ++ (tr x y).2) := by
  induction n with
  | zero => rfl
  | succ n ih => simp only [List.replicate_succ, List.cons_append]; rw [tr, ih]
theorem tr_kc (n : Nat) (x y : List Prim) : tr (List.replicate n Prim.keep ++ x) (List.replicate n Prim.cut ++ y) = ((tr x y).1, List.replicate n Prim.cut ++ (tr x y).2) := by
  induction n with
  | zero => rfl
  | succ n ih => simp only [List.replicate_succ, List.cons_append]; rw [tr, ih]
theorem tr_ck (n : Nat) (x y : List Prim) : tr (List.replicate n Prim.cut ++ x) (List.replicate n Prim.keep ++ y) = (List.replicate n Prim.cut ++ (tr x y).1, (tr x y).2) := by
  induction n with
  | zero => rfl
  | succ n ih => simp only [List.replicate_succ, List.cons_append]; rw [tr, ih]
theorem tr_cc (n : Nat) (x y : List Prim) : tr (List.replicate n Prim.cut ++ x) (List.replicate n Prim.cut ++ y) = ((tr x y).1, (tr x y).2) := by
  induction n with
  | zero => rfl
  | succ n ih => simp only [List.replicate_succ, List.cons_append]; rw [tr, ih]
theorem tr_len (x y : List Prim) : (tr x y).1.length ≤ x.length + y.length ∧ (tr x y).2.length ≤ x.length + y.length := by
  fun_induction tr x y <;> simp_all <;> omega

/-! ### by places -/
def gapsS : List Prim → List Str
  | [] => [[]]
  | .put c :: x => match gapsS x with
    | p :: r => (c :: p) :: r
    | [] => [[c]]
  | _ :: x => [] :: gapsS x
def stays : List Prim → List Bool
  | [] => []
  | .put _ :: x => stays x
  | .keep :: x => true :: stays x
  | .cut :: x => false :: stays x
theorem gapsS_len (x : List Prim) : (gapsS x).length = wt fOv x + 1 := by
  induction x with
  | nil => rfl
  | cons p x ih =>
    cases p with
    | put c =>
      simp only [gapsS, wt, fOv]
      cases hg : gapsS x with
      | nil => rw [hg] at ih; simp at ih
      | cons p r => rw [hg] at ih; simp at ih ⊢; exact ih
    | keep => simp only [gapsS, wt, fOv, List.length_cons, ih]; omega
    | cut => simp only [gapsS, wt, fOv, List.length_cons, ih]; omega
theorem stays_len (x : List Prim) : (stays x).length = wt fOv x := by
  induction x with
  | nil => rfl
  | cons p x ih => cases p <;> simp only [stays, wt, fOv, List.length_cons, ih] <;> omega
def segL (p q : Str) (s t : Bool) : List Prim := p.map Prim.put ++ List.replicate q.length Prim.keep ++ (if t then [if s then Prim.keep else Prim.cut] else [])
def segR (p q : Str) (s t : Bool) : List Prim := List.replicate p.length Prim.keep ++ q.map Prim.put ++ (if s then [if t then Prim.keep else Prim.cut] else [])
def trG : List Str → List Bool → List Str → List Bool → List Prim × List Prim
  | p :: ps, s :: ss, q :: qs, t :: ts => (segL p q s t ++ (trG ps ss qs ts).1, segR p q s t ++ (trG ps ss qs ts).2)
  | p :: _, _, q :: _, _ => (p.map Prim.put ++ List.replicate q.length Prim.keep, List.replicate p.length Prim.keep ++ q.map Prim.put)
  | _, _, _, _ => ([], [])
theorem trG_putx (c : UInt8) (p : Str) (ps : List Str) (ss : List Bool) (q : Str) (qs : List Str) (ts : List Bool) :
    trG ((c :: p) :: ps) ss (q :: qs) ts = (.put c :: (trG (p :: ps) ss (q :: qs) ts).1, .keep :: (trG (p :: ps) ss (q :: qs) ts).2) := by
  cases ss with
  | nil => simp [trG, List.replicate_succ]
  | cons s ss =>
    cases ts with
    | nil => simp [trG, List.replicate_succ]
    | cons t ts => simp [trG, segL, segR, List.replicate_succ]
theorem trG_puty (c : UInt8) (ps : List Str) (ss : List Bool) (q : Str) (qs : List Str) (ts : List Bool) :
    trG ([] :: ps) ss ((c :: q) :: qs) ts = (.keep :: (trG ([] :: ps) ss (q :: qs) ts).1, .put c :: (trG ([] :: ps) ss (q :: qs) ts).2) := by
  cases ss with
  | nil => simp [trG, List.replicate_succ]
  | cons s ss =>
    cases ts with
    | nil => simp [trG, List.replicate_succ]
    | cons t ts => simp [trG, segL, segR, List.replicate_succ]
theorem gapsS_ne (x : List Prim) : ∃ p r, gapsS x = p :: r := by
  have := gapsS_len x
  cases h : gapsS x with
  | nil => rw [h] at this; simp at this
  | cons p r => exact ⟨p, r, rfl⟩
theorem gaps_noPut {x : List Prim} (h : noPut x) : ∃ r, gapsS x = [] :: r := by
  match x with
  | [] => exact ⟨[], rfl⟩
  | .put b :: x => exact h.elim
  | .keep :: x => exact ⟨gapsS x, rfl⟩
  | .cut :: x => exact ⟨gapsS x, rfl⟩
theorem tr_gaps (x y : List Prim) (h : wt fOv x = wt fOv y) : tr x y = trG (gapsS x) (stays x) (gapsS y) (stays y) := by
  match x, y with
  | .put c :: x, y =>
    obtain ⟨p, r, hg⟩ := gapsS_ne x
    obtain ⟨q, r', hg'⟩ := gapsS_ne y
    rw [tr_putx, tr_gaps x y (by simpa [wt, fOv] using h)]
    simp only [gapsS, stays, hg, hg', trG_putx]
  | [], .put c :: y =>
    obtain ⟨q, r', hg'⟩ := gapsS_ne y
    rw [tr_puty c (x := []) trivial, tr_gaps [] y (by simpa [wt, fOv] using h)]
    simp only [gapsS, stays, hg', trG_puty]
  | .keep :: x, .put c :: y =>
    obtain ⟨q, r', hg'⟩ := gapsS_ne y
    rw [tr_puty c (x := .keep :: x) trivial, tr_gaps (.keep :: x) y (by simpa [wt, fOv] using h)]
    simp only [gapsS, stays, hg', trG_puty]
  | .cut :: x, .put c :: y =>
    obtain ⟨q, r', hg'⟩ := gapsS_ne y
    rw [tr_puty c (x := .cut :: x) trivial, tr_gaps (.cut :: x) y (by simpa [wt, fOv] using h)]
    simp only [gapsS, stays, hg', trG_puty]
  | .keep :: x, .keep :: y => rw [tr, tr_gaps x y (by simp [wt, fOv] at h; omega)]; simp [gapsS, stays, trG, segL, segR]
  | .keep :: x, .cut :: y => rw [tr, tr_gaps x y (by simp [wt, fOv] at h; omega)]; simp [gapsS, stays, trG, segL, segR]
  | .cut :: x, .keep :: y => rw [tr, tr_gaps x y (by simp [wt, fOv] at h; omega)]; simp [gapsS, stays, trG, segL, segR]
  | .cut :: x, .cut :: y => rw [tr, tr_gaps x y (by simp [wt, fOv] at h; omega)]; simp [gapsS, stays, trG, segL, segR]
  | [], [] => simp [tr, gapsS, stays, trG]
  | [], .keep :: y => simp [wt, fOv] at h; omega
  | [], .cut :: y => simp [wt, fOv] at h; omega
  | .keep :: x, [] => simp [wt, fOv] at h
  | .cut :: x, [] => simp [wt, fOv] at h
termination_by x.length + y.length
end Go.Proofs.Ytjlbaagnoppfgaa
