/-
  A change done to a text and what leads back, in plain Lean: the program's walk over the parts and the document's atoms come to the same.
-/
import Derived.Test.YtjlbaagnoppfgaaSpliceLaw
namespace Go.Spl
open Go.SX Prim

/-- the text that becomes -/
def chg : Str → List Prim → Str
  | _, [] => []
  | s, .keep :: r => s.take 1 ++ chg (s.drop 1) r
  | s, .cut :: r => chg (s.drop 1) r
  | s, .put b :: r => b :: chg s r
/-- what leads back -/
def inv : Str → List Prim → List Prim
  | _, [] => []
  | s, .keep :: r => .keep :: inv (s.drop 1) r
  | s, .cut :: r => (s.take 1).map put ++ inv (s.drop 1) r
  | s, .put _ :: r => .cut :: inv s r
theorem chg_keeps (n : Nat) : ∀ (s : Str) (r : List Prim), chg s (List.replicate n keep ++ r) = s.take n ++ chg (s.drop n) r := by
  induction n with
  | zero => intro s r; simp
  | succ n ih =>
    intro s r
    rw [List.replicate_succ, List.cons_append, chg, ih]
    cases s <;> simp
theorem chg_cuts (n : Nat) : ∀ (s : Str) (r : List Prim), chg s (List.replicate n cut ++ r) = chg (s.drop n) r := by
  induction n with
  | zero => intro s r; simp
  | succ n ih =>
    intro s r
    rw [List.replicate_succ, List.cons_append, chg, ih]
    cases s <;> simp
theorem chg_puts (t : Str) (s : Str) (r : List Prim) : chg s (t.map put ++ r) = t ++ chg s r := by
  induction t with
  | nil => rfl
  | cons c t ih => simp [chg, ih]
theorem inv_keeps (n : Nat) : ∀ (s : Str) (r : List Prim), inv s (List.replicate n keep ++ r) = List.replicate n keep ++ inv (s.drop n) r := by
  induction n with
  | zero => intro s r; simp
  | succ n ih =>
    intro s r
    rw [List.replicate_succ, List.cons_append, inv, ih]
    cases s <;> simp
theorem inv_cuts (n : Nat) : ∀ (s : Str) (r : List Prim), inv s (List.replicate n cut ++ r) = (s.take n).map put ++ inv (s.drop n) r := by
  induction n with
  | zero => intro s r; simp
  | succ n ih =>
    intro s r
    rw [List.replicate_succ, List.cons_append, inv, ih]
    cases s <;> simp
theorem inv_puts (t : Str) (s : Str) (r : List Prim) : inv s (t.map put ++ r) = List.replicate t.length cut ++ inv s r := by
  induction t with
  | nil => rfl
  | cons c t ih => simp [inv, ih, List.replicate_succ]
/-- one atom's byte -/
def aval (s : Str) (a : Atom) : Str := if a.pos < 0 then [UInt8.ofNat a.c.toNat] else [s.getD a.pos.toNat 0]
def changed (s : Str) (l : List Atom) : Str := l.flatMap (aval s)
theorem drop_cons' {α : Type} {l : List α} {i : Nat} (d : α) (h : i < l.length) : l.drop i = l.getD i d :: l.drop (i + 1) := by
  rw [List.drop_eq_getElem_cons h]; simp [List.getD_eq_getElem?_getD, List.getElem?_eq_getElem h]
theorem changed_eq (s : Str) (ps : List Prim) : ∀ (i n : Nat), wt fOv ps = n → i + n = s.length → changed s (at' (wholeFrom i n) ps) = chg (s.drop i) ps := by
  induction ps with
  | nil => intro i n _ _; simp [at', changed, chg]
  | cons x ps ih =>
    intro i n hn hi
    cases x with
    | keep =>
      obtain ⟨m, rfl⟩ : ∃ m, n = m + 1 := ⟨n - 1, by simp [wt, fOv] at hn; omega⟩
      have h := ih (i + 1) m (by simp [wt, fOv] at hn; omega) (by omega)
      simp only [wholeFrom, at', List.take_succ_cons, List.take_zero, List.drop_succ_cons, List.drop_zero, List.cons_append, List.nil_append, chg, changed, List.flatMap_cons]
      rw [show List.flatMap (aval s) (at' (wholeFrom (i + 1) m) ps) = changed s (at' (wholeFrom (i + 1) m) ps) from rfl, h, drop_cons' (l := s) (i := i) 0 (by omega)]
      have ha : aval s ⟨(i : Int), 0⟩ = [s.getD i 0] := by unfold aval; rw [if_neg (by simp only; omega)]; rfl
      rw [ha]
      rfl
    | cut =>
      obtain ⟨m, rfl⟩ : ∃ m, n = m + 1 := ⟨n - 1, by simp [wt, fOv] at hn; omega⟩
      have h := ih (i + 1) m (by simp [wt, fOv] at hn; omega) (by omega)
      simp only [wholeFrom, at', List.drop_succ_cons, List.drop_zero, chg]
      rw [h, List.drop_drop]
    | put b =>
      have h := ih i n (by simpa [wt, fOv] using hn) hi
      simp only [at', chg, changed, List.flatMap_cons]
      rw [show List.flatMap (aval s) (at' (wholeFrom i n) ps) = changed s (at' (wholeFrom i n) ps) from rfl, h]
      simp [aval]
/-- the bytes from one place to another, put -/
def putsB (s : Str) (lo hi : Nat) : List Atom := ((s.take hi).drop lo).map fun b => ⟨-1, (b.toNat : Int)⟩
def back (s : Str) : Nat → Nat → List Atom → List Atom
  | _, nx, [] => putsB s nx s.length
  | i, nx, a :: l => if a.pos < 0 then back s (i + 1) nx l else putsB s nx a.pos.toNat ++ ⟨(i : Int), 0⟩ :: back s (i + 1) (a.pos.toNat + 1) l
theorem putsB_nil (s : Str) {lo hi : Nat} (h : hi ≤ lo) : putsB s lo hi = [] := by
  unfold putsB
  rw [List.drop_eq_nil_of_le (by rw [List.length_take]; omega)]; rfl
theorem putsB_succ (s : Str) {lo hi : Nat} (h : lo ≤ hi) (hs : hi < s.length) : putsB s lo (hi + 1) = putsB s lo hi ++ [⟨-1, ((s.getD hi 0).toNat : Int)⟩] := by
  unfold putsB
  rw [List.take_succ_eq_append_getElem hs, List.drop_append_of_le_length (by rw [List.length_take]; omega), List.map_append]
  simp [List.getD_eq_getElem?_getD, List.getElem?_eq_getElem hs]
theorem back_eq (s : Str) (ps : List Prim) : ∀ (i j n m nx : Nat), wt fOv ps = n → i + n = s.length → wt fMk ps = m → nx ≤ i →
    putsB s nx i ++ at' (wholeFrom j m) (inv (s.drop i) ps) = back s j nx (at' (wholeFrom i n) ps) := by
  induction ps with
  | nil => intro i j n m nx hn hi hm hx; simp [wt] at hn hm; subst hn hm; simp only [at', inv, back]; rw [List.append_nil, ← hi]; rfl
  | cons x ps ih =>
    intro i j n m nx hn hi hm hx
    cases x with
    | keep =>
      obtain ⟨n, rfl⟩ : ∃ k, n = k + 1 := ⟨n - 1, by simp [wt, fOv] at hn; omega⟩
      obtain ⟨m, rfl⟩ : ∃ k, m = k + 1 := ⟨m - 1, by simp [wt, fMk] at hm; omega⟩
      have h := ih (i + 1) (j + 1) n m (i + 1) (by simp [wt, fOv] at hn; omega) (by omega) (by simp [wt, fMk] at hm; omega) (Nat.le_refl _)
      rw [putsB_nil s (Nat.le_refl _), List.nil_append] at h
      simp only [wholeFrom, at', inv, List.take_succ_cons, List.take_zero, List.drop_succ_cons, List.drop_zero, List.cons_append, List.nil_append, back]
      rw [if_neg (show ¬ ((i : Int) < 0) by omega), List.drop_drop, h]
      rfl
    | cut =>
      obtain ⟨n, rfl⟩ : ∃ k, n = k + 1 := ⟨n - 1, by simp [wt, fOv] at hn; omega⟩
      have h := ih (i + 1) j n m nx (by simp [wt, fOv] at hn; omega) (by omega) (by simpa [wt, fMk] using hm) (by omega)
      rw [putsB_succ s hx (by omega)] at h
      simp only [wholeFrom, at', inv, List.drop_succ_cons, List.drop_zero]
      rw [← h, at_puts, List.drop_drop, drop_cons' (l := s) (i := i) 0 (by omega)]
      simp
    | put b =>
      obtain ⟨m, rfl⟩ : ∃ k, m = k + 1 := ⟨m - 1, by simp [wt, fMk] at hm; omega⟩
      have h := ih i (j + 1) n m nx (by simpa [wt, fOv] using hn) hi (by simp [wt, fMk] at hm; omega) hx
      simp only [wholeFrom, at', inv, List.drop_succ_cons, List.drop_zero, back]
      rw [if_pos (by simp), ← h]
theorem inv_ov (ps : List Prim) : ∀ (s : Str), wt fOv ps ≤ s.length → wt fOv (inv s ps) = wt fMk ps := by
  induction ps with
  | nil => intro s _; rfl
  | cons x ps ih =>
    intro s hs
    cases x with
    | keep => simp only [wt, fOv] at hs; simp only [inv, wt, fOv, fMk]; rw [ih _ (by rw [List.length_drop]; omega)]
    | cut =>
      simp only [wt, fOv] at hs
      simp only [inv]
      rw [wt_append, ih _ (by rw [List.length_drop]; omega)]
      cases s <;> simp [wt, fOv, fMk]
    | put b => simp only [wt, fOv] at hs; simp only [inv, wt, fOv, fMk]; rw [ih _ (by omega)]
theorem inv_mk (ps : List Prim) : ∀ (s : Str), wt fMk (inv s ps) ≤ wt fOv ps := by
  induction ps with
  | nil => intro s; exact Nat.le_refl _
  | cons x ps ih =>
    intro s
    cases x with
    | keep => have := ih (s.drop 1); simp only [inv, wt, fOv, fMk]; omega
    | cut =>
      have := ih (s.drop 1)
      simp only [inv]
      rw [wt_append]
      simp only [wt, fOv]
      cases s <;> simp [wt, fMk] at this ⊢ <;> omega
    | put b => have := ih s; simp only [inv, wt, fOv, fMk]; omega
end Go.Spl
