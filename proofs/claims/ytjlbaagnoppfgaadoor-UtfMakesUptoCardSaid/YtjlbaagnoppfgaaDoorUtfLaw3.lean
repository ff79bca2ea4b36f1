/-
  Runes and codes, in plain Lean: codes of a list of runes, the bytes up to the n-th rune.
-/
import Derived.Test.YtjlbaagnoppfgaaDoorUtfLaw2
namespace Go.Ut
set_option linter.unusedSectionVars false
set_option linter.unusedSimpArgs false
set_option linter.unusedVariables false
open Go.SX

def encL (l : List Int) : Str := l.flatMap encS
theorem encL_nil : encL [] = [] := rfl
theorem encL_cons (n : Int) (l : List Int) : encL (n :: l) = encS n ++ encL l := rfl
theorem encL_append (a b : List Int) : encL (a ++ b) = encL a ++ encL b := by unfold encL; exact List.flatMap_append
theorem encL_one (n : Int) : encL [n] = encS n := by rw [encL_cons, encL_nil, List.append_nil]
theorem encS_le (n : Int) : (encS n).length ≤ 4 := by
  unfold encS
  (repeat' split) <;> simp
theorem encL_le (l : List Int) : (encL l).length ≤ 4 * l.length := by
  induction l with
  | nil => exact Nat.le_refl _
  | cons n l ih =>
    have := encS_le n
    rw [encL_cons, List.length_append, List.length_cons]
    omega
/-- what is decoded is a rune -/
theorem dec_scalar (s : Str) (i : Nat) : scalar ((decAt s i).1 : Int) := by
  have r0 := (s.getD i 0).toNat_lt
  have r1 := (s.getD (i + 1) 0).toNat_lt
  have r2 := (s.getD (i + 2) 0).toNat_lt
  have r3 := (s.getD (i + 3) 0).toNat_lt
  unfold decAt Lib.decodeN scalar
  (repeat' split) <;> simp only <;> omega
theorem runesF_scalar (s : Str) : ∀ (f i : Nat), ∀ x ∈ runesF s f i, scalar x := by
  intro f
  induction f with
  | zero => intro i x hx; cases hx
  | succ f ih =>
    intro i x hx
    unfold runesF at hx
    split at hx
    · rcases List.mem_cons.1 hx with rfl | hx
      · exact dec_scalar s i
      · exact ih _ x hx
    · cases hx
theorem runes_scalar (s : Str) : ∀ x ∈ runes s, scalar x := runesF_scalar s _ _
/-- the codes of the runes to come -/
def cleanFrom (s : Str) (i : Nat) : Str := encL (runesFrom s i)
def clean (s : Str) : Str := cleanFrom s 0
theorem clean_step {s : Str} {i : Nat} (h : i < s.length) : cleanFrom s i = encS ((decAt s i).1 : Int) ++ cleanFrom s (i + (decAt s i).2) := by
  unfold cleanFrom
  rw [runes_step h, encL_cons]
theorem clean_end {s : Str} {i : Nat} (h : s.length ≤ i) : cleanFrom s i = [] := by
  unfold cleanFrom
  rw [runes_end h, encL_nil]
/-- the codes of those numbers that are runes -/
def encG (l : List Int) : Str := encL (l.filter fun x => decide (scalar x))
theorem encG_all {l : List Int} (h : ∀ x ∈ l, scalar x) : encG l = encL l := by
  unfold encG
  rw [List.filter_eq_self.2 fun x hx => by simpa using h x hx]
theorem encG_step {l : List Int} {k : Nat} (h : k < l.length) {x : Int} (hx : l[k] = x) : encG (l.take (k + 1)) = encG (l.take k) ++ (if scalar x then encS x else []) := by
  subst hx
  unfold encG
  rw [List.take_add_one, List.getElem?_eq_getElem h, List.filter_append, encL_append]
  congr 1
  by_cases hs : scalar l[k]
  · rw [if_pos hs]
    simp [hs, encL_one]
  · rw [if_neg hs]
    simp [hs, encL_nil]
theorem encG_le (l : List Int) : (encG l).length ≤ 4 * l.length := by
  have h1 := encL_le (l.filter fun x => decide (scalar x))
  have h2 := List.length_filter_le (fun x => decide (scalar x)) l
  unfold encG
  omega
/-- how many bytes the first n runes take -/
def offs (s : Str) (n : Nat) : Nat := (encL ((runes s).take n)).length
theorem scalar0 : scalar 65533 := by decide
end Go.Ut
