/-
  Plain laws of decimal digits. No conditions.
-/
import Derived.Test.YtjlbaagnoppfgaaBigLaw
namespace Go.Bg
set_option linter.unusedSectionVars false
set_option linter.unusedSimpArgs false
set_option linter.unusedVariables false
open Go.SX
/-- a digit as a byte -/
def dch (d : Int) : UInt8 := UInt8.ofNat (48 + d.toNat)
/-- digits, the least first, as a text -/
def dstr (l : List Int) : Str := l.reverse.map dch
/-- a number in decimal digits -/
def decS (n : Nat) : Str := if n = 0 then [48] else dstr (dg 10 n)
theorem dch_nat {d : Int} (h : 0 ≤ d ∧ d < ((10 : Nat) : Int)) : (dch d).toNat = 48 + d.toNat := by
  unfold dch
  rw [UInt8.toNat_ofNat']
  omega
theorem dch_zero {d : Int} (h : 0 ≤ d ∧ d < ((10 : Nat) : Int)) : dch d = 48 ↔ d = 0 := by
  constructor
  · intro e
    have := dch_nat h
    rw [e] at this
    have h48 : (48 : UInt8).toNat = 48 := rfl
    omega
  · rintro rfl; rfl
theorem dstr_snoc (l : List Int) (d : Int) : dstr (l ++ [d]) = dch d :: dstr l := by simp [dstr]
theorem dstr_len (l : List Int) : (dstr l).length = l.length := by simp [dstr]
/-- a byte is a decimal digit -/
def isd (c : UInt8) : Prop := 48 ≤ c.toNat ∧ c.toNat ≤ 57
instance (c : UInt8) : Decidable (isd c) := by unfold isd; infer_instance
/-- the number that decimal digits tell -/
def dv : Str → Nat
  | [] => 0
  | c :: r => (c.toNat - 48) * 10 ^ r.length + dv r
theorem dv_append (a b : Str) : dv (a ++ b) = dv a * 10 ^ b.length + dv b := by
  induction a with
  | nil => simp [dv]
  | cons c r ih => simp only [List.cons_append, dv, ih, List.length_append, Nat.pow_add, Nat.add_mul, Nat.mul_assoc]; omega
theorem dv_snoc (a : Str) (c : UInt8) : dv (a ++ [c]) = dv a * 10 + (c.toNat - 48) := by rw [dv_append]; simp [dv]
theorem dv_lt {s : Str} (h : ∀ c ∈ s, isd c) : dv s < 10 ^ s.length := by
  induction s with
  | nil => simp [dv]
  | cons c r ih =>
    have h1 := h c (List.mem_cons_self ..)
    have h2 := ih fun x hx => h x (List.mem_cons_of_mem _ hx)
    simp only [dv, List.length_cons, Nat.pow_succ]
    have h3 : (c.toNat - 48) * 10 ^ r.length ≤ 9 * 10 ^ r.length := Nat.mul_le_mul_right _ (by have := h1.2; omega)
    omega
theorem dv_take_succ (s : Str) {k : Nat} (hk : k < s.length) : dv (s.take (k + 1)) = dv (s.take k) * 10 + ((s.getD k 0).toNat - 48) := by
  rw [List.take_add_one, List.getElem?_eq_getElem hk, List.getD_eq_getElem?_getD, List.getElem?_eq_getElem hk]
  exact dv_snoc _ _
theorem dv_split (s : Str) (n : Nat) : dv s = dv (s.take n) * 10 ^ (s.drop n).length + dv (s.drop n) := by
  conv => lhs; rw [← List.take_append_drop n s]
  exact dv_append _ _
end Go.Bg
