/-
  Runes of a text and their codes, in plain Lean: what is decoded is what was encoded.
-/
import Derived.Test.YtjlbaagnoppfgaaDoorUtfLaw
import Derived.IntWalk
import Derived.Lib.RuneBytes
namespace Go.Ut
set_option linter.unusedSectionVars false
set_option linter.unusedSimpArgs false
set_option linter.unusedVariables false
open Go.SX

def eb (x : Int) : UInt8 := UInt8.ofNat (IntKind.u8.wrap x).toNat
def encS (n : Int) : Str := if n < 128 then [eb n] else if n < 2048 then [eb (192 + n.tdiv 64)] ++ [eb (128 + n.tmod 64)] else if n < 65536 then ([eb (224 + n.tdiv 4096)] ++ [eb (128 + (n.tdiv 64).tmod 64)]) ++ [eb (128 + n.tmod 64)]
  else (([eb (240 + n.tdiv 262144)] ++ [eb (128 + (n.tdiv 4096).tmod 64)]) ++ [eb (128 + (n.tdiv 64).tmod 64)]) ++ [eb (128 + n.tmod 64)]
theorem encS_len {n : Int} (h : scalar n) : ((encS n).length : Int) = sizeR n := by
  unfold encS sizeR
  rw [if_pos h]
  (repeat' split) <;> rfl
theorem eb_eq {c : UInt8} {x : Int} (h : x = (c.toNat : Int)) : eb x = c := by
  have := c.toNat_lt
  unfold eb
  rw [IntWalk.u8_in x ⟨by omega, by omega⟩, h, Int.toNat_natCast]
  exact UInt8.ofNat_toNat
theorem eb_nat {x : Int} (h0 : 0 ≤ x) (h1 : x ≤ 255) : eb x = x.toNat.toUInt8 := by
  unfold eb
  rw [IntWalk.u8_in x ⟨h0, h1⟩]
/-- the library's code of a rune -/
theorem encode_scalar {n : Int} (h : scalar n) : Lib.encodeRune n = encS n := by
  unfold scalar at h
  have d1 : n.tdiv 64 = n / 64 := Int.tdiv_eq_ediv_of_nonneg h.1
  have d2 : n.tdiv 4096 = n / 4096 := Int.tdiv_eq_ediv_of_nonneg h.1
  have d3 : n.tdiv 262144 = n / 262144 := Int.tdiv_eq_ediv_of_nonneg h.1
  have m1 : n.tmod 64 = n % 64 := Int.tmod_eq_emod_of_nonneg h.1
  have m2 : (n / 64).tmod 64 = (n / 64) % 64 := Int.tmod_eq_emod_of_nonneg (by omega)
  have m3 : (n / 4096).tmod 64 = (n / 4096) % 64 := Int.tmod_eq_emod_of_nonneg (by omega)
  unfold Lib.encodeRune Lib.encodeRuneZ encS
  rw [d1, d2, d3, m1, m2, m3]
  by_cases h1 : n < 128
  · rw [if_pos (by omega), if_pos h1, eb_nat (by omega) (by omega)]; rfl
  rw [if_neg (by omega), if_neg h1]
  by_cases h2 : n < 2048
  · rw [if_pos (by omega), if_pos h2, eb_nat (by omega) (by omega), eb_nat (by omega) (by omega)]; rfl
  rw [if_neg (by omega), if_neg h2]
  by_cases h3 : n < 65536
  · rw [if_pos (by omega), if_pos h3, eb_nat (by omega) (by omega), eb_nat (by omega) (by omega), eb_nat (by omega) (by omega)]; rfl
  rw [if_neg (by omega), if_neg h3, if_pos (by omega), eb_nat (by omega) (by omega), eb_nat (by omega) (by omega), eb_nat (by omega) (by omega), eb_nat (by omega) (by omega)]
  rfl
theorem encode_bad {n : Int} (h : ¬ scalar n) : Lib.encodeRune n = encS 65533 := by
  unfold scalar at h
  unfold Lib.encodeRune Lib.encodeRuneZ
  rw [if_neg (by omega), if_neg (by omega), if_neg (by omega), if_neg (by omega)]
  decide
theorem take_get (s : Str) (i : Nat) : ∀ (n : Nat), i + n ≤ s.length → (s.drop i).take n = (List.range n).map fun k => s.getD (i + k) 0 := by
  intro n h
  apply List.ext_getElem
  · simp; omega
  · intro k h1 h2
    simp at h1 h2 ⊢
    simp [List.getD_eq_getElem?_getD, List.getElem?_eq_getElem (show i + k < s.length by omega)]
/-- where a rune begins -/
theorem good_at {s : Str} {i : Nat} (hk : i < s.length) (hnb : ¬ ((decAt s i).1 = 65533 ∧ (decAt s i).2 = 1)) :
    scalar ((decAt s i).1 : Int) ∧ ((decAt s i).2 : Int) = sizeR ((decAt s i).1 : Int) ∧ (s.drop i).take (decAt s i).2 = encS ((decAt s i).1 : Int) := by
  have r0 := (s.getD i 0).toNat_lt
  have r1 := (s.getD (i + 1) 0).toNat_lt
  have r2 := (s.getD (i + 2) 0).toNat_lt
  have r3 := (s.getD (i + 3) 0).toNat_lt
  have hd : decAt s i = Lib.decodeN (s.length - i) (s.getD i 0).toNat (s.getD (i + 1) 0).toNat (s.getD (i + 2) 0).toNat (s.getD (i + 3) 0).toNat := rfl
  have fin : ∀ v k : Nat, decAt s i = (v, k) → scalar (v : Int) → (k : Int) = sizeR v → (s.drop i).take k = encS v → scalar ((decAt s i).1 : Int) ∧ ((decAt s i).2 : Int) = sizeR ((decAt s i).1 : Int) ∧ (s.drop i).take (decAt s i).2 = encS ((decAt s i).1 : Int) := by
    intro v k e h1 h2 h3
    rw [e]
    exact ⟨h1, h2, h3⟩
  have td : ∀ (v m : Nat), (v : Int).tdiv (m : Int) = ((v / m : Nat) : Int) := fun v m => rfl
  have tm : ∀ (v m : Nat), (v : Int).tmod (m : Int) = ((v % m : Nat) : Int) := fun v m => rfl
  by_cases c0 : (s.getD i 0).toNat < 128
  · have e : decAt s i = ((s.getD i 0).toNat, 1) := by rw [hd]; unfold Lib.decodeN; rw [if_pos c0]
    refine fin _ _ e (by unfold scalar; omega) (by unfold sizeR; rw [if_pos (by unfold scalar; omega), if_pos (by omega)]; rfl) ?_
    rw [take_get s i 1 (by omega)]
    unfold encS
    rw [if_pos (by omega), eb_eq rfl]
    rfl
  by_cases c1 : (s.getD i 0).toNat < 192 ∨ 248 ≤ (s.getD i 0).toNat
  · exfalso
    refine hnb ?_
    have e : decAt s i = (65533, 1) := by rw [hd]; unfold Lib.decodeN; rw [if_neg (by omega), if_neg (by omega), if_neg (by omega), if_neg (by omega)]
    rw [e]
    exact ⟨rfl, rfl⟩
  by_cases c2 : (s.getD i 0).toNat < 224
  · rw [dec2 (by omega) c2 r1] at hd
    by_cases g : 2 ≤ s.length - i ∧ (128 ≤ (s.getD (i + 1) 0).toNat ∧ (s.getD (i + 1) 0).toNat < 192) ∧ 128 ≤ ((s.getD i 0).toNat - 192) * 64 + ((s.getD (i + 1) 0).toNat - 128)
    · rw [if_pos g] at hd
      have hs : scalar ((((s.getD i 0).toNat - 192) * 64 + ((s.getD (i + 1) 0).toNat - 128) : Nat) : Int) := by unfold scalar; omega
      refine fin _ _ hd hs (by unfold sizeR; rw [if_pos hs, if_neg (by omega), if_pos (by omega)]; rfl) ?_
      rw [take_get s i 2 (by omega)]
      unfold encS
      rw [if_neg (by omega), if_pos (by omega), eb_eq (c := s.getD i 0) (by rw [show (64 : Int) = ((64 : Nat) : Int) from rfl, td]; omega), eb_eq (c := s.getD (i + 1) 0) (by rw [show (64 : Int) = ((64 : Nat) : Int) from rfl, tm]; omega)]
      rfl
    · exact absurd (by rw [hd, if_neg g]; exact ⟨rfl, rfl⟩) hnb
  by_cases c3 : (s.getD i 0).toNat < 240
  · rw [dec3 (by omega) c3 r1 r2] at hd
    by_cases g : (3 ≤ s.length - i ∧ (128 ≤ (s.getD (i + 1) 0).toNat ∧ (s.getD (i + 1) 0).toNat < 192) ∧ (128 ≤ (s.getD (i + 2) 0).toNat ∧ (s.getD (i + 2) 0).toNat < 192)) ∧ 2048 ≤ ((s.getD i 0).toNat - 224) * 4096 + ((s.getD (i + 1) 0).toNat - 128) * 64 + ((s.getD (i + 2) 0).toNat - 128) ∧ (((s.getD i 0).toNat - 224) * 4096 + ((s.getD (i + 1) 0).toNat - 128) * 64 + ((s.getD (i + 2) 0).toNat - 128) < 55296 ∨ 57343 < ((s.getD i 0).toNat - 224) * 4096 + ((s.getD (i + 1) 0).toNat - 128) * 64 + ((s.getD (i + 2) 0).toNat - 128))
    · rw [if_pos g] at hd
      have hs : scalar ((((s.getD i 0).toNat - 224) * 4096 + ((s.getD (i + 1) 0).toNat - 128) * 64 + ((s.getD (i + 2) 0).toNat - 128) : Nat) : Int) := by unfold scalar; omega
      refine fin _ _ hd hs (by unfold sizeR; rw [if_pos hs, if_neg (by omega), if_neg (by omega), if_pos (by omega)]; rfl) ?_
      rw [take_get s i 3 (by omega)]
      unfold encS
      rw [if_neg (by omega), if_neg (by omega), if_pos (by omega), eb_eq (c := s.getD i 0) (by rw [show (4096 : Int) = ((4096 : Nat) : Int) from rfl, td]; omega), eb_eq (c := s.getD (i + 1) 0) (by rw [show (64 : Int) = ((64 : Nat) : Int) from rfl, td, tm]; omega), eb_eq (c := s.getD (i + 2) 0) (by rw [show (64 : Int) = ((64 : Nat) : Int) from rfl, tm]; omega)]
      rfl
    · exact absurd (by rw [hd, if_neg g]; exact ⟨rfl, rfl⟩) hnb
  · rw [dec4 (by omega) (by omega) r1 r2 r3] at hd
    by_cases g : (4 ≤ s.length - i ∧ (128 ≤ (s.getD (i + 1) 0).toNat ∧ (s.getD (i + 1) 0).toNat < 192) ∧ (128 ≤ (s.getD (i + 2) 0).toNat ∧ (s.getD (i + 2) 0).toNat < 192) ∧ (128 ≤ (s.getD (i + 3) 0).toNat ∧ (s.getD (i + 3) 0).toNat < 192)) ∧ 65536 ≤ ((s.getD i 0).toNat - 240) * 262144 + ((s.getD (i + 1) 0).toNat - 128) * 4096 + ((s.getD (i + 2) 0).toNat - 128) * 64 + ((s.getD (i + 3) 0).toNat - 128) ∧ ((s.getD i 0).toNat - 240) * 262144 + ((s.getD (i + 1) 0).toNat - 128) * 4096 + ((s.getD (i + 2) 0).toNat - 128) * 64 + ((s.getD (i + 3) 0).toNat - 128) ≤ 1114111
    · rw [if_pos g] at hd
      have hs : scalar ((((s.getD i 0).toNat - 240) * 262144 + ((s.getD (i + 1) 0).toNat - 128) * 4096 + ((s.getD (i + 2) 0).toNat - 128) * 64 + ((s.getD (i + 3) 0).toNat - 128) : Nat) : Int) := by unfold scalar; omega
      refine fin _ _ hd hs (by unfold sizeR; rw [if_pos hs, if_neg (by omega), if_neg (by omega), if_neg (by omega)]; rfl) ?_
      rw [take_get s i 4 (by omega)]
      unfold encS
      rw [if_neg (by omega), if_neg (by omega), if_neg (by omega), eb_eq (c := s.getD i 0) (by rw [show (262144 : Int) = ((262144 : Nat) : Int) from rfl, td]; omega), eb_eq (c := s.getD (i + 1) 0) (by rw [show (4096 : Int) = ((4096 : Nat) : Int) from rfl, td, show (64 : Int) = ((64 : Nat) : Int) from rfl, tm]; omega), eb_eq (c := s.getD (i + 2) 0) (by rw [show (64 : Int) = ((64 : Nat) : Int) from rfl, td, tm]; omega), eb_eq (c := s.getD (i + 3) 0) (by rw [show (64 : Int) = ((64 : Nat) : Int) from rfl, tm]; omega)]
      rfl
    · exact absurd (by rw [hd, if_neg g]; exact ⟨rfl, rfl⟩) hnb
end Go.Ut
