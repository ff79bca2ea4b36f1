/-
  Runes of a text, in plain Lean: what the document's decoder answers is what the library's answers.
-/
import Derived.Test.YtjlbaagnoppfgaaDoorSxData
namespace Go.Ut
set_option linter.unusedSectionVars false
set_option linter.unusedSimpArgs false
set_option linter.unusedVariables false
open Go.SX

theorem dec2 {n b0 b1 b2 b3 : Nat} (h : 192 ≤ b0) (h2 : b0 < 224) (h1 : b1 < 256) : Lib.decodeN n b0 b1 b2 b3 = if 2 ≤ n ∧ (128 ≤ b1 ∧ b1 < 192) ∧ 128 ≤ (b0 - 192) * 64 + (b1 - 128) then ((b0 - 192) * 64 + (b1 - 128), 2) else (65533, 1) := by
  unfold Lib.decodeN
  rw [if_neg (by omega)]
  by_cases c : 2 ≤ n ∧ (128 ≤ b1 ∧ b1 < 192)
  · have e : b0 % 32 * 64 + b1 % 64 = (b0 - 192) * 64 + (b1 - 128) := by omega
    rw [if_pos (by omega), e]
    by_cases d : 128 ≤ (b0 - 192) * 64 + (b1 - 128)
    · rw [if_pos d, if_pos ⟨c.1, c.2, d⟩]
    · rw [if_neg d, if_neg (fun h => d h.2.2)]
  · rw [if_neg (by omega), if_neg (by omega), if_neg (by omega), if_neg (fun h => c ⟨h.1, h.2.1⟩)]
theorem dec3 {n b0 b1 b2 b3 : Nat} (h : 224 ≤ b0) (h2 : b0 < 240) (h1 : b1 < 256) (h3 : b2 < 256) : Lib.decodeN n b0 b1 b2 b3 = if (3 ≤ n ∧ (128 ≤ b1 ∧ b1 < 192) ∧ (128 ≤ b2 ∧ b2 < 192)) ∧ 2048 ≤ (b0 - 224) * 4096 + (b1 - 128) * 64 + (b2 - 128) ∧ ((b0 - 224) * 4096 + (b1 - 128) * 64 + (b2 - 128) < 55296 ∨ 57343 < (b0 - 224) * 4096 + (b1 - 128) * 64 + (b2 - 128)) then ((b0 - 224) * 4096 + (b1 - 128) * 64 + (b2 - 128), 3) else (65533, 1) := by
  unfold Lib.decodeN
  rw [if_neg (by omega), if_neg (by omega)]
  by_cases c : 3 ≤ n ∧ (128 ≤ b1 ∧ b1 < 192) ∧ (128 ≤ b2 ∧ b2 < 192)
  · have e : b0 % 16 * 4096 + b1 % 64 * 64 + b2 % 64 = (b0 - 224) * 4096 + (b1 - 128) * 64 + (b2 - 128) := by omega
    rw [if_pos (by omega), e]
    generalize hv : (b0 - 224) * 4096 + (b1 - 128) * 64 + (b2 - 128) = v
    have hle : v < 65536 := by omega
    by_cases d : 2048 ≤ v ∧ (v < 55296 ∨ 57343 < v)
    · rw [if_pos (by omega), if_pos ⟨c, d⟩]
    · rw [if_neg (by omega), if_neg (fun h => d h.2)]
  · rw [if_neg (by omega), if_neg (by omega), if_neg (fun h => c h.1)]
theorem dec4 {n b0 b1 b2 b3 : Nat} (h : 240 ≤ b0) (h2 : b0 < 248) (h1 : b1 < 256) (h3 : b2 < 256) (h4 : b3 < 256) : Lib.decodeN n b0 b1 b2 b3 = if (4 ≤ n ∧ (128 ≤ b1 ∧ b1 < 192) ∧ (128 ≤ b2 ∧ b2 < 192) ∧ (128 ≤ b3 ∧ b3 < 192)) ∧ 65536 ≤ (b0 - 240) * 262144 + (b1 - 128) * 4096 + (b2 - 128) * 64 + (b3 - 128) ∧ (b0 - 240) * 262144 + (b1 - 128) * 4096 + (b2 - 128) * 64 + (b3 - 128) ≤ 1114111 then ((b0 - 240) * 262144 + (b1 - 128) * 4096 + (b2 - 128) * 64 + (b3 - 128), 4) else (65533, 1) := by
  unfold Lib.decodeN
  rw [if_neg (by omega), if_neg (by omega), if_neg (by omega)]
  by_cases c : 4 ≤ n ∧ (128 ≤ b1 ∧ b1 < 192) ∧ (128 ≤ b2 ∧ b2 < 192) ∧ (128 ≤ b3 ∧ b3 < 192)
  · have e : b0 % 8 * 262144 + b1 % 64 * 4096 + b2 % 64 * 64 + b3 % 64 = (b0 - 240) * 262144 + (b1 - 128) * 4096 + (b2 - 128) * 64 + (b3 - 128) := by omega
    rw [if_pos (by omega), e]
    generalize hv : (b0 - 240) * 262144 + (b1 - 128) * 4096 + (b2 - 128) * 64 + (b3 - 128) = v
    by_cases d : 65536 ≤ v ∧ v ≤ 1114111
    · rw [if_pos (by omega), if_pos ⟨c, d⟩]
    · rw [if_neg (by omega), if_neg (fun h => d h.2)]
  · rw [if_neg (by omega), if_neg (fun h => c h.1)]
/-- a byte as a number -/
def b8 (s : Str) (i : Nat) : Int := ((s.getD i 0).toNat : Int)
theorem b8_rng (s : Str) (i : Nat) : 0 ≤ b8 s i ∧ b8 s i ≤ 255 := by have := (s.getD i 0).toNat_lt; unfold b8; omega
def scalar (n : Int) : Prop := 0 ≤ n ∧ n ≤ 1114111 ∧ (n < 55296 ∨ 57343 < n)
instance (n : Int) : Decidable (scalar n) := by unfold scalar; infer_instance
/-- the rune at the front, and its bytes; -1: there is none -/
def code (s : Str) : Int × Nat :=
  if s = [] then (-1, 0) else if (decAt s 0).1 = 65533 ∧ (decAt s 0).2 = 1 then (-1, 1) else (((decAt s 0).1 : Int), (decAt s 0).2)
theorem code_nil : code [] = (-1, 0) := rfl
/-- one byte -/
theorem code1 {s : Str} (h0 : s ≠ []) (h : b8 s 0 < 128) : code s = (b8 s 0, 1) := by
  have hd : decAt s 0 = ((s.getD 0 0).toNat, 1) := by
    unfold decAt Lib.decodeN
    rw [if_pos (by unfold b8 at h; omega)]
  unfold code
  rw [if_neg h0, hd, if_neg (by simp only; unfold b8 at h; omega)]
  rfl
/-- no first byte -/
theorem code_bad {s : Str} (h0 : s ≠ []) (h : 128 ≤ b8 s 0 ∧ b8 s 0 < 192 ∨ 248 ≤ b8 s 0) : code s = (-1, 1) := by
  have hd : decAt s 0 = (65533, 1) := by
    unfold decAt Lib.decodeN
    unfold b8 at h
    rw [if_neg (by omega), if_neg (by omega), if_neg (by omega), if_neg (by omega)]
  unfold code
  rw [if_neg h0, hd, if_pos ⟨rfl, rfl⟩]
def cont (s : Str) (i : Nat) : Prop := 128 ≤ b8 s i ∧ b8 s i < 192
/-- the number of the first i bytes, out of what the first one gives -/
def acc (s : Str) (r : Int) : Nat → Int
  | 0 => r
  | 1 => r
  | i + 1 => acc s r i * 64 + b8 s i - 128
/-- how many bytes, the least number, and what the first byte gives -/
def lead (s : Str) : Nat × Int × Int :=
  if b8 s 0 < 224 then (2, 128, b8 s 0 - 192) else if b8 s 0 < 240 then (3, 2048, b8 s 0 - 224) else (4, 65536, b8 s 0 - 240)
def good (s : Str) : Prop := (lead s).1 ≤ s.length ∧ (∀ i, 1 ≤ i → i < (lead s).1 → cont s i) ∧ (lead s).2.1 ≤ acc s (lead s).2.2 (lead s).1 ∧ scalar (acc s (lead s).2.2 (lead s).1)
theorem good2 {s : Str} (hl : lead s = (2, 128, b8 s 0 - 192)) : good s ↔ (2 ≤ s.length ∧ cont s 1 ∧ 128 ≤ (b8 s 0 - 192) * 64 + b8 s 1 - 128 ∧ scalar ((b8 s 0 - 192) * 64 + b8 s 1 - 128)) := by
  unfold good
  rw [hl]
  refine ⟨fun ⟨a, b, c, d⟩ => ⟨a, b 1 (by decide) (show 1 < 2 by decide), c, d⟩, fun ⟨a, b, c, d⟩ => ⟨a, fun i h1 h2 => ?_, c, d⟩⟩
  have : i = 1 := by simp only at h2; omega
  subst this
  exact b
theorem good3 {s : Str} (hl : lead s = (3, 2048, b8 s 0 - 224)) : good s ↔ (3 ≤ s.length ∧ (cont s 1 ∧ cont s 2) ∧ 2048 ≤ ((b8 s 0 - 224) * 64 + b8 s 1 - 128) * 64 + b8 s 2 - 128 ∧ scalar (((b8 s 0 - 224) * 64 + b8 s 1 - 128) * 64 + b8 s 2 - 128)) := by
  unfold good
  rw [hl]
  refine ⟨fun ⟨a, b, c, d⟩ => ⟨a, ⟨b 1 (by decide) (show 1 < 3 by decide), b 2 (by decide) (show 2 < 3 by decide)⟩, c, d⟩, fun ⟨a, b, c, d⟩ => ⟨a, fun i h1 h2 => ?_, c, d⟩⟩
  have : i = 1 ∨ i = 2 := by simp only at h2; omega
  rcases this with rfl | rfl
  · exact b.1
  · exact b.2
theorem good4 {s : Str} (hl : lead s = (4, 65536, b8 s 0 - 240)) : good s ↔ (4 ≤ s.length ∧ (cont s 1 ∧ cont s 2 ∧ cont s 3) ∧ 65536 ≤ (((b8 s 0 - 240) * 64 + b8 s 1 - 128) * 64 + b8 s 2 - 128) * 64 + b8 s 3 - 128 ∧ scalar ((((b8 s 0 - 240) * 64 + b8 s 1 - 128) * 64 + b8 s 2 - 128) * 64 + b8 s 3 - 128)) := by
  unfold good
  rw [hl]
  refine ⟨fun ⟨a, b, c, d⟩ => ⟨a, ⟨b 1 (by decide) (show 1 < 4 by decide), b 2 (by decide) (show 2 < 4 by decide), b 3 (by decide) (show 3 < 4 by decide)⟩, c, d⟩, fun ⟨a, b, c, d⟩ => ⟨a, fun i h1 h2 => ?_, c, d⟩⟩
  have : i = 1 ∨ i = 2 ∨ i = 3 := by simp only at h2; omega
  rcases this with rfl | rfl | rfl
  · exact b.1
  · exact b.2.1
  · exact b.2.2
theorem code_many {s : Str} (h0 : s ≠ []) (h : 192 ≤ b8 s 0) (h2 : b8 s 0 < 248) :
    (good s → code s = (acc s (lead s).2.2 (lead s).1, (lead s).1)) ∧ (¬ good s → code s = (-1, 1)) := by
  have r0 := (s.getD 0 0).toNat_lt
  have r1 := (s.getD 1 0).toNat_lt
  have r2 := (s.getD 2 0).toNat_lt
  have r3 := (s.getD 3 0).toNat_lt
  have hd : decAt s 0 = Lib.decodeN s.length (s.getD 0 0).toNat (s.getD 1 0).toNat (s.getD 2 0).toNat (s.getD 3 0).toNat := rfl
  have hbad : decAt s 0 = (65533, 1) → code s = (-1, 1) := fun e => by unfold code; rw [if_neg h0, e, if_pos ⟨rfl, rfl⟩]
  have hok : ∀ v k, decAt s 0 = (v, k) → 1 < k → code s = ((v : Int), k) := fun v k e hk => by unfold code; rw [if_neg h0, e, if_neg (fun h => by have := h.2; simp only at this; omega)]
  by_cases c1 : b8 s 0 < 224
  · have hl : lead s = (2, 128, b8 s 0 - 192) := by unfold lead; rw [if_pos c1]
    rw [good2 hl, hl]
    unfold b8 at c1 h h2
    rw [dec2 (by omega) (by omega) r1] at hd
    unfold cont scalar
    simp only [b8, acc]
    constructor
    · rintro ⟨a, b, c, d⟩
      rw [if_pos (by omega)] at hd
      rw [hok _ _ hd (by decide)]
      exact Prod.ext (by simp only; omega) rfl
    · intro hn
      rw [if_neg (by omega)] at hd
      exact hbad hd
  by_cases c2 : b8 s 0 < 240
  · have hl : lead s = (3, 2048, b8 s 0 - 224) := by unfold lead; rw [if_neg c1, if_pos c2]
    rw [good3 hl, hl]
    unfold b8 at c1 c2 h h2
    rw [dec3 (by omega) (by omega) r1 r2] at hd
    unfold cont scalar
    simp only [b8, acc]
    constructor
    · rintro ⟨a, b, c, d⟩
      rw [if_pos (by omega)] at hd
      rw [hok _ _ hd (by decide)]
      exact Prod.ext (by simp only; omega) rfl
    · intro hn
      rw [if_neg (by omega)] at hd
      exact hbad hd
  · have hl : lead s = (4, 65536, b8 s 0 - 240) := by unfold lead; rw [if_neg c1, if_neg c2]
    rw [good4 hl, hl]
    unfold b8 at c1 c2 h h2
    rw [dec4 (by omega) (by omega) r1 r2 r3] at hd
    unfold cont scalar
    simp only [b8, acc]
    constructor
    · rintro ⟨a, b, c, d⟩
      rw [if_pos (by omega)] at hd
      rw [hok _ _ hd (by decide)]
      exact Prod.ext (by simp only; omega) rfl
    · intro hn
      rw [if_neg (by omega)] at hd
      exact hbad hd
theorem getD_drop {α : Type} (l : List α) (i j : Nat) (d : α) : (l.drop i).getD j d = l.getD (i + j) d := by simp [List.getD_eq_getElem?_getD]
theorem decAt_drop (s : Str) (i : Nat) : decAt (s.drop i) 0 = decAt s i := by
  unfold decAt
  simp only [List.length_drop, getD_drop, Nat.add_zero, Nat.zero_add, Nat.sub_zero]
theorem dec_pos (s : Str) (i : Nat) : 1 ≤ (decAt s i).2 := by
  unfold decAt Lib.decodeN
  (repeat' split) <;> simp
theorem dec_le {s : Str} {i : Nat} (h : i < s.length) : i + (decAt s i).2 ≤ s.length := by
  have : (decAt s i).2 ≤ s.length - i := by
    unfold decAt Lib.decodeN
    (repeat' split) <;> simp only <;> omega
  omega
theorem dec_rune (s : Str) (i : Nat) : (decAt s i).1 ≤ 1114111 := by
  have h0 := (s.getD i 0).toNat_lt
  unfold decAt Lib.decodeN
  (repeat' split) <;> simp only <;> omega
theorem drop_ne {s : Str} {a : Nat} (h : a < s.length) : s.drop a ≠ [] := by
  intro e
  have := congrArg List.length e
  rw [List.length_drop] at this
  simp at this
  omega
/-- where no rune begins -/
def badF (s : Str) : Nat → Nat → Int
  | 0, _ => -1
  | f + 1, i => if i < s.length then (if (decAt s i).1 = 65533 ∧ (decAt s i).2 = 1 then (i : Int) else badF s f (i + (decAt s i).2)) else -1
theorem badF_fuel (s : Str) : ∀ (f g i : Nat), s.length ≤ f + i → s.length ≤ g + i → badF s f i = badF s g i := by
  intro f
  induction f with
  | zero =>
    intro g i hf hg
    cases g with
    | zero => rfl
    | succ g => simp only [badF]; rw [if_neg (by omega)]
  | succ f ih =>
    intro g i hf hg
    cases g with
    | zero => simp only [badF]; rw [if_neg (by omega)]
    | succ g =>
      have := dec_pos s i
      simp only [badF]
      rw [ih g _ (by omega) (by omega)]
def badFrom (s : Str) (i : Nat) : Int := badF s s.length i
def bad (s : Str) : Int := badFrom s 0
theorem bad_step {s : Str} {i : Nat} (h : i < s.length) : badFrom s i = if (decAt s i).1 = 65533 ∧ (decAt s i).2 = 1 then (i : Int) else badFrom s (i + (decAt s i).2) := by
  have hp := dec_pos s i
  unfold badFrom
  rw [badF_fuel s s.length (s.length + 1) i (by omega) (by omega), badF, if_pos h]
theorem bad_end {s : Str} {i : Nat} (h : s.length ≤ i) : badFrom s i = -1 := by
  unfold badFrom
  rw [badF_fuel s s.length 0 i (by omega) (by omega)]
  rfl
theorem runesF_fuel (s : Str) : ∀ (f g i : Nat), s.length ≤ f + i → s.length ≤ g + i → runesF s f i = runesF s g i := by
  intro f
  induction f with
  | zero =>
    intro g i hf hg
    cases g with
    | zero => rfl
    | succ g => simp only [runesF]; rw [if_neg (by omega)]
  | succ f ih =>
    intro g i hf hg
    cases g with
    | zero => simp only [runesF]; rw [if_neg (by omega)]
    | succ g =>
      have := dec_pos s i
      simp only [runesF]
      rw [ih g _ (by omega) (by omega)]
def runesFrom (s : Str) (i : Nat) : List Int := runesF s s.length i
theorem runes_from0 (s : Str) : runes s = runesFrom s 0 := rfl
theorem runes_step {s : Str} {i : Nat} (h : i < s.length) : runesFrom s i = ((decAt s i).1 : Int) :: runesFrom s (i + (decAt s i).2) := by
  have hp := dec_pos s i
  unfold runesFrom
  rw [runesF_fuel s s.length (s.length + 1) i (by omega) (by omega), runesF, if_pos h]
theorem runes_end {s : Str} {i : Nat} (h : s.length ≤ i) : runesFrom s i = [] := by
  unfold runesFrom
  rw [runesF_fuel s s.length 0 i (by omega) (by omega)]
  rfl
theorem code_at {s : Str} {i : Nat} (h : i < s.length) : code (s.drop i) = if (decAt s i).1 = 65533 ∧ (decAt s i).2 = 1 then (-1, 1) else (((decAt s i).1 : Int), (decAt s i).2) := by
  unfold code
  rw [if_neg (drop_ne h), decAt_drop]
/-- how long a rune's code is -/
def sizeR (n : Int) : Int := if scalar n then (if n < 128 then 1 else if n < 2048 then 2 else if n < 65536 then 3 else 4) else 0
end Go.Ut
