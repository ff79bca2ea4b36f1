/-
  The tokens of a text, in plain Lean.
-/
import Derived.Test.YtjlbaagnoppfgaaSxData
namespace Go.Tk
set_option linter.unusedSectionVars false
set_option linter.unusedSimpArgs false
set_option linter.unusedVariables false
open Go.SX

/-- a byte as a number -/
def by8 (c : UInt8) : Int := (c.toNat : Int)
theorem by8_rng (c : UInt8) : 0 ≤ by8 c ∧ by8 c ≤ 255 := by have := c.toNat_lt; unfold by8; omega
def blankc (n : Int) : Prop := n = 32 ∨ n = 9 ∨ n = 13
def wordc (n : Int) : Prop := (97 ≤ n ∧ n ≤ 122) ∨ (65 ≤ n ∧ n ≤ 90) ∨ (48 ≤ n ∧ n ≤ 57) ∨ n = 95 ∨ n = 45 ∨ n = 43 ∨ n = 46
def markc (n : Int) : Prop := n = 123 ∨ n = 125 ∨ n = 91 ∨ n = 93 ∨ n = 58 ∨ n = 61 ∨ n = 44
instance (n : Int) : Decidable (blankc n) := by unfold blankc; infer_instance
instance (n : Int) : Decidable (wordc n) := by unfold wordc; infer_instance
instance (n : Int) : Decidable (markc n) := by unfold markc; infer_instance
def cls (n : Int) : Int := if blankc n then 1 else if n = 10 then 2 else if n = 35 ∨ n = 47 then 3 else if wordc n then 4 else if n = 34 then 5 else if markc n then 6 else 7
/-- how many at the front -/
def frontN (p : Int → Bool) : Str → Nat
  | [] => 0
  | c :: r => if p (by8 c) then frontN p r + 1 else 0
theorem frontN_le (p : Int → Bool) (s : Str) : frontN p s ≤ s.length := by
  induction s with
  | nil => exact Nat.le_refl _
  | cons c r ih => simp only [frontN, List.length_cons]; split <;> omega
theorem getD_drop {α : Type} (l : List α) (i j : Nat) (d : α) : (l.drop i).getD j d = l.getD (i + j) d := by simp [List.getD_eq_getElem?_getD]
/-- the run goes on -/
theorem frontN_step {p : Int → Bool} {s : Str} {k : Nat} (hk : k < s.length) : frontN p (s.drop k) = if p (by8 (s.getD k 0)) then frontN p (s.drop (k + 1)) + 1 else 0 := by
  rw [List.drop_eq_getElem_cons hk, frontN]
  simp [List.getD_eq_getElem?_getD, List.getElem?_eq_getElem hk]
theorem frontN_end {p : Int → Bool} {s : Str} {k : Nat} (hk : s.length ≤ k) : frontN p (s.drop k) = 0 := by rw [List.drop_eq_nil_of_le hk]; rfl
/-- where a star and a stroke stand first -/
def findSC : Str → Option Nat
  | [] => none
  | [_] => none
  | c :: d :: r => if c = 42 ∧ d = 47 then some 0 else (findSC (d :: r)).map (· + 1)
theorem findSC_le : ∀ (s : Str) (n : Nat), findSC s = some n → n + 2 ≤ s.length := by
  intro s
  induction s with
  | nil => intro n h; cases h
  | cons c r ih =>
    intro n h
    cases r with
    | nil => cases h
    | cons d r =>
      simp only [findSC] at h
      split at h
      · injection h with h; subst h; simp
      · cases hf : findSC (d :: r) with
        | none => rw [hf] at h; cases h
        | some m => rw [hf] at h; injection h with h; change m + 1 = n at h; have := ih m hf; simp at this ⊢; omega
theorem findSC_step {s : Str} {k : Nat} (hk : k + 2 ≤ s.length) : findSC (s.drop k) = if s.getD k 0 = 42 ∧ s.getD (k + 1) 0 = 47 then some 0 else (findSC (s.drop (k + 1))).map (· + 1) := by
  rw [List.drop_eq_getElem_cons (show k < s.length by omega), List.drop_eq_getElem_cons (show k + 1 < s.length by omega), findSC]
  simp [List.getD_eq_getElem?_getD, List.getElem?_eq_getElem (show k < s.length by omega), List.getElem?_eq_getElem (show k + 1 < s.length by omega)]
theorem findSC_end {s : Str} {k : Nat} (hk : s.length < k + 2) : findSC (s.drop k) = none := by
  have h : (s.drop k).length ≤ 1 := by rw [List.length_drop]; omega
  match hs : s.drop k with
  | [] => rfl
  | [_] => rfl
  | _ :: _ :: _ => rw [hs] at h; simp at h
/-- a note at the front -/
def note (s : Str) : Nat :=
  if s.getD 0 0 = 35 then frontN (fun n => decide (n ≠ 10)) s
  else if s.getD 0 0 = 47 ∧ s.getD 1 0 = 42 ∧ 2 ≤ s.length then (match findSC (s.drop 2) with | none => 0 | some n => n + 4) else 0
/-- a text behind its first quote -/
def txt : Bool → Str → Option Nat
  | _, [] => none
  | p, c :: r => if by8 c = 10 then none else if p then (txt false r).map (· + 1) else if by8 c = 34 then some 1 else (txt (decide (by8 c = 92)) r).map (· + 1)
theorem txt_le : ∀ (s : Str) (p : Bool) (n : Nat), txt p s = some n → n ≤ s.length := by
  intro s
  induction s with
  | nil => intro p n h; cases h
  | cons c r ih =>
    intro p n h
    simp only [txt] at h
    split at h
    · cases h
    · split at h
      · cases hf : txt false r with
        | none => rw [hf] at h; cases h
        | some m => rw [hf] at h; injection h with h; change m + 1 = n at h; have := ih _ m hf; simp; omega
      · split at h
        · injection h with h; subst h; simp
        · cases hf : txt (decide (by8 c = 92)) r with
          | none => rw [hf] at h; cases h
          | some m => rw [hf] at h; injection h with h; change m + 1 = n at h; have := ih _ m hf; simp; omega
theorem txt_step {s : Str} {k : Nat} (hk : k < s.length) (p : Bool) : txt p (s.drop k) = if by8 (s.getD k 0) = 10 then none else if p then (txt false (s.drop (k + 1))).map (· + 1) else if by8 (s.getD k 0) = 34 then some 1
    else (txt (decide (by8 (s.getD k 0) = 92)) (s.drop (k + 1))).map (· + 1) := by
  rw [List.drop_eq_getElem_cons hk, txt]
  simp [List.getD_eq_getElem?_getD, List.getElem?_eq_getElem hk]
theorem txt_end {s : Str} {k : Nat} (hk : s.length ≤ k) (p : Bool) : txt p (s.drop k) = none := by rw [List.drop_eq_nil_of_le hk]; rfl
/-- how long, from a place on -/
def upn (k : Nat) : Option Nat → Nat
  | none => 0
  | some n => k + n
theorem upn_map (k : Nat) (o : Option Nat) : upn k (o.map (· + 1)) = upn (k + 1) o := by cases o <;> simp [upn]; omega
def text (s : Str) : Nat := upn 1 (txt false (s.drop 1))
def kindL (s : Str) : Int := cls (by8 (s.getD 0 0))
/-- the next token: its kind, and its bytes -/
def nx (s : Str) : Int × Nat :=
  if kindL s = 1 ∨ kindL s = 4 then (kindL s, 1 + frontN (fun n => decide (cls n = kindL s)) (s.drop 1))
  else if kindL s = 3 then (if note s = 0 then (7, 1) else (3, note s))
  else if kindL s = 5 then (if text s = 0 then (7, 1) else (5, text s))
  else (kindL s, 1)
theorem note_le (s : Str) : note s ≤ s.length := by
  unfold note
  split
  · exact frontN_le _ _
  · split
    · split
      · omega
      · rename_i n h; have := findSC_le _ _ h; rw [List.length_drop] at this; omega
    · omega
theorem text_le (s : Str) : text s ≤ s.length := by
  unfold text upn
  split
  · omega
  · rename_i n h
    have := txt_le _ _ _ h
    rw [List.length_drop] at this
    cases s with
    | nil => cases h
    | cons c r => simp at this ⊢; omega
theorem nx_bounds {s : Str} (h : s ≠ []) : 1 ≤ (nx s).2 ∧ (nx s).2 ≤ s.length := by
  have h1 : 1 ≤ s.length := by cases s with
    | nil => exact absurd rfl h
    | cons c r => simp
  have hn := note_le s
  have ht := text_le s
  have hr := frontN_le (fun n => decide (cls n = kindL s)) (s.drop 1)
  rw [List.length_drop] at hr
  unfold nx
  split
  · exact ⟨by simp, by simp only; omega⟩
  · split
    · split
      · exact ⟨Nat.le_refl _, h1⟩
      · exact ⟨by simp only; omega, hn⟩
    · split
      · split
        · exact ⟨Nat.le_refl _, h1⟩
        · exact ⟨by simp only; omega, ht⟩
      · exact ⟨Nat.le_refl _, h1⟩
/-- all tokens, from a place on -/
def toks (s : Str) : Nat → Nat → List Token
  | 0, _ => []
  | f + 1, a => if a < s.length then ⟨(nx (s.drop a)).1, a, ((a + (nx (s.drop a)).2 : Nat) : Int)⟩ :: toks s f (a + (nx (s.drop a)).2) else []
theorem drop_ne {s : Str} {a : Nat} (h : a < s.length) : s.drop a ≠ [] := by
  intro e
  have := congrArg List.length e
  rw [List.length_drop] at this
  simp at this
  omega
theorem toks_fuel (s : Str) : ∀ (f g a : Nat), s.length ≤ f + a → s.length ≤ g + a → toks s f a = toks s g a := by
  intro f
  induction f with
  | zero =>
    intro g a hf hg
    cases g with
    | zero => rfl
    | succ g => simp only [toks]; rw [if_neg (by omega)]
  | succ f ih =>
    intro g a hf hg
    cases g with
    | zero => simp only [toks]; rw [if_neg (by omega)]
    | succ g =>
      simp only [toks]
      by_cases h : a < s.length
      · have := nx_bounds (drop_ne h)
        rw [if_pos h, if_pos h, ih g _ (by omega) (by omega)]
      · rw [if_neg h, if_neg h]
def tokens (s : Str) (a : Nat) : List Token := toks s s.length a
theorem tokens_step {s : Str} {a : Nat} (h : a < s.length) : tokens s a = ⟨(nx (s.drop a)).1, a, ((a + (nx (s.drop a)).2 : Nat) : Int)⟩ :: tokens s (a + (nx (s.drop a)).2) := by
  have hb := nx_bounds (drop_ne h)
  unfold tokens
  obtain ⟨f, hf⟩ : ∃ f, s.length = f + 1 := ⟨s.length - 1, by omega⟩
  rw [toks_fuel s s.length (f + 1) a (by omega) (by omega)]
  rw [toks, if_pos h, toks_fuel s f s.length _ (by omega) (by omega)]
theorem tokens_end {s : Str} {a : Nat} (h : s.length ≤ a) : tokens s a = [] := by
  unfold tokens
  cases hl : s.length with
  | zero => rfl
  | succ f => rw [toks, if_neg (by omega)]
end Go.Tk
