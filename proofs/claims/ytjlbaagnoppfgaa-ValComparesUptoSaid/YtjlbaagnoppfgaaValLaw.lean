/-
  Plain laws of values: how they stand to each other. No conditions.
-/
import Derived.Test.YtjlbaagnoppfgaaSxMap
namespace Go.Vl
set_option linter.unusedSectionVars false
set_option linter.unusedSimpArgs false
set_option linter.unusedVariables false
open Go.SX
def orI (a b : Int) : Int := if a = 0 then b else a
def cmpI (a b : Int) : Int := if a = b then 0 else if a < b then -1 else 1
def cmpS (a b : Str) : Int := if a = b then 0 else if Op.bytesLess a b = true then -1 else 1
def rank (f : Int) : Int := if f < 9223372036854775808 then f + 9223372036854775808 else 18446744073709551615 - f
mutual
def cmpV : Val → Val → Int
  | ⟨k, n, f, s, l, e⟩, b => orI (cmpI k b.kind) (orI (cmpI n b.n) (orI (cmpI (rank f) (rank b.f)) (orI (cmpS s b.s) (orI (cmpL l b.l) (cmpE e b.e)))))
def cmpL : List Val → List Val → Int
  | [], [] => 0
  | [], _ :: _ => -1
  | _ :: _, [] => 1
  | x :: xs, y :: ys => orI (cmpV x y) (cmpL xs ys)
def cmpE : List (Str × Val) → List (Str × Val) → Int
  | [], [] => 0
  | [], _ :: _ => -1
  | _ :: _, [] => 1
  | x :: xs, y :: ys => orI (cmpP x y) (cmpE xs ys)
def cmpP : Str × Val → Str × Val → Int
  | (a, x), q => orI (cmpS a q.1) (cmpV x q.2)
end
theorem less_irrefl : ∀ a : Str, Op.bytesLess a a = false
  | [] => rfl
  | c :: r => by
    rw [Op.bytesLess, less_irrefl r]
    simp
theorem cmpI_self (a : Int) : cmpI a a = 0 := if_pos rfl
theorem cmpS_self (a : Str) : cmpS a a = 0 := if_pos rfl
theorem cmpI_zero {a b : Int} : cmpI a b = 0 ↔ a = b := by
  unfold cmpI
  split
  · simp [*]
  · split <;> simp [*]
theorem cmpS_zero {a b : Str} : cmpS a b = 0 ↔ a = b := by
  unfold cmpS
  split
  · simp [*]
  · split <;> simp [*]
theorem cmpV_eq (a b : Val) : cmpV a b = orI (cmpI a.kind b.kind) (orI (cmpI a.n b.n) (orI (cmpI (rank a.f) (rank b.f)) (orI (cmpS a.s b.s) (orI (cmpL a.l b.l) (cmpE a.e b.e))))) := by
  cases a
  rw [cmpV]
theorem cmpP_eq (p q : Str × Val) : cmpP p q = orI (cmpS p.1 q.1) (cmpV p.2 q.2) := by
  cases p
  rw [cmpP]
theorem orI_ne {a b : Int} (h : a ≠ 0) : orI a b = a := if_neg h
theorem orI_right {a : Int} : orI a 0 = a := by unfold orI; split <;> simp [*]
theorem orI_zero {b : Int} : orI 0 b = b := if_pos rfl
theorem cmpL_drop {l m : List Val} {k : Nat} (hl : k < l.length) (hm : k < m.length) : cmpL (l.drop k) (m.drop k) = orI (cmpV l[k] m[k]) (cmpL (l.drop (k + 1)) (m.drop (k + 1))) := by
  rw [List.drop_eq_getElem_cons hl, List.drop_eq_getElem_cons hm, cmpL]
theorem cmpL_short {l m : List Val} {k : Nat} (hl : k < l.length) (hm : m.length ≤ k) : cmpL (l.drop k) (m.drop k) = 1 := by
  rw [List.drop_eq_getElem_cons hl, List.drop_eq_nil_of_le hm, cmpL]
theorem cmpL_long {l m : List Val} {k : Nat} (hl : l.length ≤ k) (hm : k < m.length) : cmpL (l.drop k) (m.drop k) = -1 := by
  rw [List.drop_eq_getElem_cons hm, List.drop_eq_nil_of_le hl, cmpL]
theorem cmpL_end {l m : List Val} {k : Nat} (hl : l.length ≤ k) (hm : m.length ≤ k) : cmpL (l.drop k) (m.drop k) = 0 := by
  rw [List.drop_eq_nil_of_le hm, List.drop_eq_nil_of_le hl, cmpL]
theorem cmpE_drop {l m : List (Str × Val)} {k : Nat} (hl : k < l.length) (hm : k < m.length) : cmpE (l.drop k) (m.drop k) = orI (cmpP l[k] m[k]) (cmpE (l.drop (k + 1)) (m.drop (k + 1))) := by
  rw [List.drop_eq_getElem_cons hl, List.drop_eq_getElem_cons hm, cmpE]
theorem cmpE_short {l m : List (Str × Val)} {k : Nat} (hl : k < l.length) (hm : m.length ≤ k) : cmpE (l.drop k) (m.drop k) = 1 := by
  rw [List.drop_eq_getElem_cons hl, List.drop_eq_nil_of_le hm, cmpE]
theorem cmpE_long {l m : List (Str × Val)} {k : Nat} (hl : l.length ≤ k) (hm : k < m.length) : cmpE (l.drop k) (m.drop k) = -1 := by
  rw [List.drop_eq_getElem_cons hm, List.drop_eq_nil_of_le hl, cmpE]
theorem cmpE_end {l m : List (Str × Val)} {k : Nat} (hl : l.length ≤ k) (hm : m.length ≤ k) : cmpE (l.drop k) (m.drop k) = 0 := by
  rw [List.drop_eq_nil_of_le hm, List.drop_eq_nil_of_le hl, cmpE]
/-- smaller values -/
theorem val_sz_l {v x : Val} (h : x ∈ v.l) : SizeOf.sizeOf x < SizeOf.sizeOf v := by
  cases v
  have := List.sizeOf_lt_of_mem h
  simp only [Val.mk.sizeOf_spec] at this ⊢
  omega
theorem val_sz_e {v : Val} {p : Str × Val} (h : p ∈ v.e) : SizeOf.sizeOf p.2 < SizeOf.sizeOf v := by
  cases v
  have := List.sizeOf_lt_of_mem h
  obtain ⟨a, x⟩ := p
  simp only [Val.mk.sizeOf_spec, Prod.mk.sizeOf_spec] at this ⊢
  omega
mutual
theorem cmpV_self : ∀ v : Val, cmpV v v = 0
  | ⟨k, n, f, s, l, e⟩ => by
    rw [cmpV]
    simp only [cmpI_self, cmpS_self, cmpL_self l, cmpE_self e, orI_zero]
theorem cmpL_self : ∀ l : List Val, cmpL l l = 0
  | [] => by rw [cmpL]
  | x :: xs => by rw [cmpL, cmpV_self x, cmpL_self xs, orI_zero]
theorem cmpE_self : ∀ l : List (Str × Val), cmpE l l = 0
  | [] => by rw [cmpE]
  | x :: xs => by rw [cmpE, cmpP_self x, cmpE_self xs, orI_zero]
theorem cmpP_self : ∀ p : Str × Val, cmpP p p = 0
  | (a, x) => by rw [cmpP, cmpV_self x, cmpS_self, orI_zero]
end
/-- the first that is not 0 -/
def firstN : List Int → Int
  | [] => 0
  | x :: r => orI x (firstN r)
theorem firstN_drop {l : List Int} {k : Nat} (h : k < l.length) : firstN (l.drop k) = orI l[k] (firstN (l.drop (k + 1))) := by
  rw [List.drop_eq_getElem_cons h, firstN]
end Go.Vl
