/-
  Plain laws of whole numbers as lists of digits. No conditions.
-/
import Derived.Test.YtjlbaagnoppfgaaSxData
namespace Go.Bg
set_option linter.unusedSectionVars false
set_option linter.unusedSimpArgs false
set_option linter.unusedVariables false
def dgF (B : Nat) : Nat → Nat → List Int
  | 0, _ => []
  | f + 1, n => if n = 0 then [] else ((n % B : Nat) : Int) :: dgF B f (n / B)
/-- the digits of n, the least first, none of them 0 at the end -/
def dg (B n : Nat) : List Int := dgF B n n
theorem div_lt {B n : Nat} (hB : 2 ≤ B) (hn : 0 < n) : n / B < n := Nat.div_lt_self hn (by omega)
theorem dgF_eq {B : Nat} (hB : 2 ≤ B) : ∀ f g n, n ≤ f → n ≤ g → dgF B f n = dgF B g n := by
  intro f
  induction f with
  | zero =>
    intro g n h1 _
    have : n = 0 := by omega
    subst this
    cases g <;> simp [dgF]
  | succ f ih =>
    intro g n h1 h2
    by_cases hn : n = 0
    · subst hn; cases g <;> simp [dgF]
    · have := div_lt hB (Nat.pos_of_ne_zero hn)
      cases g with
      | zero => omega
      | succ g =>
        simp only [dgF, if_neg hn]
        rw [ih g (n / B) (by omega) (by omega)]
@[simp] theorem dg_zero (B : Nat) : dg B 0 = [] := rfl
theorem dg_pos {B n : Nat} (hB : 2 ≤ B) (hn : 0 < n) : dg B n = ((n % B : Nat) : Int) :: dg B (n / B) := by
  unfold dg
  have h := div_lt hB hn
  obtain ⟨m, rfl⟩ : ∃ m, n = m + 1 := ⟨n - 1, by omega⟩
  rw [dgF, if_neg (by omega), dgF_eq hB m ((m + 1) / B) _ (by omega) (Nat.le_refl _)]
/-- the number that digits tell -/
def vl (B : Nat) : List Int → Nat
  | [] => 0
  | x :: r => x.toNat + B * vl B r
def Dg (B : Nat) (l : List Int) : Prop := ∀ x ∈ l, 0 ≤ x ∧ x < (B : Int)
theorem Dg.nil (B : Nat) : Dg B [] := fun _ h => nomatch h
theorem Dg.cons {B : Nat} {x : Int} {l : List Int} (h1 : 0 ≤ x ∧ x < (B : Int)) (h : Dg B l) : Dg B (x :: l) := by
  intro y hy
  rcases List.mem_cons.1 hy with rfl | hy
  · exact h1
  · exact h y hy
theorem Dg.append {B : Nat} {a b : List Int} (h : Dg B a) (k : Dg B b) : Dg B (a ++ b) := by
  intro y hy
  rcases List.mem_append.1 hy with hy | hy
  · exact h y hy
  · exact k y hy
theorem Dg.snoc {B : Nat} {x : Int} {l : List Int} (h : Dg B l) (h1 : 0 ≤ x ∧ x < (B : Int)) : Dg B (l ++ [x]) := h.append (Dg.cons h1 (Dg.nil B))
theorem Dg.take {B : Nat} {l : List Int} (h : Dg B l) (k : Nat) : Dg B (l.take k) := fun x hx => h x (List.mem_of_mem_take hx)
theorem Dg.drop {B : Nat} {l : List Int} (h : Dg B l) (k : Nat) : Dg B (l.drop k) := fun x hx => h x (List.mem_of_mem_drop hx)
theorem Dg.getD {B : Nat} {l : List Int} (hB : 0 < B) (h : Dg B l) (k : Nat) : 0 ≤ l.getD k 0 ∧ l.getD k 0 < (B : Int) := by
  rw [List.getD_eq_getElem?_getD]
  rcases Nat.lt_or_ge k l.length with hk | hk
  · rw [List.getElem?_eq_getElem hk]
    exact h _ (List.getElem_mem hk)
  · rw [List.getElem?_eq_none hk]
    exact ⟨Int.le_refl _, by simpa using hB⟩
theorem Dg.set {B : Nat} {l : List Int} (h : Dg B l) (k : Nat) {x : Int} (hx : 0 ≤ x ∧ x < (B : Int)) : Dg B (l.set k x) := by
  intro y hy
  rcases List.mem_or_eq_of_mem_set hy with hy | rfl
  · exact h y hy
  · exact hx
theorem Dg.replicate {B : Nat} (hB : 0 < B) (n : Nat) : Dg B (List.replicate n 0) := by
  intro y hy
  rw [List.eq_of_mem_replicate hy]
  exact ⟨Int.le_refl _, by simpa using hB⟩
theorem dg_Dg {B : Nat} (hB : 2 ≤ B) : ∀ n, Dg B (dg B n) := by
  intro n
  induction n using Nat.strongRecOn with
  | _ n ih =>
    by_cases hn : n = 0
    · subst hn; exact Dg.nil B
    · have hp := Nat.pos_of_ne_zero hn
      rw [dg_pos hB hp]
      refine Dg.cons ⟨by omega, ?_⟩ (ih _ (div_lt hB hp))
      have := Nat.mod_lt n (show 0 < B by omega)
      omega
theorem vl_dg {B : Nat} (hB : 2 ≤ B) : ∀ n, vl B (dg B n) = n := by
  intro n
  induction n using Nat.strongRecOn with
  | _ n ih =>
    by_cases hn : n = 0
    · subst hn; rfl
    · have hp := Nat.pos_of_ne_zero hn
      rw [dg_pos hB hp, vl, ih _ (div_lt hB hp), Int.toNat_natCast]
      exact Nat.mod_add_div n B
theorem vl_append (B : Nat) (a b : List Int) : vl B (a ++ b) = vl B a + B ^ a.length * vl B b := by
  induction a with
  | nil => simp [vl]
  | cons x r ih =>
    simp only [List.cons_append, vl, ih, List.length_cons, Nat.pow_succ, Nat.mul_add]
    rw [Nat.mul_comm (B ^ r.length) B, Nat.mul_assoc, Nat.add_assoc]
theorem vl_snoc (B : Nat) (a : List Int) (x : Int) : vl B (a ++ [x]) = vl B a + B ^ a.length * x.toNat := by
  rw [vl_append]; simp [vl]
theorem vl_replicate (B n : Nat) : vl B (List.replicate n 0) = 0 := by
  induction n with
  | zero => rfl
  | succ n ih => rw [List.replicate_succ, vl, ih]; simp
theorem vl_lt {B : Nat} {l : List Int} (h : Dg B l) : vl B l < B ^ l.length := by
  induction l with
  | nil => simp [vl]
  | cons x r ih =>
    have h1 := h x (List.mem_cons_self ..)
    have h2 := ih fun y hy => h y (List.mem_cons_of_mem _ hy)
    simp only [vl, List.length_cons, Nat.pow_succ]
    have h3 : B * (vl B r + 1) ≤ B * B ^ r.length := Nat.mul_le_mul_left B h2
    rw [Nat.mul_add, Nat.mul_one] at h3
    rw [Nat.mul_comm (B ^ r.length) B]
    omega
theorem vl_zeros {B : Nat} {l : List Int} (h : ∀ x ∈ l, x = 0) : vl B l = 0 := by
  induction l with
  | nil => rfl
  | cons x r ih =>
    rw [vl, h x (List.mem_cons_self ..), ih fun y hy => h y (List.mem_cons_of_mem _ hy)]
    simp
theorem canon {B : Nat} (hB : 2 ≤ B) {l : List Int} (h : Dg B l) (hl : l.getLast? ≠ some 0) : dg B (vl B l) = l := by
  induction l with
  | nil => rfl
  | cons x r ih =>
    have hx := h x (List.mem_cons_self ..)
    have hr : Dg B r := fun y hy => h y (List.mem_cons_of_mem _ hy)
    have hlr : r.getLast? ≠ some 0 := by
      cases r with
      | nil => simp
      | cons y t => simpa [List.getLast?_cons_cons] using hl
    have ih := ih hr hlr
    have hpos : 0 < vl B (x :: r) := by
      rw [vl]
      rcases Nat.eq_zero_or_pos (vl B r) with h0 | h0
      · rw [h0] at ih
        have hrn : r = [] := by rw [← ih]; rfl
        subst hrn
        have : x ≠ 0 := by simpa using hl
        omega
      · have : 0 < B * vl B r := Nat.mul_pos (by omega) h0
        omega
    rw [dg_pos hB hpos]
    have h1 : vl B (x :: r) % B = x.toNat := by
      rw [vl, Nat.add_mul_mod_self_left, Nat.mod_eq_of_lt (by omega)]
    have h2 : vl B (x :: r) / B = vl B r := by
      rw [vl, Nat.add_mul_div_left _ _ (by omega), Nat.div_eq_of_lt (by omega), Nat.zero_add]
    rw [h1, h2, ih]
    congr 1
    omega
theorem canonTake {B : Nat} (hB : 2 ≤ B) {l : List Int} (h : Dg B l) {k : Nat} (hk : k ≤ l.length) (h1 : k = 0 ∨ l.getD (k - 1) 0 ≠ 0) (h2 : ∀ i, k ≤ i → l.getD i 0 = 0) : l.take k = dg B (vl B l) := by
  have hv : vl B l = vl B (l.take k) := by
    conv => lhs; rw [← List.take_append_drop k l]
    rw [vl_append, vl_zeros (l := l.drop k) (fun x hx => by
      obtain ⟨i, hi, rfl⟩ := List.getElem_of_mem hx
      have := h2 (k + i) (by omega)
      rw [List.length_drop] at hi
      rw [List.getD_eq_getElem?_getD, List.getElem?_eq_getElem (by omega)] at this
      rw [List.getElem_drop]
      exact this)]
    simp
  rw [hv]
  refine (canon hB (h.take k) ?_).symm
  rcases h1 with rfl | h1
  · simp
  · rcases Nat.eq_zero_or_pos k with rfl | hp
    · simp
    · rw [List.getLast?_take]
      rw [if_neg (by omega), List.getElem?_eq_getElem (by omega)]
      rw [List.getD_eq_getElem?_getD, List.getElem?_eq_getElem (by omega)] at h1
      simpa using h1
theorem vl_take_succ (B : Nat) (l : List Int) (k : Nat) : vl B (l.take (k + 1)) = vl B (l.take k) + B ^ k * (l.getD k 0).toNat := by
  rcases Nat.lt_or_ge k l.length with hk | hk
  · rw [List.take_add_one, List.getElem?_eq_getElem hk]
    simp only [Option.toList]
    rw [vl_snoc, List.length_take, Nat.min_eq_left (by omega), List.getD_eq_getElem?_getD, List.getElem?_eq_getElem hk]
    rfl
  · rw [List.take_of_length_le (by omega), List.take_of_length_le hk, List.getD_eq_getElem?_getD, List.getElem?_eq_none hk]
    simp
theorem vl_drop (B : Nat) (l : List Int) (k : Nat) : vl B (l.drop k) = (l.getD k 0).toNat + B * vl B (l.drop (k + 1)) := by
  rcases Nat.lt_or_ge k l.length with hk | hk
  · rw [List.drop_eq_getElem_cons hk, vl, List.getD_eq_getElem?_getD, List.getElem?_eq_getElem hk]
    rfl
  · rw [List.drop_of_length_le hk, List.drop_of_length_le (by omega), List.getD_eq_getElem?_getD, List.getElem?_eq_none hk]
    simp [vl]
theorem vl_split (B : Nat) (l : List Int) (k : Nat) (hk : k ≤ l.length) : vl B l = vl B (l.take k) + B ^ k * vl B (l.drop k) := by
  conv => lhs; rw [← List.take_append_drop k l]
  rw [vl_append, List.length_take, Nat.min_eq_left hk]
theorem vl_set {B : Nat} {l : List Int} {k : Nat} (hk : k < l.length) (x : Int) : vl B (l.set k x) + B ^ k * (l.getD k 0).toNat = vl B l + B ^ k * x.toNat := by
  induction l generalizing k with
  | nil => simp at hk
  | cons y r ih =>
    cases k with
    | zero => simp [vl]; omega
    | succ k =>
      have := ih (k := k) (by simpa using hk)
      simp only [List.set_cons_succ, vl, Nat.pow_succ, List.getD_cons_succ]
      have e1 : B ^ k * B * (r.getD k 0).toNat = B * (B ^ k * (r.getD k 0).toNat) := by rw [Nat.mul_comm (B ^ k) B, Nat.mul_assoc]
      have e2 : B ^ k * B * x.toNat = B * (B ^ k * x.toNat) := by rw [Nat.mul_comm (B ^ k) B, Nat.mul_assoc]
      rw [e1, e2]
      have h3 : B * (vl B (r.set k x) + B ^ k * (r.getD k 0).toNat) = B * (vl B r + B ^ k * x.toNat) := by rw [this]
      rw [Nat.mul_add, Nat.mul_add] at h3
      omega
theorem pow_pos {B : Nat} (hB : 2 ≤ B) (k : Nat) : 0 < B ^ k := Nat.pow_pos (by omega)
theorem dg_len_le {B : Nat} (hB : 2 ≤ B) : ∀ (k n : Nat), n < B ^ k → (dg B n).length ≤ k := by
  intro k
  induction k with
  | zero => intro n hn; have : n = 0 := by simpa using hn
            subst this; simp
  | succ k ih =>
    intro n hn
    by_cases h0 : n = 0
    · subst h0; simp
    · rw [dg_pos hB (Nat.pos_of_ne_zero h0), List.length_cons]
      have : n / B < B ^ k := by
        rw [Nat.div_lt_iff_lt_mul (by omega)]
        rwa [Nat.pow_succ] at hn
      have := ih _ this
      omega
theorem dg_lt_pow {B : Nat} (hB : 2 ≤ B) (n : Nat) : n < B ^ (dg B n).length := by
  have := vl_lt (dg_Dg hB n)
  rwa [vl_dg hB] at this
theorem dg_nil_iff {B : Nat} (hB : 2 ≤ B) (n : Nat) : dg B n = [] ↔ n = 0 := by
  constructor
  · intro h
    have := vl_dg hB n
    rw [h] at this
    exact this.symm
  · rintro rfl; rfl
theorem dg_len_pos {B : Nat} (hB : 2 ≤ B) {n : Nat} (h : 0 < n) : 0 < (dg B n).length := by
  rw [dg_pos hB h]; simp
theorem dg_last_ne {B : Nat} (hB : 2 ≤ B) : ∀ n, (dg B n).getLast? ≠ some 0 := by
  intro n
  induction n using Nat.strongRecOn with
  | _ n ih =>
    by_cases hn : n = 0
    · subst hn; simp
    · have hp := Nat.pos_of_ne_zero hn
      rw [dg_pos hB hp]
      have h1 := ih _ (div_lt hB hp)
      by_cases hq : n / B = 0
      · have hlt : n < B := by
          rcases Nat.div_eq_zero_iff.1 hq with h | h <;> omega
        rw [hq, Nat.mod_eq_of_lt hlt, dg_zero]
        simp
        omega
      · rw [dg_pos hB (Nat.pos_of_ne_zero hq)] at h1 ⊢
        rw [List.getLast?_cons_cons]
        exact h1
theorem dg_ge {B : Nat} (hB : 2 ≤ B) {n : Nat} (hn : 0 < n) : B ^ ((dg B n).length - 1) ≤ n := by
  induction n using Nat.strongRecOn with
  | _ n ih =>
    rw [dg_pos hB hn, List.length_cons, Nat.add_sub_cancel]
    by_cases hq : n / B = 0
    · rw [hq]; simp; omega
    · have h1 := ih _ (div_lt hB hn) (Nat.pos_of_ne_zero hq)
      have h2 := dg_len_pos hB (Nat.pos_of_ne_zero hq)
      obtain ⟨k, hk⟩ : ∃ k, (dg B (n / B)).length = k + 1 := ⟨_, (Nat.succ_pred_eq_of_pos h2).symm⟩
      rw [hk] at h1 ⊢
      rw [Nat.add_sub_cancel] at h1
      rw [Nat.pow_succ]
      calc B ^ k * B ≤ n / B * B := Nat.mul_le_mul_right B h1
        _ ≤ n := Nat.div_mul_le_self n B
theorem dg_len_mono {B : Nat} (hB : 2 ≤ B) {m n : Nat} (h : m ≤ n) : (dg B m).length ≤ (dg B n).length := dg_len_le hB _ _ (Nat.lt_of_le_of_lt h (dg_lt_pow hB n))
theorem vl_ext {B : Nat} {l m : List Int} (hm : ∀ j, l.getD j 0 = m.getD j 0) : vl B l = vl B m := by
  induction l generalizing m with
  | nil =>
    rw [vl_zeros (l := m) (fun x hx => by
      obtain ⟨j, hj, rfl⟩ := List.getElem_of_mem hx
      have := hm j
      rw [List.getD_eq_getElem?_getD, List.getD_eq_getElem?_getD, List.getElem?_eq_getElem hj] at this
      simpa using this.symm)]
    rfl
  | cons x r ih =>
    cases m with
    | nil =>
      rw [vl_zeros (l := x :: r) (fun y hy => by
        obtain ⟨j, hj, rfl⟩ := List.getElem_of_mem hy
        have := hm j
        rw [List.getD_eq_getElem?_getD, List.getElem?_eq_getElem hj] at this
        simpa using this)]
      rfl
    | cons y t =>
      have h0 := hm 0
      simp at h0
      subst h0
      rw [vl, vl, ih (fun j => by simpa using hm (j + 1))]
/-- who is greater, by the digits from the top -/
theorem vl_cmp {B : Nat} (hB : 2 ≤ B) {a b : List Int} (ha : Dg B a) (hb : Dg B b) {i : Nat} (h : ∀ j, i < j → a.getD j 0 = b.getD j 0) (hlt : a.getD i 0 < b.getD i 0) : vl B a < vl B b := by
  have e : vl B (a.drop (i + 1)) = vl B (b.drop (i + 1)) := vl_ext fun j => by
    have := h (i + 1 + j) (by omega)
    simpa [List.getD_eq_getElem?_getD, List.getElem?_drop] using this
  have ga := ha.getD (by omega) i
  have gb := hb.getD (by omega) i
  have split : ∀ l : List Int, vl B l = vl B (l.take i) + B ^ i * ((l.getD i 0).toNat + B * vl B (l.drop (i + 1))) := by
    intro l
    rcases Nat.lt_or_ge i l.length with hi | hi
    · rw [vl_split B l i (by omega), vl_drop]
    · rw [List.take_of_length_le hi, List.getD_eq_getElem?_getD, List.getElem?_eq_none hi, List.drop_of_length_le (by omega)]
      simp [vl]
  rw [split a, split b, e]
  have h1 : vl B (a.take i) < B ^ i := by
    have := vl_lt (ha.take i)
    refine Nat.lt_of_lt_of_le this (Nat.pow_le_pow_right (by omega) ?_)
    simp; omega
  have h2 : B ^ i * ((a.getD i 0).toNat + B * vl B (b.drop (i + 1)) + 1) ≤ B ^ i * ((b.getD i 0).toNat + B * vl B (b.drop (i + 1))) := Nat.mul_le_mul_left _ (by omega)
  rw [Nat.mul_add _ _ 1, Nat.mul_one] at h2
  omega
theorem canonLen {B : Nat} (hB : 2 ≤ B) {l : List Int} (h : Dg B l) (hl : l = [] ∨ B ^ (l.length - 1) ≤ vl B l) : dg B (vl B l) = l := by
  refine canon hB h fun e => ?_
  rcases hl with rfl | hl
  · simp at e
  · obtain ⟨m, rfl⟩ := List.getLast?_eq_some_iff.1 e
    rw [vl_snoc] at hl
    have := vl_lt (l := m) fun x hx => h x (List.mem_append_left _ hx)
    simp at hl
    omega
/-- -1, 0, 1 -/
def cmpN (a b : Nat) : Int := if a < b then -1 else if b < a then 1 else 0
theorem dg_inj {B : Nat} (hB : 2 ≤ B) {a b : Nat} : dg B a = dg B b ↔ a = b := by
  constructor
  · intro h
    rw [← vl_dg hB a, h, vl_dg hB]
  · rintro rfl; rfl
end Go.Bg
