/-
  Lines of a text: plain facts, with no program in sight.
-/
import Derived.Test.YtjlbaagnoppfgaaSxData
import Derived.Lib.Bytealg
namespace Go.Spl
set_option linter.unusedSectionVars false
set_option linter.unusedSimpArgs false
set_option linter.unusedVariables false
open Go.SX
set_option linter.unusedVariables false
def startsFrom : Nat → Str → List Int
  | _, [] => []
  | i, b :: s => if b = 10 then ((i + 1 : Nat) : Int) :: startsFrom (i + 1) s else startsFrom (i + 1) s
def starts (s : Str) : List Int := 0 :: startsFrom 0 s
theorem startsFrom_snoc (b : UInt8) : ∀ (s : Str) (i : Nat), startsFrom i (s ++ [b]) = startsFrom i s ++ (if b = 10 then [((i + s.length + 1 : Nat) : Int)] else [])
  | [], i => by simp only [List.nil_append, startsFrom, List.length_nil]
  | c :: s, i => by
    simp only [List.cons_append, startsFrom, List.length_cons]
    rw [startsFrom_snoc b s (i + 1)]
    have e : i + 1 + s.length + 1 = i + (s.length + 1) + 1 := by omega
    rw [e]
    split <;> split <;> simp
theorem starts_snoc (s : Str) (b : UInt8) : starts (s ++ [b]) = starts s ++ (if b = 10 then [((s.length + 1 : Nat) : Int)] else []) := by
  rw [starts, startsFrom_snoc, starts]; simp
def lineStep (acc : List Str) (b : UInt8) : List Str := if b = 10 then acc ++ [[]] else acc.set (acc.length - 1) (acc.getD (acc.length - 1) [] ++ [b])
def lines (s : Str) : List Str := s.foldl lineStep [[]]
theorem lines_snoc (s : Str) (b : UInt8) : lines (s ++ [b]) = lineStep (lines s) b := by simp [lines]
def lineP (b : UInt8) : Bool := b != 10
theorem tw_snoc {l : Str} (h : (10 : UInt8) ∈ l) (b : UInt8) : (l ++ [b]).takeWhile lineP = l.takeWhile lineP := by
  induction l with
  | nil => cases h
  | cons x l ih =>
    simp only [List.cons_append, List.takeWhile_cons]
    by_cases hx : x = 10
    · subst hx; rfl
    · have : lineP x = true := by simp [lineP, hx]
      rw [this]
      simp only [if_true]
      rw [ih (by rcases List.mem_cons.1 h with h | h; exact absurd h.symm hx; exact h)]
theorem tw_nl (l : Str) : (l ++ [10]).takeWhile lineP = l.takeWhile lineP := by
  induction l with
  | nil => rfl
  | cons x l ih => simp only [List.cons_append, List.takeWhile_cons, ih]
theorem tw_all {l : Str} (h : (10 : UInt8) ∉ l) : l.takeWhile lineP = l := by
  induction l with
  | nil => rfl
  | cons x l ih =>
    have hx : x ≠ 10 := fun e => h (by rw [e]; exact List.mem_cons_self ..)
    have : lineP x = true := by simp [lineP, hx]
    simp only [List.takeWhile_cons, this, if_true]
    rw [ih fun h' => h (List.mem_cons_of_mem _ h')]
/-- all that the law needs of lines -/
structure LOK (s : Str) : Prop where
  len : (lines s).length = (starts s).length
  le : ∀ x ∈ starts s, 0 ≤ x ∧ x ≤ s.length
  inc : (starts s).Pairwise (· < ·)
  say : ∀ k x, (starts s)[k]? = some x → (lines s)[k]? = some ((s.drop x.toNat).takeWhile lineP) ∧ ((10 : UInt8) ∈ s.drop x.toNat ↔ k + 1 < (starts s).length)
theorem starts_pos (s : Str) : 0 < (starts s).length := by simp [starts]
theorem lok_nil : LOK [] := by
  refine ⟨rfl, fun x hx => ?_, ?_, fun k x h => ?_⟩
  · simp only [starts, startsFrom, List.mem_singleton] at hx; subst hx; exact ⟨by decide, by decide⟩
  · simp [starts, startsFrom]
  · cases k with
    | zero => simp [starts, startsFrom] at h; subst h; exact ⟨rfl, by simp [starts, startsFrom]⟩
    | succ k => simp [starts, startsFrom] at h
theorem lok_snoc {s : Str} (h : LOK s) (b : UInt8) : LOK (s ++ [b]) := by
  have hp := starts_pos s
  by_cases hb : b = 10
  · subst hb
    have es : starts (s ++ [10]) = starts s ++ [((s.length + 1 : Nat) : Int)] := by rw [starts_snoc, if_pos rfl]
    have el : lines (s ++ [10]) = lines s ++ [[]] := by rw [lines_snoc, lineStep, if_pos rfl]
    refine ⟨by rw [es, el]; simp [h.len], fun x hx => ?_, ?_, fun k x hk => ?_⟩
    · rw [es] at hx
      rcases List.mem_append.1 hx with hx | hx
      · have := h.le x hx; simp only [List.length_append, List.length_singleton]; omega
      · simp only [List.mem_singleton] at hx; subst hx; simp only [List.length_append, List.length_singleton]; omega
    · rw [es, List.pairwise_append]
      refine ⟨h.inc, by simp, fun x hx y hy => ?_⟩
      simp only [List.mem_singleton] at hy
      have := h.le x hx
      omega
    · rw [es] at hk ⊢
      rw [el]
      rcases Nat.lt_or_ge k (starts s).length with hlt | hge
      · rw [List.getElem?_append_left hlt] at hk
        obtain ⟨h1, h2⟩ := h.say k x hk
        have hx := h.le x (List.mem_of_getElem? hk)
        rw [List.getElem?_append_left (by rw [h.len]; exact hlt), h1]
        have ed : (s ++ [10]).drop x.toNat = s.drop x.toNat ++ [10] := List.drop_append_of_le_length (by omega)
        rw [ed, tw_nl]
        refine ⟨rfl, ?_⟩
        simp only [List.length_append, List.length_singleton, List.mem_append, List.mem_singleton, or_true, true_iff]
        omega
      · rw [List.getElem?_append_right hge] at hk
        have hk0 : k - (starts s).length = 0 := by
          cases hq : k - (starts s).length with
          | zero => rfl
          | succ q => rw [hq] at hk; simp at hk
        rw [hk0] at hk
        simp only [List.getElem?_cons_zero, Option.some.injEq] at hk
        subst hk
        rw [List.getElem?_append_right (by rw [h.len]; exact hge), h.len, hk0]
        have ed : (s ++ [10]).drop (((s.length + 1 : Nat) : Int)).toNat = [] := List.drop_of_length_le (by simp)
        rw [ed]
        refine ⟨rfl, ?_⟩
        simp only [List.not_mem_nil, false_iff, List.length_append, List.length_singleton]
        omega
  · have es : starts (s ++ [b]) = starts s := by rw [starts_snoc, if_neg hb]; simp
    have el : lines (s ++ [b]) = (lines s).set ((lines s).length - 1) ((lines s).getD ((lines s).length - 1) [] ++ [b]) := by rw [lines_snoc, lineStep, if_neg hb]
    refine ⟨by rw [es, el]; simp [h.len], fun x hx => ?_, by rw [es]; exact h.inc, fun k x hk => ?_⟩
    · rw [es] at hx
      have := h.le x hx; simp only [List.length_append, List.length_singleton]; omega
    · rw [es] at hk ⊢
      rw [el]
      obtain ⟨h1, h2⟩ := h.say k x hk
      have hx := h.le x (List.mem_of_getElem? hk)
      have hlt := (List.getElem?_eq_some_iff.1 hk).1
      have ed : (s ++ [b]).drop x.toNat = s.drop x.toNat ++ [b] := List.drop_append_of_le_length (by omega)
      rw [ed]
      have hmem : (10 : UInt8) ∈ s.drop x.toNat ++ [b] ↔ (10 : UInt8) ∈ s.drop x.toNat := by
        simp only [List.mem_append, List.mem_singleton]
        exact ⟨fun h => h.elim id (fun h => absurd h.symm hb), .inl⟩
      rw [hmem]
      refine ⟨?_, h2⟩
      by_cases hlast : k + 1 < (starts s).length
      · rw [List.getElem?_set_ne (by rw [h.len]; omega), h1, tw_snoc (h2.2 hlast)]
      · have hk : k = (lines s).length - 1 := by rw [h.len]; omega
        subst hk
        have hn : (10 : UInt8) ∉ s.drop x.toNat := fun h => hlast (h2.1 h)
        rw [List.getElem?_set_self (by rw [h.len]; omega), List.getD_eq_getElem?_getD, h1, tw_all hn, tw_all (by rw [hmem]; exact hn)]
        rfl
theorem lok_go : ∀ (t s : Str), LOK s → LOK (s ++ t)
  | [], s, h => by simpa using h
  | b :: t, s, h => by have := lok_go t (s ++ [b]) (lok_snoc h b); simpa using this
theorem lok (s : Str) : LOK s := by simpa using lok_go s [] lok_nil

/-- how many begin no later -/
def upTo (l : List Int) (at' : Int) : Nat := (l.takeWhile fun x => decide (x ≤ at')).length
theorem upTo_le (l : List Int) (a : Int) : upTo l a ≤ l.length := (List.takeWhile_sublist _).length_le
theorem upTo_eq {a : Int} : ∀ {l : List Int} {i : Nat}, i ≤ l.length → (∀ (m : Nat) x, m < i → l[m]? = some x → x ≤ a) → (∀ x, l[i]? = some x → a < x) → upTo l a = i
  | [], i, h, _, _ => by simp at h; subst h; rfl
  | x :: l, 0, h, h1, h2 => by
    have := h2 x rfl
    have hd : decide (x ≤ a) = false := by simp; omega
    simp [upTo, List.takeWhile_cons, hd]
  | x :: l, i + 1, h, h1, h2 => by
    have := h1 0 x (Nat.zero_lt_succ _) rfl
    have hd : decide (x ≤ a) = true := by simpa using this
    have ih := upTo_eq (a := a) (l := l) (i := i) (by simpa using h) (fun m y hm hy => h1 (m + 1) y (by omega) (by simpa using hy)) (fun y hy => h2 y (by simpa using hy))
    simp only [upTo, List.takeWhile_cons, hd, if_true, List.length_cons] at ih ⊢
    rw [ih]
theorem upTo_lt {a : Int} : ∀ {l : List Int} {m : Nat} {x : Int}, l[m]? = some x → m < upTo l a → x ≤ a
  | [], m, x, h, _ => by simp at h
  | y :: l, m, x, h, hm => by
    by_cases hd : y ≤ a
    · have hd' : decide (y ≤ a) = true := by simpa using hd
      simp only [upTo, List.takeWhile_cons, hd', if_true, List.length_cons] at hm
      cases m with
      | zero => simp at h; omega
      | succ m => exact upTo_lt (l := l) (m := m) (by simpa using h) (by unfold upTo; omega)
    · have hd' : decide (y ≤ a) = false := by simpa using hd
      simp [upTo, List.takeWhile_cons, hd'] at hm
theorem inc_lt {l : List Int} (h : l.Pairwise (· < ·)) {i j : Nat} {x y : Int} (hx : l[i]? = some x) (hy : l[j]? = some y) (hij : i < j) : x < y := by
  obtain ⟨hi, rfl⟩ := List.getElem?_eq_some_iff.1 hx
  obtain ⟨hj, rfl⟩ := List.getElem?_eq_some_iff.1 hy
  exact List.pairwise_iff_getElem.1 h i j hi hj hij
theorem upTo_ge {a : Int} {l : List Int} (hs : l.Pairwise (· < ·)) {m : Nat} {x : Int} (h : l[m]? = some x) (hm : upTo l a ≤ m) : a < x := by
  have hml := (List.getElem?_eq_some_iff.1 h).1
  have hu : upTo l a < l.length := by omega
  have hstop : ∀ {l : List Int}, upTo l a < l.length → ∀ y, l[upTo l a]? = some y → a < y := by
    intro l
    induction l with
    | nil => intro h; simp at h
    | cons z l ih =>
      intro h y hy
      by_cases hd : z ≤ a
      · have hd' : decide (z ≤ a) = true := by simpa using hd
        have e : upTo (z :: l) a = upTo l a + 1 := by simp [upTo, List.takeWhile_cons, hd']
        rw [e] at h hy
        exact ih (by simpa using h) y (by simpa using hy)
      · have hd' : decide (z ≤ a) = false := by simpa using hd
        have e : upTo (z :: l) a = 0 := by simp [upTo, List.takeWhile_cons, hd']
        rw [e] at hy
        simp at hy
        omega
  have h0 := hstop hu _ (List.getElem?_eq_getElem hu)
  rcases Nat.lt_or_ge (upTo l a) m with hlt | hge
  · have := inc_lt hs (List.getElem?_eq_getElem hu) h hlt
    omega
  · have he : upTo l a = m := by omega
    exact hstop hu x (by rw [he]; exact h)

/-- a text, cut at its first line's end -/
theorem indexByte_tw (s : Str) : (Lib.indexByte s 10 = -1 ∧ s.takeWhile lineP = s) ∨ (0 ≤ Lib.indexByte s 10 ∧ Lib.indexByte s 10 < s.length ∧ s.takeWhile lineP = s.take (Lib.indexByte s 10).toNat) := by
  induction s with
  | nil => exact .inl ⟨rfl, rfl⟩
  | cons b s ih =>
    by_cases hb : b = 10
    · subst hb
      right
      have e : Lib.indexByte (10 :: s) 10 = 0 := by simp [Lib.indexByte]
      rw [e]
      refine ⟨by decide, by simp only [List.length_cons]; omega, rfl⟩
    · have hb' : (b == 10) = false := by simpa using hb
      have hl : lineP b = true := by simp [lineP, hb]
      rcases ih with ⟨h1, h2⟩ | ⟨h1, h2, h3⟩
      · left
        refine ⟨by simp [Lib.indexByte, hb', h1], ?_⟩
        rw [List.takeWhile_cons, hl, if_pos rfl, h2]
      · right
        have hne : (Lib.indexByte s 10 == -1) = false := by rw [beq_eq_false_iff_ne]; omega
        have e : Lib.indexByte (b :: s) 10 = Lib.indexByte s 10 + 1 := by simp [Lib.indexByte, hb', hne]
        rw [e]
        refine ⟨by omega, by simp only [List.length_cons]; omega, ?_⟩
        rw [List.takeWhile_cons, hl, if_pos rfl, h3]
        have : (Lib.indexByte s 10 + 1).toNat = (Lib.indexByte s 10).toNat + 1 := by omega
        rw [this, List.take_succ_cons]
end Go.Spl
