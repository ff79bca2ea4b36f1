/-
  A part of the proof of the laws of whole numbers: the program's shifts and powers, walked. No conditions.
-/
import Derived.Test.YtjlbaagnoppfgaaBigProD
namespace Go.Proofs.Ytjlbaagnoppfgaa
set_option linter.unusedSectionVars false
set_option linter.unusedSimpArgs false
set_option linter.unusedVariables false
open Go Go.SX Go.Bg
set_option maxRecDepth 100000
set_option maxHeartbeats 0
/-- words, and none where there are none -/
def wnil (m : Nat) : AV := if m = 0 then .nl else .rd .u32 (dg 4294967296 m)
theorem wnil_le (m : Nat) : AVle (wnil m) (.rd .u32 (dg 4294967296 m)) := by
  unfold wnil
  by_cases h : m = 0
  · rw [if_pos h, h]; exact .inr ⟨rfl, _, rfl⟩
  · rw [if_neg h]; exact .inl rfl
theorem shift_left {m p : Nat} (hm : 0 < m) (k : Nat) (hp : 2 ^ k * m = p) (j : Nat) : List.replicate j (0 : Int) ++ dg 4294967296 p = dg 4294967296 (4294967296 ^ j * p) := by
  have hp0 : 0 < p := by rw [← hp]; exact Nat.mul_pos (Nat.pow_pos (by decide)) hm
  have hne : dg 4294967296 p ≠ [] := fun e => by have := (dg_nil_iff b32 p).1 e; omega
  have := canon b32 (l := List.replicate j (0 : Int) ++ dg 4294967296 p) ((Dg.replicate (by decide) _).append (dg_Dg b32 p)) (by
    rw [List.getLast?_append, List.getLast?_eq_some_getLast hne]
    have := dg_last_ne b32 p
    rw [List.getLast?_eq_some_getLast hne] at this
    simpa using this)
  rw [vl_append, vl_replicate, vl_dg b32, Nat.zero_add, List.length_replicate] at this
  exact this.symm
theorem pow_words (n : Nat) : 4294967296 ^ (n / 32) * 2 ^ (n % 32) = 2 ^ n := by
  rw [show (4294967296 : Nat) = 2 ^ 32 from rfl, ← Nat.pow_mul, ← Nat.pow_add, Nat.div_add_mod]
/-- what 'Shift' answers -/
def shiftR (m : Nat) (n : Int) : AV :=
  if n > 4000 then .tup [.nl, .i .i64 2] else if 0 ≤ n then .tup [wnil (2 ^ n.toNat * m), .i .i64 0] else
    if m = 0 ∨ n ≤ -32 * ((dg 4294967296 m).length : Int) then .tup [.nl, .i .i64 0] else .tup [.rd .u32 (dg 4294967296 (m / 2 ^ (-n).toNat)), .i .i64 0]
theorem shift_small {m : Nat} {p : Nat} (h : 32 * (dg 4294967296 m).length ≤ p) : m / 2 ^ p = 0 := by
  rw [Nat.div_eq_of_lt]
  have := dg_lt_pow b32 m
  refine Nat.lt_of_lt_of_le this ?_
  rw [show (4294967296 : Nat) = 2 ^ 32 from rfl, ← Nat.pow_mul]
  exact Nat.pow_le_pow_right (by decide) h
theorem tdiv32 (m : Nat) : (m : Int).tdiv 32 = ((m / 32 : Nat) : Int) := rfl
theorem tmod32 (m : Nat) : (m : Int).tmod 32 = ((m % 32 : Nat) : Int) := rfl
theorem left_len {m p k : Nat} (h : (dg 4294967296 m).length ≤ k) : (dg 4294967296 (2 ^ (p % 32) * m)).length ≤ k + 1 := dg_len_le b32 _ _ (by
  rw [Nat.pow_succ, Nat.mul_comm]
  have h1 : m < 4294967296 ^ k := Nat.lt_of_lt_of_le (dg_lt_pow b32 m) (Nat.pow_le_pow_right (by decide) h)
  have h2 : 2 ^ (p % 32) ≤ 2 ^ 32 := Nat.pow_le_pow_right (by decide) (by omega)
  exact Nat.mul_lt_mul_of_lt_of_le h1 h2 (by decide))
section
variable [G : Globs]
theorem w_shift (a : List Int) (n : Int) (ha : Dg 4294967296 a) (hla : a.length ≤ 100000) (hn : -9223372036854775808 ≤ n) : vc Try.prog Γ 41 [0, 1, 4, 5, 8, 11, 15, 26] (Try.f31.body.getD .skip) (postK Γ [.tmp 4, .tmp 5] (fun v => v = shiftR (vl 4294967296 a) n)) ⟨argSlots 0 [.rd .u32 a, .i .i64 n], []⟩ := by
  refine Or.inl (Exists.intro _ (And.intro (s_trimmed a ha) ?_))
  have hml : (dg 4294967296 (vl 4294967296 a)).length ≤ 100000 := Nat.le_trans (dg_len_le b32 _ _ (vl_lt ha)) hla
  generalize vl 4294967296 a = m at hml
  refine And.intro (fun h1 => ?_) (fun h1 => ?_)
  · have h1 : 4000 < n := of_decide_eq_true h1
    show _ = shiftR m n
    rw [shiftR, if_pos h1]
    rfl
  · have h1 : ¬ 4000 < n := of_decide_eq_false h1
    intro _
    refine And.intro (fun h2 => ?_) (fun h2 => ?_)
    · have h2 : m = 0 := by
        have := eq_of_beq h2
        rcases Nat.eq_zero_or_pos m with h | h
        · exact h
        · have := dg_len_pos b32 h
          omega
      subst h2
      show _ = shiftR 0 n
      rw [shiftR, if_neg h1]
      by_cases h3 : 0 ≤ n
      · rw [if_pos h3, Nat.mul_zero]; rfl
      · rw [if_neg h3, if_pos (.inl rfl)]; rfl
    · have hm : 0 < m := by
        have := ne_of_beq_false h2
        rcases Nat.eq_zero_or_pos m with h | h
        · subst h; exact absurd rfl this
        · exact h
      refine And.intro (fun h3 => ?_) (fun h3 => ?_)
      · obtain ⟨p, rfl⟩ := nn_of h3
        refine Exists.intro [.take 0, .take 1, .take 3, .take 4, .take 5, .two 2 6, .one 7, .blk [8, 9]] (And.intro (by kernel_rfl) ?_)
        have hml2 := Nat.le_trans hml (show 100000 ≤ 1000000 by decide)
        have ql := s_left m (p % 32) (Nat.mod_lt _ (by decide)) hml2
        have hpl : p ≤ 4000 := by omega
        have hlen : (dg 4294967296 (2 ^ (p % 32) * m)).length ≤ 100001 := left_len hml
        have hsl := shift_left hm (p % 32) rfl (p / 32)
        rw [← Nat.mul_assoc, pow_words] at hsl
        refine And.intro (by decide) ?_
        refine And.intro (rng64 (by rw [tdiv32]; omega) (by rw [tdiv32]; omega)) ?_
        refine And.intro (by decide) ?_
        refine Exists.intro ⟨[(20, .vec 20 .u32 (List.replicate (p / 32) 0)), (24, .rd .u32 (dg 4294967296 (2 ^ (p % 32) * m)))], []⟩ (And.intro ?_ (And.intro ?_ ?_))
        · refine And.intro ⟨by rw [tdiv32]; omega, Int.le_refl _, by rw [tdiv32]; omega, by show (p / 32) * 4 ≤ _; omega⟩ ?_
          refine Or.inl (Exists.intro _ (And.intro (ql) ?_))
          (repeat' (first | exact trivial | exact Or.inl rfl | exact Or.inr (Or.inl ⟨rfl, _, rfl⟩) | refine And.intro ?_ ?_))
        · refine Or.inl (Exists.intro _ (And.intro (ql) ?_))
          refine And.intro ⟨by rw [tdiv32]; omega, Int.le_refl _, by rw [tdiv32]; omega, by show (p / 32) * 4 ≤ _; omega⟩ ?_
          (repeat' (first | exact trivial | exact Or.inl rfl | exact Or.inr (Or.inl ⟨rfl, _, rfl⟩) | refine And.intro ?_ ?_))
        · refine And.intro (by show ((List.replicate (p / 32) (0 : Int)).length + (dg 4294967296 (2 ^ (p % 32) * m)).length) * 4 ≤ _; rw [List.length_replicate]; omega) ?_
          show _ = shiftR m p
          rw [shiftR, if_neg h1, if_pos (by omega), wnil, Int.toNat_natCast, if_neg (by have := Nat.mul_pos (show 0 < 2 ^ p from Nat.pow_pos (by decide)) hm; omega), ← hsl]
          rfl
      · have h3 : ¬ 0 ≤ n := of_decide_eq_false h3
        obtain ⟨p, rfl⟩ : ∃ p : Nat, n = -(p : Int) := ⟨(-n).toNat, by omega⟩
        intro _
        (refine And.intro (rng64 (by omega) (by omega)) ?_)
        have hneg : (0 : Int) - -(p : Int) = (p : Int) := by omega
        refine And.intro (fun h4 => ?_) (fun h4 => ?_)
        · have h4 : -(p : Int) ≤ -32 * ((dg 4294967296 m).length : Int) := of_decide_eq_true h4
          show _ = shiftR m _
          rw [shiftR, if_neg h1, if_neg h3, if_pos (.inr h4)]
          rfl
        · have h4 : ¬ -(p : Int) ≤ -32 * ((dg 4294967296 m).length : Int) := of_decide_eq_false h4
          have hml2 := Nat.le_trans hml (show 100000 ≤ 1000000 by decide)
          have qr := s_right ((dg 4294967296 m).drop (p / 32)) (p % 32) ((dg_Dg b32 m).drop _) (Nat.mod_lt _ (by decide)) (by rw [List.length_drop]; omega)
          rw [← vl_div b32 (dg_Dg b32 m) (by omega), vl_dg b32, Nat.div_div_eq_div_mul, pow_words] at qr
          refine And.intro (rng64 (by omega) (by omega)) ?_
          refine And.intro (by decide) ?_
          refine And.intro (rng64 (by rw [hneg, tdiv32]; omega) (by rw [hneg, tdiv32]; omega)) ?_
          refine And.intro ⟨by rw [hneg, tdiv32]; omega, by rw [hneg, tdiv32]; omega, by omega⟩ ?_
          refine And.intro (rng64 (by omega) (by omega)) ?_
          refine And.intro (by decide) ?_
          have ed : ((dg 4294967296 m).take (Int.toNat ((dg 4294967296 m).length : Int))).drop (Int.toNat (Int.tdiv (0 - -(p : Int)) 32)) = (dg 4294967296 m).drop (p / 32) := by
            rw [hneg, tdiv32, Int.toNat_natCast, Int.toNat_natCast, List.take_length]
          have em : Int.tmod (0 - -(p : Int)) 32 = ((p % 32 : Nat) : Int) := by rw [hneg, tmod32]
          (conv => whnf)
          rw [ed, em]
          refine Or.inl (Exists.intro _ (And.intro (qr) ?_))
          show _ = shiftR m _
          rw [shiftR, if_neg h1, if_neg h3, if_neg (by omega), show (-(-(p : Int))).toNat = p by omega]
          rfl
theorem s_shift (a : List Int) (n : Int) (ha : Dg 4294967296 a) (hla : a.length ≤ 100000) (hn : -9223372036854775808 ≤ n) : PSpec Try.prog 31 [.rd .u32 a, .i .i64 n] (shiftR (vl 4294967296 a) n) :=
  pspec_of_vc Γ_good Try.func31 rfl Try.call31 Try.results31 Try.ntmps31 (Nat.le_of_ble_eq_true rfl) (w_shift a n ha hla hn)
end
end Go.Proofs.Ytjlbaagnoppfgaa
