/-
  A part of the proof of the laws of whole numbers: the program's powers, walked. No conditions.
-/
import Derived.Test.YtjlbaagnoppfgaaBigProE
namespace Go.Proofs.Ytjlbaagnoppfgaa
set_option linter.unusedSectionVars false
set_option linter.unusedSimpArgs false
set_option linter.unusedVariables false
open Go Go.SX Go.Bg
set_option maxRecDepth 100000
set_option maxHeartbeats 0
theorem and1 (m : Nat) (hm : m < 9223372036854775808) : bits .and .i64 (m : Int) 1 = ((m % 2 : Nat) : Int) := by
  have h1 : (BitVec.ofInt 64 1).toNat = 2 ^ 1 - 1 := by decide
  have key : (BitVec.ofInt 64 (m : Int) &&& BitVec.ofInt 64 1).toNat = ((m : Int) % ((2 ^ 64 : Nat) : Int)).toNat % 2 ^ 1 := by
    rw [BitVec.toNat_and, BitVec.toNat_ofInt, h1, Nat.and_two_pow_sub_one_eq_mod]
  show IntKind.i64.wrap ((BitVec.ofInt 64 (m : Int) &&& BitVec.ofInt 64 1).toNat : Nat) = ((m % 2 : Nat) : Int)
  rw [key, IntKind.wrap_i64]
  omega
theorem shr1 (m : Nat) : (m : Int).fdiv (2 ^ (min (Int.toNat 1) IntKind.i64.bits)) = ((m / 2 : Nat) : Int) := by
  rw [show min (Int.toNat 1) IntKind.i64.bits = 1 from rfl, Int.fdiv_eq_ediv_of_nonneg _ (by decide)]
  rfl
/-- what 'Pow' answers -/
def powR (b : Nat) (n : Int) : AV := if n < 0 then .tup [.nl, .i .i64 1] else if 1000 < n then .tup [.nl, .i .i64 2] else .tup [.rd .u32 (dg 4294967296 (b ^ n.toNat)), .i .i64 0]
theorem pow_len {b k : Nat} (hb : b < 4294967296) : (dg 4294967296 (b ^ k)).length ≤ k + 1 := dg_len_le b32 _ _ (by
  rcases Nat.eq_zero_or_pos k with h | h
  · subst h; rw [Nat.pow_zero]; decide
  · refine Nat.lt_of_lt_of_le (Nat.pow_lt_pow_left hb (by omega)) (Nat.pow_le_pow_right (by decide) (by omega)))
section
variable [G : Globs]
theorem w_pow (b : Nat) (n : Int) (hb : b < 4294967296) : vc Try.prog Γ 32 [0, 1, 4, 5, 6, 7, 8, 11, 19, 24] (Try.f37.body.getD .skip) (postK Γ [.tmp 4, .tmp 5] (fun v => v = powR b n)) ⟨argSlots 0 [.i .u32 b, .i .i64 n], []⟩ := by
  refine And.intro (fun h1 => ?_) (fun h1 => ?_)
  · have h1 : n < 0 := of_decide_eq_true h1
    show _ = powR b n
    rw [powR, if_pos h1]
    rfl
  · have h1 : ¬ n < 0 := of_decide_eq_false h1
    refine And.intro (fun h2 => ?_) (fun h2 => ?_)
    · have h2 : 1000 < n := of_decide_eq_true h2
      show _ = powR b n
      rw [powR, if_neg h1, if_pos h2]
      rfl
    · have h2 : ¬ 1000 < n := of_decide_eq_false h2
      obtain ⟨p, rfl⟩ : ∃ p : Nat, n = p := ⟨n.toNat, by omega⟩
      have q0 := s_trimmed [(b : Int)] (Dg.cons ⟨by omega, by omega⟩ (Dg.nil _))
      rw [show vl 4294967296 [(b : Int)] = b ^ 1 by simp [vl]] at q0
      refine Or.inl (Exists.intro _ (And.intro (q0) ?_))
      refine Exists.intro [] (Exists.intro [] (Exists.intro [(14, 14)] (Exists.intro (Nat × Nat × Nat) (Exists.intro (fun x => x.2.1 + x.2.2 * x.1 = p ∧ 1 ≤ x.2.2) (Exists.intro (fun ⟨m, e, f⟩ => ⟨[(1, .i .i64 m), (6, .rd .u32 (dg 4294967296 (b ^ e))), (7, .rd .u32 (dg 4294967296 (b ^ f)))], []⟩) (Exists.intro (fun x => x.1) (Exists.intro (p, 0, 1) (And.intro ⟨by simp, by simp⟩ (And.intro ?_ ?_)))))))))
      · (repeat' (first | exact trivial | exact Or.inl rfl | exact Or.inr (Or.inl ⟨rfl, _, rfl⟩) | refine And.intro ?_ ?_))
      · rintro ⟨m, e, f⟩ ⟨g1, g2⟩
        dsimp only at g1 g2
        refine And.intro (fun hc => ?_) (fun hc => ?_)
        · have hm : 0 < m := by have : (0 : Int) < (m : Int) := of_decide_eq_true hc
                                omega
          have hfm : f * 1 ≤ f * m := Nat.mul_le_mul_left _ hm
          have hmf : 1 * m ≤ f * m := Nat.mul_le_mul_right _ g2
          have le := pow_len (k := e) hb
          have lf := pow_len (k := f) hb
          have q1 := s_mul (dg 4294967296 (b ^ e)) (dg 4294967296 (b ^ f)) (dg_Dg b32 _) (dg_Dg b32 _) (by omega) (by omega)
          have q2 := s_mul (dg 4294967296 (b ^ f)) (dg 4294967296 (b ^ f)) (dg_Dg b32 _) (dg_Dg b32 _) (by omega) (by omega)
          rw [vl_dg b32, vl_dg b32] at q1
          rw [vl_dg b32, ← Nat.pow_add] at q2
          have ea := and1 m (by omega)
          refine And.intro (fun hd => ?_) (fun hd => ?_)
          · have hd : m % 2 = 1 := by
              have h9 : (bits .and .i64 (m : Int) 1 == 1) = true := hd
              rw [ea] at h9
              have := eq_of_beq h9
              omega
            rw [(power_odd (b := b) hd).1] at q1
            refine Or.inl (Exists.intro _ (And.intro (q1) ?_))
            refine Or.inl (Exists.intro _ (And.intro (q2) ?_))
            refine And.intro (by decide) ?_
            refine Exists.intro [] (Exists.intro (m / 2, e + f, f + f) (And.intro ⟨by have := (power_odd (b := b) (e := e) (f := f) hd).2; dsimp only; omega, by dsimp only; omega⟩ (And.intro ?_ ?_)))
            · (repeat' (first | exact trivial | exact Or.inl rfl | exact Or.inl ((congrArg (AV.i .i64) (shr1 m))) | refine And.intro ?_ ?_))
            · show m / 2 < m
              omega
          · have hd : m % 2 = 0 := by
              have h9 : (bits .and .i64 (m : Int) 1 == 1) = false := hd
              rw [ea] at h9
              have := ne_of_beq_false h9
              omega
            refine Or.inl (Exists.intro _ (And.intro (q2) ?_))
            refine And.intro (by decide) ?_
            refine Exists.intro [] (Exists.intro (m / 2, e, f + f) (And.intro ⟨by have := power_even (e := e) (f := f) hd; dsimp only; omega, by dsimp only; omega⟩ (And.intro ?_ ?_)))
            · (repeat' (first | exact trivial | exact Or.inl rfl | exact Or.inl ((congrArg (AV.i .i64) (shr1 m))) | refine And.intro ?_ ?_))
            · show m / 2 < m
              omega
        · have hm : m = 0 := by have : ¬ (0 : Int) < (m : Int) := of_decide_eq_false hc
                                omega
          subst hm
          rw [Nat.mul_zero, Nat.add_zero] at g1
          subst g1
          show _ = powR b _
          rw [powR, if_neg h1, if_neg h2]
          rfl
theorem s_pow (b : Nat) (n : Int) (hb : b < 4294967296) : PSpec Try.prog 37 [.i .u32 b, .i .i64 n] (powR b n) :=
  pspec_of_vc Γ_good Try.func37 rfl Try.call37 Try.results37 Try.ntmps37 (Nat.le_of_ble_eq_true rfl) (w_pow b n hb)
end
end Go.Proofs.Ytjlbaagnoppfgaa
