/-
  A part of the proof of the laws of whole numbers: the program's shift to the right, walked. No conditions.
-/
import Derived.Test.YtjlbaagnoppfgaaBigProA
namespace Go.Proofs.Ytjlbaagnoppfgaa
set_option linter.unusedSectionVars false
set_option linter.unusedSimpArgs false
set_option linter.unusedVariables false
open Go Go.SX Go.Bg
set_option maxRecDepth 100000
set_option maxHeartbeats 0
theorem vl_div {B : Nat} (hB : 2 ≤ B) {l : List Int} (h : Dg B l) {k : Nat} (hk : k ≤ l.length) : vl B l / B ^ k = vl B (l.drop k) := by
  rw [vl_split B l k hk, Nat.add_mul_div_left _ _ (pow_pos hB k), Nat.div_eq_of_lt, Nat.zero_add]
  have := vl_lt (h.take k)
  rwa [List.length_take, Nat.min_eq_left hk] at this
theorem right_digit {l : List Int} {n k x y : Nat} (hn : n < 32) (hl : Dg 4294967296 l) (hk : k < l.length) (hx : (l.getD k 0).toNat = x) (hy : (l.getD (k + 1) 0).toNat = y) :
    vl 4294967296 l / 2 ^ n / 4294967296 ^ k % 4294967296 = 2 ^ (32 - n) * (y % 2 ^ n) + x / 2 ^ n := by
  have hxl : x < 4294967296 := by have := hl.getD (by decide) k; omega
  have hp := pow32 hn
  rw [Nat.div_div_eq_div_mul, Nat.mul_comm (2 ^ n), ← Nat.div_div_eq_div_mul, vl_div b32 hl (by omega), vl_drop, vl_drop, hx, hy]
  generalize vl 4294967296 (l.drop (k + 1 + 1)) = z
  have e : x + 4294967296 * (y + 4294967296 * z) = x + 2 ^ n * (2 ^ (32 - n) * (y + 4294967296 * z)) := by rw [← Nat.mul_assoc, ← hp]
  rw [e, Nat.add_mul_div_left _ _ (Nat.pow_pos (by decide))]
  have h1 : x / 2 ^ n < 2 ^ (32 - n) := by
    rw [Nat.div_lt_iff_lt_mul (Nat.pow_pos (by decide)), Nat.mul_comm, ← hp]
    exact hxl
  have h2 : y % 2 ^ n + 1 ≤ 2 ^ n := Nat.mod_lt _ (Nat.pow_pos (by decide))
  have h3 : 2 ^ (32 - n) * (y % 2 ^ n) + 2 ^ (32 - n) ≤ 4294967296 := by
    have := Nat.mul_le_mul_left (2 ^ (32 - n)) h2
    rw [Nat.mul_add, Nat.mul_one, Nat.mul_comm _ (2 ^ n), ← hp] at this
    exact this
  have h4 : 2 ^ (32 - n) * (y + 4294967296 * z) % 4294967296 = 2 ^ (32 - n) * (y % 2 ^ n) := by
    conv => lhs; rw [hp, Nat.mul_comm (2 ^ n), Nat.mul_mod_mul_left]
    congr 1
    rw [Nat.mul_comm (2 ^ (32 - n)), Nat.mul_assoc, Nat.add_mul_mod_self_left]
  rw [Nat.add_mod, h4, Nat.mod_eq_of_lt (a := x / 2 ^ n) (by omega), Nat.mod_eq_of_lt (by omega), Nat.add_comm]
theorem right_shr {n x : Nat} (hn : n < 32) : (x : Int).fdiv (2 ^ (min (IntKind.u64.wrap (n : Int)).toNat 32)) = ((x / 2 ^ n : Nat) : Int) := by
  have h0 : IntKind.u64.wrap (n : Int) = n := by rw [IntKind.wrap_u64]; omega
  have h1 : min (IntKind.u64.wrap (n : Int)).toNat 32 = n := by rw [h0, Int.toNat_natCast]; omega
  rw [h1, Int.fdiv_eq_ediv_of_nonneg _ (by exact_mod_cast Nat.zero_le (2 ^ n))]
  simp
theorem right_or {n x y : Nat} (hn : n < 32) (hx : x < 4294967296) (hy : y < 4294967296) :
    bits .or .u32 ((x / 2 ^ n : Nat) : Int) (IntKind.u32.wrap (IntKind.u64.wrap (IntKind.u64.wrap (y : Int) * 2 ^ (min (IntKind.u64.wrap (32 - (n : Int))).toNat 64)))) = ((2 ^ (32 - n) * (y % 2 ^ n) + x / 2 ^ n : Nat) : Int) := by
  have hp := pow32 hn
  have h0 : IntKind.u64.wrap (32 - (n : Int)) = ((32 - n : Nat) : Int) := by rw [IntKind.wrap_u64]; omega
  have h1 : min (IntKind.u64.wrap (32 - (n : Int))).toNat 64 = 32 - n := by rw [h0, Int.toNat_natCast]; omega
  have h2 : IntKind.u64.wrap (y : Int) = y := by rw [IntKind.wrap_u64]; omega
  have h3 : y * 2 ^ (32 - n) < 18446744073709551616 := by
    have : 2 ^ (32 - n) ≤ 2 ^ 32 := Nat.pow_le_pow_right (by decide) (by omega)
    exact Nat.lt_of_le_of_lt (Nat.mul_le_mul_left y this) (by omega)
  have h4 : IntKind.u32.wrap (IntKind.u64.wrap ((y : Int) * 2 ^ (32 - n))) = ((2 ^ (32 - n) * (y % 2 ^ n) : Nat) : Int) := by
    rw [show (y : Int) * 2 ^ (32 - n) = ((y * 2 ^ (32 - n) : Nat) : Int) by simp, IntKind.wrap_u64, IntKind.wrap_u32', ← Nat.mul_mod_mul_left, Nat.mul_comm (2 ^ (32 - n)) (2 ^ n), ← hp, Nat.mul_comm y]
    rw [Nat.mul_comm y] at h3
    generalize 2 ^ (32 - n) * y = q at h3
    omega
  have h5 : x / 2 ^ n < 2 ^ (32 - n) := by
    rw [Nat.div_lt_iff_lt_mul (Nat.pow_pos (by decide)), Nat.mul_comm, ← hp]
    exact hx
  have h6 : x / 2 ^ n < 4294967296 := Nat.lt_of_le_of_lt (Nat.div_le_self _ _) hx
  have h7 : 2 ^ (32 - n) * (y % 2 ^ n) < 4294967296 := by
    have := Nat.mod_lt (2 ^ (32 - n) * y) (show 0 < 4294967296 by decide)
    conv at this => lhs; rw [hp, Nat.mul_comm (2 ^ n), Nat.mul_mod_mul_left]
    exact this
  rw [h1, h2, h4, u32_or_nat _ _ h6 h7, Nat.or_comm, ← Nat.two_pow_add_eq_or_of_lt h5]
theorem right_next {o : List Int} {k V d : Nat} (hk : k < o.length) (h : vl 4294967296 (o.take k) = V % 4294967296 ^ k) (hd : V / 4294967296 ^ k % 4294967296 = d) : vl 4294967296 ((o.set k (d : Int)).take (k + 1)) = V % 4294967296 ^ (k + 1) := by
  rw [vl_take_set hk, h, Int.toNat_natCast, Nat.mod_pow_succ, hd]
section
variable [G : Globs]
theorem w_right (l : List Int) (n : Nat) (hl : Dg 4294967296 l) (hn : n < 32) (hll : l.length ≤ 1000000) : vc Try.prog Γ 50 [0, 1, 4, 5, 6, 11, 12, 13, 29] (Try.f86.body.getD .skip) (postK Γ [.tmp 4] (fun v => v = .rd .u32 (dg 4294967296 (vl 4294967296 l / 2 ^ n)))) ⟨argSlots 0 [.rd .u32 l, .i .i64 n], []⟩ := by
  intro _
  refine And.intro ⟨by omega, Int.le_refl _, by omega, by show l.length * 4 ≤ _; omega⟩ ?_
  intro _
  refine Exists.intro [] (Exists.intro [] (Exists.intro [] (Exists.intro (Nat × List Int) (Exists.intro (fun x => x.1 ≤ l.length ∧ x.2.length = l.length ∧ Dg 4294967296 x.2 ∧ vl 4294967296 (x.2.take x.1) = vl 4294967296 l / 2 ^ n % 4294967296 ^ x.1) (Exists.intro (fun ⟨k, o⟩ => ⟨[(0, .rd .u32 l), (1, .i .i64 n), (5, .vec 9 .u32 o), (11, .i .i64 l.length), (12, .i .i64 k)], []⟩) (Exists.intro (fun x => l.length - x.1) (Exists.intro (0, List.replicate l.length 0) (And.intro ⟨Nat.zero_le _, by simp, Dg.replicate (by decide) _, by simp [vl, Nat.mod_one]⟩ (And.intro ?_ ?_)))))))))
  · (repeat' (first | exact trivial | exact Or.inl rfl | exact Or.inr (Or.inl ⟨rfl, _, rfl⟩) | refine And.intro ?_ ?_))
  · rintro ⟨k, o⟩ ⟨h1, h2, h3, h4⟩
    dsimp only at h1 h2 h3 h4
    refine And.intro (fun hc => ?_) (fun hc => ?_)
    · have hk : k < l.length := by have : (k : Int) < (l.length : Int) := of_decide_eq_true hc
                                   omega
      have g := hl.getD (by decide) k
      have g' := hl.getD (by decide) (k + 1)
      obtain ⟨x, hx, hxn, hxl⟩ : ∃ x : Nat, l.getD k 0 = x ∧ (l.getD k 0).toNat = x ∧ x < 4294967296 := ⟨(l.getD k 0).toNat, by omega, rfl, by omega⟩
      obtain ⟨y, hy, hyn, hyl⟩ : ∃ y : Nat, l.getD (k + 1) 0 = y ∧ (l.getD (k + 1) 0).toNat = y ∧ y < 4294967296 := ⟨(l.getD (k + 1) 0).toNat, by omega, rfl, by omega⟩
      have hdig := right_digit hn hl hk hxn hyn
      have e1' : Int.fdiv (l.getD (Int.toNat (k : Int)) (dflt .u32)) (2 ^ (min (IntKind.u64.wrap (n : Int)).toNat IntKind.u32.bits)) = ((x / 2 ^ n : Nat) : Int) := by
        rw [show l.getD (Int.toNat (k : Int)) (dflt .u32) = (x : Int) from hx]
        exact right_shr hn
      refine And.intro ⟨by omega, by omega⟩ ?_
      refine And.intro (by rw [IntKind.wrap_u64]; omega) ?_
      refine And.intro ⟨by omega, by omega⟩ ?_
      (refine And.intro (rng64 (by omega) (by omega)) ?_)
      intro _
      refine And.intro (fun hd => ?_) (fun hd => ?_)
      · have hd : k + 1 < l.length := by have : (k : Int) + 1 < (l.length : Int) := of_decide_eq_true hd
                                         omega
        refine Exists.intro [.blk [0, 1, 2, 3, 4, 5, 6, 7, 8, 9, 10, 11, 12, 13, 14, 15, 16], .one 17] (And.intro (by kernel_rfl) ?_)
        (conv => whnf)
        rw [e1']
        refine And.intro ⟨by omega, by rw [List.length_set]; omega⟩ ?_
        (refine And.intro (rng64 (by omega) (by omega)) ?_)
        refine And.intro ⟨by omega, by omega⟩ ?_
        (refine And.intro (rng64 (by omega) (by omega)) ?_)
        refine And.intro (by rw [IntKind.wrap_u64]; omega) ?_
        refine And.intro ⟨by omega, by rw [List.length_set]; omega⟩ ?_
        (refine And.intro (rng64 (by omega) (by omega)) ?_)
        have e2 := right_or (x := x) (y := y) hn hxl hyl
        rw [← hy] at e2
        have e3 : (o.set (Int.toNat (k : Int)) ((x / 2 ^ n : Nat) : Int)).getD (Int.toNat (k : Int)) (dflt .u32) = ((x / 2 ^ n : Nat) : Int) := by
          rw [Int.toNat_natCast, List.getD_eq_getElem?_getD, List.getElem?_set_self (by omega)]; rfl
        have nx := right_next (d := 2 ^ (32 - n) * (y % 2 ^ n) + x / 2 ^ n) (by omega) h4 hdig
        have hdl : 2 ^ (32 - n) * (y % 2 ^ n) + x / 2 ^ n < 4294967296 := by rw [← hdig]; exact Nat.mod_lt _ (by decide)
        refine Exists.intro [] (Exists.intro (k + 1, o.set k ((2 ^ (32 - n) * (y % 2 ^ n) + x / 2 ^ n : Nat) : Int)) (And.intro ⟨hk, by simp [h2], h3.set k ⟨by omega, by omega⟩, nx⟩ (And.intro ?_ ?_)))
        · (repeat' (first | exact trivial | exact Or.inl rfl | exact Or.inl ((congrArg (AV.vec 9 .u32) (by rw [e3, Int.toNat_natCast, List.set_set]; exact congrArg (o.set k) e2))) | refine And.intro ?_ ?_))
        · show l.length - (k + 1) < l.length - k
          omega
      · have hd : k + 1 = l.length := by have : ¬ (k : Int) + 1 < (l.length : Int) := of_decide_eq_false hd
                                         omega
        (refine And.intro (rng64 (by omega) (by omega)) ?_)
        have hy0 : y = 0 := by rw [← hyn, List.getD_eq_getElem?_getD, List.getElem?_eq_none (by omega)]; rfl
        subst hy0
        have hdig : vl 4294967296 l / 2 ^ n / 4294967296 ^ k % 4294967296 = x / 2 ^ n := by rw [hdig]; simp
        have nx := right_next (d := x / 2 ^ n) (by omega) h4 hdig
        have hdl : x / 2 ^ n < 4294967296 := by rw [← hdig]; exact Nat.mod_lt _ (by decide)
        refine Exists.intro [] (Exists.intro (k + 1, o.set k ((x / 2 ^ n : Nat) : Int)) (And.intro ⟨hk, by simp [h2], h3.set k ⟨by omega, by omega⟩, nx⟩ (And.intro ?_ ?_)))
        · (repeat' (first | exact trivial | exact Or.inl rfl | exact Or.inl ((congrArg (fun v => AV.vec 9 .u32 (o.set k v)) e1')) | refine And.intro ?_ ?_))
        · show l.length - (k + 1) < l.length - k
          omega
    · have hk : k = l.length := by have : ¬ (k : Int) < (l.length : Int) := of_decide_eq_false hc
                                   omega
      subst hk
      have hlt : vl 4294967296 l / 2 ^ n < 4294967296 ^ l.length := Nat.lt_of_le_of_lt (Nat.div_le_self _ _) (vl_lt hl)
      rw [List.take_of_length_le (by omega), Nat.mod_eq_of_lt hlt] at h4
      refine Or.inl (Exists.intro _ (And.intro (s_trimmed o h3) ?_))
      exact congrArg (fun n => AV.rd .u32 (dg 4294967296 n)) h4
theorem s_right (l : List Int) (n : Nat) (hl : Dg 4294967296 l) (hn : n < 32) (hll : l.length ≤ 1000000) : PSpec Try.prog 86 [.rd .u32 l, .i .i64 n] (.rd .u32 (dg 4294967296 (vl 4294967296 l / 2 ^ n))) :=
  pspec_of_vc Γ_good Try.func86 rfl Try.call86 Try.results86 Try.ntmps86 (Nat.le_of_ble_eq_true rfl) (w_right l n hl hn hll)
end
end Go.Proofs.Ytjlbaagnoppfgaa
