/-
  A part of the proof of the laws of whole numbers: the program's division by a word, walked. No conditions.
-/
import Derived.Test.YtjlbaagnoppfgaaBigProB
namespace Go.Proofs.Ytjlbaagnoppfgaa
set_option linter.unusedSectionVars false
set_option linter.unusedSimpArgs false
set_option linter.unusedVariables false
open Go Go.SX Go.Bg
set_option maxRecDepth 100000
set_option maxHeartbeats 0
theorem wrap32 {n : Nat} (h : n < 4294967296) : IntKind.u32.wrap (n : Int) = (n : Int) := by rw [IntKind.wrap_u32']; omega
theorem div32_or {hi lo : Nat} (h1 : hi < 4294967296) (h2 : lo < 4294967296) : bits .or .u64 (IntKind.u64.wrap (IntKind.u64.wrap (hi : Int) * 2 ^ (min (Int.toNat 32) IntKind.u64.bits))) (IntKind.u64.wrap (lo : Int)) = ((hi * 4294967296 + lo : Nat) : Int) := by
  have e1 : IntKind.u64.wrap (IntKind.u64.wrap (hi : Int) * 2 ^ (min (Int.toNat 32) IntKind.u64.bits)) = ((2 ^ 32 * hi : Nat) : Int) := by
    rw [show min (Int.toNat 32) IntKind.u64.bits = 32 from rfl, IntKind.wrap_u64, IntKind.wrap_u64]
    omega
  have e2 : IntKind.u64.wrap (lo : Int) = lo := by rw [IntKind.wrap_u64]; omega
  rw [e1, e2, bits_or_u64_nat _ _ (by omega) (by omega), ← Nat.two_pow_add_eq_or_of_lt (by omega)]
  omega
section
variable [G : Globs]
theorem w_div32 (hi lo y : Nat) (h1 : hi < y) (h2 : lo < 4294967296) (h3 : y < 4294967296) : vc Try.prog Γ 33 [0, 1, 2, 6, 7, 8, 15] (Try.f117.body.getD .skip) (postK Γ [.tmp 6, .tmp 7] (fun v => v = .tup [.i .u32 (((hi * 4294967296 + lo) / y : Nat) : Int), .i .u32 (((hi * 4294967296 + lo) % y : Nat) : Int)])) ⟨argSlots 0 [.i .u32 hi, .i .u32 lo, .i .u32 y], []⟩ := by
  have e := div32_or (hi := hi) (lo := lo) (by omega) h2
  have hq : (hi * 4294967296 + lo) / y < 4294967296 := by
    rw [Nat.div_lt_iff_lt_mul (by omega)]
    have := Nat.mul_le_mul_right 4294967296 (show hi + 1 ≤ y from h1)
    rw [Nat.mul_comm 4294967296 y]
    omega
  have hr : (hi * 4294967296 + lo) % y < y := Nat.mod_lt _ (by omega)
  generalize hV : hi * 4294967296 + lo = V at e hq hr
  have hVl : V < 18446744073709551616 := by omega
  have ey : IntKind.u64.wrap (y : Int) = y := by rw [IntKind.wrap_u64]; omega
  refine And.intro (fun hg => ?_) (fun hg => ?_)
  · refine And.intro (fun h9 => ?_) (fun _ => ?_)
    · have : (y : Int) ≤ hi := by simpa using h9
      omega
    · refine And.intro (by decide) ?_
      refine Exists.intro [.blk [0, 1, 2, 3, 4, 5, 6, 7, 8, 9, 10, 11]] (And.intro (by kernel_rfl) ?_)
      (conv => whnf)
      rw [e, ey]
      refine And.intro (by omega) ?_
      refine And.intro ⟨by rw [tdivN]; exact Int.natCast_nonneg _, by rw [tdivN]; exact Int.ofNat_le.2 (show V / y ≤ 18446744073709551615 by have := Nat.div_le_self V y; omega)⟩ ?_
      refine And.intro (by rw [ey]; omega) ?_
      (conv => whnf)
      rw [ey, tdivN, tmodN, wrap32 hq, wrap32 (show V % y < 4294967296 by omega)]
      rfl
  · have : (y : Int) = 0 := by simpa using hg
    omega
theorem s_div32 (hi lo y : Nat) (h1 : hi < y) (h2 : lo < 4294967296) (h3 : y < 4294967296) : PSpec Try.prog 117 [.i .u32 hi, .i .u32 lo, .i .u32 y] (.tup [.i .u32 (((hi * 4294967296 + lo) / y : Nat) : Int), .i .u32 (((hi * 4294967296 + lo) % y : Nat) : Int)]) :=
  pspec_of_vc Γ_good Try.func117 rfl Try.call117 Try.results117 Try.ntmps117 (Nat.le_of_ble_eq_true rfl) (w_div32 hi lo y h1 h2 h3)
theorem w_byWord (a : List Int) (w : Nat) (ha : Dg 4294967296 a) (hla : a.length ≤ 1000000) (h0 : 0 < w) (hw : w < 4294967296) : vc Try.prog Γ 35 [0, 1, 4, 5, 6, 7, 8, 16] (Try.f91.body.getD .skip) (postK Γ [.tmp 4, .tmp 5] (fun v => v = .tup [.rd .u32 (dg 4294967296 (vl 4294967296 a / w)), .i .u32 ((vl 4294967296 a % w : Nat) : Int)])) ⟨argSlots 0 [.rd .u32 a, .i .u32 w], []⟩ := by
  intro _
  refine And.intro ⟨by omega, Int.le_refl _, by omega, by show a.length * 4 ≤ _; omega⟩ ?_
  intro _
  (refine And.intro (rng64 (by omega) (by omega)) ?_)
  refine Exists.intro [] (Exists.intro [] (Exists.intro [] (Exists.intro (Int × List Int × Nat) (Exists.intro (fun x => -1 ≤ x.1 ∧ x.1 < a.length ∧ Dg 4294967296 x.2.1 ∧ x.2.1.length = a.length ∧ x.2.2 = vl 4294967296 (a.drop (x.1 + 1).toNat) % w ∧ vl 4294967296 (x.2.1.drop (x.1 + 1).toNat) = vl 4294967296 (a.drop (x.1 + 1).toNat) / w) (Exists.intro (fun ⟨j, q, r⟩ => ⟨[(0, .rd .u32 a), (1, .i .u32 w), (6, .vec 11 .u32 q), (7, .i .u32 r), (8, .i .i64 j)], []⟩) (Exists.intro (fun x => (x.1 + 1).toNat) (Exists.intro ((a.length : Int) - 1, List.replicate a.length 0, 0) (And.intro ⟨by omega, by omega, Dg.replicate (by decide) _, by simp, by simp [vl], by simp [vl]⟩ (And.intro ?_ ?_)))))))))
  · (repeat' (first | exact trivial | exact Or.inl rfl | exact Or.inr (Or.inl ⟨rfl, _, rfl⟩) | refine And.intro ?_ ?_))
  · rintro ⟨j, q, r⟩ ⟨h1, h2, h3, h4, h5, h6⟩
    dsimp only at h1 h2 h3 h4 h5 h6
    refine And.intro (fun hc => ?_) (fun hc => ?_)
    · obtain ⟨m, rfl⟩ := nn_of hc
      clear hc
      rw [show ((m : Int) + 1).toNat = m + 1 by omega] at h5 h6
      have g := ha.getD (by decide) m
      obtain ⟨x, hx, hxn, hxl⟩ : ∃ x : Nat, a.getD m 0 = x ∧ (a.getD m 0).toNat = x ∧ x < 4294967296 := ⟨(a.getD m 0).toNat, by omega, rfl, by omega⟩
      have hrl : r < w := by rw [h5]; exact Nat.mod_lt _ h0
      have qd := s_div32 r x w hrl hxl hw
      rw [show r * 4294967296 + x = x + 4294967296 * r by omega] at qd
      rw [← hx] at qd
      generalize hV : x + 4294967296 * r = V at qd
      have hdm := Nat.div_add_mod V w
      have hml : V % w < w := Nat.mod_lt _ h0
      have hdl : V / w < 4294967296 := by
        rw [Nat.div_lt_iff_lt_mul h0]
        have := Nat.mul_le_mul_right 4294967296 (show r + 1 ≤ w from hrl)
        rw [Nat.mul_comm 4294967296 w]
        omega
      refine And.intro ⟨by omega, by omega⟩ ?_
      refine Or.inl (Exists.intro _ (And.intro (qd) ?_))
      refine And.intro ⟨by omega, by omega⟩ ?_
      (refine And.intro (rng64 (by omega) (by omega)) ?_)
      have nx := over_next ha h3 h4 (by omega) hxn h0 h5 h6 (lo := V / w) (by rw [hV]; omega) (by rw [hV, Nat.mul_add, Nat.mul_one]; omega)
      rw [hV] at nx
      refine Exists.intro [] (Exists.intro ((m : Int) - 1, q.set m ((V / w : Nat) : Int), V % w) (And.intro ⟨by dsimp only; omega, by dsimp only; omega, h3.set m ⟨Int.natCast_nonneg _, Int.ofNat_lt.2 hdl⟩, by simp [h4], by rw [show ((m : Int) - 1 + 1).toNat = m by omega]; dsimp only; rw [← nx.1]; omega, by rw [show ((m : Int) - 1 + 1).toNat = m by omega]; exact nx.2⟩ (And.intro ?_ ?_)))
      · (repeat' (first | exact trivial | exact Or.inl rfl | exact Or.inr (Or.inl ⟨rfl, _, rfl⟩) | refine And.intro ?_ ?_))
      · show ((m : Int) - 1 + 1).toNat < ((m : Int) + 1).toNat
        omega
    · have hj : j = -1 := by have : ¬ 0 ≤ j := of_decide_eq_false hc
                             omega
      subst hj
      rw [show ((-1 : Int) + 1).toNat = 0 from rfl, List.drop_zero] at h5 h6
      rw [List.drop_zero] at h6
      have qc := s_trimmed q h3
      rw [h6] at qc
      refine Or.inl (Exists.intro _ (And.intro (qc) ?_))
      rw [h5]
      rfl
theorem s_byWord (a : List Int) (w : Nat) (ha : Dg 4294967296 a) (hla : a.length ≤ 1000000) (h0 : 0 < w) (hw : w < 4294967296) : PSpec Try.prog 91 [.rd .u32 a, .i .u32 w] (.tup [.rd .u32 (dg 4294967296 (vl 4294967296 a / w)), .i .u32 ((vl 4294967296 a % w : Nat) : Int)]) :=
  pspec_of_vc Γ_good Try.func91 rfl Try.call91 Try.results91 Try.ntmps91 (Nat.le_of_ble_eq_true rfl) (w_byWord a w ha hla h0 hw)
end
end Go.Proofs.Ytjlbaagnoppfgaa
