/-
  A part of the proof that 'typecaselaw.ValCompares' returns true: the program's compare, walked. No conditions.
-/
import Derived.Test.YtjlbaagnoppfgaaWkBase
import Derived.Test.YtjlbaagnoppfgaaValLaw
import Derived.Test.YtjlbaagnoppfgaaSxArg3
import Derived.Laws.Bits64
import Derived.Laws.Bits64b
namespace Go.Proofs.Ytjlbaagnoppfgaa
set_option linter.unusedSectionVars false
set_option linter.unusedSimpArgs false
set_option linter.unusedVariables false
open Go Go.SX Go.Vl
set_option maxRecDepth 100000
set_option maxHeartbeats 0
theorem less_ne {a b : Str} (h : Op.bytesLess a b = true) : a ≠ b := fun e => by rw [e, less_irrefl] at h; cases h
theorem beq_S (a : Str) : (a == a) = true := beq_self_eq_true a
theorem shr63 {f : Int} (h0 : 0 ≤ f) (h1 : f ≤ 18446744073709551615) : (f.fdiv (2 ^ min (Int.toNat 63) IntKind.u64.bits) == 1) = decide (¬ f < 9223372036854775808) := by
  rw [show (2 : Int) ^ min (Int.toNat 63) IntKind.u64.bits = 9223372036854775808 from rfl, Int.fdiv_eq_ediv_of_nonneg _ (by decide)]
  rw [Bool.eq_iff_iff, beq_iff_eq, decide_eq_true_eq]
  omega
theorem or63 {f : Int} (h0 : 0 ≤ f) (h1 : f < 9223372036854775808) : bits .or .u64 f 9223372036854775808 = f + 9223372036854775808 := by
  obtain ⟨n, rfl⟩ : ∃ n : Nat, f = n := ⟨f.toNat, by omega⟩
  rw [show (9223372036854775808 : Int) = ((2 ^ 63 * 1 : Nat) : Int) from rfl, bits_or_u64_nat _ _ (by omega) (by omega), Nat.or_comm, ← Nat.two_pow_add_eq_or_of_lt (by omega)]
  omega
theorem xor63 {f : Int} (h0 : 0 ≤ f) (h1 : f ≤ 18446744073709551615) : bits .xor .u64 (if IntKind.u64.signed = true then -1 else IntKind.u64.max) f = 18446744073709551615 - f := by
  obtain ⟨n, rfl⟩ : ∃ n : Nat, f = n := ⟨f.toNat, by omega⟩
  rw [show (if IntKind.u64.signed = true then (-1 : Int) else IntKind.u64.max) = ((18446744073709551615 : Nat) : Int) from rfl, bits_xor_u64_nat _ _ (by omega) (by omega)]
  have h : (18446744073709551615 ^^^ n : Nat) = 18446744073709551615 - n := by
    have h2 := congrArg BitVec.toNat (BitVec.allOnes_xor (x := BitVec.ofNat 64 n))
    rw [BitVec.toNat_xor, BitVec.toNat_not, BitVec.toNat_ofNat, Nat.mod_eq_of_lt (by omega), BitVec.toNat_allOnes] at h2
    exact h2
  rw [h]
  omega
section
variable [G : Globs]
theorem w_nanI64 (a : Int) : vc Try.prog Γ 6 [0, 2] (Try.f125.body.getD .skip) (postK Γ [.tmp 2] (fun v => v = .b false)) ⟨argSlots 0 [.i .i64 a], []⟩ := by
  show _ = _
  rw [bne_self_eq_false]
  rfl
theorem s_nanI64 (a : Int) : PSpec Try.prog 125 [.i .i64 a] (.b false) :=
  pspec_of_vc Γ_good Try.func125 rfl Try.call125 Try.results125 Try.ntmps125 (Nat.le_of_ble_eq_true rfl) (w_nanI64 a)
theorem w_cmpI64 (a b : Int) : vc Try.prog Γ 20 [0, 1, 4, 5, 6, 11, 12, 13, 16, 19] (Try.f97.body.getD .skip) (postK Γ [.tmp 4] (fun v => v = .i .i64 (cmpI a b))) ⟨argSlots 0 [.i .i64 a, .i .i64 b], []⟩ := by
  refine Or.inl (Exists.intro _ (And.intro (s_nanI64 a) ?_))
  refine Or.inl (Exists.intro _ (And.intro (s_nanI64 b) ?_))
  refine And.intro (fun h => Bool.noConfusion h) (fun _ => ?_)
  refine And.intro (fun h => Bool.noConfusion h) (fun _ => ?_)
  refine And.intro (fun h => ?_) (fun h => ?_)
  · have h : a < b := of_decide_eq_true h
    show AV.i .i64 (-1) = AV.i .i64 (cmpI a b)
    rw [cmpI, if_neg (by omega), if_pos h]
  · have h : ¬ a < b := of_decide_eq_false h
    refine And.intro (fun h2 => ?_) (fun h2 => ?_)
    · have h2 : b < a := of_decide_eq_true h2
      show AV.i .i64 1 = AV.i .i64 (cmpI a b)
      rw [cmpI, if_neg (by omega), if_neg h]
    · have h2 : ¬ b < a := of_decide_eq_false h2
      show AV.i .i64 0 = AV.i .i64 (cmpI a b)
      rw [cmpI, if_pos (by omega)]
theorem s_cmpI64 (a b : Int) : PSpec Try.prog 97 [.i .i64 a, .i .i64 b] (.i .i64 (cmpI a b)) :=
  pspec_of_vc Γ_good Try.func97 rfl Try.call97 Try.results97 Try.ntmps97 (Nat.le_of_ble_eq_true rfl) (w_cmpI64 a b)
theorem w_nanJ64 (a : Int) : vc Try.prog Γ 6 [0, 2] (Try.f126.body.getD .skip) (postK Γ [.tmp 2] (fun v => v = .b false)) ⟨argSlots 0 [.i .i64 a], []⟩ := by
  show _ = _
  rw [bne_self_eq_false]
  rfl
theorem s_nanJ64 (a : Int) : PSpec Try.prog 126 [.i .i64 a] (.b false) :=
  pspec_of_vc Γ_good Try.func126 rfl Try.call126 Try.results126 Try.ntmps126 (Nat.le_of_ble_eq_true rfl) (w_nanJ64 a)
theorem w_cmpJ64 (a b : Int) : vc Try.prog Γ 20 [0, 1, 4, 5, 6, 11, 12, 13, 16, 19] (Try.f98.body.getD .skip) (postK Γ [.tmp 4] (fun v => v = .i .i64 (cmpI a b))) ⟨argSlots 0 [.i .i64 a, .i .i64 b], []⟩ := by
  refine Or.inl (Exists.intro _ (And.intro (s_nanJ64 a) ?_))
  refine Or.inl (Exists.intro _ (And.intro (s_nanJ64 b) ?_))
  refine And.intro (fun h => Bool.noConfusion h) (fun _ => ?_)
  refine And.intro (fun h => Bool.noConfusion h) (fun _ => ?_)
  refine And.intro (fun h => ?_) (fun h => ?_)
  · have h : a < b := of_decide_eq_true h
    show AV.i .i64 (-1) = AV.i .i64 (cmpI a b)
    rw [cmpI, if_neg (by omega), if_pos h]
  · have h : ¬ a < b := of_decide_eq_false h
    refine And.intro (fun h2 => ?_) (fun h2 => ?_)
    · have h2 : b < a := of_decide_eq_true h2
      show AV.i .i64 1 = AV.i .i64 (cmpI a b)
      rw [cmpI, if_neg (by omega), if_neg h]
    · have h2 : ¬ b < a := of_decide_eq_false h2
      show AV.i .i64 0 = AV.i .i64 (cmpI a b)
      rw [cmpI, if_pos (by omega)]
theorem s_cmpJ64 (a b : Int) : PSpec Try.prog 98 [.i .i64 a, .i .i64 b] (.i .i64 (cmpI a b)) :=
  pspec_of_vc Γ_good Try.func98 rfl Try.call98 Try.results98 Try.ntmps98 (Nat.le_of_ble_eq_true rfl) (w_cmpJ64 a b)
theorem w_nanU64 (a : Int) : vc Try.prog Γ 6 [0, 2] (Try.f127.body.getD .skip) (postK Γ [.tmp 2] (fun v => v = .b false)) ⟨argSlots 0 [.i .u64 a], []⟩ := by
  show _ = _
  rw [bne_self_eq_false]
  rfl
theorem s_nanU64 (a : Int) : PSpec Try.prog 127 [.i .u64 a] (.b false) :=
  pspec_of_vc Γ_good Try.func127 rfl Try.call127 Try.results127 Try.ntmps127 (Nat.le_of_ble_eq_true rfl) (w_nanU64 a)
theorem w_cmpU64 (a b : Int) : vc Try.prog Γ 20 [0, 1, 4, 5, 6, 11, 12, 13, 16, 19] (Try.f99.body.getD .skip) (postK Γ [.tmp 4] (fun v => v = .i .i64 (cmpI a b))) ⟨argSlots 0 [.i .u64 a, .i .u64 b], []⟩ := by
  refine Or.inl (Exists.intro _ (And.intro (s_nanU64 a) ?_))
  refine Or.inl (Exists.intro _ (And.intro (s_nanU64 b) ?_))
  refine And.intro (fun h => Bool.noConfusion h) (fun _ => ?_)
  refine And.intro (fun h => Bool.noConfusion h) (fun _ => ?_)
  refine And.intro (fun h => ?_) (fun h => ?_)
  · have h : a < b := of_decide_eq_true h
    show AV.i .i64 (-1) = AV.i .i64 (cmpI a b)
    rw [cmpI, if_neg (by omega), if_pos h]
  · have h : ¬ a < b := of_decide_eq_false h
    refine And.intro (fun h2 => ?_) (fun h2 => ?_)
    · have h2 : b < a := of_decide_eq_true h2
      show AV.i .i64 1 = AV.i .i64 (cmpI a b)
      rw [cmpI, if_neg (by omega), if_neg h]
    · have h2 : ¬ b < a := of_decide_eq_false h2
      show AV.i .i64 0 = AV.i .i64 (cmpI a b)
      rw [cmpI, if_pos (by omega)]
theorem s_cmpU64 (a b : Int) : PSpec Try.prog 99 [.i .u64 a, .i .u64 b] (.i .i64 (cmpI a b)) :=
  pspec_of_vc Γ_good Try.func99 rfl Try.call99 Try.results99 Try.ntmps99 (Nat.le_of_ble_eq_true rfl) (w_cmpU64 a b)
theorem w_nanS (a : Str) : vc Try.prog Γ 6 [0, 2] (Try.f128.body.getD .skip) (postK Γ [.tmp 2] (fun v => v = .b false)) ⟨argSlots 0 [.s a], []⟩ := by
  show _ = _
  rw [beq_S]
  rfl
theorem s_nanS (a : Str) : PSpec Try.prog 128 [.s a] (.b false) :=
  pspec_of_vc Γ_good Try.func128 rfl Try.call128 Try.results128 Try.ntmps128 (Nat.le_of_ble_eq_true rfl) (w_nanS a)
theorem w_cmpStr (a b : Str) : vc Try.prog Γ 20 [0, 1, 4, 5, 6, 11, 12, 13, 16, 19] (Try.f101.body.getD .skip) (postK Γ [.tmp 4] (fun v => v = .i .i64 (cmpS a b))) ⟨argSlots 0 [.s a, .s b], []⟩ := by
  refine Or.inl (Exists.intro _ (And.intro (s_nanS a) ?_))
  refine Or.inl (Exists.intro _ (And.intro (s_nanS b) ?_))
  refine And.intro (fun h => Bool.noConfusion h) (fun _ => ?_)
  refine And.intro (fun h => Bool.noConfusion h) (fun _ => ?_)
  refine And.intro (fun h => ?_) (fun h => ?_)
  · have h : Op.bytesLess a b = true := h
    show AV.i .i64 (-1) = AV.i .i64 (cmpS a b)
    rw [cmpS, if_neg (less_ne h), if_pos h]
  · have h : Op.bytesLess a b = false := h
    refine And.intro (fun h2 => ?_) (fun h2 => ?_)
    · have h2 : (!(Op.bytesLess a b || a == b)) = true := h2
      rw [h, Bool.false_or] at h2
      have h3 : a ≠ b := by simpa using h2
      show AV.i .i64 1 = AV.i .i64 (cmpS a b)
      rw [cmpS, if_neg h3, if_neg (by rw [h]; decide)]
    · have h2 : (!(Op.bytesLess a b || a == b)) = false := h2
      rw [h, Bool.false_or] at h2
      have h3 : a = b := by simpa using h2
      show AV.i .i64 0 = AV.i .i64 (cmpS a b)
      rw [cmpS, if_pos h3]
theorem s_cmpStr (a b : Str) : PSpec Try.prog 101 [.s a, .s b] (.i .i64 (cmpS a b)) :=
  pspec_of_vc Γ_good Try.func101 rfl Try.call101 Try.results101 Try.ntmps101 (Nat.le_of_ble_eq_true rfl) (w_cmpStr a b)
theorem w_or (l : List Int) : vc Try.prog Γ 18 [0, 2, 3, 5, 6, 7, 8, 9, 14] (Try.f96.body.getD .skip) (postK Γ [.tmp 2] (fun v => v = .i .i64 (firstN l))) ⟨argSlots 0 [.rd .int l], []⟩ := by
  intro _
  refine Exists.intro [] (Exists.intro [] (Exists.intro [] (Exists.intro Nat (Exists.intro (fun k => k ≤ l.length ∧ firstN l = firstN (l.drop k)) (Exists.intro (fun k => ⟨[(3, .i .i64 0), (6, .rd .int l), (7, .i .i64 l.length), (8, .i .i64 k)], []⟩) (Exists.intro (fun k => l.length - k) (Exists.intro 0 (And.intro ⟨Nat.zero_le _, rfl⟩ (And.intro ?_ ?_)))))))))
  · (repeat' (first | exact trivial | exact Or.inl rfl | exact Or.inr (Or.inl ⟨rfl, _, rfl⟩) | exact Or.inr (Or.inr (Or.inr ⟨_, _, _, rfl, rfl⟩)) | refine And.intro ?_ ?_))
  · rintro k ⟨hk, he⟩
    refine And.intro (fun hc => ?_) (fun hc => ?_)
    · have hc : k < l.length := by have : (k : Int) < (l.length : Int) := of_decide_eq_true hc
                                   omega
      have hg : l.getD (Int.toNat (k : Int)) (dflt .int) = l[k] := by rw [Int.toNat_natCast, List.getD_eq_getElem?_getD, List.getElem?_eq_getElem hc]; rfl
      refine And.intro ⟨by omega, by omega⟩ ?_
      rw [firstN_drop hc] at he
      refine And.intro (fun hq => ?_) (fun hq => ?_)
      · have hq : l[k] ≠ 0 := by rw [hg] at hq; simpa using hq
        rw [orI_ne hq] at he
        show AV.i .i64 (l.getD (Int.toNat (k : Int)) (dflt .int)) = AV.i .i64 (firstN l)
        rw [hg, he]
      · have hq : l[k] = 0 := by rw [hg] at hq; simpa using hq
        rw [hq, orI_zero] at he
        refine And.intro (rng64 (by omega) (by have := len_le (by assumption : l.length ≤ maxLen); omega)) ?_
        refine Exists.intro [] (Exists.intro (k + 1) (And.intro ⟨hc, he⟩ (And.intro ?_ ?_)))
        · (repeat' (first | exact trivial | exact Or.inl rfl | exact Or.inr (Or.inl ⟨rfl, _, rfl⟩) | exact Or.inr (Or.inr (Or.inr ⟨_, _, _, rfl, rfl⟩)) | refine And.intro ?_ ?_))
        · show l.length - (k + 1) < l.length - k
          omega
    · have hc : k = l.length := by have : ¬ (k : Int) < (l.length : Int) := of_decide_eq_false hc
                                   omega
      subst hc
      rw [List.drop_length, firstN] at he
      exact congrArg (AV.i .i64) he.symm
theorem s_or (l : List Int) : PSpec Try.prog 96 [.rd .int l] (.i .i64 (firstN l)) :=
  pspec_of_vc Γ_good Try.func96 rfl Try.call96 Try.results96 Try.ntmps96 (Nat.le_of_ble_eq_true rfl) (w_or l)
theorem w_rk (f : Int) (h0 : 0 ≤ f) (h1 : f ≤ 18446744073709551615) : vc Try.prog Γ 10 [0, 2, 5] (Try.f100.body.getD .skip) (postK Γ [.tmp 2] (fun v => v = .i .u64 (rank f))) ⟨argSlots 0 [.i .u64 f], []⟩ := by
  refine And.intro (by decide) ?_
  refine And.intro (fun h => ?_) (fun h => ?_)
  · have h : ¬ f < 9223372036854775808 := of_decide_eq_true ((shr63 h0 h1).symm.trans h)
    refine congrArg (AV.i .u64) ?_
    rw [xor63 h0 h1, rank, if_neg h]
  · have h : f < 9223372036854775808 := by
      have := of_decide_eq_false ((shr63 h0 h1).symm.trans h)
      omega
    refine congrArg (AV.i .u64) ?_
    rw [or63 h0 h, rank, if_pos h]
theorem s_rk (f : Int) (h0 : 0 ≤ f) (h1 : f ≤ 18446744073709551615) : PSpec Try.prog 100 [.i .u64 f] (.i .u64 (rank f)) :=
  pspec_of_vc Γ_good Try.func100 rfl Try.call100 Try.results100 Try.ntmps100 (Nat.le_of_ble_eq_true rfl) (w_rk f h0 h1)
theorem rankB {f : Int} (h0 : 0 ≤ f) (h1 : f ≤ 18446744073709551615) : 0 ≤ rank f ∧ rank f ≤ 18446744073709551615 := by
  unfold rank
  split <;> omega
theorem w_cfV (l m : List Val) (hc : ∀ x ∈ l, ∀ y ∈ m, PSpec Try.prog 50 [.agg (encVal x), .agg (encVal y)] (.i .i64 (cmpV x y))) : vc Try.prog Γ 39 [0, 1, 2, 6, 7, 8, 9, 10, 11, 12, 13, 14, 21, 31, 38] (Try.f102.body.getD .skip) (postK Γ [.tmp 6] (fun v => v = .i .i64 (cmpL l m))) ⟨argSlots 0 [.rd .val l, .rd .val m, .fn 50 []], []⟩ := by
  intro hl
  refine Exists.intro [] (Exists.intro [] (Exists.intro [] (Exists.intro Nat (Exists.intro (fun k => k ≤ l.length ∧ k ≤ m.length ∧ cmpL l m = cmpL (l.drop k) (m.drop k)) (Exists.intro (fun k => ⟨[(0, .rd .val l), (1, .rd .val m), (2, .fn 50 []), (11, .rd .val l), (12, .i .i64 l.length), (13, .i .i64 k)], []⟩) (Exists.intro (fun k => l.length - k) (Exists.intro 0 (And.intro ⟨Nat.zero_le _, Nat.zero_le _, rfl⟩ (And.intro ?_ ?_)))))))))
  · (repeat' (first | exact trivial | exact Or.inl rfl | exact Or.inr (Or.inl ⟨rfl, _, rfl⟩) | exact Or.inr (Or.inr (Or.inr ⟨_, _, _, rfl, rfl⟩)) | refine And.intro ?_ ?_))
  · rintro k ⟨hk, hkm, he⟩
    refine And.intro (fun hd => ?_) (fun hd => ?_)
    · have hd : k < l.length := by have : (k : Int) < (l.length : Int) := of_decide_eq_true hd
                                   omega
      have hg : l.getD (Int.toNat (k : Int)) (dflt .val) = l[k] := by rw [Int.toNat_natCast, List.getD_eq_getElem?_getD, List.getElem?_eq_getElem hd]; rfl
      refine And.intro ⟨by omega, by omega⟩ ?_
      intro hm
      refine And.intro (fun hq => ?_) (fun hq => ?_)
      · have hq : m.length ≤ k := by have : (m.length : Int) ≤ (k : Int) := of_decide_eq_true hq
                                     omega
        rw [cmpL_short hd hq] at he
        exact congrArg (AV.i .i64) he.symm
      · have hq : k < m.length := by have : ¬ (m.length : Int) ≤ (k : Int) := of_decide_eq_false hq
                                     omega
        have hgm : m.getD (Int.toNat (k : Int)) (dflt .val) = m[k] := by rw [Int.toNat_natCast, List.getD_eq_getElem?_getD, List.getElem?_eq_getElem hq]; rfl
        refine And.intro ⟨by omega, by omega⟩ ?_
        have hs := hc l[k] (List.getElem_mem hd) m[k] (List.getElem_mem hq)
        rw [← hg, ← hgm] at hs
        refine Or.inl (Exists.intro _ (And.intro (hs) ?_))
        rw [hg, hgm]
        rw [cmpL_drop hd hq] at he
        refine And.intro (fun hz => ?_) (fun hz => ?_)
        · have hz : cmpV l[k] m[k] ≠ 0 := by simpa using hz
          rw [orI_ne hz] at he
          exact congrArg (AV.i .i64) he.symm
        · have hz : cmpV l[k] m[k] = 0 := by simpa using hz
          rw [hz, orI_zero] at he
          have := len_le hl
          (refine And.intro (rng64 (by omega) (by omega)) ?_)
          refine Exists.intro [] (Exists.intro (k + 1) (And.intro ⟨hd, hq, he⟩ (And.intro ?_ ?_)))
          · (repeat' (first | exact trivial | exact Or.inl rfl | exact Or.inr (Or.inl ⟨rfl, _, rfl⟩) | exact Or.inr (Or.inr (Or.inr ⟨_, _, _, rfl, rfl⟩)) | refine And.intro ?_ ?_))
          · show l.length - (k + 1) < l.length - k
            omega
    · have hd : k = l.length := by have : ¬ (k : Int) < (l.length : Int) := of_decide_eq_false hd
                                   omega
      subst hd
      intro _
      intro hm
      refine And.intro (fun hq => ?_) (fun hq => ?_)
      · have hq : l.length < m.length := by have : (l.length : Int) < (m.length : Int) := of_decide_eq_true hq
                                            omega
        rw [cmpL_long (Nat.le_refl _) hq] at he
        exact congrArg (AV.i .i64) he.symm
      · have hq : m.length ≤ l.length := by have : ¬ (l.length : Int) < (m.length : Int) := of_decide_eq_false hq
                                            omega
        rw [cmpL_end (Nat.le_refl _) hq] at he
        exact congrArg (AV.i .i64) he.symm
theorem s_cfV (l m : List Val) (hc : ∀ x ∈ l, ∀ y ∈ m, PSpec Try.prog 50 [.agg (encVal x), .agg (encVal y)] (.i .i64 (cmpV x y))) : PSpec Try.prog 102 [.rd .val l, .rd .val m, .fn 50 []] (.i .i64 (cmpL l m)) :=
  pspec_of_vc Γ_good Try.func102 rfl Try.call102 Try.results102 Try.ntmps102 (Nat.le_of_ble_eq_true rfl) (w_cfV l m hc)
theorem w_cfE (l m : List (Str × Val)) (hc : ∀ x ∈ l, ∀ y ∈ m, PSpec Try.prog 104 [.agg (enc .ent x), .agg (enc .ent y)] (.i .i64 (cmpP x y))) : vc Try.prog Γ 39 [0, 1, 2, 6, 7, 8, 9, 10, 11, 12, 13, 14, 21, 31, 38] (Try.f103.body.getD .skip) (postK Γ [.tmp 6] (fun v => v = .i .i64 (cmpE l m))) ⟨argSlots 0 [.rd .ent l, .rd .ent m, .fn 104 []], []⟩ := by
  intro hl
  refine Exists.intro [] (Exists.intro [] (Exists.intro [] (Exists.intro Nat (Exists.intro (fun k => k ≤ l.length ∧ k ≤ m.length ∧ cmpE l m = cmpE (l.drop k) (m.drop k)) (Exists.intro (fun k => ⟨[(0, .rd .ent l), (1, .rd .ent m), (2, .fn 104 []), (11, .rd .ent l), (12, .i .i64 l.length), (13, .i .i64 k)], []⟩) (Exists.intro (fun k => l.length - k) (Exists.intro 0 (And.intro ⟨Nat.zero_le _, Nat.zero_le _, rfl⟩ (And.intro ?_ ?_)))))))))
  · (repeat' (first | exact trivial | exact Or.inl rfl | exact Or.inr (Or.inl ⟨rfl, _, rfl⟩) | exact Or.inr (Or.inr (Or.inr ⟨_, _, _, rfl, rfl⟩)) | refine And.intro ?_ ?_))
  · rintro k ⟨hk, hkm, he⟩
    refine And.intro (fun hd => ?_) (fun hd => ?_)
    · have hd : k < l.length := by have : (k : Int) < (l.length : Int) := of_decide_eq_true hd
                                   omega
      have hg : l.getD (Int.toNat (k : Int)) (dflt .ent) = l[k] := by rw [Int.toNat_natCast, List.getD_eq_getElem?_getD, List.getElem?_eq_getElem hd]; rfl
      refine And.intro ⟨by omega, by omega⟩ ?_
      intro hm
      refine And.intro (fun hq => ?_) (fun hq => ?_)
      · have hq : m.length ≤ k := by have : (m.length : Int) ≤ (k : Int) := of_decide_eq_true hq
                                     omega
        rw [cmpE_short hd hq] at he
        exact congrArg (AV.i .i64) he.symm
      · have hq : k < m.length := by have : ¬ (m.length : Int) ≤ (k : Int) := of_decide_eq_false hq
                                     omega
        have hgm : m.getD (Int.toNat (k : Int)) (dflt .ent) = m[k] := by rw [Int.toNat_natCast, List.getD_eq_getElem?_getD, List.getElem?_eq_getElem hq]; rfl
        refine And.intro ⟨by omega, by omega⟩ ?_
        have hs := hc l[k] (List.getElem_mem hd) m[k] (List.getElem_mem hq)
        rw [← hg, ← hgm] at hs
        refine Or.inl (Exists.intro _ (And.intro (hs) ?_))
        rw [hg, hgm]
        rw [cmpE_drop hd hq] at he
        refine And.intro (fun hz => ?_) (fun hz => ?_)
        · have hz : cmpP l[k] m[k] ≠ 0 := by simpa using hz
          rw [orI_ne hz] at he
          exact congrArg (AV.i .i64) he.symm
        · have hz : cmpP l[k] m[k] = 0 := by simpa using hz
          rw [hz, orI_zero] at he
          have := len_le hl
          (refine And.intro (rng64 (by omega) (by omega)) ?_)
          refine Exists.intro [] (Exists.intro (k + 1) (And.intro ⟨hd, hq, he⟩ (And.intro ?_ ?_)))
          · (repeat' (first | exact trivial | exact Or.inl rfl | exact Or.inr (Or.inl ⟨rfl, _, rfl⟩) | exact Or.inr (Or.inr (Or.inr ⟨_, _, _, rfl, rfl⟩)) | refine And.intro ?_ ?_))
          · show l.length - (k + 1) < l.length - k
            omega
    · have hd : k = l.length := by have : ¬ (k : Int) < (l.length : Int) := of_decide_eq_false hd
                                   omega
      subst hd
      intro _
      intro hm
      refine And.intro (fun hq => ?_) (fun hq => ?_)
      · have hq : l.length < m.length := by have : (l.length : Int) < (m.length : Int) := of_decide_eq_true hq
                                            omega
        rw [cmpE_long (Nat.le_refl _) hq] at he
        exact congrArg (AV.i .i64) he.symm
      · have hq : m.length ≤ l.length := by have : ¬ (l.length : Int) < (m.length : Int) := of_decide_eq_false hq
                                            omega
        rw [cmpE_end (Nat.le_refl _) hq] at he
        exact congrArg (AV.i .i64) he.symm
theorem s_cfE (l m : List (Str × Val)) (hc : ∀ x ∈ l, ∀ y ∈ m, PSpec Try.prog 104 [.agg (enc .ent x), .agg (enc .ent y)] (.i .i64 (cmpP x y))) : PSpec Try.prog 103 [.rd .ent l, .rd .ent m, .fn 104 []] (.i .i64 (cmpE l m)) :=
  pspec_of_vc Γ_good Try.func103 rfl Try.call103 Try.results103 Try.ntmps103 (Nat.le_of_ble_eq_true rfl) (w_cfE l m hc)
theorem w_cmp1 (p q : Str × Val) (hc : PSpec Try.prog 50 [.agg (encVal p.2), .agg (encVal q.2)] (.i .i64 (cmpV p.2 q.2))) : vc Try.prog Γ 17 [2, 3, 4] (Try.f104.body.getD .skip) (postK Γ [.tmp 4] (fun v => v = .i .i64 (cmpP p q))) ⟨argSlots 0 [.agg (enc .ent p), .agg (enc .ent q)], []⟩ := by
  refine Exists.intro [.blk [0, 1, 2, 3, 4, 5, 6, 7, 8, 9, 10, 11, 12] [15]] (And.intro (by kernel_rfl) ?_)
  refine Exists.intro _ (And.intro (s_cmpStr p.1 q.1) ?_)
  refine Exists.intro _ (And.intro (hc) ?_)
  refine Exists.intro _ (And.intro (s_or [cmpS p.1 q.1, cmpV p.2 q.2]) ?_)
  refine congrArg (AV.i .i64) ?_
  rw [cmpP_eq]
  simp only [firstN, orI_right]
theorem s_cmp1 (p q : Str × Val) (hc : PSpec Try.prog 50 [.agg (encVal p.2), .agg (encVal q.2)] (.i .i64 (cmpV p.2 q.2))) : PSpec Try.prog 104 [.agg (enc .ent p), .agg (enc .ent q)] (.i .i64 (cmpP p q)) :=
  pspec_of_vc Γ_good Try.func104 rfl Try.call104 Try.results104 Try.ntmps104 (Nat.le_of_ble_eq_true rfl) (w_cmp1 p q hc)
theorem w_cmpr (a b : Val) (h0 : 0 ≤ a.f ∧ a.f ≤ 18446744073709551615) (h1 : 0 ≤ b.f ∧ b.f ≤ 18446744073709551615) (hc : ∀ x ∈ a.l, ∀ y ∈ b.l, PSpec Try.prog 50 [.agg (encVal x), .agg (encVal y)] (.i .i64 (cmpV x y))) (he : ∀ x ∈ a.e, ∀ y ∈ b.e, PSpec Try.prog 104 [.agg (enc .ent x), .agg (enc .ent y)] (.i .i64 (cmpP x y))) : vc Try.prog Γ 39 [2, 3, 4] (Try.f50.body.getD .skip) (postK Γ [.tmp 4] (fun v => v = .i .i64 (cmpV a b))) ⟨argSlots 0 [.agg (encVal a), .agg (encVal b)], []⟩ := by
  refine Exists.intro [.blk [0, 1, 2, 3, 4, 5, 6, 7, 8, 9, 10, 11, 12, 13, 14, 15, 16, 17, 18, 19, 20, 21, 22, 23, 24, 25, 26, 27, 28, 29, 30, 31, 32, 33, 34] [37]] (And.intro (by kernel_rfl) ?_)
  refine Exists.intro _ (And.intro (s_cmpI64 a.kind b.kind) ?_)
  refine Exists.intro _ (And.intro (s_cmpJ64 a.n b.n) ?_)
  refine Exists.intro _ (And.intro (s_rk a.f h0.1 h0.2) ?_)
  refine Exists.intro _ (And.intro (s_rk b.f h1.1 h1.2) ?_)
  refine Exists.intro _ (And.intro (s_cmpU64 (rank a.f) (rank b.f)) ?_)
  refine Exists.intro _ (And.intro (s_cmpStr a.s b.s) ?_)
  refine Exists.intro _ (And.intro (s_cfV a.l b.l hc) ?_)
  refine Exists.intro _ (And.intro (s_cfE a.e b.e he) ?_)
  refine Exists.intro _ (And.intro (s_or [cmpI a.kind b.kind, cmpI a.n b.n, cmpI (rank a.f) (rank b.f), cmpS a.s b.s, cmpL a.l b.l, cmpE a.e b.e]) ?_)
  refine congrArg (AV.i .i64) ?_
  rw [cmpV_eq]
  simp only [firstN, orI_right]
theorem s_cmpr (a b : Val) (h0 : 0 ≤ a.f ∧ a.f ≤ 18446744073709551615) (h1 : 0 ≤ b.f ∧ b.f ≤ 18446744073709551615) (hc : ∀ x ∈ a.l, ∀ y ∈ b.l, PSpec Try.prog 50 [.agg (encVal x), .agg (encVal y)] (.i .i64 (cmpV x y))) (he : ∀ x ∈ a.e, ∀ y ∈ b.e, PSpec Try.prog 104 [.agg (enc .ent x), .agg (enc .ent y)] (.i .i64 (cmpP x y))) : PSpec Try.prog 50 [.agg (encVal a), .agg (encVal b)] (.i .i64 (cmpV a b)) :=
  pspec_of_vc Γ_good Try.func50 rfl Try.call50 Try.results50 Try.ntmps50 (Nat.le_of_ble_eq_true rfl) (w_cmpr a b h0 h1 hc he)
theorem compare_spec : ∀ (n : Nat) (a b : Val), SizeOf.sizeOf a < n → VB a → VB b → PSpec Try.prog 50 [.agg (encVal a), .agg (encVal b)] (.i .i64 (cmpV a b)) := by
  intro n
  induction n with
  | zero => intro a b h; exact absurd h (Nat.not_lt_zero _)
  | succ n ih =>
    intro a b hs ha hb
    cases ha with
    | mk _ a1 a2 a3 a4 a5 =>
    cases hb with
    | mk _ b1 b2 b3 b4 b5 =>
      refine s_cmpr a b a3 b3 (fun x hx y hy => ih x y ?_ (a4 x hx) (b4 y hy)) (fun x hx y hy => s_cmp1 x y (ih x.2 y.2 ?_ (a5 x hx) (b5 y hy)))
      · have := val_sz_l hx; omega
      · have := val_sz_e hx; omega
theorem s_Compare (a b : Val) (ha : VB a) (hb : VB b) : PSpec Try.prog 50 [.agg (encVal a), .agg (encVal b)] (.i .i64 (cmpV a b)) :=
  compare_spec _ a b (Nat.lt_succ_self _) ha hb
end
end Go.Proofs.Ytjlbaagnoppfgaa
