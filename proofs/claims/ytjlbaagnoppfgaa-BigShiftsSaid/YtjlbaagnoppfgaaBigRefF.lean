/-
  A part of the proof of the laws of whole numbers: powers and words of the document's numbers, walked. No conditions.
-/
import Derived.Test.YtjlbaagnoppfgaaBigRefE
namespace Go.Proofs.Ytjlbaagnoppfgaa
set_option linter.unusedSectionVars false
set_option linter.unusedSimpArgs false
set_option linter.unusedVariables false
open Go Go.SX Go.Bg
set_option maxRecDepth 100000
set_option maxHeartbeats 0
theorem b32 : 2 ≤ 4294967296 := by decide
theorem tmod2 (m : Nat) : (m : Int).tmod 2 = ((m % 2 : Nat) : Int) := rfl
theorem power_odd {b e f n : Nat} (h : n % 2 = 1) : b ^ e * b ^ f = b ^ (e + f) ∧ (e + f) + (f + f) * (n / 2) = e + f * n := by
  refine ⟨(Nat.pow_add b e f).symm, ?_⟩
  have : f * n = f * (2 * (n / 2) + 1) := by congr 1; omega
  rw [this, Nat.mul_add, ← Nat.mul_assoc, Nat.mul_comm f 2, Nat.two_mul]
  omega
theorem power_even {e f n : Nat} (h : n % 2 = 0) : e + (f + f) * (n / 2) = e + f * n := by
  have : f * n = f * (2 * (n / 2)) := by congr 1; omega
  rw [this, ← Nat.mul_assoc, Nat.mul_comm f 2, Nat.two_mul]
/-- a number of so many words has no more than three times so many digits -/
theorem words_len {n k : Nat} (h : n < 4294967296 ^ k) : (dg 10000 n).length ≤ 3 * k := dg_len_le b10 _ _ (by
  rw [Nat.pow_mul]
  exact Nat.lt_of_lt_of_le h (Nat.pow_le_pow_left (by decide) k))
section
variable [G : Globs]
theorem w_power (b n : Nat) (hb : b < 18446744073709551616) (hn : n < 9223372036854775808) (hs : ∀ k ≤ n, (dg 10000 (b ^ k)).length ≤ 400000) : vc Try.prog Γ 24 [0, 1, 4, 5, 6, 11, 14] (Try.f34.body.getD .skip) (postK Γ [.tmp 4] (fun v => v = .rd .int (dg 10000 (b ^ n)))) ⟨argSlots 0 [.i .u64 b, .i .i64 n], []⟩ := by
  refine Or.inl (Exists.intro _ (And.intro (s_small 1 (by decide)) ?_))
  refine Or.inl (Exists.intro _ (And.intro (s_small b hb) ?_))
  refine Exists.intro [] (Exists.intro [] (Exists.intro [] (Exists.intro (Nat × Nat × Nat) (Exists.intro (fun x => x.2.1 + x.2.2 * x.1 = n ∧ 1 ≤ x.2.2) (Exists.intro (fun ⟨m, e, f⟩ => ⟨[(1, .i .i64 m), (5, .rd .int (dg 10000 (b ^ e))), (6, .rd .int (dg 10000 (b ^ f)))], []⟩) (Exists.intro (fun x => x.1) (Exists.intro (n, 0, 1) (And.intro ⟨by simp, by simp⟩ (And.intro ?_ ?_)))))))))
  · (repeat' (first | exact trivial | exact Or.inl rfl | exact Or.inl ((by rw [Nat.pow_one])) | refine And.intro ?_ ?_))
  · rintro ⟨m, e, f⟩ ⟨h1, h2⟩
    dsimp only at h1 h2
    refine And.intro (fun hc => ?_) (fun hc => ?_)
    · have hm : 0 < m := by have : (0 : Int) < (m : Int) := of_decide_eq_true hc
                            omega
      have hfm : f * 1 ≤ f * m := Nat.mul_le_mul_left _ hm
      have hmn : m < 9223372036854775808 := by
        have : 1 * m ≤ f * m := Nat.mul_le_mul_right _ h2
        omega
      have le : (dg 10000 (b ^ e)).length ≤ 400000 := hs e (by omega)
      have lf : (dg 10000 (b ^ f)).length ≤ 400000 := hs f (by omega)
      have q1 := s_By (dg 10000 (b ^ e)) (dg 10000 (b ^ f)) (dg_Dg b10 _) (dg_Dg b10 _) (by omega) (by omega)
      have q2 := s_By (dg 10000 (b ^ f)) (dg 10000 (b ^ f)) (dg_Dg b10 _) (dg_Dg b10 _) (by omega) (by omega)
      rw [vl_dg b10, vl_dg b10] at q1
      rw [vl_dg b10, ← Nat.pow_add] at q2
      refine And.intro (by decide) ?_
      refine And.intro (fun hd => ?_) (fun hd => ?_)
      · have hd : m % 2 = 1 := by
          rw [show (m : Int).tmod 2 = ((m % 2 : Nat) : Int) from rfl] at hd
          have := eq_of_beq hd
          omega
        rw [(power_odd (b := b) hd).1] at q1
        refine Or.inl (Exists.intro _ (And.intro (q1) ?_))
        refine Or.inl (Exists.intro _ (And.intro (q2) ?_))
        refine And.intro (by decide) ?_
        refine And.intro (rng64 (by rw [tdiv2]; omega) (by rw [tdiv2]; omega)) ?_
        refine Exists.intro [] (Exists.intro (m / 2, e + f, f + f) (And.intro ⟨by have := (power_odd (b := b) (e := e) (f := f) hd).2; dsimp only; omega, by dsimp only; omega⟩ (And.intro ?_ ?_)))
        · (repeat' (first | exact trivial | exact Or.inl rfl | exact Or.inr (Or.inl ⟨rfl, _, rfl⟩) | refine And.intro ?_ ?_))
        · show m / 2 < m
          omega
      · have hd : m % 2 = 0 := by
          rw [show (m : Int).tmod 2 = ((m % 2 : Nat) : Int) from rfl] at hd
          have := ne_of_beq_false hd
          omega
        refine Or.inl (Exists.intro _ (And.intro (q2) ?_))
        refine And.intro (by decide) ?_
        refine And.intro (rng64 (by rw [tdiv2]; omega) (by rw [tdiv2]; omega)) ?_
        refine Exists.intro [] (Exists.intro (m / 2, e, f + f) (And.intro ⟨by have := power_even (e := e) (f := f) hd; dsimp only; omega, by dsimp only; omega⟩ (And.intro ?_ ?_)))
        · (repeat' (first | exact trivial | exact Or.inl rfl | exact Or.inr (Or.inl ⟨rfl, _, rfl⟩) | refine And.intro ?_ ?_))
        · show m / 2 < m
          omega
    · have hm : m = 0 := by have : ¬ (0 : Int) < (m : Int) := of_decide_eq_false hc
                            omega
      subst hm
      rw [Nat.mul_zero, Nat.add_zero] at h1
      rw [h1]
      rfl
theorem s_power (b n : Nat) (hb : b < 18446744073709551616) (hn : n < 9223372036854775808) (hs : ∀ k ≤ n, (dg 10000 (b ^ k)).length ≤ 400000) : PSpec Try.prog 34 [.i .u64 b, .i .i64 n] (.rd .int (dg 10000 (b ^ n))) :=
  pspec_of_vc Γ_good Try.func34 rfl Try.call34 Try.results34 Try.ntmps34 (Nat.le_of_ble_eq_true rfl) (w_power b n hb hn hs)
theorem w_ofWords (l : List Int) (hl : Dg 4294967296 l) (hn : l.length ≤ 100000) : vc Try.prog Γ 23 [0, 2, 3, 4, 9] (Try.f30.body.getD .skip) (postK Γ [.tmp 2] (fun v => v = .rd .int (dg 10000 (vl 4294967296 l)))) ⟨argSlots 0 [.rd .u32 l], []⟩ := by
  intro _
  (refine And.intro (rng64 (by omega) (by omega)) ?_)
  refine Exists.intro [] (Exists.intro [] (Exists.intro [] (Exists.intro (Int × Nat) (Exists.intro (fun x => -1 ≤ x.1 ∧ x.1 < l.length ∧ x.2 = vl 4294967296 (l.drop (x.1 + 1).toNat)) (Exists.intro (fun ⟨j, n⟩ => ⟨[(0, .rd .u32 l), (3, .rd .int (dg 10000 n)), (4, .i .i64 j)], []⟩) (Exists.intro (fun x => (x.1 + 1).toNat) (Exists.intro ((l.length : Int) - 1, 0) (And.intro ⟨by omega, by omega, by rw [show ((l.length : Int) - 1 + 1).toNat = l.length by omega, List.drop_length]; rfl⟩ (And.intro ?_ ?_)))))))))
  · (repeat' (first | exact trivial | exact Or.inl rfl | exact Or.inr (Or.inl ⟨rfl, _, rfl⟩) | refine And.intro ?_ ?_))
  · rintro ⟨j, n⟩ ⟨h1, h2, h3⟩
    dsimp only at h1 h2 h3
    refine And.intro (fun hc => ?_) (fun hc => ?_)
    · obtain ⟨m, rfl⟩ := nn_of hc
      clear hc
      rw [show ((m : Int) + 1).toNat = m + 1 by omega] at h3
      have hnl : n < 4294967296 ^ (l.length - (m + 1)) := by
        rw [h3]
        have := vl_lt (hl.drop (m + 1))
        rwa [List.length_drop] at this
      have hdl := words_len hnl
      have g := hl.getD (by decide) m
      have hmul : n * 4294967296 < 4294967296 ^ (l.length - m) := by
        rw [show l.length - m = (l.length - (m + 1)) + 1 by omega, Nat.pow_succ]
        exact (Nat.mul_lt_mul_right (by decide)).2 hnl
      have q1 := s_By (dg 10000 n) (dg 10000 4294967296) (dg_Dg b10 _) (dg_Dg b10 _) (by omega) (by have := dg_len_le b10 3 4294967296 (by decide); omega)
      rw [vl_dg b10, vl_dg b10] at q1
      obtain ⟨x, hx⟩ : ∃ x : Nat, l.getD m 0 = x := ⟨(l.getD m 0).toNat, by omega⟩
      have hxl : x < 4294967296 := by omega
      have q2 := s_smallC x (by omega)
      have q3 := s_plus (dg 10000 (n * 4294967296)) (dg 10000 x) (dg_Dg b10 _) (dg_Dg b10 _) (by have := words_len hmul; omega) (by have := words_len (n := x) (k := 1) (by omega); omega)
      rw [vl_dg b10, vl_dg b10] at q3
      refine Exists.intro [.blk [0, 1, 2, 3, 4, 5, 6, 7, 8, 9, 10]] (And.intro (by kernel_rfl) ?_)
      rw [← hx] at q2
      refine Exists.intro _ (And.intro (s_small 4294967296 (by decide)) ?_)
      refine Exists.intro _ (And.intro (q1) ?_)
      refine And.intro ⟨by omega, by omega⟩ ?_
      refine Exists.intro _ (And.intro (q2) ?_)
      refine Exists.intro _ (And.intro (q3) ?_)
      (refine And.intro (rng64 (by omega) (by omega)) ?_)
      refine Exists.intro [] (Exists.intro ((m : Int) - 1, n * 4294967296 + x) (And.intro ⟨by dsimp only; omega, by dsimp only; omega, by rw [show ((m : Int) - 1 + 1).toNat = m by omega, vl_drop, ← h3, hx]; simp only [Int.toNat_natCast]; omega⟩ (And.intro ?_ ?_)))
      · (repeat' (first | exact trivial | exact Or.inl rfl | exact Or.inr (Or.inl ⟨rfl, _, rfl⟩) | refine And.intro ?_ ?_))
      · show ((m : Int) - 1 + 1).toNat < ((m : Int) + 1).toNat
        omega
    · have hj : j = -1 := by have : ¬ 0 ≤ j := of_decide_eq_false hc
                             omega
      subst hj
      rw [h3]
      rfl
theorem s_ofWords (l : List Int) (hl : Dg 4294967296 l) (hn : l.length ≤ 100000) : PSpec Try.prog 30 [.rd .u32 l] (.rd .int (dg 10000 (vl 4294967296 l))) :=
  pspec_of_vc Γ_good Try.func30 rfl Try.call30 Try.results30 Try.ntmps30 (Nat.le_of_ble_eq_true rfl) (w_ofWords l hl hn)
theorem w_words (n K : Nat) (hK : K ≤ 100000) (hn : n < 4294967296 ^ K) : vc Try.prog Γ 37 [0, 2, 3, 4, 5, 6, 9, 20] (Try.f35.body.getD .skip) (postK Γ [.tmp 2] (fun v => v = .rd .u32 (dg 4294967296 n))) ⟨argSlots 0 [.rd .int (dg 10000 n)], []⟩ := by
  have hnl := words_len hn
  refine Exists.intro [(3, 3, .u32)] (Exists.intro [] (Exists.intro [] (Exists.intro (Nat × List Int) (Exists.intro (fun x => x.1 ≤ n ∧ x.2 ++ dg 4294967296 x.1 = dg 4294967296 n) (Exists.intro (fun ⟨m, o⟩ => ⟨[(0, .rd .int (dg 10000 m)), (3, .vec 3 .u32 o)], []⟩) (Exists.intro (fun x => x.1) (Exists.intro (n, []) (And.intro ⟨Nat.le_refl _, rfl⟩ (And.intro ?_ ?_)))))))))
  · (repeat' (first | exact trivial | exact Or.inl rfl | exact Or.inr (Or.inl ⟨rfl, _, rfl⟩) | refine And.intro ?_ ?_))
  · rintro ⟨m, o⟩ ⟨h1, h2⟩
    dsimp only at h1 h2
    have hol : o.length ≤ 100000 := by
      have h3 := dg_len_le b32 K n hn
      rw [← h2, List.length_append] at h3
      omega
    have hml : (dg 10000 m).length ≤ 300000 := by have := dg_len_mono b10 h1; omega
    intro _
    refine And.intro (fun hc => ?_) (fun hc => ?_)
    · have hm : 0 < m := by
        have : (0 : Int) < ((dg 10000 m).length : Int) := of_decide_eq_true hc
        rcases Nat.eq_zero_or_pos m with h | h
        · subst h; simp at this
        · exact h
      have hol : o.length < 100000 := by
        have h3 := dg_len_le b32 K n hn
        have h4 := dg_len_pos b32 hm
        rw [← h2, List.length_append] at h3
        omega
      have q1 := s_over (dg 10000 m) (dg 10000 4294967296) (dg_Dg b10 _) (dg_Dg b10 _) (by omega) (by have := dg_len_le b10 3 4294967296 (by decide); omega) (by rw [vl_dg b10]; decide)
      rw [vl_dg b10, vl_dg b10] at q1
      refine Or.inl (Exists.intro _ (And.intro (s_small 4294967296 (by decide)) ?_))
      refine Or.inl (Exists.intro _ (And.intro (q1) ?_))
      have hrl : m % 4294967296 < 4294967296 := Nat.mod_lt _ (by decide)
      generalize hr : m % 4294967296 = r at hrl
      have hD := dg_Dg b10 r
      have hrd : (dg 10000 r).length ≤ 3 := dg_len_le b10 3 r (by omega)
      intro _
      (refine And.intro (rng64 (by omega) (by omega)) ?_)
      have hv := vl_dg b10 r
      generalize dg 10000 r = L at hD hrd hv
      refine Exists.intro [] (Exists.intro [] (Exists.intro [] (Exists.intro (Int × Nat) (Exists.intro (fun x => -1 ≤ x.1 ∧ x.1 < L.length ∧ x.2 = vl 10000 (L.drop (x.1 + 1).toNat)) (Exists.intro (fun ⟨j, c⟩ => ⟨[(0, .rd .int (dg 10000 (m / 4294967296))), (3, .vec 3 .u32 o), (4, .rd .int L), (5, .i .u64 c), (6, .i .i64 j)], []⟩) (Exists.intro (fun x => (x.1 + 1).toNat) (Exists.intro ((L.length : Int) - 1, 0) (And.intro ⟨by omega, by omega, by rw [show ((L.length : Int) - 1 + 1).toNat = L.length by omega, List.drop_length]; rfl⟩ (And.intro ?_ ?_)))))))))
      · (repeat' (first | exact trivial | exact Or.inl rfl | exact Or.inr (Or.inl ⟨rfl, _, rfl⟩) | refine And.intro ?_ ?_))
      · rintro ⟨j, c⟩ ⟨g1, g2, g3⟩
        dsimp only at g1 g2 g3
        refine And.intro (fun hd => ?_) (fun hd => ?_)
        · obtain ⟨k, rfl⟩ := nn_of hd
          clear hd
          rw [show ((k : Int) + 1).toNat = k + 1 by omega] at g3
          obtain ⟨d, hd, hdl, hdn⟩ := getN hD k
          have hc : vl 10000 (L.drop k) = d + 10000 * c := by rw [vl_drop, hdn, ← g3]
          have hcr : d + 10000 * c ≤ r := by
            rw [← hc, ← hv, vl_split 10000 L k (by omega)]
            have : 1 * vl 10000 (L.drop k) ≤ 10000 ^ k * vl 10000 (L.drop k) := Nat.mul_le_mul_right _ (pow_pos b10 k)
            omega
          refine And.intro ⟨by omega, by omega⟩ ?_
          (refine And.intro (rng64 (by omega) (by omega)) ?_)
          have e : IntKind.u64.wrap (IntKind.u64.wrap ((c : Int) * 10000) + IntKind.u64.wrap (L.getD (Int.toNat (k : Int)) (dflt .int))) = ((d + 10000 * c : Nat) : Int) := by
            rw [show L.getD (Int.toNat (k : Int)) (dflt .int) = (d : Int) from hd, IntKind.wrap_u64, IntKind.wrap_u64, IntKind.wrap_u64]
            omega
          refine Exists.intro [] (Exists.intro ((k : Int) - 1, d + 10000 * c) (And.intro ⟨by dsimp only; omega, by dsimp only; omega, by rw [show ((k : Int) - 1 + 1).toNat = k by omega, hc]⟩ (And.intro ?_ ?_)))
          · (repeat' (first | exact trivial | exact Or.inl rfl | exact Or.inl ((congrArg (AV.i .u64) e)) | refine And.intro ?_ ?_))
          · show ((k : Int) - 1 + 1).toNat < ((k : Int) + 1).toNat
            omega
        · have hj : j = -1 := by have : ¬ 0 ≤ j := of_decide_eq_false hd
                                 omega
          subst hj
          have g3 : c = r := by rw [g3, ← hv]; rfl
          subst g3
          refine And.intro (by show (o.length + 1) * 4 ≤ _; omega) ?_
          refine Exists.intro [(35, 3)] (Exists.intro (m / 4294967296, o ++ [(c : Int)]) (And.intro ⟨by dsimp only; omega, by dsimp only; rw [← h2, dg_pos b32 hm, hr, List.append_assoc]; rfl⟩ (And.intro ?_ ?_)))
          · (repeat' (first | exact trivial | exact Or.inl rfl | exact Or.inl ((congrArg (fun x : Int => AV.vec 3 .u32 (o ++ [x])) (show IntKind.u32.wrap (c : Int) = c by rw [IntKind.wrap_u32]; omega))) | refine And.intro ?_ ?_))
          · exact Nat.div_lt_self hm (by decide)
    · have hm : m = 0 := by
        have : ¬ (0 : Int) < ((dg 10000 m).length : Int) := of_decide_eq_false hc
        rcases Nat.eq_zero_or_pos m with h | h
        · exact h
        · have := dg_len_pos b10 h
          omega
      subst hm
      rw [dg_zero, List.append_nil] at h2
      rw [h2]
      rfl
theorem s_words (n K : Nat) (hK : K ≤ 100000) (hn : n < 4294967296 ^ K) : PSpec Try.prog 35 [.rd .int (dg 10000 n)] (.rd .u32 (dg 4294967296 n)) :=
  pspec_of_vc Γ_good Try.func35 rfl Try.call35 Try.results35 Try.ntmps35 (Nat.le_of_ble_eq_true rfl) (w_words n K hK hn)
end
end Go.Proofs.Ytjlbaagnoppfgaa
