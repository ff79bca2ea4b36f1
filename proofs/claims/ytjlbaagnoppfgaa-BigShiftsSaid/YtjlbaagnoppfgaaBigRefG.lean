/-
  A part of the proof of the laws of whole numbers: decimal digits of the document's numbers, walked. No conditions.
-/
import Derived.Test.YtjlbaagnoppfgaaBigRefF
import Derived.Test.YtjlbaagnoppfgaaBigLaw2
namespace Go.Proofs.Ytjlbaagnoppfgaa
set_option linter.unusedSectionVars false
set_option linter.unusedSimpArgs false
set_option linter.unusedVariables false
open Go Go.SX Go.Bg
set_option maxRecDepth 100000
set_option maxHeartbeats 0
theorem tmod10 (m : Nat) : (m : Int).tmod 10 = ((m % 10 : Nat) : Int) := rfl
theorem tdiv10 (m : Nat) : (m : Int).tdiv 10 = ((m / 10 : Nat) : Int) := rfl
theorem digits_next {i j z V : Nat} {m : List Int} (hj : j < 4) (h2 : Dg 10 m) (h3 : m.length = 4 * i + j) (h4 : z < 10 ^ (4 - j)) (h5 : vl 10 m + 10 ^ (4 * i + j) * z = V) :
    j + 1 ≤ 4 ∧ Dg 10 (m ++ [((z % 10 : Nat) : Int)]) ∧ (m ++ [((z % 10 : Nat) : Int)]).length = 4 * i + (j + 1) ∧ z / 10 < 10 ^ (4 - (j + 1)) ∧ vl 10 (m ++ [((z % 10 : Nat) : Int)]) + 10 ^ (4 * i + (j + 1)) * (z / 10) = V := by
  refine ⟨hj, h2.snoc ⟨by omega, by omega⟩, by simp [h3]; omega, ?_, ?_⟩
  · rw [Nat.div_lt_iff_lt_mul (by decide), ← Nat.pow_succ, show (4 - (j + 1)).succ = 4 - j by omega]
    exact h4
  · rw [vl_snoc, h3, Int.toNat_natCast, show 4 * i + (j + 1) = (4 * i + j) + 1 by omega, Nat.pow_succ, Nat.mul_assoc, Nat.add_assoc, ← Nat.mul_add, Nat.mod_add_div]
    exact h5
section
variable [G : Globs]
theorem w_equal32 (a b : List Int) : vc Try.prog Γ 26 [0, 1, 4, 5, 10, 12, 13, 14, 24] (Try.f32.body.getD .skip) (postK Γ [.tmp 4] (fun v => v = .b (decide (a = b)))) ⟨argSlots 0 [.rd .u32 a, .rd .u32 b], []⟩ := by
  intro hlx
  intro hly
  refine And.intro (fun h => ?_) (fun h => ?_)
  · have hne : a.length ≠ b.length := by have : ¬ ((a.length : Int) = b.length) := by simpa using h
                                         omega
    show AV.b false = AV.b (decide (a = b))
    rw [decide_eq_false (fun e => hne (by rw [e]))]
  · have heq : a.length = b.length := by have : (a.length : Int) = b.length := by simpa using h
                                         omega
    intro _
    refine Exists.intro [] (Exists.intro [] (Exists.intro [] (Exists.intro Nat (Exists.intro (fun k => k ≤ a.length ∧ a.take k = b.take k) (Exists.intro (fun k => ⟨[(0, .rd .u32 a), (1, .rd .u32 b), (12, .i .i64 a.length), (13, .i .i64 k)], []⟩) (Exists.intro (fun k => a.length - k) (Exists.intro 0 (And.intro ⟨Nat.zero_le _, by simp⟩ (And.intro ?_ ?_)))))))))
    · (repeat' (first | exact trivial | exact Or.inl rfl | exact Or.inr (Or.inl ⟨rfl, _, rfl⟩) | refine And.intro ?_ ?_))
    · rintro k ⟨hk, ht⟩
      refine And.intro (fun h => ?_) (fun h => ?_)
      · have hk : k < a.length := by have := of_decide_eq_true h; omega
        refine Exists.intro [.blk [0, 1, 2, 3, 4, 5, 6, 7, 8]] (And.intro (by kernel_rfl) ?_)
        refine And.intro ⟨by omega, by omega⟩ ?_
        refine And.intro ⟨by omega, by omega⟩ ?_
        have hky : k < b.length := by omega
        have hpx : a.getD (Int.toNat k) (dflt .u32) = a[k] := by rw [Int.toNat_natCast, List.getD_eq_getElem?_getD, List.getElem?_eq_getElem hk]; rfl
        have hpy : b.getD (Int.toNat k) (dflt .u32) = b[k] := by rw [Int.toNat_natCast, List.getD_eq_getElem?_getD, List.getElem?_eq_getElem hky]; rfl
        refine And.intro (fun h => ?_) (fun h => ?_)
        · show AV.b false = AV.b (decide (a = b))
          rw [decide_eq_false]
          intro e
          subst e
          rw [hpx] at h
          simp at h
        · have he : a[k] = b[k] := by
            rw [hpx, hpy] at h
            simpa using h
          refine And.intro (rng64 (by omega) (by have := len_le hlx; omega)) ?_
          refine Exists.intro [] (Exists.intro (k + 1) (And.intro ⟨hk, by rw [List.take_add_one, List.take_add_one, ht, List.getElem?_eq_getElem hk, List.getElem?_eq_getElem hky, he]⟩ (And.intro ?_ ?_)))
          · (repeat' (first | exact trivial | exact Or.inl rfl | exact Or.inr (Or.inl ⟨rfl, _, rfl⟩) | refine And.intro ?_ ?_))
          · show a.length - (k + 1) < a.length - k
            omega
      · have hk : k = a.length := by have := of_decide_eq_false h; omega
        show AV.b true = AV.b (decide (a = b))
        rw [decide_eq_true (by rw [hk, List.take_length, heq, List.take_length] at ht; exact ht)]
theorem s_equal32 (a b : List Int) : PSpec Try.prog 32 [.rd .u32 a, .rd .u32 b] (.b (decide (a = b))) :=
  pspec_of_vc Γ_good Try.func32 rfl Try.call32 Try.results32 Try.ntmps32 (Nat.le_of_ble_eq_true rfl) (w_equal32 a b)
theorem w_digits (a : List Int) (ha : Dg 10000 a) (hla : a.length ≤ 1000000) : vc Try.prog Γ 42 [0, 2, 3, 4, 5, 7, 8, 9, 15, 16, 36, 40] (Try.f41.body.getD .skip) (postK Γ [.tmp 2] (fun v => v = .s (decS (vl 10000 a)))) ⟨argSlots 0 [.rd .int a], []⟩ := by
  intro _
  refine Exists.intro [] (Exists.intro [] (Exists.intro [] (Exists.intro (Nat × List Int) (Exists.intro (fun x => x.1 ≤ a.length ∧ Dg 10 x.2 ∧ x.2.length = 4 * x.1 ∧ vl 10 x.2 = vl 10000 (a.take x.1)) (Exists.intro (fun ⟨i, l⟩ => ⟨[(0, .rd .int a), (3, .s (dstr l)), (7, .i .i64 a.length), (8, .i .i64 i)], []⟩) (Exists.intro (fun x => a.length - x.1) (Exists.intro (0, []) (And.intro ⟨by simp, Dg.nil _, rfl, rfl⟩ (And.intro ?_ ?_)))))))))
  · (repeat' (first | exact trivial | exact Or.inl rfl | exact Or.inr (Or.inl ⟨rfl, _, rfl⟩) | refine And.intro ?_ ?_))
  · rintro ⟨i, l⟩ ⟨h1, h2, h3, h4⟩
    dsimp only at h1 h2 h3 h4
    refine And.intro (fun hc => ?_) (fun hc => ?_)
    · have hi : i < a.length := by have : (i : Int) < (a.length : Int) := of_decide_eq_true hc
                                   omega
      clear hc
      obtain ⟨x, hx, hxl, hxn⟩ := getN ha i
      refine And.intro ⟨by omega, by omega⟩ ?_
      refine Exists.intro [] (Exists.intro [] (Exists.intro [] (Exists.intro (Nat × Nat × List Int) (Exists.intro (fun y => y.1 ≤ 4 ∧ Dg 10 y.2.2 ∧ y.2.2.length = 4 * i + y.1 ∧ y.2.1 < 10 ^ (4 - y.1) ∧ vl 10 y.2.2 + 10 ^ (4 * i + y.1) * y.2.1 = vl 10000 (a.take (i + 1))) (Exists.intro (fun ⟨j, z, l⟩ => ⟨[(0, .rd .int a), (3, .s (dstr l)), (5, .i .i64 z), (7, .i .i64 a.length), (8, .i .i64 i), (15, .i .i64 j)], []⟩) (Exists.intro (fun y => 4 - y.1) (Exists.intro (0, x, l) (And.intro ⟨by simp, h2, by simp [h3], by simp; omega, by dsimp only; rw [h4, vl_take_succ, hxn, Nat.add_zero, Nat.pow_mul]⟩ (And.intro ?_ ?_)))))))))
      · (repeat' (first | exact trivial | exact Or.inl rfl | exact Or.inl ((congrArg (AV.i .i64) hx)) | refine And.intro ?_ ?_))
      · rintro ⟨j, z, m⟩ ⟨g1, g2, g3, g4, g5⟩
        dsimp only at g1 g2 g3 g4 g5
        refine And.intro (fun hd => ?_) (fun hd => ?_)
        · have hj : j < 4 := by have : (j : Int) < 4 := of_decide_eq_true hd
                                omega
          clear hd
          have hz : z < 10000 := Nat.lt_of_lt_of_le g4 (Nat.pow_le_pow_right (i := 4 - j) (j := 4) (by decide) (by omega))
          have hml : (dstr m).length = 4 * i + j := by rw [dstr_len, g3]
          have he : ofB (IntKind.u8.wrap (48 + (z : Int).tmod 10)) = dch ((z % 10 : Nat) : Int) := by
            rw [tmod10, IntKind.wrap_u8, ofB, dch]
            congr 1
            omega
          refine And.intro (by decide) ?_
          refine And.intro (rng64 (by rw [tmod10]; omega) (by rw [tmod10]; omega)) ?_
          refine And.intro (by show 1 + (dstr m).length ≤ maxLen; unfold maxLen; omega) ?_
          refine And.intro (by decide) ?_
          refine And.intro (rng64 (by rw [tdiv10]; omega) (by rw [tdiv10]; omega)) ?_
          (refine And.intro (rng64 (by omega) (by omega)) ?_)
          refine Exists.intro [] (Exists.intro (j + 1, z / 10, m ++ [((z % 10 : Nat) : Int)]) (And.intro (digits_next hj g2 g3 g4 g5) (And.intro ?_ ?_)))
          · (repeat' (first | exact trivial | exact Or.inl rfl | exact Or.inl ((by rw [dstr_snoc, ← he]; rfl)) | refine And.intro ?_ ?_))
          · show 4 - (j + 1) < 4 - j
            omega
        · have hj : j = 4 := by have : ¬ (j : Int) < 4 := of_decide_eq_false hd
                                omega
          subst hj
          have g4 : z = 0 := by simpa using g4
          subst g4
          rw [Nat.mul_zero, Nat.add_zero] at g5
          (refine And.intro (rng64 (by omega) (by omega)) ?_)
          refine Exists.intro [] (Exists.intro (i + 1, m) (And.intro ⟨hi, g2, by dsimp only; omega, g5⟩ (And.intro ?_ ?_)))
          · (repeat' (first | exact trivial | exact Or.inl rfl | exact Or.inr (Or.inl ⟨rfl, _, rfl⟩) | refine And.intro ?_ ?_))
          · show a.length - (i + 1) < a.length - i
            omega
    · have hi : i = a.length := by have : ¬ (i : Int) < (a.length : Int) := of_decide_eq_false hc
                                   omega
      subst hi
      rw [List.take_length] at h4
      clear hc
      refine Exists.intro [] (Exists.intro [] (Exists.intro [] (Exists.intro Nat (Exists.intro (fun k => k ≤ l.length ∧ ∀ t, k ≤ t → l.getD t 0 = 0) (Exists.intro (fun k => ⟨[(3, .s (dstr (l.take k)))], []⟩) (Exists.intro (fun k => k) (Exists.intro l.length (And.intro ⟨Nat.le_refl _, fun i hi => by rw [List.getD_eq_getElem?_getD, List.getElem?_eq_none hi]; rfl⟩ (And.intro ?_ ?_)))))))))
      · (repeat' (first | exact trivial | exact Or.inl rfl | exact Or.inl ((by rw [List.take_length])) | refine And.intro ?_ ?_))
      · rintro k ⟨hk, hz⟩
        intro hlen; replace hlen := len_le hlen
        have hlk : (l.take k).length = k := by rw [List.length_take]; omega
        refine And.intro (fun hg => ?_) (fun hg => ?_)
        · have hg : 0 < k := by
            have : (0 : Int) < ((dstr (l.take k)).length : Int) := of_decide_eq_true hg
            rw [dstr_len, hlk] at this
            omega
          obtain ⟨j, rfl⟩ : ∃ j, k = j + 1 := ⟨k - 1, by omega⟩
          have hgj := h2.getD (by decide) j
          have hst : dstr (l.take (j + 1)) = dch (l.getD j 0) :: dstr (l.take j) := by
            rw [List.take_add_one, List.getElem?_eq_getElem (by omega), List.getD_eq_getElem?_getD, List.getElem?_eq_getElem (by omega)]
            exact dstr_snoc _ _
          rw [hst]
          refine And.intro ⟨by omega, by simp⟩ ?_
          refine And.intro (fun hq => ?_) (fun hq => ?_)
          · have hq : l.getD j 0 = 0 := by
              have h9 : (((dch (l.getD j 0)).toNat : Int) == 48) = true := hq
              have h9 := eq_of_beq h9
              rw [dch_nat hgj] at h9
              omega
            refine And.intro ⟨by omega, by simp; omega, by simp⟩ ?_
            refine Exists.intro [] (Exists.intro j (And.intro ⟨by omega, zero_below hz hq⟩ (And.intro ?_ ?_)))
            · (repeat' (first | exact trivial | exact Or.inl rfl | exact Or.inl ((by simp)) | refine And.intro ?_ ?_))
            · show j < j + 1
              omega
          · have hq : l.getD j 0 ≠ 0 := by
              intro h0
              have h9 : (((dch (l.getD j 0)).toNat : Int) == 48) = false := hq
              rw [h0] at h9
              exact absurd h9 (by decide)
            have hfin : l.take (j + 1) = dg 10 (vl 10 l) := canonTake (by decide) h2 hk (Or.inr (by simpa using hq)) hz
            refine And.intro (fun h8 => absurd h8 (by simp)) (fun _ => ?_)
            refine congrArg AV.s ?_
            rw [← hst, hfin, h4, decS, if_neg]
            intro h0
            rw [h4, h0] at hfin
            have := congrArg List.length hfin
            rw [hlk] at this
            simp at this
        · have hk0 : k = 0 := by
            have : ¬ (0 : Int) < ((dstr (l.take k)).length : Int) := of_decide_eq_false hg
            rw [dstr_len, hlk] at this
            omega
          subst hk0
          have hfin : l.take 0 = dg 10 (vl 10 l) := canonTake (by decide) h2 (Nat.zero_le _) (Or.inl rfl) hz
          have h0 : vl 10000 a = 0 := by rw [← h4]; exact (dg_nil_iff (by decide) _).1 hfin.symm
          refine And.intro (fun h8 => absurd h8 (by simp)) (fun _ => ?_)
          refine And.intro (fun h8 => ?_) (fun h8 => absurd h8 (by simp [dstr]))
          refine congrArg AV.s ?_
          rw [h0]
          rfl
theorem s_digits (a : List Int) (ha : Dg 10000 a) (hla : a.length ≤ 1000000) : PSpec Try.prog 41 [.rd .int a] (.s (decS (vl 10000 a))) :=
  pspec_of_vc Γ_good Try.func41 rfl Try.call41 Try.results41 Try.ntmps41 (Nat.le_of_ble_eq_true rfl) (w_digits a ha hla)
end
end Go.Proofs.Ytjlbaagnoppfgaa
