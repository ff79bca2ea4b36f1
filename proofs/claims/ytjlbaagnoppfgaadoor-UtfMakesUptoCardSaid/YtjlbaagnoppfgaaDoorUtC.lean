/-
  A part of the proof that 'typecaselaw.UtfTells' returns true: bad places, codes, runes. No conditions.
-/
import Derived.Test.YtjlbaagnoppfgaaDoorUtB
import Derived.Test.YtjlbaagnoppfgaaDoorUtfLaw2
namespace Go.Proofs.YtjlbaagnoppfgaaDoor
set_option linter.unusedSectionVars false
set_option linter.unusedSimpArgs false
set_option linter.unusedVariables false
open Go Go.SX Go.Ut Go.RowKit
set_option maxRecDepth 100000
set_option maxHeartbeats 0
section
variable [G : Globs]
theorem w_one (n : Int) : vc Tryd.prog Γ 7 [0, 2] (Tryd.f34.body.getD .skip) (postK Γ [.tmp 2] (fun v => v = .s [eb n])) ⟨argSlots 0 [.i .i64 n], []⟩ := by
  show _ = _
  rfl
theorem s_one (n : Int) : PSpec Tryd.prog 34 [.i .i64 n] (.s [eb n]) :=
  pspec_of_vc Γ_good Tryd.func34 rfl Tryd.call34 Tryd.results34 Tryd.ntmps34 (Nat.le_of_ble_eq_true rfl) (w_one n)
theorem w_CodeOf (n : Int) (h : scalar n) : vc Tryd.prog Γ 70 [0, 2, 3, 4, 10, 24] (Tryd.f10.body.getD .skip) (postK Γ [.tmp 2] (fun v => v = .s (encS n))) ⟨argSlots 0 [.i .i64 n], []⟩ := by
  unfold scalar at h
  have d1 : n.tdiv 64 = n / 64 := Int.tdiv_eq_ediv_of_nonneg h.1
  have d2 : n.tdiv 4096 = n / 4096 := Int.tdiv_eq_ediv_of_nonneg h.1
  have d3 : n.tdiv 262144 = n / 262144 := Int.tdiv_eq_ediv_of_nonneg h.1
  have m1 : n.tmod 64 = n % 64 := Int.tmod_eq_emod_of_nonneg h.1
  have m2 : (n / 64).tmod 64 = (n / 64) % 64 := Int.tmod_eq_emod_of_nonneg (by omega)
  have m3 : (n / 4096).tmod 64 = (n / 4096) % 64 := Int.tmod_eq_emod_of_nonneg (by omega)
  refine And.intro (fun h1 => ?_) (fun h1 => ?_)
  · have h1 : n < 128 := of_decide_eq_true h1
    have e : encS n = [eb n] := by unfold encS; rw [if_pos h1]
    refine Or.inl (Exists.intro _ (And.intro (s_one n) ?_))
    rw [e]
    rfl
  · have h1 : ¬ n < 128 := of_decide_eq_false h1
    refine And.intro (fun h2 => ?_) (fun h2 => ?_)
    · have h2 : n < 2048 := of_decide_eq_true h2
      have e : encS n = [eb (192 + n.tdiv 64)] ++ [eb (128 + n.tmod 64)] := by unfold encS; rw [if_neg h1, if_pos h2]
      refine And.intro (by decide) ?_
      refine And.intro ⟨by rw [d1]; omega, by rw [d1]; omega⟩ ?_
      refine And.intro ⟨by rw [d1]; omega, by rw [d1]; omega⟩ ?_
      refine Or.inl (Exists.intro _ (And.intro (s_one (192 + n.tdiv 64)) ?_))
      refine And.intro (by decide) ?_
      refine And.intro ⟨by rw [m1]; omega, by rw [m1]; omega⟩ ?_
      refine Or.inl (Exists.intro _ (And.intro (s_one (128 + n.tmod 64)) ?_))
      refine And.intro (by show 1 + 1 ≤ maxLen; unfold maxLen; omega) ?_
      rw [e]
      rfl
    · have h2 : ¬ n < 2048 := of_decide_eq_false h2
      refine And.intro (fun h3 => ?_) (fun h3 => ?_)
      · have h3 : n < 65536 := of_decide_eq_true h3
        have e : encS n = ([eb (224 + n.tdiv 4096)] ++ [eb (128 + (n.tdiv 64).tmod 64)]) ++ [eb (128 + n.tmod 64)] := by unfold encS; rw [if_neg h1, if_neg h2, if_pos h3]
        refine And.intro (by decide) ?_
        refine And.intro ⟨by rw [d2]; omega, by rw [d2]; omega⟩ ?_
        refine And.intro ⟨by rw [d2]; omega, by rw [d2]; omega⟩ ?_
        refine Or.inl (Exists.intro _ (And.intro (s_one (224 + n.tdiv 4096)) ?_))
        refine And.intro (by decide) ?_
        refine And.intro ⟨by rw [d1]; omega, by rw [d1]; omega⟩ ?_
        refine And.intro (by decide) ?_
        refine And.intro ⟨by rw [d1, m2]; omega, by rw [d1, m2]; omega⟩ ?_
        refine Or.inl (Exists.intro _ (And.intro (s_one (128 + (n.tdiv 64).tmod 64)) ?_))
        refine And.intro (by show 1 + 1 ≤ maxLen; unfold maxLen; omega) ?_
        refine And.intro (by decide) ?_
        refine And.intro ⟨by rw [m1]; omega, by rw [m1]; omega⟩ ?_
        refine Or.inl (Exists.intro _ (And.intro (s_one (128 + n.tmod 64)) ?_))
        refine And.intro (by show 2 + 1 ≤ maxLen; unfold maxLen; omega) ?_
        rw [e]
        rfl
      · have h3 : ¬ n < 65536 := of_decide_eq_false h3
        have e : encS n = (([eb (240 + n.tdiv 262144)] ++ [eb (128 + (n.tdiv 4096).tmod 64)]) ++ [eb (128 + (n.tdiv 64).tmod 64)]) ++ [eb (128 + n.tmod 64)] := by unfold encS; rw [if_neg h1, if_neg h2, if_neg h3]
        refine And.intro (by decide) ?_
        refine And.intro ⟨by rw [d3]; omega, by rw [d3]; omega⟩ ?_
        refine And.intro ⟨by rw [d3]; omega, by rw [d3]; omega⟩ ?_
        refine Or.inl (Exists.intro _ (And.intro (s_one (240 + n.tdiv 262144)) ?_))
        refine And.intro (by decide) ?_
        refine And.intro ⟨by rw [d2]; omega, by rw [d2]; omega⟩ ?_
        refine And.intro (by decide) ?_
        refine And.intro ⟨by rw [d2, m3]; omega, by rw [d2, m3]; omega⟩ ?_
        refine Or.inl (Exists.intro _ (And.intro (s_one (128 + (n.tdiv 4096).tmod 64)) ?_))
        refine And.intro (by show 1 + 1 ≤ maxLen; unfold maxLen; omega) ?_
        refine And.intro (by decide) ?_
        refine And.intro ⟨by rw [d1]; omega, by rw [d1]; omega⟩ ?_
        refine And.intro (by decide) ?_
        refine And.intro ⟨by rw [d1, m2]; omega, by rw [d1, m2]; omega⟩ ?_
        refine Or.inl (Exists.intro _ (And.intro (s_one (128 + (n.tdiv 64).tmod 64)) ?_))
        refine And.intro (by show 2 + 1 ≤ maxLen; unfold maxLen; omega) ?_
        refine And.intro (by decide) ?_
        refine And.intro ⟨by rw [m1]; omega, by rw [m1]; omega⟩ ?_
        refine Or.inl (Exists.intro _ (And.intro (s_one (128 + n.tmod 64)) ?_))
        refine And.intro (by show 3 + 1 ≤ maxLen; unfold maxLen; omega) ?_
        rw [e]
        rfl
theorem s_CodeOf (n : Int) (h : scalar n) : PSpec Tryd.prog 10 [.i .i64 n] (.s (encS n)) :=
  pspec_of_vc Γ_good Tryd.func10 rfl Tryd.call10 Tryd.results10 Tryd.ntmps10 (Nat.le_of_ble_eq_true rfl) (w_CodeOf n h)
theorem w_BadPlace (s : Str) : vc Tryd.prog Γ 23 [0, 2, 3, 4, 5, 9, 18] (Tryd.f12.body.getD .skip) (postK Γ [.tmp 2] (fun v => v = .i .i64 (bad s))) ⟨argSlots 0 [.s s], []⟩ := by
  refine Exists.intro [] (Exists.intro [] (Exists.intro [] (Exists.intro Nat (Exists.intro (fun i => i ≤ s.length ∧ badFrom s i = bad s) (Exists.intro (fun i => ⟨[(0, .s s), (3, .i .i64 i)], []⟩) (Exists.intro (fun i => s.length - i) (Exists.intro 0 (And.intro ⟨Nat.zero_le _, rfl⟩ (And.intro ?_ ?_)))))))))
  · (repeat' (first | exact trivial | exact Or.inl rfl | refine And.intro ?_ ?_))
  · rintro i ⟨hi, heq⟩
    intro hml
    unfold maxLen at hml
    refine And.intro (fun hc => ?_) (fun hc => ?_)
    · have hk : i < s.length := by have : (i : Int) < s.length := of_decide_eq_true hc; omega
      rw [bad_step hk] at heq
      have hp := dec_pos s i
      have hle := dec_le hk
      have ht : (s.take (Int.toNat (s.length : Int))).drop (Int.toNat i) = s.drop i := by simp only [Int.toNat_natCast, List.take_length]
      have qc := s_Code (s.drop i)
      unfold codeR at qc
      rw [code_at hk] at qc
      refine And.intro ⟨by omega, by omega, Int.le_refl _⟩ ?_
      rw [ht]
      by_cases hb : (decAt s i).1 = 65533 ∧ (decAt s i).2 = 1
      · rw [if_pos hb] at qc heq
        refine Or.inl (Exists.intro _ (And.intro (qc) ?_))
        (focus (refine And.intro ?_ (fun h9 => ?_); rotate_left 1; (focus (exfalso; revert h9; first | decide | (simp <;> omega) | (intro h9; simp at h9 <;> omega))); refine fun _ => ?_))
        exact congrArg (AV.i .i64) heq
      · rw [if_neg hb] at qc heq
        refine Or.inl (Exists.intro _ (And.intro (qc) ?_))
        refine And.intro (fun h9 => absurd (of_decide_eq_true h9) (by simp only; omega)) (fun _ => ?_)
        refine And.intro ⟨by simp only; omega, by simp only; omega⟩ ?_
        refine Exists.intro [] (Exists.intro (i + (decAt s i).2) (And.intro ⟨hle, heq⟩ (And.intro ?_ ?_)))
        · (repeat' (first | exact trivial | exact Or.inl rfl | refine And.intro ?_ ?_))
        · show s.length - (i + (decAt s i).2) < s.length - i
          omega
    · have hk : s.length ≤ i := by have : ¬ (i : Int) < s.length := of_decide_eq_false hc; omega
      rw [bad_end hk] at heq
      exact congrArg (AV.i .i64) heq
theorem s_BadPlace (s : Str) : PSpec Tryd.prog 12 [.s s] (.i .i64 (bad s)) :=
  pspec_of_vc Γ_good Tryd.func12 rfl Tryd.call12 Tryd.results12 Tryd.ntmps12 (Nat.le_of_ble_eq_true rfl) (w_BadPlace s)
theorem w_Bad (hu : HasU8) (s : Str) : vc Tryd.prog Γ 25 [0, 2, 3, 4, 6, 8, 9, 10, 14, 23] (Tryd.f14.body.getD .skip) (postK Γ [.tmp 2] (fun v => v = .i .i64 (bad s))) ⟨argSlots 0 [.s s], []⟩ := by
  refine Exists.intro [] (Exists.intro [] (Exists.intro [] (Exists.intro Nat (Exists.intro (fun i => i ≤ s.length ∧ badFrom s i = bad s) (Exists.intro (fun i => ⟨[(0, .s s), (8, .ob 8 8 (.it s i))], []⟩) (Exists.intro (fun i => s.length - i) (Exists.intro 0 (And.intro ⟨Nat.zero_le _, rfl⟩ (And.intro ?_ ?_)))))))))
  · (repeat' (first | exact trivial | exact Or.inl rfl | refine And.intro ?_ ?_))
  · rintro i ⟨hi, heq⟩
    refine And.intro (fun hk => ?_) (fun hk => ?_)
    · rw [bad_step hk] at heq
      have hp := dec_pos s i
      have hle := dec_le hk
      have ht : (s.take (Int.toNat (s.length : Int))).drop (Int.toNat i) = s.drop i := by simp only [Int.toNat_natCast, List.take_length]
      have qc := s_Next hu (s.drop i)
      unfold codeR at qc
      rw [code_at hk] at qc
      (focus (refine And.intro ?_ (fun h9 => ?_); rotate_left 1; (focus (exfalso; revert h9; first | decide | (simp <;> omega) | (intro h9; simp at h9 <;> omega))); refine fun _ => ?_))
      refine And.intro (fun h1 => ?_) (fun h1 => ?_)
      · have h1 : (decAt s i).1 = 65533 := by have := eq_of_beq h1; omega
        refine And.intro ⟨by omega, by omega, Int.le_refl _⟩ ?_
        rw [ht]
        by_cases hb : (decAt s i).1 = 65533 ∧ (decAt s i).2 = 1
        · rw [if_pos hb] at qc heq
          refine Or.inl (Exists.intro _ (And.intro (qc) ?_))
          (focus (refine And.intro ?_ (fun h9 => ?_); rotate_left 1; (focus (exfalso; revert h9; first | decide | (simp <;> omega) | (intro h9; simp at h9 <;> omega))); refine fun _ => ?_))
          exact congrArg (AV.i .i64) heq
        · rw [if_neg hb] at qc heq
          refine Or.inl (Exists.intro _ (And.intro (qc) ?_))
          have h2 : (decAt s i).2 ≠ 1 := fun e => hb ⟨h1, e⟩
          refine And.intro (fun h9 => absurd (eq_of_beq h9) (by simp only; omega)) (fun _ => ?_)
          refine Exists.intro [] (Exists.intro (i + (decAt s i).2) (And.intro ⟨hle, heq⟩ (And.intro ?_ ?_)))
          · (repeat' (first | exact trivial | exact Or.inl rfl | refine And.intro ?_ ?_))
          · show s.length - (i + (decAt s i).2) < s.length - i
            omega
      · have h1 : (decAt s i).1 ≠ 65533 := by have := ne_of_beq_false h1; omega
        rw [if_neg (fun h => h1 h.1)] at heq
        refine Exists.intro [] (Exists.intro (i + (decAt s i).2) (And.intro ⟨hle, heq⟩ (And.intro ?_ ?_)))
        · (repeat' (first | exact trivial | exact Or.inl rfl | refine And.intro ?_ ?_))
        · show s.length - (i + (decAt s i).2) < s.length - i
          omega
    · rw [bad_end (by omega)] at heq
      (focus (refine And.intro (fun h9 => ?_) ?_; (focus (exfalso; revert h9; first | decide | (simp <;> omega) | (intro h9; simp at h9 <;> omega))); refine fun _ => ?_))
      exact congrArg (AV.i .i64) heq
theorem s_Bad (hu : HasU8) (s : Str) : PSpec Tryd.prog 14 [.s s] (.i .i64 (bad s)) :=
  pspec_of_vc Γ_good Tryd.func14 rfl Tryd.call14 Tryd.results14 Tryd.ntmps14 (Nat.le_of_ble_eq_true rfl) (w_Bad hu s)
theorem w_Runes (hu : HasU8) (s : Str) (hs : s.length ≤ 1048576) : vc Tryd.prog Γ 9 [0, 2, 3, 6] (Tryd.f11.body.getD .skip) (postK Γ [.tmp 2, .tmp 3] (fun v => v = if 0 ≤ bad s then .tup [.nl, .i .i64 3] else .tup [.rd .rune (runes s), .i .i64 0])) ⟨argSlots 0 [.s s], []⟩ := by
  refine Or.inl (Exists.intro _ (And.intro (s_Bad hu s) ?_))
  refine And.intro (fun h => ?_) (fun h => ?_)
  · have h : 0 ≤ bad s := of_decide_eq_true h
    rw [if_pos h]
    rfl
  · have h : ¬ 0 ≤ bad s := of_decide_eq_false h
    rw [if_neg h]
    refine And.intro (by omega) ?_
    rfl
theorem s_Runes (hu : HasU8) (s : Str) (hs : s.length ≤ 1048576) : PSpec Tryd.prog 11 [.s s] (if 0 ≤ bad s then .tup [.nl, .i .i64 3] else .tup [.rd .rune (runes s), .i .i64 0]) :=
  pspec_of_vc Γ_good Tryd.func11 rfl Tryd.call11 Tryd.results11 Tryd.ntmps11 (Nat.le_of_ble_eq_true rfl) (w_Runes hu s hs)
theorem w_eqRune (l : List Int) : vc Tryd.prog Γ 26 [0, 1, 4, 5, 10, 12, 13, 14, 24] (Tryd.f15.body.getD .skip) (postK Γ [.tmp 4] (fun v => v = .b true)) ⟨argSlots 0 [.rd .rune l, .rd .rune l], []⟩ := by
  intro _ _
  (focus (refine And.intro (fun h9 => ?_) ?_; (focus (exfalso; revert h9; first | decide | (simp <;> omega) | (intro h9; simp at h9 <;> omega))); refine fun _ => ?_))
  intro hl
  refine Exists.intro [] (Exists.intro [] (Exists.intro [] (Exists.intro Nat (Exists.intro (fun k => k ≤ l.length) (Exists.intro (fun k => ⟨[(0, .rd .rune l), (1, .rd .rune l), (12, .i .i64 l.length), (13, .i .i64 k)], []⟩) (Exists.intro (fun k => l.length - k) (Exists.intro 0 (And.intro (Nat.zero_le _) (And.intro ?_ ?_)))))))))
  · (repeat' (first | exact trivial | exact Or.inl rfl | refine And.intro ?_ ?_))
  · intro k hk0
    refine And.intro (fun h => ?_) (fun h => ?_)
    · have hk : k < l.length := by have : (k : Int) < l.length := of_decide_eq_true h; omega
      refine Exists.intro [.blk [0, 1, 2, 3, 4, 5, 6, 7, 8]] (And.intro (by kernel_rfl) ?_)
      refine And.intro ⟨by omega, by omega⟩ ?_
      refine And.intro ⟨by omega, by omega⟩ ?_
      (focus (refine And.intro (fun h9 => ?_) ?_; (focus (exfalso; revert h9; first | decide | (simp <;> omega) | (intro h9; simp at h9 <;> omega))); refine fun _ => ?_))
      unfold maxLen at hl
      refine And.intro ⟨by omega, by omega⟩ ?_
      refine Exists.intro [] (Exists.intro (k + 1) (And.intro hk (And.intro ?_ ?_)))
      · (repeat' (first | exact trivial | exact Or.inl rfl | refine And.intro ?_ ?_))
      · show l.length - (k + 1) < l.length - k
        omega
    · show _ = _
      rfl
theorem s_eqRune (l : List Int) : PSpec Tryd.prog 15 [.rd .rune l, .rd .rune l] (.b true) :=
  pspec_of_vc Γ_good Tryd.func15 rfl Tryd.call15 Tryd.results15 Tryd.ntmps15 (Nat.le_of_ble_eq_true rfl) (w_eqRune l)
theorem bad_range {s : Str} {i : Nat} (h : badFrom s i < 0) (hk : i < s.length) : ¬ ((decAt s i).1 = 65533 ∧ (decAt s i).2 = 1) ∧ badFrom s (i + (decAt s i).2) < 0 := by
  rw [bad_step hk] at h
  by_cases hb : (decAt s i).1 = 65533 ∧ (decAt s i).2 = 1
  · rw [if_pos hb] at h; omega
  · rw [if_neg hb] at h; exact ⟨hb, h⟩
theorem w_Scalars (s : Str) (hs : s.length ≤ 1048576) (hb : bad s < 0) : vc Tryd.prog Γ 22 [0, 2, 3, 4, 5, 8] (Tryd.f16.body.getD .skip) (postK Γ [.tmp 2] (fun v => v = .rd .rune (runes s))) ⟨argSlots 0 [.s s], []⟩ := by
  refine Exists.intro [(3, 30, .rune)] (Exists.intro [] (Exists.intro [] (Exists.intro (List Int × Nat) (Exists.intro (fun x => x.2 ≤ s.length ∧ x.1.length ≤ x.2 ∧ badFrom s x.2 < 0 ∧ x.1 ++ runesFrom s x.2 = runes s) (Exists.intro (fun ⟨out, i⟩ => ⟨[(0, .s (s.drop i)), (3, .vec 30 .rune out)], []⟩) (Exists.intro (fun x => s.length - x.2) (Exists.intro ([], 0) (And.intro ⟨Nat.zero_le _, Nat.le_refl _, hb, rfl⟩ (And.intro ?_ ?_)))))))))
  · (repeat' (first | exact trivial | exact Or.inl rfl | refine And.intro ?_ ?_))
  · rintro ⟨out, i⟩ ⟨hi, hol, hbi, heq⟩
    simp only at hi hol hbi heq
    have hdl : (s.drop i).length = s.length - i := List.length_drop ..
    intro _
    refine And.intro (fun hc => ?_) (fun hc => ?_)
    · have hk : i < s.length := by have : (0 : Int) < (s.drop i).length := of_decide_eq_true hc; omega
      obtain ⟨hnb, hbn⟩ := bad_range hbi hk
      have hp := dec_pos s i
      have hle := dec_le hk
      have qc := s_Code (s.drop i)
      unfold codeR at qc
      rw [code_at hk, if_neg hnb] at qc
      rw [runes_step hk, ← List.singleton_append, ← List.append_assoc] at heq
      refine Or.inl (Exists.intro _ (And.intro (qc) ?_))
      refine And.intro (by show (out.length + 1) * 4 ≤ _; omega) ?_
      refine And.intro ⟨by simp only; omega, by simp only; omega, Int.le_refl _⟩ ?_
      have ht : ((s.drop i).take (Int.toNat ((s.drop i).length : Int))).drop (Int.toNat ((decAt s i).2 : Int)) = s.drop (i + (decAt s i).2) := by simp only [Int.toNat_natCast, List.take_length, List.drop_drop]
      rw [ht]
      refine Exists.intro [(17, 30)] (Exists.intro (out ++ [((decAt s i).1 : Int)], i + (decAt s i).2) (And.intro ⟨hle, by show (out ++ [_]).length ≤ _; rw [List.length_append, List.length_singleton]; show out.length + 1 ≤ i + (decAt s i).2; omega, hbn, heq⟩ (And.intro ?_ ?_)))
      · (repeat' (first | exact trivial | exact Or.inl rfl | refine And.intro ?_ ?_))
      · show s.length - (i + (decAt s i).2) < s.length - i
        omega
    · have hk : s.length ≤ i := by have : ¬ (0 : Int) < (s.drop i).length := of_decide_eq_false hc; omega
      rw [runes_end hk, List.append_nil] at heq
      rw [← heq]
      show _ = _
      rfl
theorem s_Scalars (s : Str) (hs : s.length ≤ 1048576) (hb : bad s < 0) : PSpec Tryd.prog 16 [.s s] (.rd .rune (runes s)) :=
  pspec_of_vc Γ_good Tryd.func16 rfl Tryd.call16 Tryd.results16 Tryd.ntmps16 (Nat.le_of_ble_eq_true rfl) (w_Scalars s hs hb)
end
end Go.Proofs.YtjlbaagnoppfgaaDoor
