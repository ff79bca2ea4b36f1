/-
  A part of the proof that 'typecaselaw.TokCuts' returns true: runs of bytes, of the document. No conditions.
-/
import Derived.Test.YtjlbaagnoppfgaaTokA
namespace Go.Proofs.Ytjlbaagnoppfgaa
set_option linter.unusedSectionVars false
set_option linter.unusedSimpArgs false
set_option linter.unusedVariables false
open Go Go.SX Go.Tk
set_option maxRecDepth 100000
set_option maxHeartbeats 0
def oneN (n : Int) : Str → Bool
  | [] => false
  | x :: r => decide (by8 x = n) || oneN n r
theorem oneN_step {n : Int} {s : Str} {k : Nat} (hk : k < s.length) : oneN n (s.drop k) = (decide (by8 (s.getD k 0) = n) || oneN n (s.drop (k + 1))) := by
  rw [List.drop_eq_getElem_cons hk, oneN]
  simp [List.getD_eq_getElem?_getD, List.getElem?_eq_getElem hk]
theorem oneN_blank (n : Int) : oneN n [32, 9, 13] = decide (blankc n) := by
  have h1 : by8 32 = 32 := rfl
  have h2 : by8 9 = 9 := rfl
  have h3 : by8 13 = 13 := rfl
  rw [Bool.eq_iff_iff]
  simp only [oneN, Bool.or_eq_true, decide_eq_true_eq, Bool.false_eq_true, or_false]
  unfold blankc
  (constructor <;> intro h9 <;> (try (exfalso; exact h9)) <;> omega)
theorem oneN_mark (n : Int) : oneN n [123, 125, 91, 93, 58, 61, 44] = decide (markc n) := by
  have h1 : by8 123 = 123 := rfl
  have h2 : by8 125 = 125 := rfl
  have h3 : by8 91 = 91 := rfl
  have h4 : by8 93 = 93 := rfl
  have h5 : by8 58 = 58 := rfl
  have h6 : by8 61 = 61 := rfl
  have h7 : by8 44 = 44 := rfl
  rw [Bool.eq_iff_iff]
  simp only [oneN, Bool.or_eq_true, decide_eq_true_eq, Bool.false_eq_true, or_false]
  unfold markc
  (constructor <;> intro h9 <;> (try (exfalso; exact h9)) <;> omega)
theorem oneN_word (n : Int) : oneN n [95, 45, 43, 46] = decide (n = 95 ∨ n = 45 ∨ n = 43 ∨ n = 46) := by
  have h1 : by8 95 = 95 := rfl
  have h2 : by8 45 = 45 := rfl
  have h3 : by8 43 = 43 := rfl
  have h4 : by8 46 = 46 := rfl
  rw [Bool.eq_iff_iff]
  simp only [oneN, Bool.or_eq_true, decide_eq_true_eq, Bool.false_eq_true, or_false]
  (constructor <;> intro h9 <;> (try (exfalso; exact h9)) <;> omega)
section
variable [G : Globs]
theorem w_oneOf (n : Int) (l : Str) (hl : l.length ≤ 1000000) : vc Try.prog Γ 17 [0, 1, 4, 5, 9, 16] (Try.f121.body.getD .skip) (postK Γ [.tmp 4] (fun v => v = .b (oneN n l))) ⟨argSlots 0 [.i .u8 n, .s l], []⟩ := by
  refine Exists.intro [] (Exists.intro [] (Exists.intro [] (Exists.intro Nat (Exists.intro (fun k => k ≤ l.length ∧ oneN n (l.drop k) = oneN n l) (Exists.intro (fun k => ⟨[(0, .i .u8 n), (1, .s l), (5, .i .i64 k)], []⟩) (Exists.intro (fun k => l.length - k) (Exists.intro 0 (And.intro ⟨Nat.zero_le _, rfl⟩ (And.intro ?_ ?_)))))))))
  · (repeat' (first | exact trivial | exact Or.inl rfl | refine And.intro ?_ ?_))
  · rintro k ⟨hk0, heq⟩
    intro _
    refine And.intro (fun hc => ?_) (fun hc => ?_)
    · have hk : k < l.length := by have : (k : Int) < l.length := of_decide_eq_true hc; omega
      rw [oneN_step hk] at heq
      refine And.intro ⟨by omega, by omega⟩ ?_
      refine And.intro (fun hq => ?_) (fun hq => ?_)
      · have hq : by8 (l.getD k 0) = n := by simpa [by8] using hq
        refine congrArg AV.b ?_
        rw [← heq, decide_eq_true hq]
        rfl
      · have hq : ¬ by8 (l.getD k 0) = n := by simpa [by8] using hq
        refine And.intro ⟨by omega, by omega⟩ ?_
        refine Exists.intro [] (Exists.intro (k + 1) (And.intro ⟨hk, by rw [← heq, decide_eq_false hq]; rfl⟩ (And.intro ?_ ?_)))
        · (repeat' (first | exact trivial | exact Or.inl rfl | refine And.intro ?_ ?_))
        · show l.length - (k + 1) < l.length - k
          omega
    · have hk : k = l.length := by have : ¬ (k : Int) < l.length := of_decide_eq_false hc; omega
      subst hk
      rw [List.drop_length, oneN] at heq
      exact congrArg AV.b heq
theorem s_oneOf (n : Int) (l : Str) (hl : l.length ≤ 1000000) : PSpec Try.prog 121 [.i .u8 n, .s l] (.b (oneN n l)) :=
  pspec_of_vc Γ_good Try.func121 rfl Try.call121 Try.results121 Try.ntmps121 (Nat.le_of_ble_eq_true rfl) (w_oneOf n l hl)
theorem w_run (s : Str) (g : Nat) (p : Int → Bool) (hs : s.length ≤ 1000000) (hg : ∀ x : Int, 0 ≤ x → x ≤ 255 → PSpec Try.prog g [.i .u8 x] (.b (p x))) : vc Try.prog Γ 20 [0, 1, 4, 5, 16] (Try.f119.body.getD .skip) (postK Γ [.tmp 4] (fun v => v = .i .i64 (frontN p s))) ⟨argSlots 0 [.s s, .fn g []], []⟩ := by
  refine Exists.intro [] (Exists.intro [] (Exists.intro [] (Exists.intro Nat (Exists.intro (fun k => k ≤ s.length ∧ k + frontN p (s.drop k) = frontN p s) (Exists.intro (fun k => ⟨[(0, .s s), (1, .fn g []), (5, .i .i64 k)], []⟩) (Exists.intro (fun k => s.length - k) (Exists.intro 0 (And.intro ⟨Nat.zero_le _, by simp⟩ (And.intro ?_ ?_)))))))))
  · (repeat' (first | exact trivial | exact Or.inl rfl | refine And.intro ?_ ?_))
  · rintro k ⟨hk0, heq⟩
    intro _
    refine And.intro (fun hc => ?_) (fun hc => ?_)
    · have hk : k < s.length := by have : (k : Int) < s.length := of_decide_eq_true hc; omega
      rw [frontN_step hk] at heq
      refine And.intro ⟨by omega, by omega⟩ ?_
      have hb := by8_rng (s.getD k 0)
      refine Or.inl (Exists.intro _ (And.intro (hg (by8 (s.getD k 0)) hb.1 hb.2) ?_))
      refine And.intro (fun hq => ?_) (fun hq => ?_)
      · have hq : p (by8 (s.getD k 0)) = true := by simpa [hc] using hq
        rw [if_pos hq] at heq
        refine And.intro ⟨by omega, by omega⟩ ?_
        refine Exists.intro [] (Exists.intro (k + 1) (And.intro ⟨hk, by omega⟩ (And.intro ?_ ?_)))
        · (repeat' (first | exact trivial | exact Or.inl rfl | refine And.intro ?_ ?_))
        · show s.length - (k + 1) < s.length - k
          omega
      · have hq : p (by8 (s.getD k 0)) = false := by simpa [hc] using hq
        rw [if_neg (by rw [hq]; decide)] at heq
        refine congrArg (AV.i .i64) ?_
        omega
    · have hk : k = s.length := by have : ¬ (k : Int) < s.length := of_decide_eq_false hc; omega
      subst hk
      rw [frontN_end (Nat.le_refl _)] at heq
      refine And.intro (fun h9 => absurd h9 (by simp)) (fun _ => ?_)
      refine congrArg (AV.i .i64) ?_
      omega
theorem s_run (s : Str) (g : Nat) (p : Int → Bool) (hs : s.length ≤ 1000000) (hg : ∀ x : Int, 0 ≤ x → x ≤ 255 → PSpec Try.prog g [.i .u8 x] (.b (p x))) : PSpec Try.prog 119 [.s s, .fn g []] (.i .i64 (frontN p s)) :=
  pspec_of_vc Γ_good Try.func119 rfl Try.call119 Try.results119 Try.ntmps119 (Nat.le_of_ble_eq_true rfl) (w_run s g p hs hg)
def lett (n : Int) : Prop := (97 ≤ n ∧ n ≤ 122) ∨ (65 ≤ n ∧ n ≤ 90)
instance (n : Int) : Decidable (lett n) := by unfold lett; infer_instance
theorem w_letter (n : Int) : vc Try.prog Γ 17 [0, 2] (Try.f124.body.getD .skip) (postK Γ [.tmp 2] (fun v => v = .b (decide (lett n)))) ⟨argSlots 0 [.i .u8 n], []⟩ := by
  repeat' (refine And.intro (fun h => ?_) (fun h => ?_) <;> (try simp [-List.getD_eq_getElem?_getD, -Int.pred_toNat] at h))
  all_goals
    refine congrArg AV.b ?_
    rw [Bool.eq_iff_iff]
    simp only [cond_true, cond_false, decide_eq_true_eq, Bool.false_eq_true, true_iff, false_iff]
    unfold lett
    first | omega | (constructor <;> intro h9 <;> (try (exfalso; exact h9)) <;> omega)
theorem s_letter (n : Int) : PSpec Try.prog 124 [.i .u8 n] (.b (decide (lett n))) :=
  pspec_of_vc Γ_good Try.func124 rfl Try.call124 Try.results124 Try.ntmps124 (Nat.le_of_ble_eq_true rfl) (w_letter n)
theorem w_f1 (n : Int) : vc Try.prog Γ 5 [0, 2] (Try.f120.body.getD .skip) (postK Γ [.tmp 2] (fun v => v = .b (decide (blankc n)))) ⟨argSlots 0 [.i .u8 n], []⟩ := by
  have h := s_oneOf n [32, 9, 13] (by decide)
  rw [oneN_blank] at h
  refine Or.inl (Exists.intro _ (And.intro (h) ?_))
  show _ = _
  rfl
theorem s_f1 (n : Int) : PSpec Try.prog 120 [.i .u8 n] (.b (decide (blankc n))) :=
  pspec_of_vc Γ_good Try.func120 rfl Try.call120 Try.results120 Try.ntmps120 (Nat.le_of_ble_eq_true rfl) (w_f1 n)
theorem w_f2 (n : Int) : vc Try.prog Γ 5 [0, 2] (Try.f122.body.getD .skip) (postK Γ [.tmp 2] (fun v => v = .b (decide (n ≠ 10)))) ⟨argSlots 0 [.i .u8 n], []⟩ := by
  show _ = _
  refine congrArg AV.b ?_
  rw [Bool.eq_iff_iff]
  simp
theorem s_f2 (n : Int) : PSpec Try.prog 122 [.i .u8 n] (.b (decide (n ≠ 10))) :=
  pspec_of_vc Γ_good Try.func122 rfl Try.call122 Try.results122 Try.ntmps122 (Nat.le_of_ble_eq_true rfl) (w_f2 n)
theorem w_f3 (n : Int) : vc Try.prog Γ 17 [0, 2] (Try.f123.body.getD .skip) (postK Γ [.tmp 2] (fun v => v = .b (decide (wordc n)))) ⟨argSlots 0 [.i .u8 n], []⟩ := by
  have q0 := s_oneOf n [95, 45, 43, 46] (by decide)
  rw [oneN_word] at q0
  refine Or.inl (Exists.intro _ (And.intro (s_letter n) ?_))
  repeat' (first | (refine And.intro (fun h => ?_) (fun h => ?_) <;> (try simp [-List.getD_eq_getElem?_getD, -Int.pred_toNat] at h)) | (refine Or.inl (Exists.intro _ (And.intro q0 ?_))))
  all_goals
    refine congrArg AV.b ?_
    rw [Bool.eq_iff_iff]
    simp only [cond_true, cond_false, decide_eq_true_eq, Bool.false_eq_true, true_iff, false_iff]
    unfold lett at *
    unfold wordc
    first | omega | (constructor <;> intro h9 <;> (try (exfalso; exact h9)) <;> omega)
theorem s_f3 (n : Int) : PSpec Try.prog 123 [.i .u8 n] (.b (decide (wordc n))) :=
  pspec_of_vc Γ_good Try.func123 rfl Try.call123 Try.results123 Try.ntmps123 (Nat.le_of_ble_eq_true rfl) (w_f3 n)
end
end Go.Proofs.Ytjlbaagnoppfgaa
