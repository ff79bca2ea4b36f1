/-
  A part of the proof that 'typecaselaw.UtfMakes' returns true: a text out of runes, a text cleaned. No conditions.
-/
import Derived.Test.YtjlbaagnoppfgaaDoorUtC
import Derived.Test.YtjlbaagnoppfgaaDoorSbRune
import Derived.Test.YtjlbaagnoppfgaaDoorUtfLaw3
namespace Go.Proofs.YtjlbaagnoppfgaaDoor
set_option linter.unusedSectionVars false
set_option linter.unusedSimpArgs false
set_option linter.unusedVariables false
open Go Go.SX Go.Ut Go.RowKit
set_option maxRecDepth 100000
set_option maxHeartbeats 0
theorem size0 (n : Int) : sizeR n = 0 ↔ ¬ scalar n := by
  unfold sizeR
  by_cases h : scalar n
  · rw [if_pos h]
    refine ⟨fun e => ?_, fun e => absurd h e⟩
    (repeat' split at e) <;> exact absurd e (by decide)
  · rw [if_neg h]
    exact ⟨fun _ => h, fun _ => rfl⟩
section
variable [G : Globs]
theorem w_Text (l : List Int) (hl : l.length ≤ 1048576) (hr : ∀ x ∈ l, -2147483648 ≤ x ∧ x ≤ 2147483647) : vc Tryd.prog Γ 20 [0, 2, 3, 4, 6, 7, 8, 9, 10, 15] (Tryd.f22.body.getD .skip) (postK Γ [.tmp 2, .tmp 3] (fun v => v = if ∀ x ∈ l, scalar x then .tup [.s (encL l), .i .i64 0] else .tup [.s [], .i .i64 3])) ⟨argSlots 0 [.rd .rune l], []⟩ := by
  refine Exists.intro 100 (And.intro rfl ?_)
  intro _
  refine Exists.intro [] (Exists.intro [] (Exists.intro [] (Exists.intro Nat (Exists.intro (fun k => k ≤ l.length ∧ ∀ x ∈ l.take k, scalar x) (Exists.intro (fun k => ⟨[(4, .ob 4 100 (.sb 72 5 (encL (l.take k)))), (7, .rd .rune l), (8, .i .i64 l.length), (9, .i .i64 k)], []⟩) (Exists.intro (fun k => l.length - k) (Exists.intro 0 (And.intro ⟨Nat.zero_le _, fun x hx => nomatch hx⟩ (And.intro ?_ ?_)))))))))
  · (repeat' (first | exact trivial | exact Or.inl rfl | refine And.intro ?_ ?_))
  · rintro k ⟨hk0, hsc⟩
    refine And.intro (fun h => ?_) (fun h => ?_)
    · have hk : k < l.length := by have : (k : Int) < l.length := of_decide_eq_true h; omega
      refine And.intro ⟨by omega, by omega⟩ ?_
      have hg : l.getD (Int.toNat k) 0 = l[k] := by rw [Int.toNat_natCast, List.getD_eq_getElem?_getD, List.getElem?_eq_getElem hk]; rfl
      have hm : l[k] ∈ l := List.getElem_mem hk
      have hrk := hr _ hm
      rw [show l.getD (Int.toNat k) (dflt .rune) = l[k] from hg]
      refine Or.inl (Exists.intro _ (And.intro (s_Size l[k]) ?_))
      refine And.intro (fun h1 => ?_) (fun h1 => ?_)
      · have h1 : sizeR l[k] = 0 := eq_of_beq h1
        have hns := (size0 _).1 h1
        show _ = _
        rw [if_neg (fun h => hns (h _ hm))]
        rfl
      · have h1 : sizeR l[k] ≠ 0 := ne_of_beq_false h1
        have hs : scalar l[k] := by
          refine Classical.byContradiction fun h => h1 ((size0 _).2 h)
        have hle := encL_le (l.take k)
        have htl : (l.take k).length ≤ k := by rw [List.length_take]; omega
        have ht : encL (l.take k) ++ Lib.encodeRune l[k] = encL (l.take (k + 1)) := by
          rw [encode_scalar hs, List.take_add_one, List.getElem?_eq_getElem hk, encL_append]
          exact congrArg _ (encL_one _).symm
        refine Exists.intro _ (Exists.intro _ (And.intro (sb_WriteRune (encL (l.take k)) hrk.1 hrk.2 (by omega)) ?_))
        rw [ht]
        refine And.intro ⟨by omega, by omega⟩ ?_
        have hn : ∀ x ∈ l.take (k + 1), scalar x := by
          intro x hx
          rw [List.take_add_one, List.getElem?_eq_getElem hk] at hx
          rcases List.mem_append.1 hx with hx | hx
          · exact hsc x hx
          · cases List.mem_singleton.1 hx
            exact hs
        refine Exists.intro [] (Exists.intro (k + 1) (And.intro ⟨hk, hn⟩ (And.intro ?_ ?_)))
        · (repeat' (first | exact trivial | exact Or.inl rfl | refine And.intro ?_ ?_))
        · show l.length - (k + 1) < l.length - k
          omega
    · have hk : k = l.length := by have : ¬ (k : Int) < l.length := of_decide_eq_false h; omega
      subst hk
      rw [List.take_length] at hsc ⊢
      refine Exists.intro _ (Exists.intro _ (And.intro (sb_String (encL l)) ?_))
      show _ = _
      rw [if_pos hsc]
      rfl
theorem s_Text (l : List Int) (hl : l.length ≤ 1048576) (hr : ∀ x ∈ l, -2147483648 ≤ x ∧ x ≤ 2147483647) : PSpec Tryd.prog 22 [.rd .rune l] (if ∀ x ∈ l, scalar x then .tup [.s (encL l), .i .i64 0] else .tup [.s [], .i .i64 3]) :=
  pspec_of_vc Γ_good Tryd.func22 rfl Tryd.call22 Tryd.results22 Tryd.ntmps22 (Nat.le_of_ble_eq_true rfl) (w_Text l hl hr)
theorem w_Clean (s : Str) (hs : s.length ≤ 1048576) : vc Tryd.prog Γ 14 [0, 2, 3, 5, 7, 8, 9] (Tryd.f23.body.getD .skip) (postK Γ [.tmp 2] (fun v => v = .s (clean s))) ⟨argSlots 0 [.s s], []⟩ := by
  refine Exists.intro 100 (And.intro rfl ?_)
  refine Exists.intro [] (Exists.intro [] (Exists.intro [] (Exists.intro (Str × Nat) (Exists.intro (fun x => x.2 ≤ s.length ∧ x.1 ++ cleanFrom s x.2 = clean s ∧ x.1.length ≤ 4 * x.2) (Exists.intro (fun ⟨o, i⟩ => ⟨[(3, .ob 3 100 (.sb 72 5 o)), (7, .ob 7 7 (.it s i))], []⟩) (Exists.intro (fun x => s.length - x.2) (Exists.intro ([], 0) (And.intro ⟨Nat.zero_le _, rfl, Nat.zero_le _⟩ (And.intro ?_ ?_)))))))))
  · (repeat' (first | exact trivial | exact Or.inl rfl | refine And.intro ?_ ?_))
  · rintro ⟨o, i⟩ ⟨hi, heq, hol⟩
    simp only at hi heq hol
    refine And.intro (fun hk => ?_) (fun hk => ?_)
    · rw [clean_step hk, ← List.append_assoc] at heq
      have hp := dec_pos s i
      have hle := dec_le hk
      have hd := dec_rune s i
      have h4 := encS_le ((decAt s i).1 : Int)
      (focus (refine And.intro ?_ (fun h9 => ?_); rotate_left 1; (focus (exfalso; revert h9; first | decide | (simp <;> omega) | (intro h9; simp at h9 <;> omega))); refine fun _ => ?_))
      refine Exists.intro _ (Exists.intro _ (And.intro (sb_WriteRune o (r := ((decAt s i).1 : Int)) (by omega) (by omega) (by omega)) ?_))
      rw [encode_scalar (dec_scalar s i)]
      have h5 : (encS ((decAt s i).1 : Int)).length ≤ 4 * (decAt s i).2 := by omega
      refine Exists.intro [] (Exists.intro (o ++ encS ((decAt s i).1 : Int), i + (decAt s i).2) (And.intro ⟨hle, heq, by simp only [List.length_append]; omega⟩ (And.intro ?_ ?_)))
      · (repeat' (first | exact trivial | exact Or.inl rfl | refine And.intro ?_ ?_))
      · show s.length - (i + (decAt s i).2) < s.length - i
        omega
    · rw [clean_end (by omega), List.append_nil] at heq
      (focus (refine And.intro (fun h9 => ?_) ?_; (focus (exfalso; revert h9; first | decide | (simp <;> omega) | (intro h9; simp at h9 <;> omega))); refine fun _ => ?_))
      refine Exists.intro _ (Exists.intro _ (And.intro (sb_String o) ?_))
      exact congrArg AV.s heq
theorem s_Clean (s : Str) (hs : s.length ≤ 1048576) : PSpec Tryd.prog 23 [.s s] (.s (clean s)) :=
  pspec_of_vc Γ_good Tryd.func23 rfl Tryd.call23 Tryd.results23 Tryd.ntmps23 (Nat.le_of_ble_eq_true rfl) (w_Clean s hs)
theorem w_Cleaned (s : Str) (hs : s.length ≤ 1048576) : vc Tryd.prog Γ 28 [0, 2, 3, 4, 5, 8, 15] (Tryd.f24.body.getD .skip) (postK Γ [.tmp 2] (fun v => v = .s (clean s))) ⟨argSlots 0 [.s s], []⟩ := by
  refine Exists.intro [] (Exists.intro [] (Exists.intro [] (Exists.intro (Str × Nat) (Exists.intro (fun x => x.2 ≤ s.length ∧ x.1 ++ cleanFrom s x.2 = clean s ∧ x.1.length ≤ 4 * x.2) (Exists.intro (fun ⟨o, i⟩ => ⟨[(0, .s (s.drop i)), (3, .s o)], []⟩) (Exists.intro (fun x => s.length - x.2) (Exists.intro ([], 0) (And.intro ⟨Nat.zero_le _, rfl, Nat.zero_le _⟩ (And.intro ?_ ?_)))))))))
  · (repeat' (first | exact trivial | exact Or.inl rfl | refine And.intro ?_ ?_))
  · rintro ⟨o, i⟩ ⟨hi, heq, hol⟩
    simp only at hi heq hol
    have hdl : (s.drop i).length = s.length - i := List.length_drop ..
    intro _
    refine And.intro (fun hc => ?_) (fun hc => ?_)
    · have hk : i < s.length := by have : (0 : Int) < (s.drop i).length := of_decide_eq_true hc; omega
      rw [clean_step hk, ← List.append_assoc] at heq
      have hp := dec_pos s i
      have hle := dec_le hk
      have h4 := encS_le ((decAt s i).1 : Int)
      have qc := s_Code (s.drop i)
      unfold codeR at qc
      rw [code_at hk] at qc
      have ht : ((s.drop i).take (Int.toNat ((s.drop i).length : Int))).drop (Int.toNat ((decAt s i).2 : Int)) = s.drop (i + (decAt s i).2) := by simp only [Int.toNat_natCast, List.take_length, List.drop_drop]
      have h5 : (encS ((decAt s i).1 : Int)).length ≤ 4 * (decAt s i).2 := by omega
      by_cases hb : (decAt s i).1 = 65533 ∧ (decAt s i).2 = 1
      · rw [if_pos hb] at qc
        refine Or.inl (Exists.intro _ (And.intro (qc) ?_))
        (focus (refine And.intro ?_ (fun h9 => ?_); rotate_left 1; (focus (exfalso; revert h9; first | decide | (simp <;> omega) | (intro h9; simp at h9 <;> omega))); refine fun _ => ?_))
        refine Or.inl (Exists.intro _ (And.intro (s_CodeOf 65533 scalar0) ?_))
        have e1 : (decAt s i).1 = 65533 := hb.1
        have e2 : (decAt s i).2 = 1 := hb.2
        have e6 : (encS 65533).length ≤ 4 := encS_le _
        have hml : (4194308 : Nat) ≤ maxLen := by unfold maxLen; omega
        rw [e2] at heq ht hle
        rw [e1] at heq
        refine And.intro (by omega) ?_
        refine And.intro ⟨by simp only; omega, by simp only; omega, Int.le_refl _⟩ ?_
        have ht1 : ((s.drop i).take (Int.toNat ((s.drop i).length : Int))).drop (Int.toNat ((((-1, 1) : Int × Nat).2 : Nat) : Int)) = s.drop (i + 1) := ht
        rw [ht1]
        refine Exists.intro [] (Exists.intro (o ++ encS 65533, i + 1) (And.intro ⟨hle, heq, by simp only [List.length_append]; omega⟩ (And.intro ?_ ?_)))
        · (repeat' (first | exact trivial | exact Or.inl rfl | refine And.intro ?_ ?_))
        · show s.length - (i + 1) < s.length - i
          omega
      · rw [if_neg hb] at qc
        refine Or.inl (Exists.intro _ (And.intro (qc) ?_))
        refine And.intro (fun h9 => absurd (of_decide_eq_true h9) (by simp only; omega)) (fun _ => ?_)
        obtain ⟨g1, g2, g3⟩ := good_at hk hb
        have hml : (4194308 : Nat) ≤ maxLen := by unfold maxLen; omega
        have hgl := congrArg List.length g3
        refine And.intro ⟨Int.le_refl _, by simp only; omega, by simp only; omega⟩ ?_
        have htk : ((s.drop i).take (Int.toNat ((((decAt s i).1 : Int), (decAt s i).2).2 : Int))).drop (Int.toNat 0) = encS ((decAt s i).1 : Int) := by
          rw [← g3]
          simp only [Int.toNat_natCast]
          rfl
        rw [htk]
        refine And.intro (by omega) ?_
        refine And.intro ⟨by simp only; omega, by simp only; omega, Int.le_refl _⟩ ?_
        rw [ht]
        refine Exists.intro [] (Exists.intro (o ++ encS ((decAt s i).1 : Int), i + (decAt s i).2) (And.intro ⟨hle, heq, by simp only [List.length_append]; omega⟩ (And.intro ?_ ?_)))
        · (repeat' (first | exact trivial | exact Or.inl rfl | refine And.intro ?_ ?_))
        · show s.length - (i + (decAt s i).2) < s.length - i
          omega
    · have hk : s.length ≤ i := by have : ¬ (0 : Int) < (s.drop i).length := of_decide_eq_false hc; omega
      rw [clean_end hk, List.append_nil] at heq
      exact congrArg AV.s heq
theorem s_Cleaned (s : Str) (hs : s.length ≤ 1048576) : PSpec Tryd.prog 24 [.s s] (.s (clean s)) :=
  pspec_of_vc Γ_good Tryd.func24 rfl Tryd.call24 Tryd.results24 Tryd.ntmps24 (Nat.le_of_ble_eq_true rfl) (w_Cleaned s hs)
end
end Go.Proofs.YtjlbaagnoppfgaaDoor
