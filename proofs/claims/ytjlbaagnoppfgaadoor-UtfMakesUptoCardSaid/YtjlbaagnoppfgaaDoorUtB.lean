/-
  A part of the proof that 'typecaselaw.UtfTells' returns true: the document's decoder. No conditions.
-/
import Derived.Test.YtjlbaagnoppfgaaDoorUtA
namespace Go.Proofs.YtjlbaagnoppfgaaDoor
set_option linter.unusedSectionVars false
set_option linter.unusedSimpArgs false
set_option linter.unusedVariables false
open Go Go.SX Go.Ut Go.RowKit
set_option maxRecDepth 100000
set_option maxHeartbeats 0
section
variable [G : Globs]
theorem acc_bnd {s : Str} {r : Int} (h0 : 0 ≤ r) (h1 : r ≤ 63) : ∀ (i : Nat), i ≤ 4 → (∀ j, 1 ≤ j → j < i → cont s j) → 0 ≤ acc s r i ∧ acc s r i ≤ 16777215 := by
  intro i hi hc
  have key : ∀ j, 1 ≤ j → j < i → 128 ≤ b8 s j ∧ b8 s j < 192 := hc
  match i, hi with
  | 0, _ => exact ⟨h0, by simp only [acc]; omega⟩
  | 1, _ => exact ⟨h0, by simp only [acc]; omega⟩
  | 2, _ => have k1 := key 1 (by decide) (by decide); simp only [acc]; omega
  | 3, _ => have k1 := key 1 (by decide) (by decide); have k2 := key 2 (by decide) (by decide); simp only [acc]; omega
  | 4, _ => have k1 := key 1 (by decide) (by decide); have k2 := key 2 (by decide) (by decide); have k3 := key 3 (by decide) (by decide); simp only [acc]; omega
  | i + 5, h => exfalso; omega
theorem i32_in (n : Int) (h0 : 0 ≤ n) (h1 : n ≤ 2147483647) : IntKind.i32.wrap n = n := IntWalk.i32_in n ⟨by omega, h1⟩
theorem w_Code (s : Str) : vc Tryd.prog Γ 90 [0, 2, 3, 4, 5, 6, 7, 9, 13, 19, 30, 41, 55, 58, 70, 86] (Tryd.f8.body.getD .skip) (postK Γ [.tmp 2, .tmp 3] (fun v => v = codeR s)) ⟨argSlots 0 [.s s], []⟩ := by
  by_cases h0 : s = []
  · subst h0
    (focus (refine And.intro ?_ (fun h9 => ?_); rotate_left 1; (focus (exfalso; revert h9; first | decide | (simp <;> omega) | (intro h9; simp at h9 <;> omega))); refine fun _ => ?_))
    rfl
  have hl : 1 ≤ s.length := by cases s with
    | nil => exact absurd rfl h0
    | cons c r => simp
  have hb := b8_rng s 0
  have hw : IntKind.i64.wrap (((s.getD (Int.toNat 0) 0).toNat : Nat) : Int) = b8 s 0 := IntWalk.i64_in _ ⟨by show _ ≤ b8 s 0; omega, by show b8 s 0 ≤ _; omega⟩
  refine And.intro (fun h9 => absurd (eq_of_beq h9) h0) (fun _ => ?_)
  rcases (show b8 s 0 < 128 ∨ (128 ≤ b8 s 0 ∧ b8 s 0 < 192) ∨ (192 ≤ b8 s 0 ∧ b8 s 0 < 224) ∨ (224 ≤ b8 s 0 ∧ b8 s 0 < 240) ∨ (240 ≤ b8 s 0 ∧ b8 s 0 < 248) ∨ 248 ≤ b8 s 0 by omega) with hc | hc | hc | hc | hc | hc
  · refine Exists.intro [.blk [0, 1, 2, 3, 4, 5]] (And.intro (by kernel_rfl) ?_)
    refine And.intro ⟨by omega, by omega⟩ ?_
    refine And.intro ⟨by omega, by omega⟩ ?_
    rw [hw]
    refine And.intro (fun _ => ?_) (fun h9 => absurd (show b8 s 0 < 128 by omega) (of_decide_eq_false h9))
    rw [codeR, code1 h0 hc]
    show AV.tup [.i .i32 (IntKind.i32.wrap (b8 s 0)), .i .i64 1] = _
    rw [i32_in _ (by omega) (by omega)]
    all_goals rfl
  · have hbad : code s = (-1, 1) := code_bad h0 (by omega)
    refine Exists.intro [.blk [0, 1, 2, 3, 4, 5]] (And.intro (by kernel_rfl) ?_)
    refine And.intro ⟨by omega, by omega⟩ ?_
    refine And.intro ⟨by omega, by omega⟩ ?_
    rw [hw]
    refine And.intro (fun h9 => absurd (of_decide_eq_true h9) (show ¬ (b8 s 0 < 128) by omega)) (fun _ => ?_)
    refine And.intro ⟨by omega, by omega⟩ ?_
    refine And.intro (fun h9 => absurd (of_decide_eq_true h9) (show ¬ (192 ≤ b8 s 0) by omega)) (fun _ => ?_)
    (focus (refine And.intro (fun h9 => ?_) ?_; (focus (exfalso; revert h9; first | decide | (simp <;> omega) | (intro h9; simp at h9 <;> omega))); refine fun _ => ?_))
    refine And.intro ⟨by omega, by omega⟩ ?_
    refine And.intro (fun h9 => absurd (of_decide_eq_true h9) (show ¬ (224 ≤ b8 s 0) by omega)) (fun _ => ?_)
    (focus (refine And.intro (fun h9 => ?_) ?_; (focus (exfalso; revert h9; first | decide | (simp <;> omega) | (intro h9; simp at h9 <;> omega))); refine fun _ => ?_))
    refine And.intro ⟨by omega, by omega⟩ ?_
    refine And.intro (fun h9 => absurd (of_decide_eq_true h9) (show ¬ (240 ≤ b8 s 0) by omega)) (fun _ => ?_)
    (focus (refine And.intro (fun h9 => ?_) ?_; (focus (exfalso; revert h9; first | decide | (simp <;> omega) | (intro h9; simp at h9 <;> omega))); refine fun _ => ?_))
    rw [codeR, hbad]
    rfl
  · have hlead : lead s = (2, 128, b8 s 0 - 192) := by unfold lead; rw [if_pos (by omega)]
    have hg : good s ↔ (2 ≤ s.length ∧ (∀ i, 1 ≤ i → i < 2 → cont s i) ∧ 128 ≤ acc s (b8 s 0 - 192) 2 ∧ scalar (acc s (b8 s 0 - 192) 2)) := by unfold good; rw [hlead]
    have hbad : ¬ good s → code s = (-1, 1) := (code_many h0 (by omega) (by omega)).2
    refine Exists.intro [.blk [0, 1, 2, 3, 4, 5]] (And.intro (by kernel_rfl) ?_)
    refine And.intro ⟨by omega, by omega⟩ ?_
    refine And.intro ⟨by omega, by omega⟩ ?_
    rw [hw]
    refine And.intro (fun h9 => absurd (of_decide_eq_true h9) (show ¬ (b8 s 0 < 128) by omega)) (fun _ => ?_)
    refine And.intro ⟨by omega, by omega⟩ ?_
    refine And.intro (fun _ => ?_) (fun h9 => absurd (show 192 ≤ b8 s 0 by omega) (of_decide_eq_false h9))
    refine And.intro ⟨by omega, by omega⟩ ?_
    refine And.intro (fun _ => ?_) (fun h9 => absurd (show b8 s 0 < 224 by omega) (of_decide_eq_false h9))
    refine And.intro ⟨by omega, by omega⟩ ?_
    intro _
    refine And.intro (fun hs => ?_) (fun hs => ?_)
    · have hs : (s.length : Int) < 2 := of_decide_eq_true hs
      show AV.tup [.i .i32 (-1), .i .i64 1] = codeR s
      rw [codeR, hbad (fun h => by have := (hg.1 h).1; omega)]
      all_goals rfl
    · have hs : ¬ (s.length : Int) < 2 := of_decide_eq_false hs
      refine Exists.intro [] (Exists.intro [] (Exists.intro [] (Exists.intro Nat (Exists.intro (fun i => 1 ≤ i ∧ i ≤ 2 ∧ ∀ j, 1 ≤ j → j < i → cont s j) (Exists.intro (fun i => ⟨[(0, .s s), (4, .i .i64 2), (5, .i .i64 128), (6, .i .i64 (acc s (b8 s 0 - 192) i)), (7, .i .i64 i)], []⟩) (Exists.intro (fun i => 2 - i) (Exists.intro 1 (And.intro ⟨Nat.le_refl _, by decide, fun j h1 h2 => by omega⟩ (And.intro ?_ ?_)))))))))
      · (repeat' (first | exact trivial | exact Or.inl rfl | refine And.intro ?_ ?_))
      · rintro i ⟨hi1, hin, hcs⟩
        have hab := acc_bnd (s := s) (r := (b8 s 0 - 192)) (by omega) (by omega) i (by omega) hcs
        have hbi := b8_rng s i
        refine And.intro (fun hc => ?_) (fun hc => ?_)
        · have hc : i < 2 := by have : (i : Int) < 2 := of_decide_eq_true hc; omega
          refine And.intro ⟨by omega, by omega⟩ ?_
          refine And.intro (fun h1 => ?_) (fun h1 => ?_)
          · have h1 : ¬ b8 s i < 128 := of_decide_eq_false h1
            refine And.intro ⟨by omega, by omega⟩ ?_
            refine And.intro (fun h2 => ?_) (fun h2 => ?_)
            · have h2 : 192 ≤ b8 s i := of_decide_eq_true h2
              show AV.tup [.i .i32 (-1), .i .i64 1] = codeR s
              rw [codeR, hbad (fun h => by have := (hg.1 h).2.1 i hi1 hc; unfold cont at this; omega)]
              all_goals rfl
            · have h2 : ¬ 192 ≤ b8 s i := of_decide_eq_false h2
              have hwi : IntKind.i64.wrap (((s.getD (Int.toNat (i : Int)) 0).toNat : Nat) : Int) = b8 s i := IntWalk.i64_in _ ⟨by show _ ≤ b8 s i; omega, by show b8 s i ≤ _; omega⟩
              have hacc : acc s (b8 s 0 - 192) (i + 1) = acc s (b8 s 0 - 192) i * 64 + b8 s i - 128 := by
                obtain ⟨k, rfl⟩ : ∃ k, i = k + 1 := ⟨i - 1, by omega⟩
                rfl
              refine And.intro ⟨by omega, by omega⟩ ?_
              refine And.intro ⟨by omega, by omega⟩ ?_
              refine And.intro ⟨by rw [hwi]; omega, by rw [hwi]; omega⟩ ?_
              rw [hwi]
              refine And.intro ⟨by omega, by omega⟩ ?_
              refine And.intro ⟨by omega, by omega⟩ ?_
              have hcs' : ∀ j, 1 ≤ j → j < i + 1 → cont s j := fun j h3 h4 => by
                rcases Nat.lt_or_ge j i with h | h
                · exact hcs j h3 h
                · have : j = i := by omega
                  subst this
                  exact ⟨by omega, by omega⟩
              refine Exists.intro [] (Exists.intro (i + 1) (And.intro ⟨by omega, by omega, hcs'⟩ (And.intro ?_ ?_)))
              · (repeat' (first | exact trivial | exact Or.inl rfl | exact Or.inl (congrArg (AV.i .i64) hacc.symm) | refine And.intro ?_ ?_))
              · show 2 - (i + 1) < 2 - i
                omega
          · have h1 : b8 s i < 128 := of_decide_eq_true (show decide (b8 s i < 128) = true from h1)
            (focus (refine And.intro ?_ (fun h9 => ?_); rotate_left 1; (focus (exfalso; revert h9; first | decide | (simp <;> omega) | (intro h9; simp at h9 <;> omega))); refine fun _ => ?_))
            show AV.tup [.i .i32 (-1), .i .i64 1] = codeR s
            rw [codeR, hbad (fun h => by have := (hg.1 h).2.1 i hi1 hc; unfold cont at this; omega)]
            all_goals rfl
        · have hc : i = 2 := by have : ¬ (i : Int) < 2 := of_decide_eq_false hc; omega
          subst hc
          refine And.intro (fun h1 => ?_) (fun h1 => ?_)
          · have h1 : ¬ acc s (b8 s 0 - 192) 2 < 128 := of_decide_eq_false h1
            refine Or.inl (Exists.intro _ (And.intro (s_Scalar (acc s (b8 s 0 - 192) 2)) ?_))
            refine And.intro (fun h2 => ?_) (fun h2 => ?_)
            · have h2 : ¬ scalar (acc s (b8 s 0 - 192) 2) := by simpa using h2
              show AV.tup [.i .i32 (-1), .i .i64 1] = codeR s
              rw [codeR, hbad (fun h => h2 (hg.1 h).2.2.2)]
              all_goals rfl
            · have h2 : scalar (acc s (b8 s 0 - 192) 2) := by simpa using h2
              have hgood : good s := hg.2 ⟨by omega, hcs, by omega, h2⟩
              have hw2 : IntKind.i32.wrap (acc s (b8 s 0 - 192) 2) = acc s (b8 s 0 - 192) 2 := i32_in _ (by omega) (by unfold scalar at h2; omega)
              have hcd := (code_many h0 (by omega) (by omega)).1 hgood
              rw [hlead] at hcd
              rw [codeR, hcd]
              show AV.tup [.i .i32 (IntKind.i32.wrap (acc s (b8 s 0 - 192) 2)), .i .i64 2] = _
              rw [hw2]
              all_goals rfl
          · have h1 : acc s (b8 s 0 - 192) 2 < 128 := of_decide_eq_true (show decide (acc s (b8 s 0 - 192) 2 < 128) = true from h1)
            (focus (refine And.intro ?_ (fun h9 => ?_); rotate_left 1; (focus (exfalso; revert h9; first | decide | (simp <;> omega) | (intro h9; simp at h9 <;> omega))); refine fun _ => ?_))
            show AV.tup [.i .i32 (-1), .i .i64 1] = codeR s
            rw [codeR, hbad (fun h => by have := (hg.1 h).2.2.1; omega)]
            all_goals rfl
  · have hlead : lead s = (3, 2048, b8 s 0 - 224) := by unfold lead; rw [if_neg (by omega), if_pos (by omega)]
    have hg : good s ↔ (3 ≤ s.length ∧ (∀ i, 1 ≤ i → i < 3 → cont s i) ∧ 2048 ≤ acc s (b8 s 0 - 224) 3 ∧ scalar (acc s (b8 s 0 - 224) 3)) := by unfold good; rw [hlead]
    have hbad : ¬ good s → code s = (-1, 1) := (code_many h0 (by omega) (by omega)).2
    refine Exists.intro [.blk [0, 1, 2, 3, 4, 5]] (And.intro (by kernel_rfl) ?_)
    refine And.intro ⟨by omega, by omega⟩ ?_
    refine And.intro ⟨by omega, by omega⟩ ?_
    rw [hw]
    refine And.intro (fun h9 => absurd (of_decide_eq_true h9) (show ¬ (b8 s 0 < 128) by omega)) (fun _ => ?_)
    refine And.intro ⟨by omega, by omega⟩ ?_
    refine And.intro (fun _ => ?_) (fun h9 => absurd (show 192 ≤ b8 s 0 by omega) (of_decide_eq_false h9))
    refine And.intro ⟨by omega, by omega⟩ ?_
    refine And.intro (fun h9 => absurd (of_decide_eq_true h9) (show ¬ (b8 s 0 < 224) by omega)) (fun _ => ?_)
    refine And.intro ⟨by omega, by omega⟩ ?_
    refine And.intro (fun _ => ?_) (fun h9 => absurd (show 224 ≤ b8 s 0 by omega) (of_decide_eq_false h9))
    refine And.intro ⟨by omega, by omega⟩ ?_
    refine And.intro (fun _ => ?_) (fun h9 => absurd (show b8 s 0 < 240 by omega) (of_decide_eq_false h9))
    refine And.intro ⟨by omega, by omega⟩ ?_
    intro _
    refine And.intro (fun hs => ?_) (fun hs => ?_)
    · have hs : (s.length : Int) < 3 := of_decide_eq_true hs
      show AV.tup [.i .i32 (-1), .i .i64 1] = codeR s
      rw [codeR, hbad (fun h => by have := (hg.1 h).1; omega)]
      all_goals rfl
    · have hs : ¬ (s.length : Int) < 3 := of_decide_eq_false hs
      refine Exists.intro [] (Exists.intro [] (Exists.intro [] (Exists.intro Nat (Exists.intro (fun i => 1 ≤ i ∧ i ≤ 3 ∧ ∀ j, 1 ≤ j → j < i → cont s j) (Exists.intro (fun i => ⟨[(0, .s s), (4, .i .i64 3), (5, .i .i64 2048), (6, .i .i64 (acc s (b8 s 0 - 224) i)), (7, .i .i64 i)], []⟩) (Exists.intro (fun i => 3 - i) (Exists.intro 1 (And.intro ⟨Nat.le_refl _, by decide, fun j h1 h2 => by omega⟩ (And.intro ?_ ?_)))))))))
      · (repeat' (first | exact trivial | exact Or.inl rfl | refine And.intro ?_ ?_))
      · rintro i ⟨hi1, hin, hcs⟩
        have hab := acc_bnd (s := s) (r := (b8 s 0 - 224)) (by omega) (by omega) i (by omega) hcs
        have hbi := b8_rng s i
        refine And.intro (fun hc => ?_) (fun hc => ?_)
        · have hc : i < 3 := by have : (i : Int) < 3 := of_decide_eq_true hc; omega
          refine And.intro ⟨by omega, by omega⟩ ?_
          refine And.intro (fun h1 => ?_) (fun h1 => ?_)
          · have h1 : ¬ b8 s i < 128 := of_decide_eq_false h1
            refine And.intro ⟨by omega, by omega⟩ ?_
            refine And.intro (fun h2 => ?_) (fun h2 => ?_)
            · have h2 : 192 ≤ b8 s i := of_decide_eq_true h2
              show AV.tup [.i .i32 (-1), .i .i64 1] = codeR s
              rw [codeR, hbad (fun h => by have := (hg.1 h).2.1 i hi1 hc; unfold cont at this; omega)]
              all_goals rfl
            · have h2 : ¬ 192 ≤ b8 s i := of_decide_eq_false h2
              have hwi : IntKind.i64.wrap (((s.getD (Int.toNat (i : Int)) 0).toNat : Nat) : Int) = b8 s i := IntWalk.i64_in _ ⟨by show _ ≤ b8 s i; omega, by show b8 s i ≤ _; omega⟩
              have hacc : acc s (b8 s 0 - 224) (i + 1) = acc s (b8 s 0 - 224) i * 64 + b8 s i - 128 := by
                obtain ⟨k, rfl⟩ : ∃ k, i = k + 1 := ⟨i - 1, by omega⟩
                rfl
              refine And.intro ⟨by omega, by omega⟩ ?_
              refine And.intro ⟨by omega, by omega⟩ ?_
              refine And.intro ⟨by rw [hwi]; omega, by rw [hwi]; omega⟩ ?_
              rw [hwi]
              refine And.intro ⟨by omega, by omega⟩ ?_
              refine And.intro ⟨by omega, by omega⟩ ?_
              have hcs' : ∀ j, 1 ≤ j → j < i + 1 → cont s j := fun j h3 h4 => by
                rcases Nat.lt_or_ge j i with h | h
                · exact hcs j h3 h
                · have : j = i := by omega
                  subst this
                  exact ⟨by omega, by omega⟩
              refine Exists.intro [] (Exists.intro (i + 1) (And.intro ⟨by omega, by omega, hcs'⟩ (And.intro ?_ ?_)))
              · (repeat' (first | exact trivial | exact Or.inl rfl | exact Or.inl (congrArg (AV.i .i64) hacc.symm) | refine And.intro ?_ ?_))
              · show 3 - (i + 1) < 3 - i
                omega
          · have h1 : b8 s i < 128 := of_decide_eq_true (show decide (b8 s i < 128) = true from h1)
            (focus (refine And.intro ?_ (fun h9 => ?_); rotate_left 1; (focus (exfalso; revert h9; first | decide | (simp <;> omega) | (intro h9; simp at h9 <;> omega))); refine fun _ => ?_))
            show AV.tup [.i .i32 (-1), .i .i64 1] = codeR s
            rw [codeR, hbad (fun h => by have := (hg.1 h).2.1 i hi1 hc; unfold cont at this; omega)]
            all_goals rfl
        · have hc : i = 3 := by have : ¬ (i : Int) < 3 := of_decide_eq_false hc; omega
          subst hc
          refine And.intro (fun h1 => ?_) (fun h1 => ?_)
          · have h1 : ¬ acc s (b8 s 0 - 224) 3 < 2048 := of_decide_eq_false h1
            refine Or.inl (Exists.intro _ (And.intro (s_Scalar (acc s (b8 s 0 - 224) 3)) ?_))
            refine And.intro (fun h2 => ?_) (fun h2 => ?_)
            · have h2 : ¬ scalar (acc s (b8 s 0 - 224) 3) := by simpa using h2
              show AV.tup [.i .i32 (-1), .i .i64 1] = codeR s
              rw [codeR, hbad (fun h => h2 (hg.1 h).2.2.2)]
              all_goals rfl
            · have h2 : scalar (acc s (b8 s 0 - 224) 3) := by simpa using h2
              have hgood : good s := hg.2 ⟨by omega, hcs, by omega, h2⟩
              have hw2 : IntKind.i32.wrap (acc s (b8 s 0 - 224) 3) = acc s (b8 s 0 - 224) 3 := i32_in _ (by omega) (by unfold scalar at h2; omega)
              have hcd := (code_many h0 (by omega) (by omega)).1 hgood
              rw [hlead] at hcd
              rw [codeR, hcd]
              show AV.tup [.i .i32 (IntKind.i32.wrap (acc s (b8 s 0 - 224) 3)), .i .i64 3] = _
              rw [hw2]
              all_goals rfl
          · have h1 : acc s (b8 s 0 - 224) 3 < 2048 := of_decide_eq_true (show decide (acc s (b8 s 0 - 224) 3 < 2048) = true from h1)
            (focus (refine And.intro ?_ (fun h9 => ?_); rotate_left 1; (focus (exfalso; revert h9; first | decide | (simp <;> omega) | (intro h9; simp at h9 <;> omega))); refine fun _ => ?_))
            show AV.tup [.i .i32 (-1), .i .i64 1] = codeR s
            rw [codeR, hbad (fun h => by have := (hg.1 h).2.2.1; omega)]
            all_goals rfl
  · have hlead : lead s = (4, 65536, b8 s 0 - 240) := by unfold lead; rw [if_neg (by omega), if_neg (by omega)]
    have hg : good s ↔ (4 ≤ s.length ∧ (∀ i, 1 ≤ i → i < 4 → cont s i) ∧ 65536 ≤ acc s (b8 s 0 - 240) 4 ∧ scalar (acc s (b8 s 0 - 240) 4)) := by unfold good; rw [hlead]
    have hbad : ¬ good s → code s = (-1, 1) := (code_many h0 (by omega) (by omega)).2
    refine Exists.intro [.blk [0, 1, 2, 3, 4, 5]] (And.intro (by kernel_rfl) ?_)
    refine And.intro ⟨by omega, by omega⟩ ?_
    refine And.intro ⟨by omega, by omega⟩ ?_
    rw [hw]
    refine And.intro (fun h9 => absurd (of_decide_eq_true h9) (show ¬ (b8 s 0 < 128) by omega)) (fun _ => ?_)
    refine And.intro ⟨by omega, by omega⟩ ?_
    refine And.intro (fun _ => ?_) (fun h9 => absurd (show 192 ≤ b8 s 0 by omega) (of_decide_eq_false h9))
    refine And.intro ⟨by omega, by omega⟩ ?_
    refine And.intro (fun h9 => absurd (of_decide_eq_true h9) (show ¬ (b8 s 0 < 224) by omega)) (fun _ => ?_)
    refine And.intro ⟨by omega, by omega⟩ ?_
    refine And.intro (fun _ => ?_) (fun h9 => absurd (show 224 ≤ b8 s 0 by omega) (of_decide_eq_false h9))
    refine And.intro ⟨by omega, by omega⟩ ?_
    refine And.intro (fun h9 => absurd (of_decide_eq_true h9) (show ¬ (b8 s 0 < 240) by omega)) (fun _ => ?_)
    refine And.intro ⟨by omega, by omega⟩ ?_
    refine And.intro (fun _ => ?_) (fun h9 => absurd (show 240 ≤ b8 s 0 by omega) (of_decide_eq_false h9))
    refine And.intro ⟨by omega, by omega⟩ ?_
    refine And.intro (fun _ => ?_) (fun h9 => absurd (show b8 s 0 < 248 by omega) (of_decide_eq_false h9))
    refine And.intro ⟨by omega, by omega⟩ ?_
    intro _
    refine And.intro (fun hs => ?_) (fun hs => ?_)
    · have hs : (s.length : Int) < 4 := of_decide_eq_true hs
      show AV.tup [.i .i32 (-1), .i .i64 1] = codeR s
      rw [codeR, hbad (fun h => by have := (hg.1 h).1; omega)]
      all_goals rfl
    · have hs : ¬ (s.length : Int) < 4 := of_decide_eq_false hs
      refine Exists.intro [] (Exists.intro [] (Exists.intro [] (Exists.intro Nat (Exists.intro (fun i => 1 ≤ i ∧ i ≤ 4 ∧ ∀ j, 1 ≤ j → j < i → cont s j) (Exists.intro (fun i => ⟨[(0, .s s), (4, .i .i64 4), (5, .i .i64 65536), (6, .i .i64 (acc s (b8 s 0 - 240) i)), (7, .i .i64 i)], []⟩) (Exists.intro (fun i => 4 - i) (Exists.intro 1 (And.intro ⟨Nat.le_refl _, by decide, fun j h1 h2 => by omega⟩ (And.intro ?_ ?_)))))))))
      · (repeat' (first | exact trivial | exact Or.inl rfl | refine And.intro ?_ ?_))
      · rintro i ⟨hi1, hin, hcs⟩
        have hab := acc_bnd (s := s) (r := (b8 s 0 - 240)) (by omega) (by omega) i (by omega) hcs
        have hbi := b8_rng s i
        refine And.intro (fun hc => ?_) (fun hc => ?_)
        · have hc : i < 4 := by have : (i : Int) < 4 := of_decide_eq_true hc; omega
          refine And.intro ⟨by omega, by omega⟩ ?_
          refine And.intro (fun h1 => ?_) (fun h1 => ?_)
          · have h1 : ¬ b8 s i < 128 := of_decide_eq_false h1
            refine And.intro ⟨by omega, by omega⟩ ?_
            refine And.intro (fun h2 => ?_) (fun h2 => ?_)
            · have h2 : 192 ≤ b8 s i := of_decide_eq_true h2
              show AV.tup [.i .i32 (-1), .i .i64 1] = codeR s
              rw [codeR, hbad (fun h => by have := (hg.1 h).2.1 i hi1 hc; unfold cont at this; omega)]
              all_goals rfl
            · have h2 : ¬ 192 ≤ b8 s i := of_decide_eq_false h2
              have hwi : IntKind.i64.wrap (((s.getD (Int.toNat (i : Int)) 0).toNat : Nat) : Int) = b8 s i := IntWalk.i64_in _ ⟨by show _ ≤ b8 s i; omega, by show b8 s i ≤ _; omega⟩
              have hacc : acc s (b8 s 0 - 240) (i + 1) = acc s (b8 s 0 - 240) i * 64 + b8 s i - 128 := by
                obtain ⟨k, rfl⟩ : ∃ k, i = k + 1 := ⟨i - 1, by omega⟩
                rfl
              refine And.intro ⟨by omega, by omega⟩ ?_
              refine And.intro ⟨by omega, by omega⟩ ?_
              refine And.intro ⟨by rw [hwi]; omega, by rw [hwi]; omega⟩ ?_
              rw [hwi]
              refine And.intro ⟨by omega, by omega⟩ ?_
              refine And.intro ⟨by omega, by omega⟩ ?_
              have hcs' : ∀ j, 1 ≤ j → j < i + 1 → cont s j := fun j h3 h4 => by
                rcases Nat.lt_or_ge j i with h | h
                · exact hcs j h3 h
                · have : j = i := by omega
                  subst this
                  exact ⟨by omega, by omega⟩
              refine Exists.intro [] (Exists.intro (i + 1) (And.intro ⟨by omega, by omega, hcs'⟩ (And.intro ?_ ?_)))
              · (repeat' (first | exact trivial | exact Or.inl rfl | exact Or.inl (congrArg (AV.i .i64) hacc.symm) | refine And.intro ?_ ?_))
              · show 4 - (i + 1) < 4 - i
                omega
          · have h1 : b8 s i < 128 := of_decide_eq_true (show decide (b8 s i < 128) = true from h1)
            (focus (refine And.intro ?_ (fun h9 => ?_); rotate_left 1; (focus (exfalso; revert h9; first | decide | (simp <;> omega) | (intro h9; simp at h9 <;> omega))); refine fun _ => ?_))
            show AV.tup [.i .i32 (-1), .i .i64 1] = codeR s
            rw [codeR, hbad (fun h => by have := (hg.1 h).2.1 i hi1 hc; unfold cont at this; omega)]
            all_goals rfl
        · have hc : i = 4 := by have : ¬ (i : Int) < 4 := of_decide_eq_false hc; omega
          subst hc
          refine And.intro (fun h1 => ?_) (fun h1 => ?_)
          · have h1 : ¬ acc s (b8 s 0 - 240) 4 < 65536 := of_decide_eq_false h1
            refine Or.inl (Exists.intro _ (And.intro (s_Scalar (acc s (b8 s 0 - 240) 4)) ?_))
            refine And.intro (fun h2 => ?_) (fun h2 => ?_)
            · have h2 : ¬ scalar (acc s (b8 s 0 - 240) 4) := by simpa using h2
              show AV.tup [.i .i32 (-1), .i .i64 1] = codeR s
              rw [codeR, hbad (fun h => h2 (hg.1 h).2.2.2)]
              all_goals rfl
            · have h2 : scalar (acc s (b8 s 0 - 240) 4) := by simpa using h2
              have hgood : good s := hg.2 ⟨by omega, hcs, by omega, h2⟩
              have hw2 : IntKind.i32.wrap (acc s (b8 s 0 - 240) 4) = acc s (b8 s 0 - 240) 4 := i32_in _ (by omega) (by unfold scalar at h2; omega)
              have hcd := (code_many h0 (by omega) (by omega)).1 hgood
              rw [hlead] at hcd
              rw [codeR, hcd]
              show AV.tup [.i .i32 (IntKind.i32.wrap (acc s (b8 s 0 - 240) 4)), .i .i64 4] = _
              rw [hw2]
              all_goals rfl
          · have h1 : acc s (b8 s 0 - 240) 4 < 65536 := of_decide_eq_true (show decide (acc s (b8 s 0 - 240) 4 < 65536) = true from h1)
            (focus (refine And.intro ?_ (fun h9 => ?_); rotate_left 1; (focus (exfalso; revert h9; first | decide | (simp <;> omega) | (intro h9; simp at h9 <;> omega))); refine fun _ => ?_))
            show AV.tup [.i .i32 (-1), .i .i64 1] = codeR s
            rw [codeR, hbad (fun h => by have := (hg.1 h).2.2.1; omega)]
            all_goals rfl
  · have hbad : code s = (-1, 1) := code_bad h0 (by omega)
    refine Exists.intro [.blk [0, 1, 2, 3, 4, 5]] (And.intro (by kernel_rfl) ?_)
    refine And.intro ⟨by omega, by omega⟩ ?_
    refine And.intro ⟨by omega, by omega⟩ ?_
    rw [hw]
    refine And.intro (fun h9 => absurd (of_decide_eq_true h9) (show ¬ (b8 s 0 < 128) by omega)) (fun _ => ?_)
    refine And.intro ⟨by omega, by omega⟩ ?_
    refine And.intro (fun _ => ?_) (fun h9 => absurd (show 192 ≤ b8 s 0 by omega) (of_decide_eq_false h9))
    refine And.intro ⟨by omega, by omega⟩ ?_
    refine And.intro (fun h9 => absurd (of_decide_eq_true h9) (show ¬ (b8 s 0 < 224) by omega)) (fun _ => ?_)
    refine And.intro ⟨by omega, by omega⟩ ?_
    refine And.intro (fun _ => ?_) (fun h9 => absurd (show 224 ≤ b8 s 0 by omega) (of_decide_eq_false h9))
    refine And.intro ⟨by omega, by omega⟩ ?_
    refine And.intro (fun h9 => absurd (of_decide_eq_true h9) (show ¬ (b8 s 0 < 240) by omega)) (fun _ => ?_)
    refine And.intro ⟨by omega, by omega⟩ ?_
    refine And.intro (fun _ => ?_) (fun h9 => absurd (show 240 ≤ b8 s 0 by omega) (of_decide_eq_false h9))
    refine And.intro ⟨by omega, by omega⟩ ?_
    refine And.intro (fun h9 => absurd (of_decide_eq_true h9) (show ¬ (b8 s 0 < 248) by omega)) (fun _ => ?_)
    rw [codeR, hbad]
    rfl
theorem s_Code (s : Str) : PSpec Tryd.prog 8 [.s s] (codeR s) :=
  pspec_of_vc Γ_good Tryd.func8 rfl Tryd.call8 Tryd.results8 Tryd.ntmps8 (Nat.le_of_ble_eq_true rfl) (w_Code s)
end
end Go.Proofs.YtjlbaagnoppfgaaDoor
