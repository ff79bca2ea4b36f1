/-
  A part of the proof that 'typecaselaw.UtfTells' returns true: the law. No conditions.
-/
import Derived.Test.YtjlbaagnoppfgaaDoorUtC
namespace Go.Proofs.YtjlbaagnoppfgaaDoor
set_option linter.unusedSectionVars false
set_option linter.unusedSimpArgs false
set_option linter.unusedVariables false
open Go Go.SX Go.Ut Go.RowKit
set_option maxRecDepth 100000
set_option maxHeartbeats 0
section
variable [G : Globs]
theorem w_law (hu : HasU8) (s : Str) (n : Int) (hs : s.length ≤ 1048576) (n0 : -2147483648 ≤ n) (n1 : n ≤ 2147483647) : vc Tryd.prog Γ 74 [0, 1, 4, 5, 6, 7, 8, 9, 10, 11, 12, 25, 56, 58] (Tryd.f3.body.getD .skip) (postK Γ [.tmp 4] (fun v => v = .b true)) ⟨argSlots 0 [.s s, .i .i32 n], []⟩ := by
  have hw : IntKind.i64.wrap n = n := IntWalk.i64_in n ⟨by omega, by omega⟩
  have qn := s_Next hu s
  have qc := s_Code s
  unfold codeR at qn qc
  have qs : PSpec Tryd.prog 9 [.i .i64 (IntKind.i64.wrap n)] (.b (decide (scalar n))) := by rw [hw]; exact s_Scalar n
  have qr := s_Runes hu s hs
  have qb := s_BadPlace s
  have qz := s_Size n
  have qd := s_Bad hu s
  refine Or.inl (Exists.intro _ (And.intro (qn) ?_))
  refine Or.inl (Exists.intro _ (And.intro (qc) ?_))
  refine Or.inl (Exists.intro _ (And.intro (qs) ?_))
  refine And.intro (fun hsc => ?_) (fun hsc => ?_)
  · have hsc : scalar n := of_decide_eq_true hsc
    have qe : PSpec Tryd.prog 10 [.i .i64 (IntKind.i64.wrap n)] (.s (encS n)) := by rw [hw]; exact s_CodeOf n hsc
    have hlen := encS_len hsc
    refine Or.inl (Exists.intro _ (And.intro (qe) ?_))
    intro _
    rw [← hlen] at qz
    by_cases hb : 0 ≤ bad s
    · rw [if_pos hb] at qr
      refine Or.inl (Exists.intro _ (And.intro (qr) ?_))
      refine Or.inl (Exists.intro _ (And.intro (qb) ?_))
      (focus (refine And.intro ?_ (fun h9 => ?_); rotate_left 1; (focus (exfalso; revert h9; first | decide | (simp <;> omega) | (intro h9; simp at h9 <;> omega))); refine fun _ => ?_))
      (focus (refine And.intro ?_ (fun h9 => ?_); rotate_left 1; (focus (exfalso; revert h9; first | decide | (simp <;> omega) | (intro h9; simp at h9 <;> omega))); refine fun _ => ?_))
      refine Or.inl (Exists.intro _ (And.intro (qz) ?_))
      (focus (refine And.intro ?_ (fun h9 => ?_); rotate_left 1; (focus (exfalso; revert h9; first | decide | (simp <;> omega) | (intro h9; simp at h9 <;> omega))); refine fun _ => ?_))
      refine Or.inl (Exists.intro _ (And.intro (qd) ?_))
      (focus (refine And.intro (fun h9 => ?_) ?_; (focus (exfalso; revert h9; first | decide | (simp <;> omega) | (intro h9; simp at h9 <;> omega))); refine fun _ => ?_))
      refine And.intro (fun _ => ?_) (fun h9 => absurd hb (of_decide_eq_false h9))
      repeat (first | (focus (refine And.intro ?_ (fun h9 => ?_); rotate_left 1; (focus (exfalso; revert h9; first | decide | (simp <;> omega) | (intro h9; simp at h9 <;> omega))); refine fun _ => ?_)) | (focus (refine And.intro (fun h9 => ?_) ?_; (focus (exfalso; revert h9; first | decide | (simp <;> omega) | (intro h9; simp at h9 <;> omega))); refine fun _ => ?_)))
      rfl
    · rw [if_neg hb] at qr
      have qx := s_Scalars s hs (by omega)
      refine Or.inl (Exists.intro _ (And.intro (qr) ?_))
      refine Or.inl (Exists.intro _ (And.intro (qb) ?_))
      (focus (refine And.intro ?_ (fun h9 => ?_); rotate_left 1; (focus (exfalso; revert h9; first | decide | (simp <;> omega) | (intro h9; simp at h9 <;> omega))); refine fun _ => ?_))
      (focus (refine And.intro ?_ (fun h9 => ?_); rotate_left 1; (focus (exfalso; revert h9; first | decide | (simp <;> omega) | (intro h9; simp at h9 <;> omega))); refine fun _ => ?_))
      refine Or.inl (Exists.intro _ (And.intro (qz) ?_))
      (focus (refine And.intro ?_ (fun h9 => ?_); rotate_left 1; (focus (exfalso; revert h9; first | decide | (simp <;> omega) | (intro h9; simp at h9 <;> omega))); refine fun _ => ?_))
      refine Or.inl (Exists.intro _ (And.intro (qd) ?_))
      (focus (refine And.intro (fun h9 => ?_) ?_; (focus (exfalso; revert h9; first | decide | (simp <;> omega) | (intro h9; simp at h9 <;> omega))); refine fun _ => ?_))
      refine And.intro (fun h9 => absurd (of_decide_eq_true h9) hb) (fun _ => ?_)
      (focus (refine And.intro ?_ (fun h9 => ?_); rotate_left 1; (focus (exfalso; revert h9; first | decide | (simp <;> omega) | (intro h9; simp at h9 <;> omega))); refine fun _ => ?_))
      refine Or.inl (Exists.intro _ (And.intro (qx) ?_))
      refine Or.inl (Exists.intro _ (And.intro (s_eqRune (runes s)) ?_))
      rfl
  · have hsc : ¬ scalar n := of_decide_eq_false hsc
    have hz : sizeR n = 0 := by unfold sizeR; rw [if_neg hsc]
    rw [hz] at qz
    by_cases hb : 0 ≤ bad s
    · rw [if_pos hb] at qr
      refine Or.inl (Exists.intro _ (And.intro (qr) ?_))
      refine Or.inl (Exists.intro _ (And.intro (qb) ?_))
      (focus (refine And.intro ?_ (fun h9 => ?_); rotate_left 1; (focus (exfalso; revert h9; first | decide | (simp <;> omega) | (intro h9; simp at h9 <;> omega))); refine fun _ => ?_))
      (focus (refine And.intro ?_ (fun h9 => ?_); rotate_left 1; (focus (exfalso; revert h9; first | decide | (simp <;> omega) | (intro h9; simp at h9 <;> omega))); refine fun _ => ?_))
      refine Or.inl (Exists.intro _ (And.intro (qz) ?_))
      (focus (refine And.intro ?_ (fun h9 => ?_); rotate_left 1; (focus (exfalso; revert h9; first | decide | (simp <;> omega) | (intro h9; simp at h9 <;> omega))); refine fun _ => ?_))
      refine Or.inl (Exists.intro _ (And.intro (qd) ?_))
      (focus (refine And.intro (fun h9 => ?_) ?_; (focus (exfalso; revert h9; first | decide | (simp <;> omega) | (intro h9; simp at h9 <;> omega))); refine fun _ => ?_))
      refine And.intro (fun _ => ?_) (fun h9 => absurd hb (of_decide_eq_false h9))
      repeat (first | (focus (refine And.intro ?_ (fun h9 => ?_); rotate_left 1; (focus (exfalso; revert h9; first | decide | (simp <;> omega) | (intro h9; simp at h9 <;> omega))); refine fun _ => ?_)) | (focus (refine And.intro (fun h9 => ?_) ?_; (focus (exfalso; revert h9; first | decide | (simp <;> omega) | (intro h9; simp at h9 <;> omega))); refine fun _ => ?_)))
      rfl
    · rw [if_neg hb] at qr
      have qx := s_Scalars s hs (by omega)
      refine Or.inl (Exists.intro _ (And.intro (qr) ?_))
      refine Or.inl (Exists.intro _ (And.intro (qb) ?_))
      (focus (refine And.intro ?_ (fun h9 => ?_); rotate_left 1; (focus (exfalso; revert h9; first | decide | (simp <;> omega) | (intro h9; simp at h9 <;> omega))); refine fun _ => ?_))
      (focus (refine And.intro ?_ (fun h9 => ?_); rotate_left 1; (focus (exfalso; revert h9; first | decide | (simp <;> omega) | (intro h9; simp at h9 <;> omega))); refine fun _ => ?_))
      refine Or.inl (Exists.intro _ (And.intro (qz) ?_))
      (focus (refine And.intro ?_ (fun h9 => ?_); rotate_left 1; (focus (exfalso; revert h9; first | decide | (simp <;> omega) | (intro h9; simp at h9 <;> omega))); refine fun _ => ?_))
      refine Or.inl (Exists.intro _ (And.intro (qd) ?_))
      (focus (refine And.intro (fun h9 => ?_) ?_; (focus (exfalso; revert h9; first | decide | (simp <;> omega) | (intro h9; simp at h9 <;> omega))); refine fun _ => ?_))
      refine And.intro (fun h9 => absurd (of_decide_eq_true h9) hb) (fun _ => ?_)
      (focus (refine And.intro ?_ (fun h9 => ?_); rotate_left 1; (focus (exfalso; revert h9; first | decide | (simp <;> omega) | (intro h9; simp at h9 <;> omega))); refine fun _ => ?_))
      refine Or.inl (Exists.intro _ (And.intro (qx) ?_))
      refine Or.inl (Exists.intro _ (And.intro (s_eqRune (runes s)) ?_))
      rfl
theorem s_law (hu : HasU8) (s : Str) (n : Int) (hs : s.length ≤ 1048576) (n0 : -2147483648 ≤ n) (n1 : n ≤ 2147483647) : PSpec Tryd.prog 3 [.s s, .i .i32 n] (.b true) :=
  pspec_of_vc Γ_good Tryd.func3 rfl Tryd.call3 Tryd.results3 Tryd.ntmps3 (Nat.le_of_ble_eq_true rfl) (w_law hu s n hs n0 n1)
end
end Go.Proofs.YtjlbaagnoppfgaaDoor
