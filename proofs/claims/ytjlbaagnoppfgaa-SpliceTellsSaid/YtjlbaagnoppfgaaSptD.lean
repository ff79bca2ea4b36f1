/-
  A part of the proof that 'typecaselaw.SpliceTells' returns true, whatever the input: the law. No conditions.
-/
import Derived.Test.YtjlbaagnoppfgaaSptB
import Derived.Test.YtjlbaagnoppfgaaSptC
namespace Go.Proofs.Ytjlbaagnoppfgaa
open Go Go.SX Go.Spl
set_option maxRecDepth 100000
set_option maxHeartbeats 0
theorem back_norm {s : Str} {c : List Part} (h : (chk c).2.2 = 0) (heq : sumOv c = s.length) : normalOf (back s 0 0 (made s c)) (made s c).length = invC s c := by
  obtain ⟨h1, h2, h3, h4, h5⟩ := chk_inv h
  have hw := wt_sums h2
  have hT : back s 0 0 (made s c) = at' (wholeFrom 0 (wt fMk (exs c))) (inv s (exs c)) := by
    have := back_eq s (exs c) 0 0 s.length (wt fMk (exs c)) 0 (by omega) (by omega) rfl (Nat.le_refl _)
    rw [putsB_nil s (Nat.le_refl _), List.nil_append, List.drop_zero] at this
    rw [made, atomsOf_eq, ← this]
  rw [hT, made_len h2 heq, ← inv_ov (exs c) s (by omega), normal_eq _ _ rfl, invC]
theorem changed_chg {s : Str} {c : List Part} (h : (chk c).2.2 = 0) (heq : sumOv c = s.length) : changed s (made s c) = chg s (exs c) := by
  obtain ⟨h1, h2, h3, h4, h5⟩ := chk_inv h
  have hw := wt_sums h2
  rw [made, atomsOf_eq, changed_eq s (exs c) 0 s.length (by omega) (by omega), List.drop_zero]
theorem w_law (s : Str) (c : List Part) : vc Try.prog Γ 129 [0, 1, 4, 5, 6, 7, 8, 9, 10, 11, 12, 13, 14, 15, 16, 51, 81, 89, 91] (Try.f6.body.getD .skip) (postK Γ [.tmp 4] (fun v => v = .b true)) ⟨argSlots 0 [.s s, .rd .part c], []⟩ := by
  by_cases h : (chk c).2.2 = 0
  · obtain ⟨h1, h2, h3, h4, h5⟩ := chk_inv h
    have q19 : PSpec Try.prog 19 [.rd .part c] (.tup [.i .i64 (sumOv c), .i .i64 (sumMk c), .i .i64 0]) := by have := spec19 c; rw [h3] at this; exact this
    have q21 : PSpec Try.prog 21 [.rd .part c] (.tup [.rd .part (norm c), .i .i64 0]) := by have := s_Norm c; rw [normR, if_pos h] at this; exact this
    have q22 : PSpec Try.prog 22 [.rd .part c] (.tup [.i .i64 (sumOv c), .i .i64 (sumMk c), .i .i64 0]) := by have := s_Sizes c; rw [h3] at this; exact this
    refine Or.inl (Exists.intro _ (And.intro (q19) ?_))
    refine Or.inl (Exists.intro _ (And.intro (q21) ?_))
    refine Or.inl (Exists.intro _ (And.intro (q22) ?_))
    (refine And.intro ?_ (fun h9 => ?_); rotate_left 1; (focus (exfalso; revert h9; first | decide | (simp <;> omega) | (intro h9; simp at h9 <;> omega) | (simp [*] <;> omega))); intro _)
    (refine And.intro ?_ (fun h9 => ?_); rotate_left 1; (focus (exfalso; revert h9; first | decide | (simp <;> omega) | (intro h9; simp at h9 <;> omega) | (simp [*] <;> omega))); intro _)
    (refine And.intro ?_ (fun h9 => ?_); rotate_left 1; (focus (exfalso; revert h9; first | decide | (simp <;> omega) | (intro h9; simp at h9 <;> omega) | (simp [*] <;> omega))); intro _)
    (refine And.intro (fun h9 => ?_) ?_; (focus (exfalso; revert h9; first | decide | (simp <;> omega) | (intro h9; simp at h9 <;> omega) | (simp [*] <;> omega))); intro _)
    by_cases heq0 : sumOv c = s.length
    · have q23 : PSpec Try.prog 23 [.s s, .rd .part c] (.tup [.s (chg s (exs c)), .i .i64 0]) := by have := s_Apply s c; rw [applyR, if_neg (by simpa using h), if_neg (by simpa using heq0)] at this; exact this
      have q24 : PSpec Try.prog 24 [.s s, .rd .part c] (.tup [.rd .part (invC s c), .i .i64 0]) := by have := s_Invert s c; rw [invR, if_neg (by simpa using h), if_neg (by simpa using heq0)] at this; exact this
      have q26 : PSpec Try.prog 26 [.s s, .rd .part c] (.s (chg s (exs c))) := by have := s_Changed s c h heq0; rw [changed_chg h heq0] at this; exact this
      have q27 : PSpec Try.prog 27 [.s s, .rd .part c] (.rd .part (invC s c)) := by have := s_Backwards s c h heq0; rw [back_norm h heq0] at this; exact this
      refine Or.inl (Exists.intro _ (And.intro (q23) ?_))
      refine Or.inl (Exists.intro _ (And.intro (q24) ?_))
      (refine And.intro ?_ (fun h9 => ?_); rotate_left 1; (focus (exfalso; revert h9; first | decide | (simp <;> omega) | (intro h9; simp at h9 <;> omega) | (simp [*] <;> omega))); intro _)
      refine Or.inl (Exists.intro _ (And.intro (s_Normal c h) ?_))
      refine Or.inl (Exists.intro _ (And.intro (spec20 (norm c) (norm c)) ?_))
      repeat (first | (refine And.intro ?_ (fun h9 => ?_); rotate_left 1; (focus (exfalso; revert h9; first | decide | (simp <;> omega) | (intro h9; simp at h9 <;> omega) | (simp [*] <;> omega))); intro _) | (refine And.intro (fun h9 => ?_) ?_; (focus (exfalso; revert h9; first | decide | (simp <;> omega) | (intro h9; simp at h9 <;> omega) | (simp [*] <;> omega))); intro _))
      intro _
      repeat (first | (refine And.intro ?_ (fun h9 => ?_); rotate_left 1; (focus (exfalso; revert h9; first | decide | (simp <;> omega) | (intro h9; simp at h9 <;> omega) | (simp [*] <;> omega))); intro _) | (refine And.intro (fun h9 => ?_) ?_; (focus (exfalso; revert h9; first | decide | (simp <;> omega) | (intro h9; simp at h9 <;> omega) | (simp [*] <;> omega))); intro _))
      refine Or.inl (Exists.intro _ (And.intro (q26) ?_))
      (refine And.intro ?_ (fun h9 => ?_); rotate_left 1; (focus (exfalso; revert h9; first | decide | (simp <;> omega) | (intro h9; simp at h9 <;> omega) | (simp [*] <;> omega))); intro _)
      refine Or.inl (Exists.intro _ (And.intro (q27) ?_))
      refine Or.inl (Exists.intro _ (And.intro (spec20 (invC s c) (invC s c)) ?_))
      exact congrArg AV.b (by simp)
    · have q23 : PSpec Try.prog 23 [.s s, .rd .part c] (.tup [.s [], .i .i64 1]) := by have := s_Apply s c; rw [applyR, if_neg (by simpa using h), if_pos (by simpa using heq0)] at this; exact this
      have q24 : PSpec Try.prog 24 [.s s, .rd .part c] (.tup [.nl, .i .i64 1]) := by have := s_Invert s c; rw [invR, if_neg (by simpa using h), if_pos (by simpa using heq0)] at this; exact this
      refine Or.inl (Exists.intro _ (And.intro (q23) ?_))
      refine Or.inl (Exists.intro _ (And.intro (q24) ?_))
      (refine And.intro ?_ (fun h9 => ?_); rotate_left 1; (focus (exfalso; revert h9; first | decide | (simp <;> omega) | (intro h9; simp at h9 <;> omega) | (simp [*] <;> omega))); intro _)
      refine Or.inl (Exists.intro _ (And.intro (s_Normal c h) ?_))
      refine Or.inl (Exists.intro _ (And.intro (spec20 (norm c) (norm c)) ?_))
      repeat (first | (refine And.intro ?_ (fun h9 => ?_); rotate_left 1; (focus (exfalso; revert h9; first | decide | (simp <;> omega) | (intro h9; simp at h9 <;> omega) | (simp [*] <;> omega))); intro _) | (refine And.intro (fun h9 => ?_) ?_; (focus (exfalso; revert h9; first | decide | (simp <;> omega) | (intro h9; simp at h9 <;> omega) | (simp [*] <;> omega))); intro _))
      intro _
      repeat (first | (refine And.intro ?_ (fun h9 => ?_); rotate_left 1; (focus (exfalso; revert h9; first | decide | (simp <;> omega) | (intro h9; simp at h9 <;> omega) | (simp [*] <;> omega))); intro _) | (refine And.intro (fun h9 => ?_) ?_; (focus (exfalso; revert h9; first | decide | (simp <;> omega) | (intro h9; simp at h9 <;> omega) | (simp [*] <;> omega))); intro _))
      exact congrArg AV.b (by simp)
  · have hf := chk_fail h
    have q19 : PSpec Try.prog 19 [.rd .part c] (.tup [.i .i64 0, .i .i64 0, .i .i64 (chk c).2.2]) := by have := spec19 c; rw [hf] at this; exact this
    have q21 : PSpec Try.prog 21 [.rd .part c] (.tup [.nl, .i .i64 (chk c).2.2]) := by have := s_Norm c; rw [normR, if_neg h] at this; exact this
    have q22 : PSpec Try.prog 22 [.rd .part c] (.tup [.i .i64 0, .i .i64 0, .i .i64 (chk c).2.2]) := by have := s_Sizes c; rw [hf] at this; exact this
    have q23 : PSpec Try.prog 23 [.s s, .rd .part c] (.tup [.s [], .i .i64 (chk c).2.2]) := by have := s_Apply s c; rw [applyR, if_pos (by simpa using h)] at this; exact this
    have q24 : PSpec Try.prog 24 [.s s, .rd .part c] (.tup [.nl, .i .i64 (chk c).2.2]) := by have := s_Invert s c; rw [invR, if_pos (by simpa using h)] at this; exact this
    generalize (chk c).2.2 = e at h q19 q21 q22 q23 q24
    refine Or.inl (Exists.intro _ (And.intro (q19) ?_))
    refine Or.inl (Exists.intro _ (And.intro (q21) ?_))
    refine Or.inl (Exists.intro _ (And.intro (q22) ?_))
    (refine And.intro ?_ (fun h9 => ?_); rotate_left 1; (focus (exfalso; revert h9; first | decide | (simp <;> omega) | (intro h9; simp at h9 <;> omega) | (simp [*] <;> omega))); intro _)
    (refine And.intro ?_ (fun h9 => ?_); rotate_left 1; (focus (exfalso; revert h9; first | decide | (simp <;> omega) | (intro h9; simp at h9 <;> omega) | (simp [*] <;> omega))); intro _)
    (refine And.intro ?_ (fun h9 => ?_); rotate_left 1; (focus (exfalso; revert h9; first | decide | (simp <;> omega) | (intro h9; simp at h9 <;> omega) | (simp [*] <;> omega))); intro _)
    (refine And.intro (fun h9 => ?_) ?_; (focus (exfalso; revert h9; first | decide | (simp <;> omega) | (intro h9; simp at h9 <;> omega) | (simp [*] <;> omega))); intro _)
    refine Or.inl (Exists.intro _ (And.intro (q23) ?_))
    refine Or.inl (Exists.intro _ (And.intro (q24) ?_))
    repeat (first | (refine And.intro ?_ (fun h9 => ?_); rotate_left 1; (focus (exfalso; revert h9; first | decide | (simp <;> omega) | (intro h9; simp at h9 <;> omega) | (simp [*] <;> omega))); intro _) | (refine And.intro (fun h9 => ?_) ?_; (focus (exfalso; revert h9; first | decide | (simp <;> omega) | (intro h9; simp at h9 <;> omega) | (simp [*] <;> omega))); intro _))
    exact congrArg AV.b (by simp)
theorem s_law (s : Str) (c : List Part) : PSpec Try.prog 6 [.s s, .rd .part c] (.b true) :=
  pspec_of_vc Γ_good Try.func6 rfl Try.call6 Try.results6 Try.ntmps6 (Nat.le_of_ble_eq_true rfl) (w_law s c)
end Go.Proofs.Ytjlbaagnoppfgaa
