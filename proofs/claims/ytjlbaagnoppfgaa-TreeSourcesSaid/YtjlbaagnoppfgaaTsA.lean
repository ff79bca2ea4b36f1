/-
  A part of the proof that 'typecaselaw.TreeSources' returns true: a node's source, of the program and of the document. No conditions.
-/
import Derived.Test.YtjlbaagnoppfgaaTokE
namespace Go.Proofs.Ytjlbaagnoppfgaa
set_option linter.unusedSectionVars false
set_option linter.unusedSimpArgs false
set_option linter.unusedVariables false
open Go Go.SX Go.Tk
set_option maxRecDepth 100000
set_option maxHeartbeats 0
theorem toks_mem (s : Str) : ∀ (f a : Nat) (t : Token), t ∈ toks s f a → (a : Int) ≤ t.fr ∧ t.fr < t.to ∧ t.to ≤ s.length := by
  intro f
  induction f with
  | zero => intro a t h; cases h
  | succ f ih =>
    intro a t h
    simp only [toks] at h
    split at h
    · rename_i hlt
      have hb := nx_bounds (drop_ne hlt)
      rw [List.length_drop] at hb
      rcases List.mem_cons.1 h with rfl | h
      · exact ⟨Int.le_refl _, by simp only; omega, by simp only; omega⟩
      · have := ih _ t h
        omega
    · cases h
theorem toks_pair (s : Str) : ∀ (f a : Nat), (toks s f a).Pairwise (fun t u => t.to ≤ u.fr) := by
  intro f
  induction f with
  | zero => intro a; exact List.Pairwise.nil
  | succ f ih =>
    intro a
    simp only [toks]
    split
    · refine List.Pairwise.cons (fun u hu => ?_) (ih _)
      exact (toks_mem s f _ u hu).1
    · exact List.Pairwise.nil
theorem tok_at {s : Str} {i j : Nat} (hij : i ≤ j) (hj : j < (tokens s 0).length) : 0 ≤ ((tokens s 0).getD i default).fr ∧ ((tokens s 0).getD i default).fr ≤ ((tokens s 0).getD j default).to ∧ ((tokens s 0).getD j default).to ≤ s.length := by
  have hi : i < (tokens s 0).length := by omega
  have ei : (tokens s 0).getD i default = (tokens s 0)[i] := by rw [List.getD_eq_getElem?_getD, List.getElem?_eq_getElem hi]; rfl
  have ej : (tokens s 0).getD j default = (tokens s 0)[j] := by rw [List.getD_eq_getElem?_getD, List.getElem?_eq_getElem hj]; rfl
  have mi := toks_mem s s.length 0 _ (List.getElem_mem hi)
  have mj := toks_mem s s.length 0 _ (List.getElem_mem hj)
  rw [ei, ej]
  refine ⟨by have := mi.1; simpa using this, ?_, mj.2.2⟩
  rcases Nat.lt_or_ge i j with h | h
  · have := List.pairwise_iff_getElem.1 (toks_pair s s.length 0) i j hi hj h
    have m1 := mi.2.1
    have m2 := mj.2.1
    change (tokens s 0)[i].to ≤ (tokens s 0)[j].fr at this
    omega
  · have : i = j := by omega
    subst this
    have := mi.2.1
    omega
def srcOK (s : Str) (a e : Int) : Prop := s.length ≤ 20000 ∧ 0 ≤ a ∧ a < e ∧ e ≤ (tokens s 0).length
instance (s : Str) (a e : Int) : Decidable (srcOK s a e) := by unfold srcOK; infer_instance
def srcR (s : Str) (a e : Int) : Str := if srcOK s a e then (s.take ((tokens s 0).getD (e - 1).toNat default).to.toNat).drop ((tokens s 0).getD a.toNat default).fr.toNat else []
section
variable [G : Globs]
theorem w_Source (hml : HasML) (s : Str) (k a e : Int) (he : e ≤ 9223372036854775807) : vc Try.prog Γ 48 [0, 3, 4, 5, 6, 32] (Try.f49.body.getD .skip) (postK Γ [.tmp 4] (fun v => v = .s (srcR s a e))) ⟨argSlots 0 [.s s, .agg [.i .i64 k, .i .i64 a, .i .i64 e, .x]], []⟩ := by
  have qa := s_Cut hml s
  by_cases h : 20000 < s.length
  · rw [cutR, if_pos h] at qa
    have hr : srcR s a e = [] := by unfold srcR; rw [if_neg (fun h9 => by have := h9.1; omega)]
    rw [hr]
    clear hr
    refine Or.inl (Exists.intro _ (And.intro (qa) ?_))
    repeat (first | (focus (refine And.intro ?_ (fun h9 => ?_); rotate_left 1; (focus (exfalso; revert h9; first | decide | (simp <;> omega) | (intro h9; simp at h9 <;> omega))); refine fun _ => ?_)) | (focus (refine And.intro (fun h9 => ?_) ?_; (focus (exfalso; revert h9; first | decide | (simp <;> omega) | (intro h9; simp at h9 <;> omega))); refine fun _ => ?_)))
    rfl
  · rw [cutR, if_neg h] at qa
    refine Or.inl (Exists.intro _ (And.intro (qa) ?_))
    (focus (refine And.intro ?_ (fun h9 => ?_); rotate_left 1; (focus (exfalso; revert h9; first | decide | (simp <;> omega) | (intro h9; simp at h9 <;> omega))); refine fun _ => ?_))
    have no : ¬ (0 ≤ a ∧ a < e ∧ e ≤ (tokens s 0).length) → srcR s a e = [] := fun h9 => by unfold srcR; rw [if_neg (fun h8 => h9 h8.2)]
    refine And.intro (fun h1 => ?_) (fun h1 => ?_)
    · have h1 : 0 ≤ a := by simpa using h1
      refine And.intro (fun h2 => ?_) (fun h2 => ?_)
      · have h2 : a < e := by simpa using h2
        intro hlen
        refine And.intro (fun h3 => ?_) (fun h3 => ?_)
        · have h3 : ((tokens s 0).length : Int) < e := by simpa using h3
          rw [no (by omega)]
          rfl
        · have h3 : e ≤ ((tokens s 0).length : Int) := by simpa using h3
          have hr : srcR s a e = (s.take ((tokens s 0).getD (e - 1).toNat default).to.toNat).drop ((tokens s 0).getD a.toNat default).fr.toNat := by unfold srcR; rw [if_pos ⟨by omega, h1, h2, h3⟩]
          obtain ⟨m1, m2, m3⟩ := tok_at (s := s) (i := a.toNat) (j := (e - 1).toNat) (by omega) (by omega)
          refine Exists.intro [.blk [0, 1, 2, 3, 4, 5, 6, 7, 8, 9, 10, 11, 12, 13, 14, 15]] (And.intro (by kernel_rfl) ?_)
          refine And.intro ⟨by omega, by omega⟩ ?_
          refine And.intro ⟨by omega, by omega⟩ ?_
          refine And.intro ⟨by omega, by omega⟩ ?_
          refine And.intro ⟨m1, m2, m3⟩ ?_
          rw [hr]
          rfl
      · have h2 : e ≤ a := by simpa using h2
        rw [no (by omega)]
        clear no
        (focus (refine And.intro ?_ (fun h9 => ?_); rotate_left 1; (focus (exfalso; revert h9; first | decide | (simp <;> omega) | (intro h9; simp at h9 <;> omega))); refine fun _ => ?_))
        rfl
    · have h1 : a < 0 := by simpa using h1
      rw [no (by omega)]
      clear no
      repeat (first | (focus (refine And.intro ?_ (fun h9 => ?_); rotate_left 1; (focus (exfalso; revert h9; first | decide | (simp <;> omega) | (intro h9; simp at h9 <;> omega))); refine fun _ => ?_)) | (focus (refine And.intro (fun h9 => ?_) ?_; (focus (exfalso; revert h9; first | decide | (simp <;> omega) | (intro h9; simp at h9 <;> omega))); refine fun _ => ?_)))
      rfl
theorem s_Source (hml : HasML) (s : Str) (k a e : Int) (he : e ≤ 9223372036854775807) : PSpec Try.prog 49 [.s s, .agg [.i .i64 k, .i .i64 a, .i .i64 e, .x]] (.s (srcR s a e)) :=
  pspec_of_vc Γ_good Try.func49 rfl Try.call49 Try.results49 Try.ntmps49 (Nat.le_of_ble_eq_true rfl) (w_Source hml s k a e he)
theorem w_tsLaw (hml : HasML) (s : Str) (k a e : Int) (he : e ≤ 9223372036854775807) : vc Try.prog Γ 54 [0, 3, 4, 5, 6, 7, 33] (Try.f10.body.getD .skip) (postK Γ [.tmp 4] (fun v => v = .b true)) ⟨argSlots 0 [.s s, .agg [.i .i64 k, .i .i64 a, .i .i64 e, .x]], []⟩ := by
  have qa := s_Tokens s
  have qs := s_Source hml s k a e he
  by_cases h : 20000 < s.length
  · rw [cutR, if_pos h] at qa
    have hr : srcR s a e = [] := by unfold srcR; rw [if_neg (fun h9 => by have := h9.1; omega)]
    rw [hr] at qs
    clear hr
    refine Or.inl (Exists.intro _ (And.intro (qa) ?_))
    repeat (first | (focus (refine And.intro ?_ (fun h9 => ?_); rotate_left 1; (focus (exfalso; revert h9; first | decide | (simp <;> omega) | (intro h9; simp at h9 <;> omega))); refine fun _ => ?_)) | (focus (refine And.intro (fun h9 => ?_) ?_; (focus (exfalso; revert h9; first | decide | (simp <;> omega) | (intro h9; simp at h9 <;> omega))); refine fun _ => ?_)))
    refine Or.inl (Exists.intro _ (And.intro (qs) ?_))
    rfl
  · rw [cutR, if_neg h] at qa
    refine Or.inl (Exists.intro _ (And.intro (qa) ?_))
    (focus (refine And.intro ?_ (fun h9 => ?_); rotate_left 1; (focus (exfalso; revert h9; first | decide | (simp <;> omega) | (intro h9; simp at h9 <;> omega))); refine fun _ => ?_))
    have no : ¬ (0 ≤ a ∧ a < e ∧ e ≤ (tokens s 0).length) → srcR s a e = [] := fun h9 => by unfold srcR; rw [if_neg (fun h8 => h9 h8.2)]
    refine And.intro (fun h1 => ?_) (fun h1 => ?_)
    · have h1 : 0 ≤ a := by simpa using h1
      refine And.intro (fun h2 => ?_) (fun h2 => ?_)
      · have h2 : a < e := by simpa using h2
        intro hlen
        refine And.intro (fun h3 => ?_) (fun h3 => ?_)
        · have h3 : e ≤ ((tokens s 0).length : Int) := by simpa using h3
          have hr : srcR s a e = (s.take ((tokens s 0).getD (e - 1).toNat default).to.toNat).drop ((tokens s 0).getD a.toNat default).fr.toNat := by unfold srcR; rw [if_pos ⟨by omega, h1, h2, h3⟩]
          obtain ⟨m1, m2, m3⟩ := tok_at (s := s) (i := a.toNat) (j := (e - 1).toNat) (by omega) (by omega)
          refine Exists.intro [.blk [0, 1, 2, 3, 4, 5, 6, 7, 8, 9, 10, 11, 12, 13, 14, 15]] (And.intro (by kernel_rfl) ?_)
          refine And.intro ⟨by omega, by omega⟩ ?_
          refine And.intro ⟨by omega, by omega⟩ ?_
          refine And.intro ⟨by omega, by omega⟩ ?_
          refine And.intro ⟨m1, m2, m3⟩ ?_
          refine Or.inl (Exists.intro _ (And.intro (qs) ?_))
          rw [hr]
          exact congrArg AV.b (beq_self_eq_true _)
        · have h3 : ((tokens s 0).length : Int) < e := by simpa using h3
          rw [no (by omega)] at qs
          refine Or.inl (Exists.intro _ (And.intro (qs) ?_))
          rfl
      · have h2 : e ≤ a := by simpa using h2
        rw [no (by omega)] at qs
        clear no
        (focus (refine And.intro (fun h9 => ?_) ?_; (focus (exfalso; revert h9; first | decide | (simp <;> omega) | (intro h9; simp at h9 <;> omega))); refine fun _ => ?_))
        refine Or.inl (Exists.intro _ (And.intro (qs) ?_))
        rfl
    · have h1 : a < 0 := by simpa using h1
      rw [no (by omega)] at qs
      clear no
      repeat (first | (focus (refine And.intro ?_ (fun h9 => ?_); rotate_left 1; (focus (exfalso; revert h9; first | decide | (simp <;> omega) | (intro h9; simp at h9 <;> omega))); refine fun _ => ?_)) | (focus (refine And.intro (fun h9 => ?_) ?_; (focus (exfalso; revert h9; first | decide | (simp <;> omega) | (intro h9; simp at h9 <;> omega))); refine fun _ => ?_)))
      refine Or.inl (Exists.intro _ (And.intro (qs) ?_))
      rfl
theorem s_tsLaw (hml : HasML) (s : Str) (k a e : Int) (he : e ≤ 9223372036854775807) : PSpec Try.prog 10 [.s s, .agg [.i .i64 k, .i .i64 a, .i .i64 e, .x]] (.b true) :=
  pspec_of_vc Γ_good Try.func10 rfl Try.call10 Try.results10 Try.ntmps10 (Nat.le_of_ble_eq_true rfl) (w_tsLaw hml s k a e he)
end
end Go.Proofs.Ytjlbaagnoppfgaa
