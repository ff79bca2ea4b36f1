/-
  A part of the proof that 'typecaselaw.UtfTells' returns true: the rune at a text's front, of the program and of the document. No conditions.
-/
import Derived.Test.YtjlbaagnoppfgaaDoorSxCtx
import Derived.Test.YtjlbaagnoppfgaaDoorUtfLaw
import Derived.Test.YtjlbaagnoppfgaaDoorLibShelf
namespace Go.Proofs.YtjlbaagnoppfgaaDoor
set_option linter.unusedSectionVars false
set_option linter.unusedSimpArgs false
set_option linter.unusedVariables false
open Go Go.SX Go.Ut Go.RowKit
set_option maxRecDepth 100000
set_option maxHeartbeats 0
/-- what is said of unicode/utf8's tables: they lie in the two first variables' blocks -/
def HasU8 [G : Globs] : Prop := ∃ o0 o1 : Obj, (0, o0) ∈ G.gl ∧ (1, o1) ∈ G.gl ∧ ∀ w : World, w.heap[0]? = some o0 → w.heap[1]? = some o1 → Lib.Utf8Tabs 0 1 w
section
variable [G : Globs]
def decG (s : Str) : Nat × Nat := if s = [] then (65533, 0) else decAt s 0
theorem s_Decode (hu : HasU8) (s : Str) : PSpec Tryd.prog 33 [.s s] (.tup [.i .i32 (decG s).1, .i .i64 (decG s).2]) := by
  refine ⟨Tryd.call33, fun O w vs hO hG hargs => ?_⟩
  obtain ⟨v0, vs0, rfl, h0, h⟩ := hargs.cons_inv
  obtain rfl := h.nil_inv
  cases h0
  obtain ⟨o0, o1, m0, m1, ht⟩ := hu
  have hT := ht w (hG _ m0).2 (hG _ m1).2
  have hd : Lib.decodeGo ⟨s.toArray⟩ = decG s := by
    unfold Lib.decodeGo decG
    have hsz : (⟨s.toArray⟩ : ByteArray).size = s.length := by simp [ByteArray.size]
    rw [hsz]
    by_cases h : s = []
    · subst h; rfl
    · rw [if_neg (by simpa using h), if_neg h]
      exact decAt_eq s 0
  refine (Tryd.utf8_DecodeRuneInString ⟨s.toArray⟩ w hT).mono fun e w' ⟨he, hw⟩ => ?_
  subst he
  rw [hd]
  refine ⟨_, rfl, ⟨hw.os, hw.tape, hw.output, hw.size, fun k hk _ => hw.block k hk⟩, .tup _ [_, _] rfl fun j av v hav hv => ?_⟩
  match j with
  | 0 => simp at hav hv; subst hav hv; exact .i _ _
  | 1 => simp at hav hv; subst hav hv; exact .i _ _
  | j + 2 => simp at hav
def codeR (s : Str) : AV := .tup [.i .i32 (code s).1, .i .i64 (code s).2]
theorem w_Next (hu : HasU8) (s : Str) : vc Tryd.prog Γ 20 [0, 2, 3, 4, 5, 16] (Tryd.f7.body.getD .skip) (postK Γ [.tmp 2, .tmp 3] (fun v => v = codeR s)) ⟨argSlots 0 [.s s], []⟩ := by
  have qd := s_Decode hu s
  by_cases h : s = []
  · subst h
    refine Or.inl (Exists.intro _ (And.intro (qd) ?_))
    repeat (first | (focus (refine And.intro ?_ (fun h9 => ?_); rotate_left 1; (focus (exfalso; revert h9; first | decide | (simp <;> omega) | (intro h9; simp at h9 <;> omega))); refine fun _ => ?_)) | (focus (refine And.intro (fun h9 => ?_) ?_; (focus (exfalso; revert h9; first | decide | (simp <;> omega) | (intro h9; simp at h9 <;> omega))); refine fun _ => ?_)))
    rfl
  · have hd : decG s = decAt s 0 := by unfold decG; rw [if_neg h]
    rw [hd] at qd
    have hp := dec_pos s 0
    by_cases hb : (decAt s 0).1 = 65533 ∧ (decAt s 0).2 = 1
    · have hc : code s = (-1, 1) := by unfold code; rw [if_neg h, if_pos hb]
      rw [hb.1, hb.2] at qd
      unfold codeR
      rw [hc]
      refine Or.inl (Exists.intro _ (And.intro (qd) ?_))
      repeat (first | (focus (refine And.intro ?_ (fun h9 => ?_); rotate_left 1; (focus (exfalso; revert h9; first | decide | (simp <;> omega) | (intro h9; simp at h9 <;> omega))); refine fun _ => ?_)) | (focus (refine And.intro (fun h9 => ?_) ?_; (focus (exfalso; revert h9; first | decide | (simp <;> omega) | (intro h9; simp at h9 <;> omega))); refine fun _ => ?_)))
      rfl
    · have hc : code s = (((decAt s 0).1 : Int), (decAt s 0).2) := by unfold code; rw [if_neg h, if_neg hb]
      unfold codeR
      rw [hc]
      refine Or.inl (Exists.intro _ (And.intro (qd) ?_))
      refine And.intro (fun h1 => ?_) (fun h1 => ?_)
      · have h1 : (decAt s 0).1 = 65533 := by have := eq_of_beq h1; omega
        have h2 : (decAt s 0).2 ≠ 1 := fun e => hb ⟨h1, e⟩
        refine And.intro (fun h3 => ?_) (fun h3 => ?_)
        · exfalso
          have : (((decAt s 0).2 : Int) < 2) := of_decide_eq_true (show decide (((decAt s 0).2 : Int) < 2) = true from h3)
          omega
        · rfl
      · (focus (refine And.intro (fun h9 => ?_) ?_; (focus (exfalso; revert h9; first | decide | (simp <;> omega) | (intro h9; simp at h9 <;> omega))); refine fun _ => ?_))
        rfl
theorem s_Next (hu : HasU8) (s : Str) : PSpec Tryd.prog 7 [.s s] (codeR s) :=
  pspec_of_vc Γ_good Tryd.func7 rfl Tryd.call7 Tryd.results7 Tryd.ntmps7 (Nat.le_of_ble_eq_true rfl) (w_Next hu s)
theorem w_Scalar (n : Int) : vc Tryd.prog Γ 17 [0, 2] (Tryd.f9.body.getD .skip) (postK Γ [.tmp 2] (fun v => v = .b (decide (scalar n)))) ⟨argSlots 0 [.i .i64 n], []⟩ := by
  repeat' (refine And.intro (fun h => ?_) (fun h => ?_) <;> (try simp [-List.getD_eq_getElem?_getD, -Int.pred_toNat] at h))
  all_goals
    refine congrArg AV.b ?_
    rw [Bool.eq_iff_iff]
    simp only [cond_true, cond_false, decide_eq_true_eq, Bool.false_eq_true, true_iff, false_iff]
    unfold scalar
    first | omega | (constructor <;> intro h9 <;> (try (exfalso; exact h9)) <;> omega)
theorem s_Scalar (n : Int) : PSpec Tryd.prog 9 [.i .i64 n] (.b (decide (scalar n))) :=
  pspec_of_vc Γ_good Tryd.func9 rfl Tryd.call9 Tryd.results9 Tryd.ntmps9 (Nat.le_of_ble_eq_true rfl) (w_Scalar n)
theorem w_Size (n : Int) : vc Tryd.prog Γ 23 [0, 2, 3, 14, 17, 20] (Tryd.f13.body.getD .skip) (postK Γ [.tmp 2] (fun v => v = .i .i64 (sizeR n))) ⟨argSlots 0 [.i .i32 n], []⟩ := by
  repeat' (refine And.intro (fun h => ?_) (fun h => ?_) <;> (try simp [-List.getD_eq_getElem?_getD, -Int.pred_toNat] at h) <;> (try (exfalso; omega)))
  all_goals
    refine congrArg (AV.i .i64) ?_
    unfold sizeR
    by_cases hs : scalar n
    · rw [if_pos hs]
      unfold scalar at hs
      (repeat' split) <;> omega
    · rw [if_neg hs]
      all_goals
        unfold scalar at hs
        omega
theorem s_Size (n : Int) : PSpec Tryd.prog 13 [.i .i32 n] (.i .i64 (sizeR n)) :=
  pspec_of_vc Γ_good Tryd.func13 rfl Tryd.call13 Tryd.results13 Tryd.ntmps13 (Nat.le_of_ble_eq_true rfl) (w_Size n)
end
end Go.Proofs.YtjlbaagnoppfgaaDoor
