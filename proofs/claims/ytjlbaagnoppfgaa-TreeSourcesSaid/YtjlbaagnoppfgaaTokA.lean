/-
  A part of the proof that 'typecaselaw.TokCuts' returns true: the kinds of bytes, of the program and of the document. No conditions.
-/
import Derived.Test.YtjlbaagnoppfgaaTokLaw
import Derived.Test.YtjlbaagnoppfgaaPlB
import Derived.Test.YtjlbaagnoppfgaaLibShelf
namespace Go.Proofs.Ytjlbaagnoppfgaa
set_option linter.unusedSectionVars false
set_option linter.unusedSimpArgs false
set_option linter.unusedVariables false
open Go Go.SX Go.Tk
set_option maxRecDepth 100000
set_option maxHeartbeats 0
/-- what needs no package-level variable holds beside any -/
theorem lift {P : Program} {f : FuncId} {a : List AV} {r : AV} [G : Globs] (h : @PSpec noGlobs P f a r) : PSpec P f a r :=
  ⟨h.1, fun O w vs hO _ hargs => h.2 O w vs hO (fun _ hp => nomatch hp) hargs⟩
section
variable [G : Globs]
theorem s_IndexByte (s : Str) (n : Int) : PSpec Try.prog 137 [.s s, .i .u8 n] (.i .i64 (Lib.indexByte s n.toNat.toUInt8)) := by
  refine ⟨Try.call137, fun O w vs hO _ hargs => ?_⟩
  obtain ⟨v0, vs0, rfl, h0, h⟩ := hargs.cons_inv
  obtain ⟨v1, vs1, rfl, h1, h⟩ := h.cons_inv
  obtain rfl := h.nil_inv
  cases h0
  cases h1
  refine (Try.strings_IndexByte ⟨s.toArray⟩ n w).mono fun e w' ⟨he, hw⟩ => ?_
  subst he hw
  exact ⟨_, rfl, Stp.refl _ _, .i _ _⟩
theorem idx_word {n : Int} (h0 : 0 ≤ n) (h1 : n ≤ 255) : (0 ≤ Lib.indexByte [95, 45, 43, 46] n.toNat.toUInt8) = (n = 95 ∨ n = 45 ∨ n = 43 ∨ n = 46) := by
  obtain ⟨k, rfl⟩ : ∃ k : Nat, n = k := ⟨n.toNat, by omega⟩
  have hk : k < 256 := by omega
  have : ∀ k : Fin 256, (0 ≤ Lib.indexByte [95, 45, 43, 46] ((k.val : Int)).toNat.toUInt8) = ((k.val : Int) = 95 ∨ (k.val : Int) = 45 ∨ (k.val : Int) = 43 ∨ (k.val : Int) = 46) := by
    intro k
    exact propext (by revert k; decide +kernel)
  exact this ⟨k, hk⟩
theorem idx_mark {n : Int} (h0 : 0 ≤ n) (h1 : n ≤ 255) : (0 ≤ Lib.indexByte [123, 125, 91, 93, 58, 61, 44] n.toNat.toUInt8) = markc n := by
  obtain ⟨k, rfl⟩ : ∃ k : Nat, n = k := ⟨n.toNat, by omega⟩
  have hk : k < 256 := by omega
  have : ∀ k : Fin 256, (0 ≤ Lib.indexByte [123, 125, 91, 93, 58, 61, 44] ((k.val : Int)).toNat.toUInt8) = markc (k.val : Int) := by
    intro k
    exact propext (by revert k; decide +kernel)
  exact this ⟨k, hk⟩
theorem w_cls (n : Int) (h0 : 0 ≤ n) (h1 : n ≤ 255) : vc Try.prog Γ 53 [0, 2, 3, 14, 17, 24, 46, 49] (Try.f131.body.getD .skip) (postK Γ [.tmp 2] (fun v => v = .i .i64 (cls n))) ⟨argSlots 0 [.i .u8 n], []⟩ := by
  obtain ⟨iw, qw, hw⟩ : ∃ iw : Int, PSpec Try.prog 137 [.s [95, 45, 43, 46], .i .u8 n] (.i .i64 iw) ∧ (0 ≤ iw ↔ (n = 95 ∨ n = 45 ∨ n = 43 ∨ n = 46)) := ⟨_, s_IndexByte _ _, by rw [idx_word h0 h1]⟩
  obtain ⟨im, qm, hm⟩ : ∃ im : Int, PSpec Try.prog 137 [.s [123, 125, 91, 93, 58, 61, 44], .i .u8 n] (.i .i64 im) ∧ (0 ≤ im ↔ markc n) := ⟨_, s_IndexByte _ _, by rw [idx_mark h0 h1]⟩
  unfold markc at hm
  repeat' (first | (refine And.intro (fun h => ?_) (fun h => ?_) <;> (try simp [-List.getD_eq_getElem?_getD, -Int.pred_toNat] at h) <;> (try (exfalso; omega))) | (refine Or.inl (Exists.intro _ (And.intro qw ?_))) | (refine Or.inl (Exists.intro _ (And.intro qm ?_))))
  all_goals
    refine congrArg (AV.i .i64) ?_
    unfold cls blankc wordc markc
    (repeat' split) <;> omega
theorem s_cls (n : Int) (h0 : 0 ≤ n) (h1 : n ≤ 255) : PSpec Try.prog 131 [.i .u8 n] (.i .i64 (cls n)) :=
  pspec_of_vc Γ_good Try.func131 rfl Try.call131 Try.results131 Try.ntmps131 (Nat.le_of_ble_eq_true rfl) (w_cls n h0 h1)
end
end Go.Proofs.Ytjlbaagnoppfgaa
