/-
  A part of the proof that 'typecaselaw.ValCompares' returns true: the law, walked. No conditions.
-/
import Derived.Test.YtjlbaagnoppfgaaValG
namespace Go.Proofs.Ytjlbaagnoppfgaa
set_option linter.unusedSectionVars false
set_option linter.unusedSimpArgs false
set_option linter.unusedVariables false
open Go Go.SX Go.Vl
set_option maxRecDepth 100000
set_option maxHeartbeats 0
section
variable [G : Globs]
theorem putE_mem {l : List Ent} {k : Str} {a : Val} {p : Ent} (h : p ∈ putE l k a) : p = (k, a) ∨ p ∈ l := by
  unfold putE at h
  rcases List.mem_append.1 h with h | h
  · exact .inr (List.mem_filter.1 (List.mem_of_mem_take h)).1
  · rcases List.mem_cons.1 h with h | h
    · exact .inl h
    · exact .inr (List.mem_filter.1 (List.mem_of_mem_drop h)).1
theorem vb_e {l : List Ent} (h : ∀ p ∈ l, VB p.2) : VB ⟨6, 0, 0, [], [], l⟩ := VB.mk ⟨6, 0, 0, [], [], l⟩ ⟨by show (-9223372036854775808 : Int) ≤ 6; omega, by show (6 : Int) ≤ 9223372036854775807; omega⟩ ⟨by show (-9223372036854775808 : Int) ≤ 0; omega, by show (0 : Int) ≤ 9223372036854775807; omega⟩ ⟨by show (0 : Int) ≤ 0; omega, by show (0 : Int) ≤ 18446744073709551615; omega⟩ (fun x hx => by cases hx) h
theorem w_law (a b : Val) (l : List Ent) (k : Str) (ha : VB a) (hb : VB b) (hl : ∀ p ∈ l, VB p.2) (hl1 : l.length ≤ 100000000) (hn : ∀ p ∈ l, VN 100000000 p.2) (hna : VN 100000000 a) : vc Try.prog Γ 45 [2, 3, 4, 5, 8] (Try.f11.body.getD .skip) (postK Γ [.tmp 8] (fun v => v = .b true)) ⟨argSlots 0 [.agg (encVal a), .agg (encVal b), .rd .ent l, .s k], []⟩ := by
  refine Exists.intro [.blk [0, 1, 2, 3, 4, 5, 6, 7, 8, 9, 10, 11, 12, 13, 14, 15, 16, 17, 18, 19, 20, 21, 22, 23, 24, 25, 26, 27, 28, 29, 30, 31, 32, 33, 34, 35, 36]] (And.intro (by kernel_rfl) ?_)
  refine Exists.intro _ (And.intro (s_Compare a b ha hb) ?_)
  refine Exists.intro _ (And.intro (s_Beside a b ha hb) ?_)
  refine And.intro (fun _ => ?_) (fun h => by rw [beq_self_eq_true] at h; cases h)
  refine Exists.intro _ (And.intro (s_find l k) ?_)
  refine Exists.intro _ (And.intro (s_entAt l k) ?_)
  refine And.intro (fun _ => ?_) (fun h => by rw [beq_self_eq_true] at h; cases h)
  refine Exists.intro _ (And.intro (s_put l k a hl1 hn hna) ?_)
  refine Exists.intro _ (And.intro (s_with l k a hl1) ?_)
  have hp : ∀ p ∈ putE l k a, VB p.2 := fun p hp => by
    rcases putE_mem hp with h | h
    · rw [h]; exact ha
    · exact hl p h
  have s1 := s_sameE (putE l k a) (putE l k a) (vb_e hp) (vb_e hp)
  rw [decide_eq_true (cmpE_self _)] at s1
  refine Exists.intro _ (And.intro (s1) ?_)
  refine And.intro (fun _ => ?_) (fun h => by cases h)
  refine Exists.intro _ (And.intro (s_drop l k hl1 hn) ?_)
  refine Exists.intro _ (And.intro (s_wout l k hl1) ?_)
  have hq : ∀ p ∈ withoutE l k, VB p.2 := fun p hp => hl p (List.mem_filter.1 hp).1
  have s2 := s_sameE (withoutE l k) (withoutE l k) (vb_e hq) (vb_e hq)
  rw [decide_eq_true (cmpE_self _)] at s2
  refine Exists.intro _ (And.intro (s2) ?_)
  rfl
theorem s_law (a b : Val) (l : List Ent) (k : Str) (ha : VB a) (hb : VB b) (hl : ∀ p ∈ l, VB p.2) (hl1 : l.length ≤ 100000000) (hn : ∀ p ∈ l, VN 100000000 p.2) (hna : VN 100000000 a) : PSpec Try.prog 11 [.agg (encVal a), .agg (encVal b), .rd .ent l, .s k] (.b true) :=
  pspec_of_vc Γ_good Try.func11 rfl Try.call11 Try.results11 Try.ntmps11 (Nat.le_of_ble_eq_true rfl) (w_law a b l k ha hb hl hl1 hn hna)
end
end Go.Proofs.Ytjlbaagnoppfgaa
