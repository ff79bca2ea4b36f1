/-
  A part of the proof that 'typecaselaw.SpliceComposes' returns true, whatever the input: the document's check of a change. No conditions.
-/
import Derived.Test.YtjlbaagnoppfgaaSplF
namespace Go.Proofs.Ytjlbaagnoppfgaa
open Go Go.SX Go.Spl
set_option maxRecDepth 100000
set_option maxHeartbeats 0
theorem walk19 (c : List Part) : vc Try.prog Γ 95 [0, 2, 3, 4, 5, 6, 8, 11, 12, 13, 14, 15, 30, 48, 52, 60, 62, 63, 73, 79, 92] (Try.f19.body.getD .skip) (postK Γ [.tmp 2, .tmp 3, .tmp 4] (fun v => v = resChk (chk c))) ⟨argSlots 0 [.rd .part c], []⟩ := by
  intro hl
  refine And.intro (fun h => ?_) (fun h400 => ?_)
  · show _ = _
    unfold chk
    rw [if_pos (of_decide_eq_true h)]
    rfl
  · intro _
    simp only [decide_eq_false_iff_not] at h400
    refine Exists.intro [] (Exists.intro [] (Exists.intro [] (Exists.intro Nat (Exists.intro (fun k => k ≤ c.length ∧ ∀ p ∈ c.take k, pfault p = 0) (Exists.intro (fun k => ⟨[(5, .i .i64 (sumOv (c.take k))), (6, .i .i64 (sumMk (c.take k))), (12, .rd .part c), (13, .i .i64 c.length), (14, .i .i64 k)], []⟩) (Exists.intro (fun k => c.length - k) (Exists.intro 0 (And.intro ⟨Nat.zero_le _, by simp⟩ (And.intro ?_ ?_)))))))))
    · repeat' (first | exact trivial | exact Or.inl rfl | refine And.intro ?_ ?_)
    · intro k ⟨hk, hall⟩
      refine And.intro (fun h => ?_) (fun h => ?_)
      · have hk : k < c.length := by have := of_decide_eq_true h; omega
        refine And.intro ⟨by omega, by omega⟩ ?_
        have hsum := sums_le hall
        have hs1 := sum_take hk
        have hle : (c.take k).length ≤ c.length := by simp; omega
        have hpk : c.getD k default = c.getD (Int.toNat k) (dflt Ty.part) := by rw [Int.toNat_natCast]
        rw [hpk] at hs1
        clear hpk h hl
        have hleaf := fun e => @leaf66 c k e h400 hk hall
        have hnext := next66 hk hall
        repeat' (first
          | (refine And.intro (fun h => ?_) (fun h => ?_) <;> (try simp only [decide_eq_true_eq, decide_eq_false_iff_not, cond_true, cond_false, beq_iff_eq, bne_iff_ne, Bool.not_eq_true', beq_eq_false_iff_ne, bne_eq_false_iff_eq, ne_eq, Bool.not_eq_false', Bool.false_eq_true, Bool.true_eq_false, Bool.not_false, Bool.not_true] at h) <;> (try (exfalso; omega)))
          | refine And.intro ?_ ?_
          | intro h)
        all_goals first
          | omega
          | (refine Exists.intro [] (Exists.intro (k + 1) (And.intro ⟨hk, hnext ?_⟩ (And.intro ?_ ?_))))
          | refine hleaf _ ?_ (by decide)
        all_goals clear hleaf hnext
        all_goals generalize c.getD (Int.toNat (k:Int)) (dflt Ty.part) = p at *
        all_goals first
          | (unfold pfault; repeat' split
             all_goals first | rfl | omega | (simp_all; done) | (simp_all; omega))
          | (show c.length - (k + 1) < c.length - k; omega)
          | (have h1 := pov_eq p
             have h2 := pmk_eq p
             repeat' (first | exact trivial | exact Or.inl rfl | refine And.intro ?_ ?_)
             all_goals exact Or.inl (congrArg (AV.i .i64) (by first | omega | (simp_all; done) | (simp_all; omega))))

      · have hk : k = c.length := by have := of_decide_eq_false h; omega
        subst hk
        rw [List.take_length] at *
        have hg := chk_good h400 hall
        repeat' (first
          | (refine And.intro (fun h => ?_) (fun h => ?_) <;> (try simp only [decide_eq_true_eq, decide_eq_false_iff_not, cond_true, cond_false, beq_iff_eq, bne_iff_ne, Bool.not_eq_true', beq_eq_false_iff_ne, bne_eq_false_iff_eq, ne_eq, Bool.not_eq_false', Bool.false_eq_true, Bool.true_eq_false, Bool.not_false, Bool.not_true] at h) <;> (try (exfalso; omega)))
          | refine And.intro ?_ ?_
          | intro h)
        all_goals (show _ = _; rw [hg])
        all_goals first | (rw [if_pos (by omega)]; rfl) | (rw [if_neg (by omega)]; rfl)
theorem spec19 (c : List Part) : PSpec Try.prog 19 [.rd .part c] (resChk (chk c)) :=
  pspec_of_vc Γ_good Try.func19 rfl Try.call19 Try.results19 Try.ntmps19 (Nat.le_of_ble_eq_true rfl) (walk19 c)
end Go.Proofs.Ytjlbaagnoppfgaa
