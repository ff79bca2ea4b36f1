/-
  A part of the proof that 'typecaselaw.ChainPlans' returns true: the law, walked. No conditions.
-/
import Derived.Test.YtjlbaagnoppfgaaChainC
namespace Go.Proofs.Ytjlbaagnoppfgaa
set_option linter.unusedSectionVars false
set_option linter.unusedSimpArgs false
set_option linter.unusedVariables false
open Go Go.SX Go.Ch
set_option maxRecDepth 100000
set_option maxHeartbeats 0
section
variable [G : Globs]
theorem w_equalI (a b : List Int) : vc Try.prog Γ 26 [0, 1, 4, 5, 10, 12, 13, 14, 24] (Try.f15.body.getD .skip) (postK Γ [.tmp 4] (fun v => v = .b (decide (a = b)))) ⟨argSlots 0 [.rd .int a, .rd .int b], []⟩ := by
  intro hlx
  intro hly
  refine And.intro (fun h => ?_) (fun h => ?_)
  · have hne : a.length ≠ b.length := by have : ¬ ((a.length : Int) = b.length) := by simpa using h
                                         omega
    show AV.b false = AV.b (decide (a = b))
    rw [decide_eq_false (fun e => hne (by rw [e]))]
  · have heq : a.length = b.length := by have : (a.length : Int) = b.length := by simpa using h
                                         omega
    intro _
    refine Exists.intro [] (Exists.intro [] (Exists.intro [] (Exists.intro Nat (Exists.intro (fun k => k ≤ a.length ∧ a.take k = b.take k) (Exists.intro (fun k => ⟨[(0, .rd .int a), (1, .rd .int b), (12, .i .i64 a.length), (13, .i .i64 k)], []⟩) (Exists.intro (fun k => a.length - k) (Exists.intro 0 (And.intro ⟨Nat.zero_le _, by simp⟩ (And.intro ?_ ?_)))))))))
    · (repeat' (first | exact trivial | exact Or.inl rfl | exact Or.inr (Or.inl ⟨rfl, _, rfl⟩) | exact Or.inr (Or.inr (Or.inr ⟨_, _, _, rfl, rfl⟩)) | refine And.intro ?_ ?_))
    · rintro k ⟨hk, ht⟩
      refine And.intro (fun h => ?_) (fun h => ?_)
      · have hk : k < a.length := by have := of_decide_eq_true h; omega
        refine Exists.intro [.blk [0, 1, 2, 3, 4, 5, 6, 7, 8]] (And.intro (by kernel_rfl) ?_)
        refine And.intro ⟨by omega, by omega⟩ ?_
        refine And.intro ⟨by omega, by omega⟩ ?_
        have hky : k < b.length := by omega
        have hpx : a.getD (Int.toNat k) (dflt .int) = a[k] := by rw [Int.toNat_natCast, List.getD_eq_getElem?_getD, List.getElem?_eq_getElem hk]; rfl
        have hpy : b.getD (Int.toNat k) (dflt .int) = b[k] := by rw [Int.toNat_natCast, List.getD_eq_getElem?_getD, List.getElem?_eq_getElem hky]; rfl
        refine And.intro (fun h => ?_) (fun h => ?_)
        · show AV.b false = AV.b (decide (a = b))
          rw [decide_eq_false]
          intro e
          subst e
          rw [hpx] at h
          simp at h
        · have he : a[k] = b[k] := by
            rw [hpx, hpy] at h
            simpa using h
          refine And.intro (rng64 (by omega) (by have := len_le hlx; omega)) ?_
          refine Exists.intro [] (Exists.intro (k + 1) (And.intro ⟨hk, by rw [List.take_add_one, List.take_add_one, ht, List.getElem?_eq_getElem hk, List.getElem?_eq_getElem hky, he]⟩ (And.intro ?_ ?_)))
          · (repeat' (first | exact trivial | exact Or.inl rfl | exact Or.inr (Or.inl ⟨rfl, _, rfl⟩) | exact Or.inr (Or.inr (Or.inr ⟨_, _, _, rfl, rfl⟩)) | refine And.intro ?_ ?_))
          · show a.length - (k + 1) < a.length - k
            omega
      · have hk : k = a.length := by have := of_decide_eq_false h; omega
        show AV.b true = AV.b (decide (a = b))
        rw [decide_eq_true (by rw [hk, List.take_length, heq, List.take_length] at ht; exact ht)]
theorem s_equalI (a b : List Int) : PSpec Try.prog 15 [.rd .int a, .rd .int b] (.b (decide (a = b))) :=
  pspec_of_vc Γ_good Try.func15 rfl Try.call15 Try.results15 Try.ntmps15 (Nat.le_of_ble_eq_true rfl) (w_equalI a b)
theorem w_way (l : List Link) (f t : Int) : vc Try.prog Γ 23 [0, 1, 2, 6, 7, 8, 9, 12, 21] (Try.f14.body.getD .skip) (postK Γ [.tmp 6, .tmp 7] (fun v => v = planR l f t)) ⟨argSlots 0 [.rd .link l, .i .i64 f, .i .i64 t], []⟩ := by
  intro hl
  refine And.intro (fun h => ?_) (fun h => ?_)
  · have h : 100 < l.length := by have := of_decide_eq_true h; omega
    show _ = _
    rw [planR, if_pos h]
    rfl
  · have h : l.length ≤ 100 := by have := of_decide_eq_false h; omega
    have hw := s_wayOf l f t h
    by_cases hex : ∃ d, Dist l t f d
    · obtain ⟨d, hd⟩ := hex
      rw [wayR_pos hd] at hw
      rw [planR_some h hd]
      refine Or.inl (Exists.intro _ (And.intro (hw) ?_))
      refine And.intro (fun h => Bool.noConfusion h) (fun _ => rfl)
    · rw [wayR_neg hex] at hw
      rw [planR_none h (fun d hd => hex ⟨d, hd⟩)]
      refine Or.inl (Exists.intro _ (And.intro (hw) ?_))
      refine And.intro (fun _ => rfl) (fun h => Bool.noConfusion h)
theorem s_way (l : List Link) (f t : Int) : PSpec Try.prog 14 [.rd .link l, .i .i64 f, .i .i64 t] (planR l f t) :=
  pspec_of_vc Γ_good Try.func14 rfl Try.call14 Try.results14 Try.ntmps14 (Nat.le_of_ble_eq_true rfl) (w_way l f t)
theorem planR_cases (l : List Link) (f t : Int) : ∃ u e, planR l f t = .tup [u, .i .i64 e] ∧ ∃ w, AVle u (.rd .int w) := by
  by_cases h : 100 < l.length
  · exact ⟨_, _, by rw [planR, if_pos h], [], .inr ⟨rfl, _, rfl⟩⟩
  · by_cases hex : ∃ d, Dist l t f d
    · obtain ⟨d, hd⟩ := hex
      exact ⟨_, _, planR_some (by omega) hd, _, .inl rfl⟩
    · exact ⟨_, _, planR_none (by omega) (fun d hd => hex ⟨d, hd⟩), [], .inr ⟨rfl, _, rfl⟩⟩
theorem w_chainPlans (l : List Link) (f t : Int) : vc Try.prog Γ 33 [0, 1, 2, 6, 7, 8, 9, 10] (Try.f4.body.getD .skip) (postK Γ [.tmp 6] (fun v => v = .b true)) ⟨argSlots 0 [.rd .link l, .i .i64 f, .i .i64 t], []⟩ := by
  obtain ⟨u, e, hp, w, hu⟩ := planR_cases l f t
  have h1 := s_Plan l f t
  have h2 := s_way l f t
  rw [hp] at h1 h2
  have h3 := pspec_le (s_equalI w w) (args' := [u, u]) ⟨hu, hu, trivial⟩
  rw [decide_eq_true rfl] at h3
  rcases hu with rfl | ⟨rfl, _, _⟩
  · refine Or.inl (Exists.intro _ (And.intro (h1) ?_))
    refine Or.inl (Exists.intro _ (And.intro (h2) ?_))
    refine Or.inl (Exists.intro _ (And.intro (h3) ?_))
    refine And.intro (fun _ => congrArg AV.b (decide_eq_true rfl)) (fun h => Bool.noConfusion h)
  · refine Or.inl (Exists.intro _ (And.intro (h1) ?_))
    refine Or.inl (Exists.intro _ (And.intro (h2) ?_))
    refine Or.inl (Exists.intro _ (And.intro (h3) ?_))
    refine And.intro (fun _ => congrArg AV.b (decide_eq_true rfl)) (fun h => Bool.noConfusion h)
theorem s_chainPlans (l : List Link) (f t : Int) : PSpec Try.prog 4 [.rd .link l, .i .i64 f, .i .i64 t] (.b true) :=
  pspec_of_vc Γ_good Try.func4 rfl Try.call4 Try.results4 Try.ntmps4 (Nat.le_of_ble_eq_true rfl) (w_chainPlans l f t)
end
end Go.Proofs.Ytjlbaagnoppfgaa
