/-
  A part of the proof that 'typecaselaw.SpliceTransforms' returns true, whatever the input: the law. No conditions.
-/
import Derived.Test.YtjlbaagnoppfgaaSplW
namespace Go.Proofs.Ytjlbaagnoppfgaa
open Go Go.SX Go.Spl
set_option maxRecDepth 100000
set_option maxHeartbeats 0
def matchF (a b : List Part) : Int := if both1 a b ≠ 0 then both1 a b else if sumOv b ≠ sumOv a then 1 else 0
theorem walk17f (a b : List Part) : vc Try.prog Γ 47 [0, 1, 2, 6, 7, 8, 9, 10, 12, 25, 29, 33] (Try.f17.body.getD .skip) (postK Γ [.tmp 6] (fun v => v = .i .i64 (matchF a b))) ⟨argSlots 0 [.rd .part a, .rd .part b, .b false], []⟩ := by
  refine Or.inl (Exists.intro (resChk (chk a)) (And.intro (spec19 a) ?_))
  refine Or.inl (Exists.intro (resChk (chk b)) (And.intro (spec19 b) ?_))
  refine And.intro (fun h => ?_) (fun h => ?_)
  · have ha : (chk a).2.2 ≠ 0 := by simpa using h
    have hb : both1 a b = (chk a).2.2 := by rw [both1, if_pos ha]
    show AV.i .i64 (chk a).2.2 = AV.i .i64 (matchF a b)
    rw [matchF, if_pos (by rw [hb]; exact ha), hb]
  · have ha : (chk a).2.2 = 0 := by simpa using h
    have hb : both1 a b = (chk b).2.2 := by rw [both1, if_neg (by simpa using ha)]
    refine And.intro (fun h => ?_) (fun h => ?_)
    · have hb2 : (chk b).2.2 ≠ 0 := by simpa using h
      show AV.i .i64 (chk b).2.2 = AV.i .i64 (matchF a b)
      rw [matchF, if_pos (by rw [hb]; exact hb2), hb]
    · have hb2 : (chk b).2.2 = 0 := by simpa using h
      obtain ⟨_, _, ha3, _, _⟩ := chk_inv ha
      obtain ⟨_, _, hb3, _, _⟩ := chk_inv hb2
      rw [ha3, hb3]
      have hm : matchF a b = if sumOv b ≠ sumOv a then 1 else 0 := by rw [matchF, if_neg (by rw [hb, hb2]; simp)]
      refine And.intro (fun h => absurd h (by simp)) (fun _ => ?_)
      refine And.intro (fun h => absurd h (by simp)) (fun _ => ?_)
      refine And.intro (fun _ => ?_) (fun h => absurd h (by simp))
      refine And.intro (fun h => ?_) (fun h => ?_)
      · have hne : sumOv b ≠ sumOv a := by simpa using h
        show AV.i .i64 1 = AV.i .i64 (matchF a b)
        rw [hm, if_pos hne]
      · have heq : sumOv b = sumOv a := by simpa using h
        show AV.i .i64 0 = AV.i .i64 (matchF a b)
        rw [hm, if_neg (by simpa using heq)]
theorem spec17f (a b : List Part) : PSpec Try.prog 17 [.rd .part a, .rd .part b, .b false] (.i .i64 (matchF a b)) :=
  pspec_of_vc Γ_good Try.func17 rfl Try.call17 Try.results17 Try.ntmps17 (Nat.le_of_ble_eq_true rfl) (walk17f a b)
theorem walk7 (a b : List Part) : vc Try.prog Γ 90 [0, 1, 4, 5, 6, 7, 8, 9, 10, 13, 16, 28, 65] (Try.f7.body.getD .skip) (postK Γ [.tmp 4] (fun v => v = .b true)) ⟨argSlots 0 [.rd .part a, .rd .part b], []⟩ := by
  refine Or.inl (Exists.intro _ (And.intro (spec28 a b) ?_))
  by_cases hbo : both1 a b ≠ 0
  · have hm : matchF a b = both1 a b := by rw [matchF, if_pos hbo]
    rw [transRes, if_pos hbo]
    refine Or.inl (Exists.intro _ (And.intro (spec17f a b) ?_))
    rw [hm]
    refine And.intro (fun _ => ?_) (fun h => absurd hbo (by simpa using h))
    refine And.intro (fun _ => ?_) (fun h => absurd h (by simp))
    refine And.intro (fun _ => ?_) (fun h => absurd h (by simp))
    show AV.b (bif (bif ((0 : Int) == 0) then ((0 : Int) == 0) else false) then (both1 a b == both1 a b) else false) = AV.b true
    simp
  · have ha : (chk a).2.2 = 0 := by unfold both1 at hbo; by_cases h : (chk a).2.2 = 0; exact h; rw [if_pos h] at hbo; exact absurd h hbo
    have hb : (chk b).2.2 = 0 := by unfold both1 at hbo; rw [if_neg (by simpa using ha)] at hbo; simpa using hbo
    by_cases hab : sumOv b ≠ sumOv a
    · have hm : matchF a b = 1 := by rw [matchF, if_neg hbo, if_pos hab]
      rw [transRes, if_neg hbo, if_pos hab]
      refine Or.inl (Exists.intro _ (And.intro (spec17f a b) ?_))
      rw [hm]
      refine And.intro (fun _ => ?_) (fun h => absurd h (by simp))
      refine And.intro (fun _ => ?_) (fun h => absurd h (by simp))
      refine And.intro (fun _ => ?_) (fun h => absurd h (by simp))
      show AV.b (bif (bif ((0 : Int) == 0) then ((0 : Int) == 0) else false) then ((1 : Int) == 1) else false) = AV.b true
      simp
    · have hab' : sumOv b = sumOv a := by simpa using hab
      have hm : matchF a b = 0 := by rw [matchF, if_neg hbo, if_neg hab]
      rw [transRes_ok hbo hab']
      by_cases hg : (chk (done ((trT a b).1.foldl addP .init))).2.2 = 0 ∧ (chk (done ((trT a b).2.foldl addP .init))).2.2 = 0
      · rw [if_pos hg]
        refine Or.inl (Exists.intro _ (And.intro (spec17f a b) ?_))
        rw [hm]
        refine And.intro (fun h => absurd h (by simp)) (fun _ => ?_)
        refine Or.inl (Exists.intro _ (And.intro (spec29 a b ha hb hab') ?_))
        refine Or.inl (Exists.intro _ (And.intro (spec19 _) ?_))
        refine Or.inl (Exists.intro _ (And.intro (spec19 _) ?_))
        refine And.intro (fun _ => ?_) (fun h => absurd hg.1 (by simpa using h))
        refine And.intro (fun h => absurd hg.2 (by simpa using h)) (fun _ => ?_)
        refine And.intro (fun _ => ?_) (fun h => absurd h (by simp))
        refine Or.inl (Exists.intro _ (And.intro (spec20 _ _) ?_))
        refine And.intro (fun _ => ?_) (fun h => absurd h (by simp))
        refine Or.inl (Exists.intro _ (And.intro (spec20 _ _) ?_))
        show AV.b (bif true then decide ((done ((trT a b).2.foldl addP .init)) = (done ((trT a b).2.foldl addP .init))) else false) = AV.b true
        simp
      · rw [if_neg hg]
        refine Or.inl (Exists.intro _ (And.intro (spec17f a b) ?_))
        rw [hm]
        refine And.intro (fun h => absurd h (by simp)) (fun _ => ?_)
        refine Or.inl (Exists.intro _ (And.intro (spec29 a b ha hb hab') ?_))
        refine Or.inl (Exists.intro _ (And.intro (spec19 _) ?_))
        refine Or.inl (Exists.intro _ (And.intro (spec19 _) ?_))
        refine And.intro (fun h1 => ?_) (fun h1 => ?_)
        · have g1 : (chk (done ((trT a b).1.foldl addP .init))).2.2 = 0 := by simpa using h1
          refine And.intro (fun _ => ?_) (fun h => absurd ⟨g1, by simpa using h⟩ hg)
          refine And.intro (fun _ => ?_) (fun h => absurd h (by simp))
          refine And.intro (fun _ => ?_) (fun h => absurd h (by simp))
          show AV.b (bif (bif ((0 : Int) == 0) then ((0 : Int) == 0) else false) then ((2 : Int) == 2) else false) = AV.b true
          simp
        · refine And.intro (fun _ => ?_) (fun h => absurd h (by simp))
          refine And.intro (fun _ => ?_) (fun h => absurd h (by simp))
          refine And.intro (fun _ => ?_) (fun h => absurd h (by simp))
          show AV.b (bif (bif ((0 : Int) == 0) then ((0 : Int) == 0) else false) then ((2 : Int) == 2) else false) = AV.b true
          simp
theorem spec7 (a b : List Part) : PSpec Try.prog 7 [.rd .part a, .rd .part b] (.b true) :=
  pspec_of_vc Γ_good Try.func7 rfl Try.call7 Try.results7 Try.ntmps7 (Nat.le_of_ble_eq_true rfl) (walk7 a b)
end Go.Proofs.Ytjlbaagnoppfgaa
