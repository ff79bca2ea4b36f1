/-
  A part of the proof that 'typecaselaw.SpliceComposes' returns true, whatever the input: the document's Composed, and the law. No conditions.
-/
import Derived.Test.YtjlbaagnoppfgaaSplK
namespace Go.Proofs.Ytjlbaagnoppfgaa
open Go Go.SX Go.Spl
set_option maxRecDepth 100000
set_option maxHeartbeats 0
theorem at_length (p : List Prim) : ∀ l : List Atom, wt fOv p ≤ l.length → (at' l p).length = wt fMk p := by
  induction p with
  | nil => intro l _; rfl
  | cons x p ih =>
    intro l h
    cases x with
    | keep =>
      cases l with
      | nil => simp [wt, fOv] at h
      | cons a l =>
        simp only [wt, fOv, List.length_cons] at h
        simp only [at', List.take_succ_cons, List.take_zero, List.drop_succ_cons, List.drop_zero, List.length_append, List.length_cons, List.length_nil, wt, fMk]
        rw [ih l (by omega)]
    | cut =>
      cases l with
      | nil => simp [wt, fOv] at h
      | cons a l =>
        simp only [wt, fOv, List.length_cons] at h
        simp only [at', List.drop_succ_cons, List.drop_zero, wt, fMk]
        rw [ih l (by omega)]
        omega
    | put b =>
      simp only [wt, fOv] at h
      simp only [at', List.length_cons, wt, fMk]
      rw [ih l (by omega)]
      omega
theorem at_mem (p : List Prim) : ∀ (l : List Atom) (a : Atom), a ∈ at' l p → a ∈ l ∨ a.pos = -1 := by
  induction p with
  | nil => intro l a h; cases h
  | cons x p ih =>
    intro l a h
    cases x with
    | keep =>
      rw [at', List.mem_append] at h
      rcases h with h | h
      · exact .inl (List.mem_of_mem_take h)
      · exact (ih _ a h).imp List.mem_of_mem_drop id
    | cut =>
      rw [at'] at h
      exact (ih _ a h).imp List.mem_of_mem_drop id
    | put b =>
      rw [at'] at h
      rcases List.mem_cons.1 h with rfl | h
      · exact .inr rfl
      · exact ih _ a h
theorem whole_pos (n : Nat) : ∀ (i : Nat) (a : Atom), a ∈ wholeFrom i n → a.pos < (i + n : Nat) := by
  induction n with
  | zero => intro i a h; cases h
  | succ n ih =>
    intro i a h
    rw [wholeFrom] at h
    rcases List.mem_cons.1 h with rfl | h
    · simp only; omega
    · have := ih (i + 1) a h; omega
def compW (a b : List Part) : List Part := normalOf (atomsOf (atomsOf (wholeFrom 0 (wt fOv (exs a))) a) b) (wt fOv (exs a))
theorem walk18 (a b : List Part) (ha : (chk a).2.2 = 0) (hb : (chk b).2.2 = 0) (hab : sumOv b = sumMk a) :
    vc Try.prog Γ 22 [0, 1, 4, 5] (Try.f18.body.getD .skip) (postK Γ [.tmp 4] (fun v => v = .rd .part (compW a b))) ⟨argSlots 0 [.rd .part a, .rd .part b], []⟩ := by
  obtain ⟨ha1, ha2, ha3, ha4, ha5⟩ := chk_inv ha
  obtain ⟨hb1, hb2, hb3, hb4, hb5⟩ := chk_inv hb
  obtain ⟨wa1, wa2⟩ := wt_sums ha2
  obtain ⟨wb1, wb2⟩ := wt_sums hb2
  have hlen0 : (wholeFrom 0 (wt fOv (exs a))).length = wt fOv (exs a) := wholeFrom_length _ _
  have hlen1 : (atomsOf (wholeFrom 0 (wt fOv (exs a))) a).length = wt fMk (exs a) := by rw [atomsOf_eq, at_length _ _ (by omega)]
  have hlen2 : (atomsOf (atomsOf (wholeFrom 0 (wt fOv (exs a))) a) b).length = wt fMk (exs b) := by rw [atomsOf_eq _ (atomsOf _ _), at_length _ _ (by omega)]
  refine Or.inl (Exists.intro (resChk (chk a)) (And.intro (spec19 a) ?_))
  rw [ha3, ← wa1]
  refine Or.inl (Exists.intro _ (And.intro (spec75 (wt fOv (exs a)) (by omega)) ?_))
  refine Or.inl (Exists.intro _ (And.intro (spec74 (wholeFrom 0 (wt fOv (exs a))) a ha2 ha1 (by omega)) ?_))
  refine Or.inl (Exists.intro _ (And.intro (spec74 (atomsOf (wholeFrom 0 (wt fOv (exs a))) a) b hb2 hb1 (by omega)) ?_))
  refine Or.inl (Exists.intro _ (And.intro (spec73 (atomsOf (atomsOf (wholeFrom 0 (wt fOv (exs a))) a) b) (wt fOv (exs a)) (by omega) (by omega) ?_) ?_))
  · intro x hx
    rw [atomsOf_eq _ (atomsOf _ _)] at hx
    rcases at_mem _ _ _ hx with hx | hx
    · rw [atomsOf_eq] at hx
      rcases at_mem _ _ _ hx with hx | hx
      · have := whole_pos _ _ _ hx; omega
      · omega
    · omega
  · show _ = _
    rfl
theorem spec18 (a b : List Part) (ha : (chk a).2.2 = 0) (hb : (chk b).2.2 = 0) (hab : sumOv b = sumMk a) : PSpec Try.prog 18 [.rd .part a, .rd .part b] (.rd .part (compW a b)) :=
  pspec_of_vc Γ_good Try.func18 rfl Try.call18 Try.results18 Try.ntmps18 (Nat.le_of_ble_eq_true rfl) (walk18 a b ha hb hab)
theorem compW_eq (a b : List Part) (ha : (chk a).2.2 = 0) (hb : (chk b).2.2 = 0) (hab : sumOv b = sumMk a) : compW a b = done ((compT a b).foldl addP .init) := by
  obtain ⟨ha1, ha2, ha3, ha4, ha5⟩ := chk_inv ha
  obtain ⟨hb1, hb2, hb3, hb4, hb5⟩ := chk_inv hb
  have wa := (wt_sums ha2).2
  have wb := (wt_sums hb2).1
  exact composed_eq (fun p hp => ok_of (ha2 p hp)) (fun p hp => ok_of (hb2 p hp)) rfl (by omega)
theorem walk5 (a b : List Part) : vc Try.prog Γ 56 [0, 1, 4, 5, 6, 7, 8, 11, 22, 41] (Try.f5.body.getD .skip) (postK Γ [.tmp 4] (fun v => v = .b true)) ⟨argSlots 0 [.rd .part a, .rd .part b], []⟩ := by
  refine Or.inl (Exists.intro _ (And.intro (spec16 a b) ?_))
  by_cases hbo : both1 a b ≠ 0
  · have hm : matchR a b = both1 a b := by rw [matchR, if_pos hbo]
    rw [compRes, if_pos hbo]
    refine Or.inl (Exists.intro _ (And.intro (spec17 a b) ?_))
    rw [hm]
    refine And.intro (fun _ => ?_) (fun h => absurd hbo (by simpa using h))
    refine And.intro (fun _ => ?_) (fun h => absurd h (by simp))
    show AV.b (bif (((0 : Int)) == 0) then (both1 a b == both1 a b) else false) = AV.b true
    simp
  · have ha : (chk a).2.2 = 0 := by unfold both1 at hbo; by_cases h : (chk a).2.2 = 0; exact h; rw [if_pos h] at hbo; exact absurd h hbo
    have hb : (chk b).2.2 = 0 := by unfold both1 at hbo; rw [if_neg (by simpa using ha)] at hbo; simpa using hbo
    rw [compRes, if_neg hbo]
    by_cases hab : sumOv b ≠ sumMk a
    · have hm : matchR a b = 1 := by rw [matchR, if_neg hbo, if_pos hab]
      rw [if_pos hab]
      refine Or.inl (Exists.intro _ (And.intro (spec17 a b) ?_))
      rw [hm]
      refine And.intro (fun _ => ?_) (fun h => absurd h (by simp))
      refine And.intro (fun _ => ?_) (fun h => absurd h (by simp))
      show AV.b (bif (((0 : Int)) == 0) then ((1 : Int) == 1) else false) = AV.b true
      simp
    · have hab' : sumOv b = sumMk a := by simpa using hab
      have hm : matchR a b = 0 := by rw [matchR, if_neg hbo, if_neg hab]
      rw [if_neg hab]
      by_cases hg : (chk (done ((compT a b).foldl addP .init))).2.2 = 0
      · rw [if_pos hg]
        refine Or.inl (Exists.intro _ (And.intro (spec17 a b) ?_))
        rw [hm]
        refine And.intro (fun h => absurd h (by simp)) (fun _ => ?_)
        refine Or.inl (Exists.intro _ (And.intro (spec18 a b ha hb hab') ?_))
        refine Or.inl (Exists.intro _ (And.intro (spec19 (compW a b)) ?_))
        rw [compW_eq a b ha hb hab']
        refine And.intro (fun h => absurd hg (by simpa using h)) (fun _ => ?_)
        refine And.intro (fun _ => ?_) (fun h => absurd h (by simp))
        refine Or.inl (Exists.intro _ (And.intro (spec20 _ _) ?_))
        show AV.b (bif ((0 : Int) == 0) then decide (_ = _) else false) = AV.b true
        simp
      · rw [if_neg hg]
        refine Or.inl (Exists.intro _ (And.intro (spec17 a b) ?_))
        rw [hm]
        refine And.intro (fun h => absurd h (by simp)) (fun _ => ?_)
        refine Or.inl (Exists.intro _ (And.intro (spec18 a b ha hb hab') ?_))
        refine Or.inl (Exists.intro _ (And.intro (spec19 (compW a b)) ?_))
        rw [compW_eq a b ha hb hab']
        refine And.intro (fun _ => ?_) (fun h => absurd (by simpa using h) hg)
        refine And.intro (fun _ => ?_) (fun h => absurd h (by simp))
        show AV.b (bif (((0 : Int)) == 0) then ((2 : Int) == 2) else false) = AV.b true
        simp
theorem spec5 (a b : List Part) : PSpec Try.prog 5 [.rd .part a, .rd .part b] (.b true) :=
  pspec_of_vc Γ_good Try.func5 rfl Try.call5 Try.results5 Try.ntmps5 (Nat.le_of_ble_eq_true rfl) (walk5 a b)
end Go.Proofs.Ytjlbaagnoppfgaa
