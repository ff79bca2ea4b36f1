/-
  A part of the proof that 'typecaselaw.SpliceComposes' returns true, whatever the input: what is wrong with two changes; two changes compared; a whole text. No conditions.
-/
import Derived.Test.YtjlbaagnoppfgaaSplG
namespace Go.Proofs.Ytjlbaagnoppfgaa
open Go Go.SX Go.Spl
set_option maxRecDepth 100000
set_option maxHeartbeats 0
def matchR (a b : List Part) : Int := if both1 a b ≠ 0 then both1 a b else if sumOv b ≠ sumMk a then 1 else 0
theorem walk17 (a b : List Part) : vc Try.prog Γ 47 [0, 1, 2, 6, 7, 8, 9, 10, 12, 25, 29, 33] (Try.f17.body.getD .skip) (postK Γ [.tmp 6] (fun v => v = .i .i64 (matchR a b))) ⟨argSlots 0 [.rd .part a, .rd .part b, .b true], []⟩ := by
  refine Or.inl (Exists.intro (resChk (chk a)) (And.intro (spec19 a) ?_))
  refine Or.inl (Exists.intro (resChk (chk b)) (And.intro (spec19 b) ?_))
  refine And.intro (fun h => ?_) (fun h => ?_)
  · have ha : (chk a).2.2 ≠ 0 := by simpa using h
    have hb : both1 a b = (chk a).2.2 := by rw [both1, if_pos ha]
    show AV.i .i64 (chk a).2.2 = AV.i .i64 (matchR a b)
    rw [matchR, if_pos (by rw [hb]; exact ha), hb]
  · have ha : (chk a).2.2 = 0 := by simpa using h
    have hb : both1 a b = (chk b).2.2 := by rw [both1, if_neg (by simpa using ha)]
    refine And.intro (fun h => ?_) (fun h => ?_)
    · have hb2 : (chk b).2.2 ≠ 0 := by simpa using h
      show AV.i .i64 (chk b).2.2 = AV.i .i64 (matchR a b)
      rw [matchR, if_pos (by rw [hb]; exact hb2), hb]
    · have hb2 : (chk b).2.2 = 0 := by simpa using h
      obtain ⟨_, _, ha3, _, _⟩ := chk_inv ha
      obtain ⟨_, _, hb3, _, _⟩ := chk_inv hb2
      rw [ha3, hb3]
      have hm : matchR a b = if sumOv b ≠ sumMk a then 1 else 0 := by rw [matchR, if_neg (by rw [hb, hb2]; simp)]
      refine And.intro (fun _ => ?_) (fun h => absurd h (by simp))
      refine And.intro (fun h => ?_) (fun h => ?_)
      · have hne : sumOv b ≠ sumMk a := by simpa using h
        refine And.intro (fun _ => ?_) (fun h' => absurd (h.symm.trans h') (by simp))
        show AV.i .i64 1 = AV.i .i64 (matchR a b)
        rw [hm, if_pos hne]
      · have heq : sumOv b = sumMk a := by simpa using h
        refine And.intro (fun h => absurd h (by simp)) (fun _ => ?_)
        refine And.intro (fun h => absurd h (by simp)) (fun _ => ?_)
        show AV.i .i64 0 = AV.i .i64 (matchR a b)
        rw [hm, if_neg (by simpa using heq)]
theorem spec17 (a b : List Part) : PSpec Try.prog 17 [.rd .part a, .rd .part b, .b true] (.i .i64 (matchR a b)) :=
  pspec_of_vc Γ_good Try.func17 rfl Try.call17 Try.results17 Try.ntmps17 (Nat.le_of_ble_eq_true rfl) (walk17 a b)
theorem walk20 (x y : List Part) : vc Try.prog Γ 26 [0, 1, 4, 5, 10, 12, 13, 14, 24] (Try.f20.body.getD .skip) (postK Γ [.tmp 4] (fun v => v = .b (decide (x = y)))) ⟨argSlots 0 [.rd .part x, .rd .part y], []⟩ := by
  intro hlx hly
  refine And.intro (fun h => ?_) (fun h => ?_)
  · have hne : x.length ≠ y.length := by have : ¬ ((x.length : Int) = y.length) := by simpa using h
                                         omega
    show AV.b false = AV.b (decide (x = y))
    rw [decide_eq_false (fun e => hne (by rw [e]))]
  · have heq : x.length = y.length := by have : (x.length : Int) = y.length := by simpa using h
                                         omega
    intro _
    refine Exists.intro [] (Exists.intro [] (Exists.intro [] (Exists.intro Nat (Exists.intro (fun k => k ≤ x.length ∧ x.take k = y.take k) (Exists.intro (fun k => ⟨[(0, .rd .part x), (1, .rd .part y), (12, .i .i64 x.length), (13, .i .i64 k)], []⟩) (Exists.intro (fun k => x.length - k) (Exists.intro 0 (And.intro ⟨Nat.zero_le _, by simp⟩ (And.intro ?_ ?_)))))))))
    · repeat' (first | exact trivial | exact Or.inl rfl | refine And.intro ?_ ?_)
    · intro k ⟨hk, ht⟩
      refine And.intro (fun h => ?_) (fun h => ?_)
      · have hk : k < x.length := by have := of_decide_eq_true h; omega
        refine Exists.intro [.blk [0, 1, 2, 3, 4, 5, 6, 7, 8]] (And.intro (by kernel_rfl) ?_)
        refine And.intro ⟨by omega, by omega⟩ ?_
        refine And.intro ⟨by omega, by omega⟩ ?_
        have hky : k < y.length := by omega
        have hpx : x.getD (Int.toNat k) (dflt .part) = x[k] := by rw [Int.toNat_natCast, List.getD_eq_getElem?_getD, List.getElem?_eq_getElem hk]; rfl
        have hpy : y.getD (Int.toNat k) (dflt .part) = y[k] := by rw [Int.toNat_natCast, List.getD_eq_getElem?_getD, List.getElem?_eq_getElem hky]; rfl
        refine And.intro (fun h => ?_) (fun h => ?_)
        · show AV.b false = AV.b (decide (x = y))
          rw [decide_eq_false]
          intro e
          subst e
          rw [hpx] at h
          simp at h
        · have he : x[k] = y[k] := by
            rw [hpx, hpy] at h
            simp only [Bool.not_eq_false', Bool.and_eq_true, decide_eq_true_eq, beq_iff_eq, and_true] at h
            obtain ⟨h1, h2, h3⟩ := h
            cases hx : x[k]
            cases hy : y[k]
            rw [hx, hy] at h1 h2 h3
            simp only at h1 h2 h3
            rw [h1, h2, h3]
          refine And.intro ⟨by show (-9223372036854775808 : Int) ≤ _; omega, by unfold maxLen at hlx; show _ ≤ (9223372036854775807 : Int); omega⟩ ?_
          refine Exists.intro [] (Exists.intro (k + 1) (And.intro ⟨hk, by rw [List.take_add_one, List.take_add_one, ht, List.getElem?_eq_getElem hk, List.getElem?_eq_getElem hky, he]⟩ (And.intro ?_ ?_)))
          · repeat' (first | exact trivial | exact Or.inl rfl | refine And.intro ?_ ?_)
          · show x.length - (k + 1) < x.length - k
            omega
      · have hk : k = x.length := by have := of_decide_eq_false h; omega
        show AV.b true = AV.b (decide (x = y))
        rw [decide_eq_true (by rw [hk, List.take_length, heq, List.take_length] at ht; exact ht)]
theorem wholeFrom_succ (i k : Nat) : wholeFrom i (k + 1) = wholeFrom i k ++ [⟨((i + k : Nat) : Int), 0⟩] := by
  induction k generalizing i with
  | zero => rfl
  | succ k ih =>
    rw [wholeFrom, ih, wholeFrom]
    simp [show i + 1 + k = i + (k + 1) by omega]
theorem wholeFrom_length (i k : Nat) : (wholeFrom i k).length = k := by
  induction k generalizing i with
  | zero => rfl
  | succ k ih => simp [wholeFrom, ih]
theorem walk75 (n : Nat) (hn : n ≤ 1000000) : vc Try.prog Γ 16 [0, 2, 3, 4, 5, 6, 7] (Try.f75.body.getD .skip) (postK Γ [.tmp 2] (fun v => v = .rd .atom (wholeFrom 0 n))) ⟨argSlots 0 [.i .i64 n], []⟩ := by
  refine Exists.intro [(3, 13, .atom)] (Exists.intro [] (Exists.intro [] (Exists.intro Nat (Exists.intro (fun k => k ≤ n) (Exists.intro (fun k => ⟨[(3, .vec 13 .atom (wholeFrom 0 k)), (5, .i .i64 n), (6, .i .i64 k)], []⟩) (Exists.intro (fun k => n - k) (Exists.intro 0 (And.intro (Nat.zero_le _) (And.intro ?_ ?_)))))))))
  · repeat' (first | exact trivial | exact Or.inl rfl | refine And.intro ?_ ?_)
  · intro k hk
    refine And.intro (fun h => ?_) (fun h => ?_)
    · have hk : k < n := by have := of_decide_eq_true h; omega
      refine And.intro (by show ((wholeFrom 0 k).length + 1) * 16 ≤ _; rw [wholeFrom_length]; omega) ?_
      refine And.intro ⟨by show (-9223372036854775808 : Int) ≤ _; omega, by show _ ≤ (9223372036854775807 : Int); omega⟩ ?_
      refine Exists.intro [] (Exists.intro (k + 1) (And.intro hk (And.intro ?_ ?_)))
      · refine And.intro (And.intro (Or.inl ?_) (And.intro (Or.inl rfl) (And.intro (Or.inl rfl) trivial))) trivial
        show AV.vec 13 .atom (wholeFrom 0 k ++ [⟨(k : Int), 0⟩]) = AV.vec 13 .atom (wholeFrom 0 (k + 1))
        rw [wholeFrom_succ, Nat.zero_add]
      · show n - (k + 1) < n - k
        omega
    · have hk : k = n := by have := of_decide_eq_false h; omega
      subst hk
      show _ = _
      rfl
theorem spec20 (x y : List Part) : PSpec Try.prog 20 [.rd .part x, .rd .part y] (.b (decide (x = y))) :=
  pspec_of_vc Γ_good Try.func20 rfl Try.call20 Try.results20 Try.ntmps20 (Nat.le_of_ble_eq_true rfl) (walk20 x y)
theorem spec75 (n : Nat) (hn : n ≤ 1000000) : PSpec Try.prog 75 [.i .i64 n] (.rd .atom (wholeFrom 0 n)) :=
  pspec_of_vc Γ_good Try.func75 rfl Try.call75 Try.results75 Try.ntmps75 (Nat.le_of_ble_eq_true rfl) (walk75 n hn)
end Go.Proofs.Ytjlbaagnoppfgaa
