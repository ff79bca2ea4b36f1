/-
  A part of the proof that 'typecaselaw.SpliceComposes' returns true, whatever the input: both changes checked; a change that is good, or too large. No conditions.
-/
import Derived.Test.YtjlbaagnoppfgaaSplD
namespace Go.Proofs.Ytjlbaagnoppfgaa
open Go Go.SX Go.Spl
set_option maxRecDepth 100000
set_option maxHeartbeats 0
theorem chk_inv {c : List Part} (h : (chk c).2.2 = 0) : c.length ≤ 400 ∧ (∀ p ∈ c, pfault p = 0) ∧ chk c = (sumOv c, sumMk c, 0) ∧ sumOv c ≤ 20000 ∧ sumMk c ≤ 20000 := by
  unfold chk at h
  split at h
  · cases h
  · split at h
    · rename_i p hp
      have := List.find?_some hp
      simp only [bne_iff_ne] at this
      exact absurd h this
    · rename_i hl _ hn
      have hall : ∀ p ∈ c, pfault p = 0 := fun p hp => by
        have := List.find?_eq_none.1 hn p hp
        simpa using this
      split at h
      · cases h
      · rename_i hs
        refine ⟨by omega, hall, ?_, by omega, by omega⟩
        rw [chk_good hl hall, if_neg hs]
theorem chk_fail {c : List Part} (h : (chk c).2.2 ≠ 0) : chk c = (0, 0, (chk c).2.2) := by
  unfold chk at h ⊢
  split
  · rfl
  · rename_i hl
    rw [if_neg hl] at h
    split
    · rfl
    · rename_i hn
      rw [hn] at h
      simp only at h
      split
      · rfl
      · rename_i hs
        rw [if_neg hs] at h
        exact absurd rfl h
theorem walk65 (a b : List Part) (ha : (chk a).2.2 = 0) (hb : (chk b).2.2 = 0) :
    vc Try.prog Γ 39 [0, 1, 4, 5, 6, 9, 12, 20, 29, 32, 34, 36, 38] (Try.f65.body.getD .skip) (postBK Γ [.tmp 4, .tmp 5, .tmp 6] (.tup [.pt 34 0, .pt 38 0, .i .i64 0]) [(34, [.vec 32 .part (norm a)]), (38, [.vec 36 .part (norm b)])]) ⟨argSlots 0 [.rd .part a, .rd .part b], []⟩ := by
  obtain ⟨ha1, ha2, _, _, _⟩ := chk_inv ha
  obtain ⟨hb1, hb2, _, _, _⟩ := chk_inv hb
  refine Or.inl (Exists.intro (resChk (chk a)) (And.intro (spec66 a) ?_))
  refine And.intro (fun h => absurd ha (by simpa using h)) (fun _ => ?_)
  refine Or.inl (Exists.intro (resChk (chk b)) (And.intro (spec66 b) ?_))
  refine And.intro (fun h => absurd hb (by simpa using h)) (fun _ => ?_)
  refine Or.inr (Exists.intro [] (Exists.intro 76 (Exists.intro [.rd .part a] (Exists.intro [] (Exists.intro (.vec 1000 .part (norm a)) (Exists.intro [] (Exists.intro [(1000, 32)] (And.intro (spec76 a ha2 ha1) ?_))))))))
  refine And.intro rfl (And.intro rfl (And.intro rfl (And.intro rfl ?_)))
  refine Or.inr (Exists.intro [] (Exists.intro 76 (Exists.intro [.rd .part b] (Exists.intro [] (Exists.intro (.vec 1000 .part (norm b)) (Exists.intro [] (Exists.intro [(1000, 36)] (And.intro (spec76 b hb2 hb1) ?_))))))))
  refine And.intro rfl (And.intro rfl (And.intro rfl (And.intro rfl ?_)))
  refine Exists.intro [] (And.intro rfl ?_)
  exact And.intro (And.intro (Or.inl rfl) trivial) (And.intro (And.intro (Or.inl rfl) trivial) trivial)
theorem spec65 (a b : List Part) (ha : (chk a).2.2 = 0) (hb : (chk b).2.2 = 0) :
    CSpec Try.prog 65 [.rd .part a, .rd .part b] [] (.tup [.pt 34 0, .pt 38 0, .i .i64 0]) [(34, [.vec 32 .part (norm a)]), (38, [.vec 36 .part (norm b)])] :=
  cspec_of_vc Γ_good Try.func65 rfl Try.call65 Try.results65 Try.ntmps65 (Nat.le_of_ble_eq_true rfl) (Nat.le_of_ble_eq_true rfl) (by rfl) (walk65 a b ha hb)
/-- what both tells first -/
def both1 (a b : List Part) : Int := if (chk a).2.2 ≠ 0 then (chk a).2.2 else (chk b).2.2
theorem walk65f (a b : List Part) (h : both1 a b ≠ 0) :
    vc Try.prog Γ 39 [0, 1, 4, 5, 6, 9, 12, 20, 29, 32, 34, 36, 38] (Try.f65.body.getD .skip) (postK Γ [.tmp 4, .tmp 5, .tmp 6] (fun v => v = .tup [.x, .x, .i .i64 (both1 a b)])) ⟨argSlots 0 [.rd .part a, .rd .part b], []⟩ := by
  refine Or.inl (Exists.intro (resChk (chk a)) (And.intro (spec66 a) ?_))
  refine And.intro (fun h1 => ?_) (fun h1 => ?_)
  · have h1 : (chk a).2.2 ≠ 0 := by simpa using h1
    show AV.tup [.x, .x, .i .i64 (chk a).2.2] = AV.tup [.x, .x, .i .i64 (both1 a b)]
    rw [both1, if_pos h1]
  · have h1 : (chk a).2.2 = 0 := by simpa using h1
    refine Or.inl (Exists.intro (resChk (chk b)) (And.intro (spec66 b) ?_))
    have h2 : both1 a b = (chk b).2.2 := by rw [both1, if_neg (by simpa using h1)]
    refine And.intro (fun h3 => ?_) (fun h3 => ?_)
    · show AV.tup [.x, .x, .i .i64 (chk b).2.2] = AV.tup [.x, .x, .i .i64 (both1 a b)]
      rw [h2]
    · rw [h2] at h
      exact absurd h (by simpa using h3)
theorem spec65f (a b : List Part) (h : both1 a b ≠ 0) : PSpec Try.prog 65 [.rd .part a, .rd .part b] (.tup [.x, .x, .i .i64 (both1 a b)]) :=
  pspec_of_vc Γ_good Try.func65 rfl Try.call65 Try.results65 Try.ntmps65 (Nat.le_of_ble_eq_true rfl) (walk65f a b h)
theorem walk71 (c : List Part) : vc Try.prog Γ 16 [0, 2, 3, 6, 14] (Try.f71.body.getD .skip) (postK Γ [.tmp 2, .tmp 3] (fun v => v = if (chk c).2.2 = 0 then .tup [.rd .part c, .i .i64 0] else .tup [.nl, .i .i64 2])) ⟨argSlots 0 [.rd .part c], []⟩ := by
  refine Or.inl (Exists.intro (resChk (chk c)) (And.intro (spec66 c) ?_))
  refine And.intro (fun h1 => ?_) (fun h1 => ?_)
  · have h1 : (chk c).2.2 ≠ 0 := by simpa using h1
    show _ = _
    rw [if_neg h1]
    rfl
  · have h1 : (chk c).2.2 = 0 := by simpa using h1
    show _ = _
    rw [if_pos h1]
    rfl
theorem spec71 (c : List Part) : PSpec Try.prog 71 [.rd .part c] (if (chk c).2.2 = 0 then .tup [.rd .part c, .i .i64 0] else .tup [.nl, .i .i64 2]) :=
  pspec_of_vc Γ_good Try.func71 rfl Try.call71 Try.results71 Try.ntmps71 (Nat.le_of_ble_eq_true rfl) (walk71 c)
end Go.Proofs.Ytjlbaagnoppfgaa
