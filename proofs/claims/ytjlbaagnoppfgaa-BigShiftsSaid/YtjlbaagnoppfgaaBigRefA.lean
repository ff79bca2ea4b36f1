/-
  A part of the proof of the laws of whole numbers: the document's numbers, walked. No conditions.
-/
import Derived.Test.YtjlbaagnoppfgaaWkBase
import Derived.Test.YtjlbaagnoppfgaaBigLaw
namespace Go.Proofs.Ytjlbaagnoppfgaa
set_option linter.unusedSectionVars false
set_option linter.unusedSimpArgs false
set_option linter.unusedVariables false
open Go Go.SX Go.Bg
set_option maxRecDepth 100000
set_option maxHeartbeats 0
theorem b10 : 2 ≤ 10000 := by decide
theorem take_take_pred (l : List Int) {k : Nat} (hk : k + 1 ≤ l.length) : ((l.take (k + 1)).take (Int.toNat (((l.take (k + 1)).length : Int) - 1))).drop (Int.toNat 0) = l.take k := by
  rw [List.length_take, Nat.min_eq_left hk, List.take_take, show Int.toNat (((k + 1 : Nat) : Int) - 1) = k from by omega, Nat.min_eq_left (by omega)]
  rfl
theorem zero_below {l : List Int} {j : Nat} (hz : ∀ i, j + 1 ≤ i → l.getD i 0 = 0) (hq : l.getD j 0 = 0) : ∀ i, j ≤ i → l.getD i 0 = 0 := fun i hi => by
  rcases Nat.lt_or_ge j i with h | h
  · exact hz i h
  · have : i = j := by omega
    subst this
    exact hq
theorem tmod10k (m : Nat) : (m : Int).tmod 10000 = ((m % 10000 : Nat) : Int) := rfl
theorem tdiv10k (m : Nat) : (m : Int).tdiv 10000 = ((m / 10000 : Nat) : Int) := rfl
theorem wrap_small {n : Nat} (h : n < 9223372036854775808) : IntKind.i64.wrap (n : Int) = (n : Int) := by
  rw [IntKind.wrap_i64]; omega
theorem small_next {n m : Nat} {o : List Int} (hm : 0 < m) (h1 : Dg 10000 o) (h2 : m < 18446744073709551616) (h3 : o.length < 5) (h4 : m < 10000 ^ (5 - o.length)) (h5 : o ++ dg 10000 m = dg 10000 n) :
    Dg 10000 (o ++ [((m % 10000 : Nat) : Int)]) ∧ m / 10000 < 18446744073709551616 ∧ (o ++ [((m % 10000 : Nat) : Int)]).length ≤ 5 ∧ m / 10000 < 10000 ^ (5 - (o ++ [((m % 10000 : Nat) : Int)]).length) ∧ (o ++ [((m % 10000 : Nat) : Int)]) ++ dg 10000 (m / 10000) = dg 10000 n := by
  refine ⟨h1.snoc ⟨by omega, by have := Nat.mod_lt m (show 0 < 10000 by decide); omega⟩, by omega, by simp; omega, ?_, ?_⟩
  · rw [List.length_append, List.length_singleton]
    obtain ⟨j, hj⟩ : ∃ j, 5 - o.length = j + 1 := ⟨4 - o.length, by omega⟩
    rw [hj, Nat.pow_succ] at h4
    rw [show 5 - (o.length + 1) = j by omega]
    exact (Nat.div_lt_iff_lt_mul (by decide)).2 h4
  · rw [← h5, dg_pos b10 hm, List.append_assoc]
    rfl
section
variable [G : Globs]
theorem w_cut (l : List Int) (hl : Dg 10000 l) : vc Try.prog Γ 21 [0, 2, 14] (Try.f88.body.getD .skip) (postK Γ [.tmp 2] (fun v => v = .rd .int (dg 10000 (vl 10000 l)))) ⟨argSlots 0 [.rd .int l], []⟩ := by
  refine Exists.intro [] (Exists.intro [] (Exists.intro [] (Exists.intro Nat (Exists.intro (fun k => k ≤ l.length ∧ ∀ i, k ≤ i → l.getD i 0 = 0) (Exists.intro (fun k => ⟨[(0, .rd .int (l.take k))], []⟩) (Exists.intro (fun k => k) (Exists.intro l.length (And.intro ⟨Nat.le_refl _, fun i hi => by rw [List.getD_eq_getElem?_getD, List.getElem?_eq_none hi]; rfl⟩ (And.intro ?_ ?_)))))))))
  · (repeat' (first | exact trivial | exact Or.inl rfl | exact Or.inl ((by rw [List.take_length])) | refine And.intro ?_ ?_))
  · rintro k ⟨hk, hz⟩
    intro hlen; replace hlen := len_le hlen
    have hlk : (l.take k).length = k := by rw [List.length_take]; omega
    refine And.intro (fun hg => ?_) (fun hg => ?_)
    · have hg : 0 < k := by have : (0 : Int) < ((l.take k).length : Int) := of_decide_eq_true hg
                            omega
      intro _
      (refine And.intro (rng64 (by omega) (by omega)) ?_)
      refine And.intro ⟨by omega, by omega⟩ ?_
      obtain ⟨j, rfl⟩ : ∃ j, k = j + 1 := ⟨k - 1, by omega⟩
      have hd : (l.take (j + 1)).getD (Int.toNat (((l.take (j + 1)).length : Int) - 1)) (dflt .int) = l.getD j 0 := by
        rw [hlk, show Int.toNat (((j + 1 : Nat) : Int) - 1) = j from by omega, List.getD_eq_getElem?_getD, List.getD_eq_getElem?_getD, List.getElem?_take_of_lt (by omega)]
      refine And.intro (fun hq => ?_) (fun hq => ?_)
      · have hq : l.getD j 0 = 0 := by rw [hd] at hq; simpa using hq
        intro _
        (refine And.intro (rng64 (by omega) (by omega)) ?_)
        refine And.intro ⟨by omega, by omega, by omega⟩ ?_
        refine Exists.intro [] (Exists.intro j (And.intro ⟨by omega, zero_below hz hq⟩ (And.intro ?_ ?_)))
        · (repeat' (first | exact trivial | exact Or.inl rfl | exact Or.inl ((congrArg (AV.rd .int) (take_take_pred l hk))) | refine And.intro ?_ ?_))
        · show j < j + 1
          omega
      · have hq : l.getD j 0 ≠ 0 := by rw [hd] at hq; simpa using hq
        exact congrArg (AV.rd .int) (canonTake b10 hl hk (Or.inr (by simpa using hq)) hz)
    · have hg : k = 0 := by have : ¬ (0 : Int) < ((l.take k).length : Int) := of_decide_eq_false hg
                            omega
      refine And.intro (fun h9 => absurd h9 (by simp)) (fun _ => ?_)
      exact congrArg (AV.rd .int) (canonTake b10 hl hk (Or.inl hg) hz)
theorem s_cut (l : List Int) (hl : Dg 10000 l) : PSpec Try.prog 88 [.rd .int l] (.rd .int (dg 10000 (vl 10000 l))) :=
  pspec_of_vc Γ_good Try.func88 rfl Try.call88 Try.results88 Try.ntmps88 (Nat.le_of_ble_eq_true rfl) (w_cut l hl)
theorem w_small (n : Nat) (hn : n < 18446744073709551616) : vc Try.prog Γ 15 [0, 2, 3, 5] (Try.f82.body.getD .skip) (postK Γ [.tmp 2] (fun v => v = .rd .int (dg 10000 n))) ⟨argSlots 0 [.i .u64 n], []⟩ := by
  refine Exists.intro [(3, 3, .int)] (Exists.intro [] (Exists.intro [] (Exists.intro (Nat × List Int) (Exists.intro (fun x => Dg 10000 x.2 ∧ x.1 < 18446744073709551616 ∧ x.2.length ≤ 5 ∧ x.1 < 10000 ^ (5 - x.2.length) ∧ x.2 ++ dg 10000 x.1 = dg 10000 n) (Exists.intro (fun ⟨m, o⟩ => ⟨[(0, .i .u64 m), (3, .vec 3 .int o)], []⟩) (Exists.intro (fun x => x.1) (Exists.intro (n, []) (And.intro ⟨Dg.nil _, hn, by simp, by simp; omega, rfl⟩ (And.intro ?_ ?_)))))))))
  · (repeat' (first | exact trivial | exact Or.inl rfl | exact Or.inr (Or.inl ⟨rfl, _, rfl⟩) | refine And.intro ?_ ?_))
  · rintro ⟨m, o⟩ ⟨h1, h2, h3, h4, h5⟩
    dsimp only at h1 h2 h3 h4 h5
    refine And.intro (fun hc => ?_) (fun hc => ?_)
    · have hm : 0 < m := by have : (0 : Int) < (m : Int) := of_decide_eq_true hc
                            omega
      have hol : o.length < 5 := by
        rcases Nat.lt_or_ge o.length 5 with h | h
        · exact h
        · rw [show 5 - o.length = 0 by omega] at h4; omega
      refine And.intro (by decide) ?_
      refine And.intro (by show (o.length + 1) * 8 ≤ _; omega) ?_
      refine And.intro (by decide) ?_
      refine And.intro ⟨by rw [tdiv10k]; omega, by rw [tdiv10k]; omega⟩ ?_
      refine Exists.intro [(13, 3)] (Exists.intro (m / 10000, o ++ [((m % 10000 : Nat) : Int)]) (And.intro (small_next hm h1 h2 hol h4 h5) (And.intro ?_ ?_)))
      · (repeat' (first | exact trivial | exact Or.inl rfl | exact Or.inl ((congrArg (fun x : Int => AV.vec 3 .int (o ++ [x])) ((congrArg IntKind.i64.wrap (tmod10k m)).trans (wrap_small (by omega))))) | refine And.intro ?_ ?_))
      · exact Nat.div_lt_self hm (by decide)
    · have hm : m = 0 := by have : ¬ (0 : Int) < (m : Int) := of_decide_eq_false hc
                            omega
      subst hm
      refine congrArg (AV.rd .int) ?_
      rw [← h5, dg_zero, List.append_nil]
theorem s_small (n : Nat) (hn : n < 18446744073709551616) : PSpec Try.prog 82 [.i .u64 n] (.rd .int (dg 10000 n)) :=
  pspec_of_vc Γ_good Try.func82 rfl Try.call82 Try.results82 Try.ntmps82 (Nat.le_of_ble_eq_true rfl) (w_small n hn)
theorem w_at (l : List Int) (i : Nat) : vc Try.prog Γ 13 [0, 1, 4, 8] (Try.f87.body.getD .skip) (postK Γ [.tmp 4] (fun v => v = .i .i64 (l.getD i 0))) ⟨argSlots 0 [.rd .int l, .i .i64 i], []⟩ := by
  intro hl
  refine And.intro (fun hc => ?_) (fun hc => ?_)
  · have hc : i < l.length := by have : (i : Int) < (l.length : Int) := of_decide_eq_true hc
                                 omega
    refine And.intro ⟨by omega, by omega⟩ ?_
    rfl
  · have hc : l.length ≤ i := by have : ¬ (i : Int) < (l.length : Int) := of_decide_eq_false hc
                                 omega
    refine congrArg (AV.i .i64) ?_
    rw [List.getD_eq_getElem?_getD, List.getElem?_eq_none hc]
    rfl
theorem s_at (l : List Int) (i : Nat) : PSpec Try.prog 87 [.rd .int l, .i .i64 i] (.i .i64 (l.getD i 0)) :=
  pspec_of_vc Γ_good Try.func87 rfl Try.call87 Try.results87 Try.ntmps87 (Nat.le_of_ble_eq_true rfl) (w_at l i)
end
end Go.Proofs.Ytjlbaagnoppfgaa
