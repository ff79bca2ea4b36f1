/-
  A part of the proof of the laws of whole numbers: differences of the document's numbers, walked. No conditions.
-/
import Derived.Test.YtjlbaagnoppfgaaBigRefB
namespace Go.Proofs.Ytjlbaagnoppfgaa
set_option linter.unusedSectionVars false
set_option linter.unusedSimpArgs false
set_option linter.unusedVariables false
open Go Go.SX Go.Bg
set_option maxRecDepth 100000
set_option maxHeartbeats 0
theorem vl_take_set {B : Nat} {o : List Int} {k : Nat} (hk : k < o.length) (x : Int) : vl B ((o.set k x).take (k + 1)) = vl B (o.take k) + B ^ k * x.toNat := by
  rw [vl_take_succ, List.take_set_of_le (Nat.le_refl k), List.getD_eq_getElem?_getD, List.getElem?_set_self hk]
  rfl
theorem minus_next {a b o : List Int} {k r r' : Nat} {t : Int} (ha : Dg 10000 a) (hb : Dg 10000 b) (ho : Dg 10000 o) (hol : o.length = a.length) (hv : vl 10000 (a.take k) + 10000 ^ k * r = vl 10000 (o.take k) + vl 10000 (b.take k))
    (hk : k < a.length) (ht : 0 ≤ t ∧ t < 10000) (he : t = a.getD k 0 - b.getD k 0 - r + 10000 * r') :
    Dg 10000 (o.set k t) ∧ (o.set k t).length = a.length ∧ vl 10000 (a.take (k + 1)) + 10000 ^ (k + 1) * r' = vl 10000 ((o.set k t).take (k + 1)) + vl 10000 (b.take (k + 1)) := by
  have g1 := ha.getD (by decide) k
  have g2 := hb.getD (by decide) k
  refine ⟨ho.set k ⟨ht.1, by omega⟩, by simp [hol], ?_⟩
  rw [vl_take_set (by omega), vl_take_succ, vl_take_succ, Nat.pow_succ, Nat.mul_assoc]
  have e2 : (a.getD k 0).toNat + 10000 * r' = t.toNat + (b.getD k 0).toNat + r := by omega
  have e3 : 10000 ^ k * ((a.getD k 0).toNat + 10000 * r') = 10000 ^ k * (t.toNat + (b.getD k 0).toNat + r) := by rw [e2]
  rw [Nat.mul_add, Nat.mul_add, Nat.mul_add] at e3
  omega
theorem minus_end {a b o : List Int} {r : Nat} (hb : Dg 10000 b) (ho : Dg 10000 o) (hol : o.length = a.length) (hv : vl 10000 (a.take a.length) + 10000 ^ a.length * r = vl 10000 (o.take a.length) + vl 10000 (b.take a.length)) (hle : vl 10000 b ≤ vl 10000 a) :
    vl 10000 o = vl 10000 a - vl 10000 b := by
  rw [List.take_length, List.take_of_length_le (l := o) (by omega)] at hv
  have h1 := vl_lt ho
  rw [hol] at h1
  have hs : vl 10000 b = vl 10000 (b.take a.length) + 10000 ^ a.length * vl 10000 (b.drop a.length) := by
    rcases Nat.lt_or_ge a.length b.length with h | h
    · exact vl_split _ _ _ (by omega)
    · rw [List.take_of_length_le h, List.drop_of_length_le h]; simp [vl]
  have hr : r = 0 := by
    rcases Nat.eq_zero_or_pos r with h | h
    · exact h
    · have : 10000 ^ a.length * 1 ≤ 10000 ^ a.length * r := Nat.mul_le_mul_left _ h
      omega
  subst hr
  have hz : vl 10000 (b.drop a.length) = 0 := by
    rcases Nat.eq_zero_or_pos (vl 10000 (b.drop a.length)) with h | h
    · exact h
    · have : 10000 ^ a.length * 1 ≤ 10000 ^ a.length * vl 10000 (b.drop a.length) := Nat.mul_le_mul_left _ h
      omega
  rw [hz] at hs
  omega
section
variable [G : Globs]
theorem w_minus (a b : List Int) (ha : Dg 10000 a) (hb : Dg 10000 b) (hla : a.length ≤ 1000000) (hle : vl 10000 b ≤ vl 10000 a) : vc Try.prog Γ 38 [0, 1, 4, 5, 6, 7, 8, 13, 14, 15, 28] (Try.f89.body.getD .skip) (postK Γ [.tmp 4] (fun v => v = .rd .int (dg 10000 (vl 10000 a - vl 10000 b)))) ⟨argSlots 0 [.rd .int a, .rd .int b], []⟩ := by
  intro hl0
  refine And.intro ⟨by omega, Int.le_refl _, by omega, by show a.length * 8 ≤ _; omega⟩ ?_
  intro hl1
  refine Exists.intro [] (Exists.intro [] (Exists.intro [] (Exists.intro (Nat × Nat × List Int) (Exists.intro (fun x => Dg 10000 x.2.2 ∧ x.2.2.length = a.length ∧ x.2.1 ≤ 1 ∧ vl 10000 (a.take x.1) + 10000 ^ x.1 * x.2.1 = vl 10000 (x.2.2.take x.1) + vl 10000 (b.take x.1) ∧ x.1 ≤ a.length) (Exists.intro (fun ⟨k, r, o⟩ => ⟨[(0, .rd .int a), (1, .rd .int b), (5, .vec 11 .int o), (6, .i .i64 r), (13, .i .i64 a.length), (14, .i .i64 k)], []⟩) (Exists.intro (fun x => a.length - x.1) (Exists.intro (0, 0, List.replicate a.length 0) (And.intro ⟨Dg.replicate (by decide) _, by simp, by simp, by simp [vl], by simp⟩ (And.intro ?_ ?_)))))))))
  · (repeat' (first | exact trivial | exact Or.inl rfl | exact Or.inr (Or.inl ⟨rfl, _, rfl⟩) | refine And.intro ?_ ?_))
  · rintro ⟨k, r, o⟩ ⟨h1, h2, h3, h4, h5⟩
    dsimp only at h1 h2 h3 h4 h5
    refine And.intro (fun hc => ?_) (fun hc => ?_)
    · have hk : k < a.length := by have : (k : Int) < (a.length : Int) := of_decide_eq_true hc
                                   omega
      have g1 := ha.getD (by decide) k
      have g2 := hb.getD (by decide) k
      refine Exists.intro [.blk [0, 1, 2, 3, 4, 5, 6, 7, 8, 9, 10]] (And.intro (by kernel_rfl) ?_)
      refine And.intro ⟨by omega, by omega⟩ ?_
      refine Exists.intro _ (And.intro (s_at b k) ?_)
      have e : a.getD (Int.toNat (k : Int)) (dflt .int) = a.getD k 0 := rfl
      rw [e]
      generalize hx : a.getD k 0 = x at g1
      generalize hy : b.getD k 0 = y at g2
      (refine And.intro (rng64 (by omega) (by omega)) ?_)
      (refine And.intro (rng64 (by omega) (by omega)) ?_)
      refine And.intro (fun hd => ?_) (fun hd => ?_)
      · have hd : x - y - r < 0 := of_decide_eq_true hd
        (refine And.intro (rng64 (by omega) (by omega)) ?_)
        refine And.intro ⟨by omega, by omega⟩ ?_
        have nx := minus_next (t := x - y - r + 10000) (r' := 1) ha hb h1 h2 h4 hk ⟨by omega, by omega⟩ (by rw [hx, hy]; omega)
        (refine And.intro (rng64 (by omega) (by omega)) ?_)
        refine Exists.intro [] (Exists.intro (k + 1, 1, o.set k (x - y - r + 10000)) (And.intro ⟨nx.1, nx.2.1, by simp, nx.2.2, hk⟩ (And.intro ?_ ?_)))
        · (repeat' (first | exact trivial | exact Or.inl rfl | exact Or.inr (Or.inl ⟨rfl, _, rfl⟩) | refine And.intro ?_ ?_))
        · show a.length - (k + 1) < a.length - k
          omega
      · have hd : ¬ x - y - r < 0 := of_decide_eq_false hd
        refine And.intro ⟨by omega, by omega⟩ ?_
        have nx := minus_next (t := x - y - r) (r' := 0) ha hb h1 h2 h4 hk ⟨by omega, by omega⟩ (by rw [hx, hy]; omega)
        (refine And.intro (rng64 (by omega) (by omega)) ?_)
        refine Exists.intro [] (Exists.intro (k + 1, 0, o.set k (x - y - r)) (And.intro ⟨nx.1, nx.2.1, by simp, nx.2.2, hk⟩ (And.intro ?_ ?_)))
        · (repeat' (first | exact trivial | exact Or.inl rfl | exact Or.inr (Or.inl ⟨rfl, _, rfl⟩) | refine And.intro ?_ ?_))
        · show a.length - (k + 1) < a.length - k
          omega
    · have hk : k = a.length := by have : ¬ (k : Int) < (a.length : Int) := of_decide_eq_false hc
                                   omega
      subst hk
      have hv := minus_end hb h1 h2 h4 hle
      refine Or.inl (Exists.intro _ (And.intro (s_cut o h1) ?_))
      exact congrArg (fun n => AV.rd .int (dg 10000 n)) hv
theorem s_minus (a b : List Int) (ha : Dg 10000 a) (hb : Dg 10000 b) (hla : a.length ≤ 1000000) (hle : vl 10000 b ≤ vl 10000 a) : PSpec Try.prog 89 [.rd .int a, .rd .int b] (.rd .int (dg 10000 (vl 10000 a - vl 10000 b))) :=
  pspec_of_vc Γ_good Try.func89 rfl Try.call89 Try.results89 Try.ntmps89 (Nat.le_of_ble_eq_true rfl) (w_minus a b ha hb hla hle)
end
end Go.Proofs.Ytjlbaagnoppfgaa
