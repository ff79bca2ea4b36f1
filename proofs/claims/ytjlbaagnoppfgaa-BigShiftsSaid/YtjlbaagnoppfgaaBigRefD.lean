/-
  A part of the proof of the laws of whole numbers: products of the document's numbers, walked. No conditions.
-/
import Derived.Test.YtjlbaagnoppfgaaBigRefC
namespace Go.Proofs.Ytjlbaagnoppfgaa
set_option linter.unusedSectionVars false
set_option linter.unusedSimpArgs false
set_option linter.unusedVariables false
open Go Go.SX Go.Bg
set_option maxRecDepth 100000
set_option maxHeartbeats 0
theorem getN {l : List Int} (h : Dg 10000 l) (k : Nat) : ∃ z : Nat, l.getD k 0 = z ∧ z < 10000 ∧ (l.getD k 0).toNat = z := by
  have g := h.getD (by decide) k
  exact ⟨(l.getD k 0).toNat, by omega, by omega, rfl⟩
/-- one digit of a product -/
theorem by_next {B : Nat} {o : List Int} {p x y z c V : Nat} (hB : 2 ≤ B) (ho : Dg B o) (hp : p < o.length) (hz : (o.getD p 0).toNat = z) (hv : vl B o + B ^ p * c = V) :
    Dg B (o.set p (((c + (z + x * y)) % B : Nat) : Int)) ∧ vl B (o.set p (((c + (z + x * y)) % B : Nat) : Int)) + B ^ (p + 1) * ((c + (z + x * y)) / B) = V + B ^ p * (x * y) := by
  have hs := vl_set (B := B) hp (((c + (z + x * y)) % B : Nat) : Int)
  rw [hz, Int.toNat_natCast] at hs
  refine ⟨ho.set p ⟨by omega, by have := Nat.mod_lt (c + (z + x * y)) (show 0 < B by omega); omega⟩, ?_⟩
  rw [Nat.pow_succ, Nat.mul_assoc]
  have e : B ^ p * ((c + (z + x * y)) % B + B * ((c + (z + x * y)) / B)) = B ^ p * (c + (z + x * y)) := by rw [Nat.mod_add_div]
  rw [Nat.mul_add, Nat.mul_add, Nat.mul_add] at e
  omega
theorem pow_split (B i k n : Nat) : B ^ (i + k) * n = B ^ i * (B ^ k * n) := by rw [Nat.pow_add, Nat.mul_assoc]
theorem by_carry {B z x y c : Nat} (hB : 2 ≤ B) (hz : z < B) (hx : x < B) (hy : y < B) (hc : c < B) : (c + (z + x * y)) / B < B := by
  have h1 : x * y ≤ (B - 1) * (B - 1) := Nat.mul_le_mul (by omega) (by omega)
  rw [Nat.div_lt_iff_lt_mul (by omega)]
  obtain ⟨m, rfl⟩ : ∃ m, B = m + 1 := ⟨B - 1, by omega⟩
  rw [Nat.add_sub_cancel] at h1
  have : (m + 1) * (m + 1) = m * m + 2 * m + 1 := by rw [Nat.mul_add, Nat.add_mul]; omega
  omega
theorem by_end {B : Nat} {a b q : List Int} {i x k : Nat} (hx : (a.getD i 0).toNat = x) (hk : b.length ≤ k) (hv : vl B q + B ^ (i + k) * 0 = vl B (a.take i) * vl B b + B ^ i * (x * vl B (b.take k))) : vl B q = vl B (a.take (i + 1)) * vl B b := by
  rw [List.take_of_length_le hk] at hv
  rw [vl_take_succ, hx, Nat.add_mul, Nat.mul_assoc]
  omega
theorem by_zero {B : Nat} {a b q : List Int} {i x k c : Nat} (hB : 2 ≤ B) (ha : Dg B a) (hb : Dg B b) (hi : i < a.length) (hx : (a.getD i 0).toNat = x) (hk : b.length ≤ k) (hv : vl B q + B ^ (i + (k + 1)) * c = vl B (a.take i) * vl B b + B ^ i * (x * vl B (b.take (k + 1)))) : c = 0 := by
  rw [List.take_of_length_le (l := b) (by omega)] at hv
  have e : vl B (a.take i) * vl B b + B ^ i * (x * vl B b) = vl B (a.take (i + 1)) * vl B b := by rw [vl_take_succ, hx, Nat.add_mul, Nat.mul_assoc]
  have h1 : vl B (a.take (i + 1)) < B ^ (i + 1) := by
    have := vl_lt (ha.take (i + 1))
    rwa [List.length_take, Nat.min_eq_left (by omega)] at this
  have h2 := vl_lt hb
  have h3 : vl B (a.take (i + 1)) * vl B b < B ^ (i + 1) * B ^ b.length := Nat.mul_lt_mul'' h1 h2
  have h4 : B ^ (i + 1) * B ^ b.length ≤ B ^ (i + (k + 1)) := by
    rw [← Nat.pow_add]
    exact Nat.pow_le_pow_right (by omega) (by omega)
  rcases Nat.eq_zero_or_pos c with h | h
  · exact h
  · have : B ^ (i + (k + 1)) * 1 ≤ B ^ (i + (k + 1)) * c := Nat.mul_le_mul_left _ h
    omega
theorem by_step {B : Nat} {a b q : List Int} {i x y z k c : Nat} (hB : 2 ≤ B) (hq : Dg B q) (hp : i + k < q.length) (hz : (q.getD (i + k) 0).toNat = z) (hy : (b.getD k 0).toNat = y)
    (hv : vl B q + B ^ (i + k) * c = vl B (a.take i) * vl B b + B ^ i * (x * vl B (b.take k))) :
    Dg B (q.set (i + k) (((c + (z + x * y)) % B : Nat) : Int)) ∧ vl B (q.set (i + k) (((c + (z + x * y)) % B : Nat) : Int)) + B ^ (i + (k + 1)) * ((c + (z + x * y)) / B) = vl B (a.take i) * vl B b + B ^ i * (x * vl B (b.take (k + 1))) := by
  have h := by_next (x := x) (y := y) hB hq hp hz hv
  refine ⟨h.1, ?_⟩
  rw [show i + (k + 1) = i + k + 1 by omega, h.2, vl_take_succ, hy, Nat.mul_add, Nat.mul_add, Nat.pow_add, Nat.mul_assoc]
  have : B ^ k * (x * y) = x * (B ^ k * y) := by rw [← Nat.mul_assoc, Nat.mul_comm _ x, Nat.mul_assoc]
  rw [this]
  omega
section
variable [G : Globs]
theorem w_By (a b : List Int) (ha : Dg 10000 a) (hb : Dg 10000 b) (hla : a.length ≤ 500000) (hlb : b.length ≤ 500000) : vc Try.prog Γ 60 [0, 1, 4, 5, 6, 7, 8, 17, 18, 19, 28] (Try.f33.body.getD .skip) (postK Γ [.tmp 4] (fun v => v = .rd .int (dg 10000 (vl 10000 a * vl 10000 b)))) ⟨argSlots 0 [.rd .int a, .rd .int b], []⟩ := by
  intro hl0
  intro hl1
  (refine And.intro (rng64 (by omega) (by omega)) ?_)
  (refine And.intro (rng64 (by omega) (by omega)) ?_)
  refine And.intro ⟨by omega, Int.le_refl _, by omega, by show (a.length + b.length + 1) * 8 ≤ _; omega⟩ ?_
  intro _
  refine Exists.intro [] (Exists.intro [] (Exists.intro [] (Exists.intro (Nat × List Int) (Exists.intro (fun x => Dg 10000 x.2 ∧ x.2.length = a.length + b.length + 1 ∧ vl 10000 x.2 = vl 10000 (a.take x.1) * vl 10000 b ∧ x.1 ≤ a.length) (Exists.intro (fun ⟨i, o⟩ => ⟨[(0, .rd .int a), (1, .rd .int b), (5, .vec 15 .int o), (17, .i .i64 a.length), (18, .i .i64 i)], []⟩) (Exists.intro (fun x => a.length - x.1) (Exists.intro (0, List.replicate (a.length + b.length + 1) 0) (And.intro ⟨Dg.replicate (by decide) _, by simp, by rw [vl_replicate]; simp [vl], by simp⟩ (And.intro ?_ ?_)))))))))
  · (repeat' (first | exact trivial | exact Or.inl rfl | exact Or.inr (Or.inl ⟨rfl, _, rfl⟩) | refine And.intro ?_ ?_))
  · rintro ⟨i, o⟩ ⟨h1, h2, h3, h4⟩
    dsimp only at h1 h2 h3 h4
    refine And.intro (fun hc => ?_) (fun hc => ?_)
    · have hi : i < a.length := by have : (i : Int) < (a.length : Int) := of_decide_eq_true hc
                                   omega
      clear hc
      obtain ⟨x, hx, hxl, hxn⟩ := getN ha i
      refine Exists.intro [] (Exists.intro [] (Exists.intro [] (Exists.intro (Nat × Nat × List Int) (Exists.intro (fun q => Dg 10000 q.2.2 ∧ q.2.2.length = a.length + b.length + 1 ∧ q.2.1 < 10000 ∧ vl 10000 q.2.2 + 10000 ^ (i + q.1) * q.2.1 = vl 10000 (a.take i) * vl 10000 b + 10000 ^ i * (x * vl 10000 (b.take q.1)) ∧ q.1 ≤ b.length + 1 ∧ (q.1 ≤ b.length ∨ q.2.1 = 0)) (Exists.intro (fun ⟨k, c, o⟩ => ⟨[(0, .rd .int a), (1, .rd .int b), (5, .vec 15 .int o), (6, .i .i64 i), (7, .i .i64 c), (8, .i .i64 k), (17, .i .i64 a.length), (18, .i .i64 i)], []⟩) (Exists.intro (fun q => b.length + 1 - q.1) (Exists.intro (0, 0, o) (And.intro ⟨h1, h2, by simp, by simp [h3, vl], by simp, by simp⟩ (And.intro ?_ ?_)))))))))
      · (repeat' (first | exact trivial | exact Or.inl rfl | exact Or.inr (Or.inl ⟨rfl, _, rfl⟩) | refine And.intro ?_ ?_))
      · rintro ⟨k, c, q⟩ ⟨g1, g2, g3, g4, g5, g6⟩
        dsimp only at g1 g2 g3 g4 g5 g6
        repeat' (first | (refine And.intro (fun h => ?_) (fun h => ?_) <;> (try simp [-List.getD_eq_getElem?_getD, -Int.pred_toNat] at h)) | intro _)
        all_goals first | (exfalso; omega) | skip
        all_goals first
          | (obtain ⟨h9, rfl⟩ : b.length ≤ k ∧ c = 0 := ⟨by omega, by omega⟩
             have hv := by_end hxn h9 g4
             (refine And.intro (rng64 (by omega) (by omega)) ?_)
             refine Exists.intro [] (Exists.intro (i + 1, q) (And.intro ⟨g1, g2, hv, hi⟩ (And.intro ?_ ?_)))
             · (repeat' (first | exact trivial | exact Or.inl rfl | exact Or.inr (Or.inl ⟨rfl, _, rfl⟩) | refine And.intro ?_ ?_))
             · show a.length - (i + 1) < a.length - i
               omega)
          | skip
        all_goals
          have hkb : k ≤ b.length := by omega
          obtain ⟨y, hy, hyl, hyn⟩ := getN hb k
          obtain ⟨z, hz, hzl, hzn⟩ := getN g1 (i + k)
          have hs := by_step (a := a) (b := b) (x := x) b10 g1 (by omega) hzn hyn g4
          have hcl : (c + (z + x * y)) / 10000 < 10000 := by_carry b10 hzl hxl hyl g3
          have hxy : x * y ≤ 9999 * 9999 := Nat.mul_le_mul (by omega) (by omega)
          have hxyi : (x : Int) * (y : Int) = ((x * y : Nat) : Int) := rfl
          have hz0 : k + 1 ≤ b.length ∨ (c + (z + x * y)) / 10000 = 0 := by
            rcases Nat.lt_or_ge k b.length with h | h
            · exact .inl h
            · exact .inr (by_zero b10 ha hb hi hxn h hs.2)
          have e1 : q.getD (Int.toNat ((i : Int) + (k : Int))) (dflt .int) = (z : Int) := hz
          have e2 : a.getD (Int.toNat (i : Int)) (dflt .int) = (x : Int) := hx
          refine Exists.intro [.blk [0, 1, 2, 3, 4, 5, 6, 7, 8, 9, 10, 11, 12, 13, 14, 15, 16, 17]] (And.intro (by kernel_rfl) ?_)
          (refine And.intro (rng64 (by omega) (by omega)) ?_)
          refine And.intro ⟨by omega, by omega⟩ ?_
          refine And.intro ⟨by omega, by omega⟩ ?_
          have qb := s_atN b hb k
          rw [hyn] at qb
          refine Exists.intro _ (And.intro (qb) ?_)
          refine And.intro (rng64 (by rw [e2]; omega) (by rw [e2]; omega)) ?_
          refine And.intro (rng64 (by rw [e1, e2]; omega) (by rw [e1, e2]; omega)) ?_
          refine And.intro (rng64 (by rw [e1, e2]; omega) (by rw [e1, e2]; omega)) ?_
          (refine And.intro (rng64 (by omega) (by omega)) ?_)
          refine And.intro (by decide) ?_
          refine And.intro ⟨by omega, by omega⟩ ?_
          refine And.intro (by decide) ?_
          refine And.intro (rng64 (by rw [e1, e2, show (c : Int) + ((z : Int) + (x : Int) * (y : Int)) = ((c + (z + x * y) : Nat) : Int) from rfl, tdiv10k]; omega) (by rw [e1, e2, show (c : Int) + ((z : Int) + (x : Int) * (y : Int)) = ((c + (z + x * y) : Nat) : Int) from rfl, tdiv10k]; omega)) ?_
          (refine And.intro (rng64 (by omega) (by omega)) ?_)
          refine Exists.intro [] (Exists.intro (k + 1, (c + (z + x * y)) / 10000, q.set (i + k) (((c + (z + x * y)) % 10000 : Nat) : Int)) (And.intro ⟨hs.1, by simp [g2], hcl, hs.2, by omega, hz0⟩ (And.intro ?_ ?_)))
          · (repeat' (first | exact trivial | exact Or.inl rfl | exact Or.inl ((by rw [e1, e2]; rfl)) | refine And.intro ?_ ?_))
          · show b.length + 1 - (k + 1) < b.length + 1 - k
            omega
    · have hi : i = a.length := by have : ¬ (i : Int) < (a.length : Int) := of_decide_eq_false hc
                                   omega
      subst hi
      rw [List.take_length] at h3
      refine Or.inl (Exists.intro _ (And.intro (s_cut o h1) ?_))
      exact congrArg (fun n => AV.rd .int (dg 10000 n)) h3
theorem s_By (a b : List Int) (ha : Dg 10000 a) (hb : Dg 10000 b) (hla : a.length ≤ 500000) (hlb : b.length ≤ 500000) : PSpec Try.prog 33 [.rd .int a, .rd .int b] (.rd .int (dg 10000 (vl 10000 a * vl 10000 b))) :=
  pspec_of_vc Γ_good Try.func33 rfl Try.call33 Try.results33 Try.ntmps33 (Nat.le_of_ble_eq_true rfl) (w_By a b ha hb hla hlb)
end
end Go.Proofs.Ytjlbaagnoppfgaa
