/-
  'typecaselaw.NumTells' returns true, whatever the input, where what comes in is of bulk at most 1048576, and the input reads as it did. No conditions.
-/
import Derived.Test.YtdcdmojbkmedpaaDoorNm3
import Derived.Shelf.Strings.Builder1
import Derived.Shelf.Strings.Trim
import Derived.Shelf.Small.Utf8
import Derived.Shelf.Small.Bits
import Derived.Shelf.Small.Strs
import Derived.Shelf.Strings.BuilderF
import Derived.Shelf.Strconv.Itoa0
import Derived.Shelf.Strconv.Itoa1
import Derived.Shelf.LaysM
import Derived.Shelf.Strconv.Itoa2
import Derived.Shelf.Strconv.Itoa3
import Derived.Shelf.Strconv.Itoa4
import Derived.Shelf.Strings.Search1
import Derived.Shelf.Strings.Prefix
import Derived.Shelf.Unicode.Decode
import Derived.Shelf.Strings.Runes
import Derived.Shelf.Strings.AsciiSet
import Derived.Shelf.Bits.Mul64
import Derived.Shelf.Unicode.DecodeSlow
import Derived.Shelf.Unicode.DecodeAny
import Derived.Shelf.Slices.Turned
import Derived.Shelf.Slices.Equal
import Derived.Ground.Names2Prog
import Derived.Shelf.Slices.Clone
import Derived.Shelf.Slices.SearchI
import Derived.Ground.SlgnProg
import Derived.Shelf.SlicesG.SearchI
import Derived.Shelf.SlicesE.Clone
import Derived.Test.YtdcdmojbkmedpaaDoorProg
import Derived.Shelf.Spec.TrailingZeros
import Derived.Laws.Bits64b
import Derived.Lib.ItoaLen
import Derived.Shelf.Spec.BitsCarry
import Derived.Deep.Slices
import Derived.Carry
import Derived.DataReads
import Derived.Test.YtdcdmojbkmedpaaDoorRows
import Derived.WalkKit
import Derived.ProofKit
import Derived.OpenShut
import Derived.JoinedCond
import Derived.ChangeMaps5
import Derived.Test.YtdcdmojbkmedpaaDoorCards
import Derived.Test.YtdcdmojbkmedpaaDoorTie
import Derived.Deep.DeepHandedRow
import Derived.Lib.LaidU8
import Derived.PinnedBridge
set_option linter.constructorNameAsVariable false
set_option linter.unusedVariables false
set_option linter.unusedSimpArgs false
set_option linter.unusedSectionVars false
section
namespace Go.Proofs.YtdcdmojbkmedpaaDoor
set_option linter.unusedSectionVars false
set_option linter.unusedSimpArgs false
set_option linter.unusedVariables false
open Go Go.SX Go.Bg
set_option maxRecDepth 100000
set_option maxHeartbeats 0
theorem rep_get (n t : Nat) : (List.replicate n (0 : Int)).getD t 0 = 0 := by
  rw [List.getD_eq_getElem?_getD, List.getElem?_replicate]
  split <;> rfl
theorem nn_of {j : Int} (h : decide (0 ≤ j) = true) : ∃ m : Nat, j = m := ⟨j.toNat, by have := of_decide_eq_true h; omega⟩
theorem tdiv2 (m : Nat) : (m : Int).tdiv 2 = ((m / 2 : Nat) : Int) := rfl
theorem cmpN_le {a b : Nat} (h : cmpN a b ≤ 0) : a ≤ b := by
  unfold cmpN at h
  split at h
  · omega
  · split at h <;> omega
theorem cmpN_gt {a b : Nat} (h : ¬ cmpN a b ≤ 0) : b < a := by
  unfold cmpN at h
  split at h
  · omega
  · split at h <;> omega
theorem mul_dg_len {b : List Int} {n : Nat} (hb : Dg 10000 b) (hn : n < 10000) : (dg 10000 (vl 10000 b * n)).length ≤ b.length + 1 := dg_len_le b10 _ _ (by
  rw [Nat.pow_succ]
  exact Nat.mul_lt_mul'' (vl_lt hb) hn)
theorem over_next {B : Nat} {a q : List Int} {vb m x r lo : Nat} (ha : Dg B a) (hq : Dg B q) (hql : q.length = a.length) (hm : m < a.length) (hx : (a.getD m 0).toNat = x) (hb : 0 < vb)
    (hr : r = vl B (a.drop (m + 1)) % vb) (hv : vl B (q.drop (m + 1)) = vl B (a.drop (m + 1)) / vb) (h1 : vb * lo ≤ x + B * r) (h2 : x + B * r < vb * (lo + 1)) :
    x + B * r - vb * lo = vl B (a.drop m) % vb ∧ vl B ((q.set m lo).drop m) = vl B (a.drop m) / vb := by
  rw [vl_drop B a m, vl_drop B (q.set m lo) m, hx]
  generalize hA : vl B (a.drop (m + 1)) = A at *
  have e : x + B * A = vb * (lo + B * (A / vb)) + (x + B * r - vb * lo) := by
    have h3 := Nat.div_add_mod A vb
    rw [← hr] at h3
    have h4 : B * A = vb * (B * (A / vb)) + B * r := by
      conv => lhs; rw [← h3]
      rw [Nat.mul_add, ← Nat.mul_assoc, ← Nat.mul_assoc, Nat.mul_comm B vb]
    rw [Nat.mul_add]
    omega
  have hlt : x + B * r - vb * lo < vb := by
    rw [Nat.mul_add, Nat.mul_one] at h2
    omega
  refine ⟨?_, ?_⟩
  · rw [e, Nat.mul_add_mod, Nat.mod_eq_of_lt hlt]
  · rw [e, Nat.mul_add_div hb, Nat.div_eq_of_lt hlt, List.getD_eq_getElem?_getD, List.getElem?_set_self (by omega), List.drop_set_of_lt (by omega), hv]
    simp
theorem against_start {a b : List Int} {t : Nat} (h : a.length ≤ t ∧ b.length ≤ t) : a.getD t 0 = b.getD t 0 := by
  rw [List.getD_eq_getElem?_getD, List.getD_eq_getElem?_getD, List.getElem?_eq_none h.1, List.getElem?_eq_none h.2]
theorem against_next {a b : List Int} {m t : Nat} (h : ∀ t, m < t → a.getD t 0 = b.getD t 0) (ht : m ≤ t) (he : a.getD m 0 = b.getD m 0) : a.getD t 0 = b.getD t 0 := by
  rcases Nat.lt_or_ge m t with h1 | h1
  · exact h t h1
  · have : t = m := by omega
    rw [this, he]
section
variable [G : Globs]
theorem w_against (a b : List Int) (ha : Dg 10000 a) (hb : Dg 10000 b) (hla : a.length ≤ 1000000) (hlb : b.length ≤ 1000000) : vc Tryd.prog Γ 32 [0, 1, 4, 5, 13, 16, 24] (Tryd.f69.body.getD .skip) (postK Γ [.tmp 4] (fun v => v = .i .i64 (cmpN (vl 10000 a) (vl 10000 b)))) ⟨argSlots 0 [.rd .int a, .rd .int b], []⟩ := by
  intro hl0
  intro hl1
  refine And.intro (rng64 (by split <;> omega) (by split <;> omega)) ?_
  refine Exists.intro [] (Exists.intro [] (Exists.intro [] (Exists.intro Int (Exists.intro (fun j => -1 ≤ j ∧ j < 1000000 ∧ ∀ t : Nat, j < t → a.getD t 0 = b.getD t 0) (Exists.intro (fun j => ⟨[(0, .rd .int a), (1, .rd .int b), (5, .i .i64 j)], []⟩) (Exists.intro (fun j => (j + 1).toNat) (Exists.intro ((if (a.length : Int) < b.length then (b.length : Int) else (a.length : Int)) - 1) (And.intro ⟨by split <;> omega, by split <;> omega, fun t ht => against_start (by split at ht <;> omega)⟩ (And.intro ?_ ?_)))))))))
  · (repeat' (first | exact trivial | exact Or.inl rfl | exact Or.inr (Or.inl ⟨rfl, _, rfl⟩) | exact Or.inr (Or.inr (Or.inr ⟨_, _, _, rfl, rfl⟩)) | refine And.intro ?_ ?_))
  · rintro j ⟨h1, h2, h3⟩
    refine And.intro (fun hc => ?_) (fun hc => ?_)
    · obtain ⟨m, rfl⟩ := nn_of hc
      have h3 : ∀ t, m < t → a.getD t 0 = b.getD t 0 := fun t ht => h3 t (by omega)
      refine Or.inl (Exists.intro _ (And.intro (s_at a m) ?_))
      refine Or.inl (Exists.intro _ (And.intro (s_at b m) ?_))
      refine And.intro (fun hd => ?_) (fun hd => ?_)
      · have hd : a.getD m 0 < b.getD m 0 := of_decide_eq_true hd
        have := vl_cmp b10 ha hb h3 hd
        exact congrArg (AV.i .i64) (by unfold cmpN; rw [if_pos this])
      · have hd : ¬ a.getD m 0 < b.getD m 0 := of_decide_eq_false hd
        refine Or.inl (Exists.intro _ (And.intro (s_at a m) ?_))
        refine Or.inl (Exists.intro _ (And.intro (s_at b m) ?_))
        refine And.intro (fun he => ?_) (fun he => ?_)
        · have he : b.getD m 0 < a.getD m 0 := of_decide_eq_true he
          have := vl_cmp b10 hb ha (fun t ht => (h3 t ht).symm) he
          exact congrArg (AV.i .i64) (by unfold cmpN; rw [if_neg (by omega), if_pos this])
        · have he : ¬ b.getD m 0 < a.getD m 0 := of_decide_eq_false he
          (refine And.intro (rng64 (by omega) (by omega)) ?_)
          refine Exists.intro [] (Exists.intro ((m : Int) - 1) (And.intro ⟨by omega, by omega, fun t ht => against_next h3 (by omega) (by omega)⟩ (And.intro ?_ ?_)))
          · (repeat' (first | exact trivial | exact Or.inl rfl | exact Or.inr (Or.inl ⟨rfl, _, rfl⟩) | exact Or.inr (Or.inr (Or.inr ⟨_, _, _, rfl, rfl⟩)) | refine And.intro ?_ ?_))
          · show ((m : Int) - 1 + 1).toNat < ((m : Int) + 1).toNat
            omega
    · have hj : j = -1 := by have : ¬ 0 ≤ j := of_decide_eq_false hc
                             omega
      have := vl_ext (B := 10000) (l := a) (m := b) fun t => h3 t (by omega)
      exact congrArg (AV.i .i64) (by unfold cmpN; rw [if_neg (by omega), if_neg (by omega)])
theorem s_against (a b : List Int) (ha : Dg 10000 a) (hb : Dg 10000 b) (hla : a.length ≤ 1000000) (hlb : b.length ≤ 1000000) : PSpec Tryd.prog 69 [.rd .int a, .rd .int b] (.i .i64 (cmpN (vl 10000 a) (vl 10000 b))) :=
  pspec_of_vc Γ_good Tryd.func69 rfl Tryd.call69 Tryd.results69 Tryd.ntmps69 (Nat.le_of_ble_eq_true rfl) (w_against a b ha hb hla hlb)
theorem s_smallC (n : Nat) (hn : n < 9223372036854775808) : PSpec Tryd.prog 133 [.i .u64 (IntKind.u64.wrap (n : Int))] (.rd .int (dg 10000 n)) := by
  rw [show IntKind.u64.wrap (n : Int) = (n : Int) by rw [IntKind.wrap_u64]; omega]
  exact s_small n (by omega)
end
end Go.Proofs.YtdcdmojbkmedpaaDoor
end
section
namespace Go.Proofs.YtdcdmojbkmedpaaDoor
set_option linter.unusedSectionVars false
set_option linter.unusedSimpArgs false
set_option linter.unusedVariables false
open Go Go.SX Go.Bg
set_option maxRecDepth 100000
set_option maxHeartbeats 0
theorem b32 : 2 ≤ 4294967296 := by decide
theorem tmod2 (m : Nat) : (m : Int).tmod 2 = ((m % 2 : Nat) : Int) := rfl
theorem power_odd {b e f n : Nat} (h : n % 2 = 1) : b ^ e * b ^ f = b ^ (e + f) ∧ (e + f) + (f + f) * (n / 2) = e + f * n := by
  refine ⟨(Nat.pow_add b e f).symm, ?_⟩
  have : f * n = f * (2 * (n / 2) + 1) := by congr 1; omega
  rw [this, Nat.mul_add, ← Nat.mul_assoc, Nat.mul_comm f 2, Nat.two_mul]
  omega
theorem power_even {e f n : Nat} (h : n % 2 = 0) : e + (f + f) * (n / 2) = e + f * n := by
  have : f * n = f * (2 * (n / 2)) := by congr 1; omega
  rw [this, ← Nat.mul_assoc, Nat.mul_comm f 2, Nat.two_mul]
/-- a number of so many words has no more than three times so many digits -/
theorem words_len {n k : Nat} (h : n < 4294967296 ^ k) : (dg 10000 n).length ≤ 3 * k := dg_len_le b10 _ _ (by
  rw [Nat.pow_mul]
  exact Nat.lt_of_lt_of_le h (Nat.pow_le_pow_left (by decide) k))
section
variable [G : Globs]
theorem w_power (b n : Nat) (hb : b < 18446744073709551616) (hn : n < 9223372036854775808) (hs : ∀ k ≤ n, (dg 10000 (b ^ k)).length ≤ 400000) : vc Tryd.prog Γ 24 [0, 1, 4, 5, 6, 11, 14] (Tryd.f68.body.getD .skip) (postK Γ [.tmp 4] (fun v => v = .rd .int (dg 10000 (b ^ n)))) ⟨argSlots 0 [.i .u64 b, .i .i64 n], []⟩ := by
  refine Or.inl (Exists.intro _ (And.intro (s_small 1 (by decide)) ?_))
  refine Or.inl (Exists.intro _ (And.intro (s_small b hb) ?_))
  refine Exists.intro [] (Exists.intro [] (Exists.intro [] (Exists.intro (Nat × Nat × Nat) (Exists.intro (fun x => x.2.1 + x.2.2 * x.1 = n ∧ 1 ≤ x.2.2) (Exists.intro (fun ⟨m, e, f⟩ => ⟨[(1, .i .i64 m), (5, .rd .int (dg 10000 (b ^ e))), (6, .rd .int (dg 10000 (b ^ f)))], []⟩) (Exists.intro (fun x => x.1) (Exists.intro (n, 0, 1) (And.intro ⟨by simp, by simp⟩ (And.intro ?_ ?_)))))))))
  · (repeat' (first | exact trivial | exact Or.inl rfl | exact Or.inl ((by rw [Nat.pow_one])) | refine And.intro ?_ ?_))
  · rintro ⟨m, e, f⟩ ⟨h1, h2⟩
    dsimp only at h1 h2
    refine And.intro (fun hc => ?_) (fun hc => ?_)
    · have hm : 0 < m := by have : (0 : Int) < (m : Int) := of_decide_eq_true hc
                            omega
      have hfm : f * 1 ≤ f * m := Nat.mul_le_mul_left _ hm
      have hmn : m < 9223372036854775808 := by
        have : 1 * m ≤ f * m := Nat.mul_le_mul_right _ h2
        omega
      have le : (dg 10000 (b ^ e)).length ≤ 400000 := hs e (by omega)
      have lf : (dg 10000 (b ^ f)).length ≤ 400000 := hs f (by omega)
      have q1 := s_By (dg 10000 (b ^ e)) (dg 10000 (b ^ f)) (dg_Dg b10 _) (dg_Dg b10 _) (by omega) (by omega)
      have q2 := s_By (dg 10000 (b ^ f)) (dg 10000 (b ^ f)) (dg_Dg b10 _) (dg_Dg b10 _) (by omega) (by omega)
      rw [vl_dg b10, vl_dg b10] at q1
      rw [vl_dg b10, ← Nat.pow_add] at q2
      refine And.intro (by decide) ?_
      refine And.intro (fun hd => ?_) (fun hd => ?_)
      · have hd : m % 2 = 1 := by
          rw [show (m : Int).tmod 2 = ((m % 2 : Nat) : Int) from rfl] at hd
          have := eq_of_beq hd
          omega
        rw [(power_odd (b := b) hd).1] at q1
        refine Or.inl (Exists.intro _ (And.intro (q1) ?_))
        refine Or.inl (Exists.intro _ (And.intro (q2) ?_))
        refine And.intro (by decide) ?_
        refine And.intro (rng64 (by rw [tdiv2]; omega) (by rw [tdiv2]; omega)) ?_
        refine Exists.intro [] (Exists.intro (m / 2, e + f, f + f) (And.intro ⟨by have := (power_odd (b := b) (e := e) (f := f) hd).2; dsimp only; omega, by dsimp only; omega⟩ (And.intro ?_ ?_)))
        · (repeat' (first | exact trivial | exact Or.inl rfl | exact Or.inr (Or.inl ⟨rfl, _, rfl⟩) | exact Or.inr (Or.inr (Or.inr ⟨_, _, _, rfl, rfl⟩)) | refine And.intro ?_ ?_))
        · show m / 2 < m
          omega
      · have hd : m % 2 = 0 := by
          rw [show (m : Int).tmod 2 = ((m % 2 : Nat) : Int) from rfl] at hd
          have := ne_of_beq_false hd
          omega
        refine Or.inl (Exists.intro _ (And.intro (q2) ?_))
        refine And.intro (by decide) ?_
        refine And.intro (rng64 (by rw [tdiv2]; omega) (by rw [tdiv2]; omega)) ?_
        refine Exists.intro [] (Exists.intro (m / 2, e, f + f) (And.intro ⟨by have := power_even (e := e) (f := f) hd; dsimp only; omega, by dsimp only; omega⟩ (And.intro ?_ ?_)))
        · (repeat' (first | exact trivial | exact Or.inl rfl | exact Or.inr (Or.inl ⟨rfl, _, rfl⟩) | exact Or.inr (Or.inr (Or.inr ⟨_, _, _, rfl, rfl⟩)) | refine And.intro ?_ ?_))
        · show m / 2 < m
          omega
    · have hm : m = 0 := by have : ¬ (0 : Int) < (m : Int) := of_decide_eq_false hc
                            omega
      subst hm
      rw [Nat.mul_zero, Nat.add_zero] at h1
      rw [h1]
      rfl
theorem s_power (b n : Nat) (hb : b < 18446744073709551616) (hn : n < 9223372036854775808) (hs : ∀ k ≤ n, (dg 10000 (b ^ k)).length ≤ 400000) : PSpec Tryd.prog 68 [.i .u64 b, .i .i64 n] (.rd .int (dg 10000 (b ^ n))) :=
  pspec_of_vc Γ_good Tryd.func68 rfl Tryd.call68 Tryd.results68 Tryd.ntmps68 (Nat.le_of_ble_eq_true rfl) (w_power b n hb hn hs)
end
end Go.Proofs.YtdcdmojbkmedpaaDoor
end
section
namespace Go.Proofs.YtdcdmojbkmedpaaDoor
set_option linter.unusedSectionVars false
set_option linter.unusedSimpArgs false
set_option linter.unusedVariables false
open Go Go.SX Go.Bg Go.Nm
set_option maxRecDepth 100000
set_option maxHeartbeats 1000000
/-- does a text begin so? -/
def isPre (t s : Str) : Bool := decide (t.length ≤ s.length ∧ s.take t.length = t)
def cutP (t s : Str) : Str := if isPre t s then s.drop t.length else s
theorem u8_lt (c : UInt8) : c.toNat < 256 := c.toNat_lt
theorem dgt_cases (c : UInt8) : ((48 ≤ c.toNat ∧ c.toNat ≤ 57) ∧ (dgt c : Int) = (c.toNat : Int) - 48) ∨ ((97 ≤ c.toNat ∧ c.toNat ≤ 102) ∧ (dgt c : Int) = (c.toNat : Int) - 97 + 10) ∨ ((65 ≤ c.toNat ∧ c.toNat ≤ 70) ∧ (dgt c : Int) = (c.toNat : Int) - 65 + 10) ∨
    ((¬ (48 ≤ c.toNat ∧ c.toNat ≤ 57) ∧ ¬ (97 ≤ c.toNat ∧ c.toNat ≤ 102) ∧ ¬ (65 ≤ c.toNat ∧ c.toNat ≤ 70)) ∧ (dgt c : Int) = 99) := by
  unfold dgt
  by_cases h1 : 48 ≤ c.toNat ∧ c.toNat ≤ 57
  · rw [if_pos h1]; exact .inl ⟨h1, by omega⟩
  rw [if_neg h1]
  by_cases h2 : 97 ≤ c.toNat ∧ c.toNat ≤ 102
  · rw [if_pos h2]; exact .inr (.inl ⟨h2, by omega⟩)
  rw [if_neg h2]
  by_cases h3 : 65 ≤ c.toNat ∧ c.toNat ≤ 70
  · rw [if_pos h3]; exact .inr (.inr (.inl ⟨h3, by omega⟩))
  rw [if_neg h3]
  exact .inr (.inr (.inr ⟨⟨h1, h2, h3⟩, rfl⟩))
section
variable [G : Globs]
theorem w_digit (c : UInt8) : vc Tryd.prog Γ 35 [0, 2, 3, 13, 24] (Tryd.f64.body.getD .skip) (postK Γ [.tmp 2] (fun v => v = .i .u64 (dgt c : Int))) ⟨argSlots 0 [.i .u8 (c.toNat : Int)], []⟩ := by
  have hc := u8_lt c
  rcases dgt_cases c with ⟨h, e⟩ | ⟨h, e⟩ | ⟨h, e⟩ | ⟨h, e⟩
  · rw [e]
    (repeat' (first | (refine And.intro (fun h => ?_) (fun h => ?_) <;> (try simp [-List.getD_eq_getElem?_getD, -Int.pred_toNat] at h) <;> (try (exfalso; first | omega | contradiction))) | (refine And.intro (rng64 (by omega) (by omega)) ?_) | (refine And.intro ⟨by omega, by omega⟩ ?_) | (refine And.intro ⟨by omega, by omega, by omega⟩ ?_) | (intro _)))
    exact congrArg (AV.i .u64) (by rw [IntKind.wrap_u8, IntKind.wrap_u64]; omega)
  · rw [e]
    (repeat' (first | (refine And.intro (fun h => ?_) (fun h => ?_) <;> (try simp [-List.getD_eq_getElem?_getD, -Int.pred_toNat] at h) <;> (try (exfalso; first | omega | contradiction))) | (refine And.intro (rng64 (by omega) (by omega)) ?_) | (refine And.intro ⟨by omega, by omega⟩ ?_) | (refine And.intro ⟨by omega, by omega, by omega⟩ ?_) | (intro _)))
    exact congrArg (AV.i .u64) (by rw [IntKind.wrap_u8, IntKind.wrap_u64, IntKind.wrap_u64]; omega)
  · rw [e]
    (repeat' (first | (refine And.intro (fun h => ?_) (fun h => ?_) <;> (try simp [-List.getD_eq_getElem?_getD, -Int.pred_toNat] at h) <;> (try (exfalso; first | omega | contradiction))) | (refine And.intro (rng64 (by omega) (by omega)) ?_) | (refine And.intro ⟨by omega, by omega⟩ ?_) | (refine And.intro ⟨by omega, by omega, by omega⟩ ?_) | (intro _)))
    exact congrArg (AV.i .u64) (by rw [IntKind.wrap_u8, IntKind.wrap_u64, IntKind.wrap_u64]; omega)
  · rw [e]
    rcases (show c.toNat < 48 ∨ (57 < c.toNat ∧ c.toNat < 65) ∨ (70 < c.toNat ∧ c.toNat < 97) ∨ 102 < c.toNat by omega) with h | h | h | h
    all_goals
      (repeat' (first | (refine And.intro (fun h => ?_) (fun h => ?_) <;> (try simp [-List.getD_eq_getElem?_getD, -Int.pred_toNat] at h) <;> (try (exfalso; first | omega | contradiction))) | (refine And.intro (rng64 (by omega) (by omega)) ?_) | (refine And.intro ⟨by omega, by omega⟩ ?_) | (refine And.intro ⟨by omega, by omega, by omega⟩ ?_) | (intro _)))
      rfl
theorem s_digit (c : UInt8) : PSpec Tryd.prog 64 [.i .u8 (c.toNat : Int)] (.i .u64 (dgt c : Int)) :=
  pspec_of_vc Γ_good Tryd.func64 rfl Tryd.call64 Tryd.results64 Tryd.ntmps64 (Nat.le_of_ble_eq_true rfl) (w_digit c)
theorem w_hexOf (c : UInt8) : vc Tryd.prog Γ 35 [0, 2, 3, 13, 24] (Tryd.f131.body.getD .skip) (postK Γ [.tmp 2] (fun v => v = .i .i64 (dgt c : Int))) ⟨argSlots 0 [.i .u8 (c.toNat : Int)], []⟩ := by
  have hc := u8_lt c
  have hw : IntKind.i64.wrap (c.toNat : Int) = (c.toNat : Int) := by rw [IntKind.wrap_i64]; omega
  rcases dgt_cases c with ⟨h, e⟩ | ⟨h, e⟩ | ⟨h, e⟩ | ⟨h, e⟩
  · rw [e]
    (repeat' (first | (refine And.intro (fun h => ?_) (fun h => ?_) <;> (try simp [-List.getD_eq_getElem?_getD, -Int.pred_toNat] at h) <;> (try (exfalso; first | omega | contradiction))) | (refine And.intro (rng64 (by omega) (by omega)) ?_) | (refine And.intro ⟨by omega, by omega⟩ ?_) | (refine And.intro ⟨by omega, by omega, by omega⟩ ?_) | (intro _)))
    exact congrArg (AV.i .i64) (by rw [hw])
  · rw [e]
    (repeat' (first | (refine And.intro (fun h => ?_) (fun h => ?_) <;> (try simp [-List.getD_eq_getElem?_getD, -Int.pred_toNat] at h) <;> (try (exfalso; first | omega | contradiction))) | (refine And.intro (rng64 (by omega) (by omega)) ?_) | (refine And.intro ⟨by omega, by omega⟩ ?_) | (refine And.intro ⟨by omega, by omega, by omega⟩ ?_) | (intro _)))
    exact congrArg (AV.i .i64) (by rw [hw])
  · rw [e]
    (repeat' (first | (refine And.intro (fun h => ?_) (fun h => ?_) <;> (try simp [-List.getD_eq_getElem?_getD, -Int.pred_toNat] at h) <;> (try (exfalso; first | omega | contradiction))) | (refine And.intro (rng64 (by omega) (by omega)) ?_) | (refine And.intro ⟨by omega, by omega⟩ ?_) | (refine And.intro ⟨by omega, by omega, by omega⟩ ?_) | (intro _)))
    exact congrArg (AV.i .i64) (by rw [hw])
  · rw [e]
    rcases (show c.toNat < 48 ∨ (57 < c.toNat ∧ c.toNat < 65) ∨ (70 < c.toNat ∧ c.toNat < 97) ∨ 102 < c.toNat by omega) with h | h | h | h
    all_goals
      (repeat' (first | (refine And.intro (fun h => ?_) (fun h => ?_) <;> (try simp [-List.getD_eq_getElem?_getD, -Int.pred_toNat] at h) <;> (try (exfalso; first | omega | contradiction))) | (refine And.intro (rng64 (by omega) (by omega)) ?_) | (refine And.intro ⟨by omega, by omega⟩ ?_) | (refine And.intro ⟨by omega, by omega, by omega⟩ ?_) | (intro _)))
      rfl
theorem s_hexOf (c : UInt8) : PSpec Tryd.prog 131 [.i .u8 (c.toNat : Int)] (.i .i64 (dgt c : Int)) :=
  pspec_of_vc Γ_good Tryd.func131 rfl Tryd.call131 Tryd.results131 Tryd.ntmps131 (Nat.le_of_ble_eq_true rfl) (w_hexOf c)
theorem w_hasPre0 (s t : Str) : vc Tryd.prog Γ 18 [0, 1, 4] (Tryd.f195.body.getD .skip) (postK Γ [.tmp 4] (fun v => v = .b (isPre t s))) ⟨argSlots 0 [.s s, .s t], []⟩ := by
  intro _ _
  refine And.intro (fun h => ?_) (fun h => ?_)
  · have h : t.length ≤ s.length := by have : (t.length : Int) ≤ s.length := of_decide_eq_true h; omega
    intro _
    refine And.intro ⟨Int.le_refl _, by omega, by omega⟩ ?_
    show AV.b ((s.take (Int.toNat (t.length : Int))).drop (Int.toNat 0) == t) = _
    refine congrArg AV.b ?_
    unfold isPre
    rw [Int.toNat_natCast, show Int.toNat 0 = 0 from rfl, List.drop_zero, Bool.eq_iff_iff, beq_iff_eq, decide_eq_true_eq]
    exact ⟨fun h9 => ⟨h, h9⟩, fun h9 => h9.2⟩
  · have h : ¬ t.length ≤ s.length := by have : ¬ (t.length : Int) ≤ s.length := of_decide_eq_false h; omega
    exact congrArg AV.b (decide_eq_false fun h9 => h h9.1).symm
theorem s_hasPre0 (s t : Str) : PSpec Tryd.prog 195 [.s s, .s t] (.b (isPre t s)) :=
  pspec_of_vc Γ_good Tryd.func195 rfl Tryd.call195 Tryd.results195 Tryd.ntmps195 (Nat.le_of_ble_eq_true rfl) (w_hasPre0 s t)
theorem w_cutP0 (s t : Str) : vc Tryd.prog Γ 15 [0, 1, 4, 5, 9] (Tryd.f130.body.getD .skip) (postK Γ [.tmp 4, .tmp 5] (fun v => v = .tup [.s (cutP t s), .b (isPre t s)])) ⟨argSlots 0 [.s s, .s t], []⟩ := by
  refine Or.inl (Exists.intro _ (And.intro (s_hasPre0 s t) ?_))
  unfold cutP
  by_cases h : isPre t s = true
  · have hl : t.length ≤ s.length := (of_decide_eq_true h).1
    rw [if_pos h, h]
    (repeat' (first | (refine And.intro (fun h => ?_) (fun h => ?_) <;> (try simp [-List.getD_eq_getElem?_getD, -Int.pred_toNat] at h) <;> (try (exfalso; first | omega | contradiction))) | (refine And.intro (rng64 (by omega) (by omega)) ?_) | (refine And.intro ⟨by omega, by omega⟩ ?_) | (refine And.intro ⟨by omega, by omega, by omega⟩ ?_) | (intro _)))
    rw [Int.toNat_natCast, Int.toNat_natCast, List.take_length]
    rfl
  · have h : isPre t s = false := by simpa using h
    rw [if_neg (by rw [h]; decide), h]
    (repeat' (first | (refine And.intro (fun h => ?_) (fun h => ?_) <;> (try simp [-List.getD_eq_getElem?_getD, -Int.pred_toNat] at h) <;> (try (exfalso; first | omega | contradiction))) | (refine And.intro (rng64 (by omega) (by omega)) ?_) | (refine And.intro ⟨by omega, by omega⟩ ?_) | (refine And.intro ⟨by omega, by omega, by omega⟩ ?_) | (intro _)))
    rfl
theorem s_cutP0 (s t : Str) : PSpec Tryd.prog 130 [.s s, .s t] (.tup [.s (cutP t s), .b (isPre t s)]) :=
  pspec_of_vc Γ_good Tryd.func130 rfl Tryd.call130 Tryd.results130 Tryd.ntmps130 (Nat.le_of_ble_eq_true rfl) (w_cutP0 s t)
theorem w_cutPre (s t : Str) : vc Tryd.prog Γ 11 [0, 1, 4, 5] (Tryd.f62.body.getD .skip) (postK Γ [.tmp 4, .tmp 5] (fun v => v = .tup [.s (cutP t s), .b (isPre t s)])) ⟨argSlots 0 [.s s, .s t], []⟩ := by
  refine Or.inl (Exists.intro _ (And.intro (s_cutP0 s t) ?_))
  rfl
theorem s_cutPre (s t : Str) : PSpec Tryd.prog 62 [.s s, .s t] (.tup [.s (cutP t s), .b (isPre t s)]) :=
  pspec_of_vc Γ_good Tryd.func62 rfl Tryd.call62 Tryd.results62 Tryd.ntmps62 (Nat.le_of_ble_eq_true rfl) (w_cutPre s t)
end
end Go.Proofs.YtdcdmojbkmedpaaDoor
end
section
namespace Go.SX
set_option linter.unusedSectionVars false
variable [Globs]
/-- what a condition comes to: the code's own weakest precondition -/
structure VCs (P : Program) (Γ : Ctx) (N : Nat) (L : List Nat) (c : Code) (Q : Exit → St → Prop) (s : St) : Prop where
  ok : ∀ (W0 : World) (F : Fr) (X : Nat → Prop) (Q' : Exit → Act → World → Prop) (a : Act) (w : World), (∀ e s a w, Q e s → Inv W0 F X N s a w → Q' e a w) → Inv W0 F X N s a w → c.wp P Q' a w
section
variable {P : Program} {N : Nat} {Γ : Ctx} {L : List Nat} {s : St}
theorem VCs.of_vc (hΓ : Γ.good P) {c : Code} {Q : Exit → St → Prop} (h : vc P Γ N L c Q s) : VCs P Γ N L c Q s := ⟨fun _ _ _ Q' a w hQ hI => vc_ok hΓ c Q Q' s a w hQ h hI⟩
/-- the first part is walked, the second one is walked behind each of its ends -/
theorem VCs.seq (hΓ : Γ.good P) {x y : Code} {Q : Exit → St → Prop} (h : vc P Γ N L x (fun e s' => match e with
    | .normal => VCs P Γ N L y Q s'
    | e => Q e s') s) : VCs P Γ N L (.seq x y) Q s := ⟨fun W0 F X Q' a w hQ hI =>
  wp_seq (vc_ok hΓ x _ _ s a w (fun e s' a' w' hq hI' => by
    cases e with
    | normal => exact hq.ok W0 F X Q' a' w' hQ hI'
    | _ => exact hQ _ _ _ _ hq hI') h hI)⟩
/-- a cut: behind the first part the state is as told -/
theorem VCs.cut (hΓ : Γ.good P) {x y : Code} {Q : Exit → St → Prop} (σ : Type) (I : σ → Prop) (S : σ → St) (h : vc P Γ N L x (fun e s' => match e with
    | .normal => ∃ v, I v ∧ Wk s' (S v)
    | e => Q e s') s) (h2 : ∀ v, I v → VCs P Γ N L y Q (S v)) : VCs P Γ N L (.seq x y) Q s := ⟨fun W0 F X Q' a w hQ hI =>
  wp_seq (vc_ok hΓ x _ _ s a w (fun e s' a' w' hq hI' => by
    cases e with
    | normal =>
      obtain ⟨v, hv, hw⟩ := hq
      obtain ⟨β, hI'⟩ := hI'
      exact (h2 v hv).ok W0 F X Q' a' w' hQ ⟨β, hI'.wk hw⟩
    | _ => exact hQ _ _ _ _ hq hI') h hI)⟩
/-- ways within ways -/
theorem VCs.block {id : Nat} {c : Code} {Q : Exit → St → Prop} (h : VCs P Γ N L c (fun e s' => match e with
    | .exit id' => bif Nat.beq id' id then Q .normal s' else Q (.exit id') s'
    | e => Q e s') s) : VCs P Γ N L (.block id c) Q s := ⟨fun W0 F X Q' a w hQ hI => by
  refine wp_block (h.ok W0 F X _ a w (fun e s' a' w' hq hI' => ?_) hI)
  cases e with
  | exit id' =>
    have hq : bif Nat.beq id' id then Q .normal s' else Q (.exit id') s' := hq
    cases hb : Nat.beq id' id with
    | true =>
      rw [hb] at hq
      have hq1 : Q .normal s' := hq
      have e := Nat.eq_of_beq_eq_true hb
      subst e
      simp only [Exit.inBlock, if_true]
      exact hQ _ _ _ _ hq1 hI'
    | false =>
      rw [hb] at hq
      have hne : id' ≠ id := fun e => by subst e; rw [Nat.beq_refl] at hb; cases hb
      simp only [Exit.inBlock, hne, if_false]; exact hQ _ _ _ _ hq hI'
  | _ => exact hQ _ _ _ _ hq hI'⟩
theorem VCs.cond {c : Operand} {x y : Code} {Q : Exit → St → Prop} {t : Bool} (hc : ev s c = .b t) (h1 : t = true → VCs P Γ N L x Q s) (h2 : t = false → VCs P Γ N L y Q s) : VCs P Γ N L (.cond c x y) Q s := ⟨fun W0 F X Q' a w hQ hI => by
  obtain ⟨β, hI⟩ := hI
  have hr := (ev_rel hI c).1
  rw [hc] at hr
  exact wp_cond_split hr.inv_b (fun ht => (h1 ht).ok W0 F X Q' a w hQ ⟨β, hI⟩) (fun ht => (h2 ht).ok W0 F X Q' a w hQ ⟨β, hI⟩)⟩
theorem VCs.seqS {x y : Code} {Q : Exit → St → Prop} (h : VCs P Γ N L x (fun e s' => match e with
    | .normal => VCs P Γ N L y Q s'
    | e => Q e s') s) : VCs P Γ N L (.seq x y) Q s := ⟨fun W0 F X Q' a w hQ hI =>
  wp_seq (h.ok W0 F X _ a w (fun e s' a' w' hq hI' => by
    cases e with
    | normal => exact hq.ok W0 F X Q' a' w' hQ hI'
    | _ => exact hQ _ _ _ _ hq hI') hI)⟩
theorem VCs.cutS {x y : Code} {Q : Exit → St → Prop} (σ : Type) (I : σ → Prop) (S : σ → St) (h : VCs P Γ N L x (fun e s' => match e with
    | .normal => ∃ v, I v ∧ Wk s' (S v)
    | e => Q e s') s) (h2 : ∀ v, I v → VCs P Γ N L y Q (S v)) : VCs P Γ N L (.seq x y) Q s := ⟨fun W0 F X Q' a w hQ hI =>
  wp_seq (h.ok W0 F X _ a w (fun e s' a' w' hq hI' => by
    cases e with
    | normal =>
      obtain ⟨v, hv, hw⟩ := hq
      obtain ⟨β, hI'⟩ := hI'
      exact (h2 v hv).ok W0 F X Q' a' w' hQ ⟨β, hI'.wk hw⟩
    | _ => exact hQ _ _ _ _ hq hI') hI)⟩
/-- a contract out of it -/
theorem pspec_of_VCs (_hΓ : Γ.good P) {f : FuncId} {fn : Func} {c : Code} (hf : P.funcs[f]? = some fn) (hb : fn.body = some c) (hcall : ∀ (vs : Array Value) (w : World), (callFunc f vs).run P w = .ok (.enter f vs) w)
    {rs : Array ResultVar} (hrs : fn.results = rs) (hN : fn.ntmps = N) {args : List AV} {r : AV} (hlen : args.length ≤ N)
    (hvc : VCs P Γ N L c (postK Γ rs.toList (fun v => v = r)) ⟨argSlots 0 args, []⟩) (hΓ : Γ.good P) : PSpec P f args r := by
  refine ⟨hcall, fun O w vs hO hG hargs => ?_⟩
  refine calls_of_wp hf hb ?_
  have hsz : vs.length = args.length := hargs.1.symm
  have hI : InvB w Fr.none O N ⟨argSlots 0 args, []⟩ (fun _ => none) { tmps := vs.toArray ++ Array.replicate (fn.ntmps - vs.toArray.size) undef, defers := [] } w := by
    have hNm : ∀ n, ¬ Nm ⟨argSlots 0 args, []⟩ n := by
      rintro n (⟨cs, h⟩ | ⟨m, h⟩ | ⟨b, cs, h, _⟩)
      · cases h
      · have := look_args args 0 m
        rw [Nat.zero_add] at this
        simp only [this] at h
        by_cases hm : m < args.length
        · rw [List.getD_eq_getElem?_getD, List.getElem?_eq_getElem hm] at h
          have := (hargs.2 m _ _ (List.getElem?_eq_getElem hm) (List.getElem?_eq_getElem (by rw [hsz]; exact hm))).ids_nil
          rw [show (some args[m]).getD AV.x = args[m] from rfl, this] at h
          cases h
        · rw [List.getD_eq_getElem?_getD, List.getElem?_eq_none (by omega)] at h
          simp [ids, ids0] at h
      · cases h
    refine ⟨Stp.refl _ _, fun n => ?_, ?_, fun n cs h => (by cases h), fun n m g hn => absurd hn (hNm n), fun n g hn => absurd hn (hNm n), rfl, fun k hk => ⟨hO k hk, id⟩, fun n cs g h => (by cases h), fun _ _ => rfl, hG.step (Stp.refl (fun _ => False) w) (fun _ _ h => h.elim) fun k _ hk => hk.elim id fun h => h.elim⟩
    · have h1 := look_args args 0 n
      rw [Nat.zero_add] at h1
      show Rel _ _ _ (look (argSlots 0 args) n) _
      rw [h1]
      by_cases hm : n < args.length
      · have hmv : n < vs.length := by rw [hsz]; exact hm
        have h2 := hargs.2 n _ _ (List.getElem?_eq_getElem hm) (List.getElem?_eq_getElem hmv)
        rw [List.getD_eq_getElem?_getD, List.getElem?_eq_getElem hm]
        have h3 : (vs.toArray ++ Array.replicate (fn.ntmps - vs.toArray.size) undef).getD n undef = vs[n] := by
          rw [Array.getD_eq_getD_getElem?, Array.getElem?_append_left (by simpa using hmv)]
          simp [hmv]
        rw [h3]
        refine Rel.im (h2.mono fun k hk => ?_)
        rcases hk with hk | ⟨m, hm', _⟩
        · exact hk
        · exact absurd hm' (hNm m)
      · rw [List.getD_eq_getElem?_getD, List.getElem?_eq_none (by omega)]
        exact Rel.x
    · show (vs.toArray ++ Array.replicate (fn.ntmps - vs.toArray.size) undef).size = N
      simp only [Array.size_append, List.size_toArray, Array.size_replicate, hN, hsz]
      omega
  refine hvc.ok w Fr.none O _ _ _ (fun e s a w' hq ⟨β, hI'⟩ => ?_) ⟨_, hI⟩
  have key : retK Γ s rs.toList (fun v => v = r) → a.defers = [] ∧ ∃ v, (results fn a.tmps).run P w' = .ok v w' ∧ ∃ v', Ending.returned v = .returned v' ∧ Stp (fun _ => False) w w' ∧ Im O w' r v' := by
    intro h
    rw [← hrs] at h
    obtain ⟨v, u, rfl, h1, h2⟩ := ret_ok hΓ hI' h
    exact ⟨hI'.defers, u, h2, u, rfl, hI'.ext, h1⟩
  cases e with
  | normal => exact key hq
  | ret => exact key hq
  | _ => exact hq.elim
/-- .. one that writes -/
theorem cspec_of_VCs (hΓ : Γ.good P) {f : FuncId} {fn : Func} {c : Code} (hf : P.funcs[f]? = some fn) (hb : fn.body = some c) (hcall : ∀ (vs : Array Value) (w : World), (callFunc f vs).run P w = .ok (.enter f vs) w)
    {rs : Array ResultVar} (hrs : fn.results = rs) (hN : fn.ntmps = N) {args : List AV} {boxes : List (Nat × List AV)} {r : AV} {boxes' : List (Nat × List AV)} {L : List Nat} (hlen : args.length ≤ N) (hN1 : 1 ≤ N)
    (hlow : (boxNames boxes).all (fun n => Nat.ble N n) = true) (hvc : VCs P Γ N L c (postBK Γ rs.toList r boxes') ⟨argSlots 0 args, boxes⟩) : CSpec P f args boxes r boxes' := by
  refine ⟨hcall, fun F X β w vs hvs hpin hI0 => ?_⟩
  refine calls_of_wp hf hb ?_
  have hpad : ∀ n, (vs.toArray ++ Array.replicate (fn.ntmps - vs.toArray.size) undef).getD n undef = vs.toArray.getD n undef ∨ look (argSlots 0 args) n = .x := fun n => by
    by_cases hm : n < vs.length
    · left
      simp only [Array.getD_eq_getD_getElem?]
      rw [Array.getElem?_append_left (by simpa using hm)]
    · right
      have h1 := look_args args 0 n
      rw [Nat.zero_add] at h1
      rw [h1, List.getD_eq_getElem?_getD, List.getElem?_eq_none (by omega)]
      rfl
  have hI : InvB w F X N ⟨argSlots 0 args, boxes⟩ β { tmps := vs.toArray ++ Array.replicate (fn.ntmps - vs.toArray.size) undef, defers := [] } w := by
    refine ⟨hI0.ext, fun n => ?_, ?_, hI0.boxes, hI0.inj, hI0.own, hI0.defers, hI0.ext2, hI0.pin, fun n hn => ?_, hI0.gl⟩
    · rcases hpad n with h1 | h1
      · show Rel _ _ _ _ ((vs.toArray ++ Array.replicate (fn.ntmps - vs.toArray.size) undef).getD n undef)
        rw [h1]; exact hI0.slots n
      · show Rel _ _ _ (look (argSlots 0 args) n) _
        rw [h1]; exact Rel.x
    · simp only [Array.size_append, List.size_toArray, Array.size_replicate, hN, hvs]
      omega
    · cases hp : F.pin n with
      | none => rfl
      | some g =>
        have h1 := boxNames_mem.2 (hpin n g hp)
        have := Nat.le_of_ble_eq_true (List.all_eq_true.1 hlow n h1)
        omega
  refine hvc.ok w F X _ _ _ (fun e s a w' hq ⟨β', hI'⟩ => ?_) ⟨_, hI⟩
  have key : endK Γ rs.toList r boxes' s → a.defers = [] ∧ ∃ v, (results fn a.tmps).run P w' = .ok v w' ∧ ∃ v' β'', Ending.returned v = .returned v' ∧ InvB w F X 1 ⟨[(0, r)], boxes'⟩ β'' ⟨#[v'], []⟩ w' := by
    intro h
    rw [← hrs] at h
    obtain ⟨u, β'', h1, h2⟩ := end_ok hΓ hN1 hI' h
    have hd : F.dfr = [] := hI0.defers.symm
    have hF : { F with dfr := [] } = F := by cases F; simp only at hd; subst hd; rfl
    rw [hF] at h2
    exact ⟨hI'.defers.trans hd, u, h1, u, β'', rfl, h2⟩
  cases e with
  | normal => exact key hq
  | ret => exact key hq
  | _ => exact hq.elim
/-- a nil slice handed in for an empty one of the caller's own -/
theorem CSpec.nl0 {f : FuncId} {id : Nat} {τ : Ty} {args : List AV} {boxes : List (Nat × List AV)} {r : AV} {boxes' : List (Nat × List AV)} (h : CSpec P f (.vec id τ [] :: args) boxes r boxes')
    (hf : inB id (namesV (.nl :: args) boxes) = false) : CSpec P f (.nl :: args) boxes r boxes' := by
  refine ⟨h.1, fun F X β w vs h1 h2 hI => h.2 F X (setβ β id none) w vs h1 h2 ?_⟩
  have hfree : ¬ Nm ⟨argSlots 0 (.nl :: args), boxes⟩ id := fun hm => by
    have := Nm_names (look_args_mem (.nl :: args) 0) hm
    rw [inB_iff.2 this] at hf
    cases hf
  exact hI.nlVec (n := 0) (id := id) rfl hfree τ
end
end Go.SX
end
section
namespace Go.SX
set_option linter.unusedSectionVars false
variable [Globs]
section
variable {P : Program} {N : Nat} {Γ : Ctx} {L : List Nat} {W0 : World} {F : Fr} {X : Nat → Prop} {s : St} {β : Nat → Option Nat} {a : Act} {w : World}
/-- the same, but that a nil slice may stand for an empty one -/
def RL1 : AV → AV → Prop
  | .agg cs, .agg ds => AVles cs ds
  | c, d => AVle c d
def RLs : List AV → List AV → Prop
  | [], [] => True
  | a :: r, b :: t => RL1 a b ∧ RLs r t
  | _, _ => False
def RL : AV → AV → Prop
  | .tup cs, .tup ds => RLs cs ds
  | c, d => RL1 c d
theorem im_RL1 {O : Nat → Prop} {c d : AV} {u : Value} (h : Im O w c u) (hle : RL1 c d) : Im O w d u := by
  unfold RL1 at hle
  split at hle
  · cases h with
    | agg _ vs h1 h2 h3 =>
      have := all_le (show All2 (Im O w) _ vs from ⟨h1, h3⟩) hle
      exact .agg _ vs this.1 h2 this.2
  · exact im_le h hle
theorem im_RLs {O : Nat → Prop} : ∀ {cs ds : List AV} {us : List Value}, All2 (Im O w) cs us → RLs cs ds → All2 (Im O w) ds us
  | [], [], us, h, _ => h
  | [], _ :: _, _, _, hle => hle.elim
  | _ :: _, [], _, _, hle => hle.elim
  | c :: r, d :: t, us, h, hle => by
    obtain ⟨u, us', rfl, h1, h2⟩ := h.cons_inv
    exact All2.cons (im_RL1 h1 hle.1) (im_RLs h2 hle.2)
theorem im_RL {O : Nat → Prop} {c d : AV} {u : Value} (h : Im O w c u) (hle : RL c d) : Im O w d u := by
  unfold RL at hle
  split at hle
  · cases h with
    | tup _ vs h1 h2 =>
      have := im_RLs (show All2 (Im O w) _ vs from ⟨h1, h2⟩) hle
      exact .tup _ vs this.1 this.2
  · exact im_RL1 h hle
/-- a contract called with nil slices in place of empty ones -/
theorem PSpec.arg {f : FuncId} {args args' : List AV} {r : AV} (h : PSpec P f args r) (hle : RLs args' args) : PSpec P f args' r :=
  ⟨h.1, fun O w vs h1 h2 h3 => h.2 O w vs h1 h2 (im_RLs h3 hle)⟩
theorem pspec_of_vcL (hΓ : Γ.good P) {f : FuncId} {fn : Func} {c : Code} (hf : P.funcs[f]? = some fn) (hb : fn.body = some c) (hcall : ∀ (vs : Array Value) (w : World), (callFunc f vs).run P w = .ok (.enter f vs) w)
    {rs : Array ResultVar} (hrs : fn.results = rs) (hN : fn.ntmps = N) {args : List AV} {r : AV} {L : List Nat} (hlen : args.length ≤ N)
    (hvc : vc P Γ N L c (postK Γ rs.toList (fun v => RL v r)) ⟨argSlots 0 args, []⟩) : PSpec P f args r := by
  refine ⟨hcall, fun O w vs hO hG hargs => ?_⟩
  refine calls_of_wp hf hb ?_
  have hsz : vs.length = args.length := hargs.1.symm
  have hI : InvB w Fr.none O N ⟨argSlots 0 args, []⟩ (fun _ => none) { tmps := vs.toArray ++ Array.replicate (fn.ntmps - vs.toArray.size) undef, defers := [] } w := by
    have hNm : ∀ n, ¬ Nm ⟨argSlots 0 args, []⟩ n := by
      rintro n (⟨cs, h⟩ | ⟨m, h⟩ | ⟨b, cs, h, _⟩)
      · cases h
      · have := look_args args 0 m
        rw [Nat.zero_add] at this
        simp only [this] at h
        by_cases hm : m < args.length
        · rw [List.getD_eq_getElem?_getD, List.getElem?_eq_getElem hm] at h
          have := (hargs.2 m _ _ (List.getElem?_eq_getElem hm) (List.getElem?_eq_getElem (by rw [hsz]; exact hm))).ids_nil
          rw [show (some args[m]).getD AV.x = args[m] from rfl, this] at h
          cases h
        · rw [List.getD_eq_getElem?_getD, List.getElem?_eq_none (by omega)] at h
          simp [ids, ids0] at h
      · cases h
    refine ⟨Stp.refl _ _, fun n => ?_, ?_, fun n cs h => (by cases h), fun n m g hn => absurd hn (hNm n), fun n g hn => absurd hn (hNm n), rfl, fun k hk => ⟨hO k hk, id⟩, fun n cs g h => (by cases h), fun _ _ => rfl, hG.step (Stp.refl (fun _ => False) w) (fun _ _ h => h.elim) fun k _ hk => hk.elim id fun h => h.elim⟩
    · have h1 := look_args args 0 n
      rw [Nat.zero_add] at h1
      show Rel _ _ _ (look (argSlots 0 args) n) _
      rw [h1]
      by_cases hm : n < args.length
      · have hmv : n < vs.length := by rw [hsz]; exact hm
        have h2 := hargs.2 n _ _ (List.getElem?_eq_getElem hm) (List.getElem?_eq_getElem hmv)
        rw [List.getD_eq_getElem?_getD, List.getElem?_eq_getElem hm]
        have h3 : (vs.toArray ++ Array.replicate (fn.ntmps - vs.toArray.size) undef).getD n undef = vs[n] := by
          rw [Array.getD_eq_getD_getElem?, Array.getElem?_append_left (by simpa using hmv)]
          simp [hmv]
        rw [h3]
        refine Rel.im (h2.mono fun k hk => ?_)
        rcases hk with hk | ⟨m, hm', _⟩
        · exact hk
        · exact absurd hm' (hNm m)
      · rw [List.getD_eq_getElem?_getD, List.getElem?_eq_none (by omega)]
        exact Rel.x
    · show (vs.toArray ++ Array.replicate (fn.ntmps - vs.toArray.size) undef).size = N
      simp only [Array.size_append, List.size_toArray, Array.size_replicate, hN, hsz]
      omega
  refine vc_ok (W0 := w) (F := Fr.none) (X := O) hΓ c _ _ _ _ _ (fun e s a w' hq ⟨β, hI'⟩ => ?_) hvc ⟨_, hI⟩
  have key : retK Γ s rs.toList (fun v => RL v r) → a.defers = [] ∧ ∃ v, (results fn a.tmps).run P w' = .ok v w' ∧ ∃ v', Ending.returned v = .returned v' ∧ Stp (fun _ => False) w w' ∧ Im O w' r v' := by
    intro h
    rw [← hrs] at h
    obtain ⟨v, u, hv, h1, h2⟩ := ret_ok hΓ hI' h
    exact ⟨hI'.defers, u, h2, u, rfl, hI'.ext, im_RL h1 hv⟩
  cases e with
  | normal => exact key hq
  | ret => exact key hq
  | _ => exact hq.elim

theorem pspec_of_VCsL (_hΓ : Γ.good P) {f : FuncId} {fn : Func} {c : Code} (hf : P.funcs[f]? = some fn) (hb : fn.body = some c) (hcall : ∀ (vs : Array Value) (w : World), (callFunc f vs).run P w = .ok (.enter f vs) w)
    {rs : Array ResultVar} (hrs : fn.results = rs) (hN : fn.ntmps = N) {args : List AV} {r : AV} (hlen : args.length ≤ N)
    (hvc : VCs P Γ N L c (postK Γ rs.toList (fun v => RL v r)) ⟨argSlots 0 args, []⟩) (hΓ : Γ.good P) : PSpec P f args r := by
  refine ⟨hcall, fun O w vs hO hG hargs => ?_⟩
  refine calls_of_wp hf hb ?_
  have hsz : vs.length = args.length := hargs.1.symm
  have hI : InvB w Fr.none O N ⟨argSlots 0 args, []⟩ (fun _ => none) { tmps := vs.toArray ++ Array.replicate (fn.ntmps - vs.toArray.size) undef, defers := [] } w := by
    have hNm : ∀ n, ¬ Nm ⟨argSlots 0 args, []⟩ n := by
      rintro n (⟨cs, h⟩ | ⟨m, h⟩ | ⟨b, cs, h, _⟩)
      · cases h
      · have := look_args args 0 m
        rw [Nat.zero_add] at this
        simp only [this] at h
        by_cases hm : m < args.length
        · rw [List.getD_eq_getElem?_getD, List.getElem?_eq_getElem hm] at h
          have := (hargs.2 m _ _ (List.getElem?_eq_getElem hm) (List.getElem?_eq_getElem (by rw [hsz]; exact hm))).ids_nil
          rw [show (some args[m]).getD AV.x = args[m] from rfl, this] at h
          cases h
        · rw [List.getD_eq_getElem?_getD, List.getElem?_eq_none (by omega)] at h
          simp [ids, ids0] at h
      · cases h
    refine ⟨Stp.refl _ _, fun n => ?_, ?_, fun n cs h => (by cases h), fun n m g hn => absurd hn (hNm n), fun n g hn => absurd hn (hNm n), rfl, fun k hk => ⟨hO k hk, id⟩, fun n cs g h => (by cases h), fun _ _ => rfl, hG.step (Stp.refl (fun _ => False) w) (fun _ _ h => h.elim) fun k _ hk => hk.elim id fun h => h.elim⟩
    · have h1 := look_args args 0 n
      rw [Nat.zero_add] at h1
      show Rel _ _ _ (look (argSlots 0 args) n) _
      rw [h1]
      by_cases hm : n < args.length
      · have hmv : n < vs.length := by rw [hsz]; exact hm
        have h2 := hargs.2 n _ _ (List.getElem?_eq_getElem hm) (List.getElem?_eq_getElem hmv)
        rw [List.getD_eq_getElem?_getD, List.getElem?_eq_getElem hm]
        have h3 : (vs.toArray ++ Array.replicate (fn.ntmps - vs.toArray.size) undef).getD n undef = vs[n] := by
          rw [Array.getD_eq_getD_getElem?, Array.getElem?_append_left (by simpa using hmv)]
          simp [hmv]
        rw [h3]
        refine Rel.im (h2.mono fun k hk => ?_)
        rcases hk with hk | ⟨m, hm', _⟩
        · exact hk
        · exact absurd hm' (hNm m)
      · rw [List.getD_eq_getElem?_getD, List.getElem?_eq_none (by omega)]
        exact Rel.x
    · show (vs.toArray ++ Array.replicate (fn.ntmps - vs.toArray.size) undef).size = N
      simp only [Array.size_append, List.size_toArray, Array.size_replicate, hN, hsz]
      omega
  refine hvc.ok w Fr.none O _ _ _ (fun e s a w' hq ⟨β, hI'⟩ => ?_) ⟨_, hI⟩
  have key : retK Γ s rs.toList (fun v => RL v r) → a.defers = [] ∧ ∃ v, (results fn a.tmps).run P w' = .ok v w' ∧ ∃ v', Ending.returned v = .returned v' ∧ Stp (fun _ => False) w w' ∧ Im O w' r v' := by
    intro h
    rw [← hrs] at h
    obtain ⟨v, u, hv, h1, h2⟩ := ret_ok hΓ hI' h
    exact ⟨hI'.defers, u, h2, u, rfl, hI'.ext, im_RL h1 hv⟩
  cases e with
  | normal => exact key hq
  | ret => exact key hq
  | _ => exact hq.elim
end
end Go.SX
end
section
namespace Go.Proofs.YtdcdmojbkmedpaaDoor
set_option linter.unusedSectionVars false
set_option linter.unusedSimpArgs false
set_option linter.unusedVariables false
open Go Go.SX Go.Bg Go.Nm
set_option maxRecDepth 100000
set_option maxHeartbeats 1000000
/-- the sign -/
def sg (n : Int) : Int := if n < 0 then -1 else 1
theorem sg_abs (n : Int) : sg n * (n.natAbs : Int) = n := by unfold sg; split <;> omega
theorem sg_div (n : Int) (a b : Nat) : (sg n * (a : Int)).tdiv b = sg n * ((a / b : Nat) : Int) := by
  unfold sg
  split
  · rw [Int.neg_one_mul, Int.neg_one_mul, Int.neg_tdiv]; rfl
  · rw [Int.one_mul, Int.one_mul]; rfl
theorem sg_mod (n : Int) (a b : Nat) : (sg n * (a : Int)).tmod b = sg n * ((a % b : Nat) : Int) := by
  unfold sg
  split
  · rw [Int.neg_one_mul, Int.neg_one_mul, Int.neg_tmod]; rfl
  · rw [Int.one_mul, Int.one_mul]; rfl
theorem sg_rng (n : Int) (a : Nat) (h : a ≤ n.natAbs) (h0 : -9223372036854775808 ≤ n) (h1 : n ≤ 9223372036854775807) : -9223372036854775808 ≤ sg n * (a : Int) ∧ sg n * (a : Int) ≤ 9223372036854775807 := by
  unfold sg
  split <;> omega
theorem txt_len {b n : Nat} (hb : 2 ≤ b) (hn : n < 2 ^ 64) : (txtN b n).length ≤ 64 := by
  unfold txtN
  split
  · simp
  · rw [List.length_map, List.length_reverse]
    exact dg_len_le hb 64 n (Nat.lt_of_lt_of_le hn (Nat.pow_le_pow_left hb 64))
theorem hex_cut (d : Nat) (h : d < 16) : (hexS.take (Int.toNat ((d : Int) + 1))).drop (Int.toNat (d : Int)) = [dcI (d : Int)] := by
  rcases (show d = 0 ∨ d = 1 ∨ d = 2 ∨ d = 3 ∨ d = 4 ∨ d = 5 ∨ d = 6 ∨ d = 7 ∨ d = 8 ∨ d = 9 ∨ d = 10 ∨ d = 11 ∨ d = 12 ∨ d = 13 ∨ d = 14 ∨ d = 15 by omega) with rfl | rfl | rfl | rfl | rfl | rfl | rfl | rfl | rfl | rfl | rfl | rfl | rfl | rfl | rfl | rfl <;> rfl
section
variable [G : Globs]
theorem w_numText (n : Int) (b : Nat) (hb : b = 2 ∨ b = 8 ∨ b = 10 ∨ b = 16) (h0 : -9223372036854775808 ≤ n) (h1 : n ≤ 9223372036854775807) : VCs Tryd.prog Γ 48 [0, 1, 4, 5, 6, 7, 8, 9, 10, 12, 14, 22, 30, 40] (Tryd.f21.body.getD .skip) (postK Γ [.tmp 4] (fun v => v = .s (numT n b))) ⟨argSlots 0 [.i .i64 n, .i .i64 (b : Int)], []⟩ := by
  refine VCs.seq (by first | exact Γ_good | exact Ctx.good_kp Γ_good _) ?_
  refine VCs.seq (by first | exact Γ_good | exact Ctx.good_kp Γ_good _) ?_
  refine VCs.cut (by first | exact Γ_good | exact Ctx.good_kp Γ_good _) Unit (fun _ => True) (fun _ => ⟨[(0, .i .i64 n), (1, .i .i64 (b : Int)), (4, .s []), (5, .s (frontS b))], []⟩) ?_ ?_
  · rcases hb with rfl | rfl | rfl | rfl
    all_goals
      (repeat' (first | (refine And.intro (fun h => ?_) (fun h => ?_) <;> (try simp [-List.getD_eq_getElem?_getD, -Int.pred_toNat] at h) <;> (try (exfalso; first | omega | contradiction))) | (refine And.intro (rng64 (by omega) (by omega)) ?_) | (refine And.intro ⟨by omega, by omega⟩ ?_) | (refine And.intro ⟨by omega, by omega, by omega⟩ ?_) | (intro _)))
      refine Exists.intro () (And.intro trivial ?_)
      (repeat' (first | exact trivial | exact Or.inl rfl | exact Or.inr (Or.inl ⟨rfl, _, rfl⟩) | exact Or.inr (Or.inr (Or.inr ⟨_, _, _, rfl, rfl⟩)) | refine And.intro ?_ ?_))
  rintro ⟨⟩ _
  have hb2 : 2 ≤ b ∧ b ≤ 16 := by omega
  have hbe : (b : Int) ≠ 0 := by omega
  refine VCs.of_vc (by first | exact Γ_good | exact Ctx.good_kp Γ_good _) ?_
  refine Exists.intro [] (Exists.intro [] (Exists.intro [] (Exists.intro (Nat × Str) (Exists.intro (fun q => q.1 ≤ n.natAbs ∧ ((q.2 = [] ∧ q.1 = n.natAbs) ∨ (q.2 ≠ [] ∧ tailN b q.1 ++ q.2 = txtN b n.natAbs))) (Exists.intro (fun ⟨a, t⟩ => ⟨[(0, .i .i64 n), (1, .i .i64 (b : Int)), (5, .s (frontS b)), (6, .s t), (7, .i .i64 (sg n * (a : Int)))], []⟩) (Exists.intro (fun q => 2 * q.1 + (if q.2 = [] then 1 else 0)) (Exists.intro (n.natAbs, []) (And.intro ⟨Nat.le_refl _, Or.inl ⟨rfl, rfl⟩⟩ (And.intro ?_ ?_)))))))))
  · (repeat' (first | exact trivial | exact Or.inl rfl | exact Or.inl ((congrArg (AV.i .i64) (sg_abs n).symm)) | refine And.intro ?_ ?_))
  · rintro ⟨a, t⟩ ⟨ha, hI⟩
    simp only at ha hI
    have hr := sg_rng n a ha h0 h1
    have hdv := sg_div n a b
    have hmd := sg_mod n a b
    have hz : sg n * (a : Int) = 0 ↔ a = 0 := by unfold sg; split <;> omega
    have hab : a % b < b := Nat.mod_lt _ (by omega)
    have hdr := sg_rng n (a / b) (Nat.le_trans (Nat.div_le_self a b) ha) h0 h1
    have hmr : sg n * ((a % b : Nat) : Int) = (a % b : Nat) ∨ sg n * ((a % b : Nat) : Int) = -((a % b : Nat) : Int) := by unfold sg; split <;> omega
    have hcut := hex_cut (a % b) (by omega)
    unfold hexS at hcut
    have hlen := txt_len (b := b) (n := n.natAbs) hb2.1 (by omega)
    have hne : (t == []) = decide (t = []) := by cases t <;> rfl
    have htl : t.length ≤ 64 := by
      rcases hI with ⟨h, _⟩ | ⟨_, h⟩
      · rw [h]; exact Nat.zero_le _
      · rw [← h, List.length_append] at hlen; omega
    have hfl : (frontS (b : Int)).length ≤ 2 := by unfold frontS; repeat' split
                                                   all_goals simp
    by_cases hgo : a = 0 ∧ t ≠ []
    · have ht : t = txtN b n.natAbs := by
        rcases hI with ⟨h, _⟩ | ⟨_, h⟩
        · exact absurd h hgo.2
        · rw [hgo.1] at h; exact h
      have ht2 := hgo.2
      have ha0 := hgo.1
      rcases (show n < 0 ∨ 0 ≤ n by omega) with hn | hn
      · have hT : numT n b = [45] ++ frontS (b : Int) ++ t := by unfold numT; rw [if_pos hn, ht]
        rw [hT]
        (repeat' (first | (refine And.intro (fun h => ?_) (fun h => ?_) <;> (try simp [-List.getD_eq_getElem?_getD, -Int.pred_toNat] at h) <;> (try (exfalso; first | omega | contradiction))) | (refine And.intro (rng64 (by omega) (by omega)) ?_) | (refine And.intro ⟨by omega, by omega⟩ ?_) | (refine And.intro ⟨by omega, by omega, by omega⟩ ?_) | (intro _)))
        refine And.intro (show 1 + (frontS (b : Int)).length ≤ maxLen by unfold maxLen; omega) ?_
        refine And.intro (show ([45] ++ frontS (b : Int)).length + t.length ≤ maxLen by rw [List.length_append]; unfold maxLen; simp only [List.length_cons, List.length_nil]; omega) ?_
        rfl
      · have hT : numT n b = frontS (b : Int) ++ t := by unfold numT; rw [if_neg (by omega), ht]; rfl
        rw [hT]
        (repeat' (first | (refine And.intro (fun h => ?_) (fun h => ?_) <;> (try simp [-List.getD_eq_getElem?_getD, -Int.pred_toNat] at h) <;> (try (exfalso; first | omega | contradiction))) | (refine And.intro (rng64 (by omega) (by omega)) ?_) | (refine And.intro ⟨by omega, by omega⟩ ?_) | (refine And.intro ⟨by omega, by omega, by omega⟩ ?_) | (intro _)))
        refine And.intro (show (frontS (b : Int)).length + t.length ≤ maxLen by unfold maxLen; omega) ?_
        rfl
    · have hN : dcI ((a % b : Nat) : Int) :: t ≠ [] := by simp
      have hI2 : tailN b (a / b) ++ (dcI ((a % b : Nat) : Int) :: t) = txtN b n.natAbs := by
        rcases hI with ⟨h, h'⟩ | ⟨_, h⟩
        · subst h
          rw [← h']
          rcases Nat.eq_zero_or_pos a with e | e
          · rw [e, Nat.zero_div, Nat.zero_mod]; rfl
          · rw [txtN_pos e, tailN_pos hb2.1 e]
        · rw [← h, tailN_pos (n := a) hb2.1 (by rcases Nat.eq_zero_or_pos a with e | e; exact absurd ⟨e, by assumption⟩ hgo; exact e), List.append_assoc]
          rfl
      have hgo2 : ¬ a = 0 ∨ t = [] := by
        by_cases h : a = 0
        · exact Or.inr (Decidable.byContradiction fun h2 => hgo ⟨h, h2⟩)
        · exact Or.inl h
      have hmu : 2 * (a / b) + 0 < 2 * a + (if t = [] then 1 else 0) := by
        rcases Nat.eq_zero_or_pos a with e | e
        · rw [if_pos (hgo2.resolve_left (fun h => h e)), e, Nat.zero_div]; omega
        · have := Nat.div_lt_self e (show 1 < b by omega)
          omega
      rcases hgo2 with hg | hg
      · (repeat' (first | (refine And.intro (fun h => ?_) (fun h => ?_) <;> (try simp [-List.getD_eq_getElem?_getD, -Int.pred_toNat] at h) <;> (try (exfalso; first | omega | contradiction))) | (refine And.intro (rng64 (by omega) (by omega)) ?_) | (refine And.intro ⟨by omega, by omega⟩ ?_) | (refine And.intro ⟨by omega, by omega, by omega⟩ ?_) | (intro _)))
        all_goals
          refine And.intro hbe ?_
          rw [hmd]
          refine And.intro (fun h9 => ?_) (fun h9 => ?_)
          · have h9 : sg n * ((a % b : Nat) : Int) < 0 := of_decide_eq_true h9
            have hv : (0 : Int) - sg n * ((a % b : Nat) : Int) = ((a % b : Nat) : Int) := by omega
            refine Or.inl (And.intro (rng64 (by omega) (by omega)) ?_)
            rw [hv]
            (refine And.intro (rng64 (by omega) (by omega)) ?_)
            refine And.intro (show 0 ≤ ((a % b : Nat) : Int) ∧ ((a % b : Nat) : Int) ≤ ((a % b : Nat) : Int) + 1 ∧ ((a % b : Nat) : Int) + 1 ≤ 16 from ⟨by omega, by omega, by omega⟩) ?_
            rw [hcut]
            refine And.intro (show 1 + (t).length ≤ maxLen by unfold maxLen; omega) ?_
            refine And.intro hbe ?_
            rw [hdv]
            (refine And.intro (rng64 (by omega) (by omega)) ?_)
            refine Exists.intro [] (Exists.intro (a / b, dcI ((a % b : Nat) : Int) :: t) (And.intro ⟨Nat.le_trans (Nat.div_le_self a b) ha, Or.inr ⟨hN, hI2⟩⟩ (And.intro ?_ ?_)))
            · (repeat' (first | exact trivial | exact Or.inl rfl | exact Or.inr (Or.inl ⟨rfl, _, rfl⟩) | exact Or.inr (Or.inr (Or.inr ⟨_, _, _, rfl, rfl⟩)) | refine And.intro ?_ ?_))
            · simp only
              rw [if_neg hN]
              exact hmu
          · have h9 : ¬ sg n * ((a % b : Nat) : Int) < 0 := of_decide_eq_false h9
            have hv : sg n * ((a % b : Nat) : Int) = ((a % b : Nat) : Int) := by omega
            rw [hv]
            (refine And.intro (rng64 (by omega) (by omega)) ?_)
            refine And.intro (show 0 ≤ ((a % b : Nat) : Int) ∧ ((a % b : Nat) : Int) ≤ ((a % b : Nat) : Int) + 1 ∧ ((a % b : Nat) : Int) + 1 ≤ 16 from ⟨by omega, by omega, by omega⟩) ?_
            rw [hcut]
            refine And.intro (show 1 + (t).length ≤ maxLen by unfold maxLen; omega) ?_
            refine And.intro hbe ?_
            rw [hdv]
            (refine And.intro (rng64 (by omega) (by omega)) ?_)
            refine Exists.intro [] (Exists.intro (a / b, dcI ((a % b : Nat) : Int) :: t) (And.intro ⟨Nat.le_trans (Nat.div_le_self a b) ha, Or.inr ⟨hN, hI2⟩⟩ (And.intro ?_ ?_)))
            · (repeat' (first | exact trivial | exact Or.inl rfl | exact Or.inr (Or.inl ⟨rfl, _, rfl⟩) | exact Or.inr (Or.inr (Or.inr ⟨_, _, _, rfl, rfl⟩)) | refine And.intro ?_ ?_))
            · simp only
              rw [if_neg hN]
              exact hmu
      · subst hg
        (repeat' (first | (refine And.intro (fun h => ?_) (fun h => ?_) <;> (try simp [-List.getD_eq_getElem?_getD, -Int.pred_toNat] at h) <;> (try (exfalso; first | omega | contradiction))) | (refine And.intro (rng64 (by omega) (by omega)) ?_) | (refine And.intro ⟨by omega, by omega⟩ ?_) | (refine And.intro ⟨by omega, by omega, by omega⟩ ?_) | (intro _)))
        all_goals
          refine And.intro hbe ?_
          rw [hmd]
          refine And.intro (fun h9 => ?_) (fun h9 => ?_)
          · have h9 : sg n * ((a % b : Nat) : Int) < 0 := of_decide_eq_true h9
            have hv : (0 : Int) - sg n * ((a % b : Nat) : Int) = ((a % b : Nat) : Int) := by omega
            refine Or.inl (And.intro (rng64 (by omega) (by omega)) ?_)
            rw [hv]
            (refine And.intro (rng64 (by omega) (by omega)) ?_)
            refine And.intro (show 0 ≤ ((a % b : Nat) : Int) ∧ ((a % b : Nat) : Int) ≤ ((a % b : Nat) : Int) + 1 ∧ ((a % b : Nat) : Int) + 1 ≤ 16 from ⟨by omega, by omega, by omega⟩) ?_
            rw [hcut]
            refine And.intro (show 1 + (([] : Str)).length ≤ maxLen by unfold maxLen; simp only [List.length_nil]; omega) ?_
            refine And.intro hbe ?_
            rw [hdv]
            (refine And.intro (rng64 (by omega) (by omega)) ?_)
            refine Exists.intro [] (Exists.intro (a / b, dcI ((a % b : Nat) : Int) :: ([] : Str)) (And.intro ⟨Nat.le_trans (Nat.div_le_self a b) ha, Or.inr ⟨hN, hI2⟩⟩ (And.intro ?_ ?_)))
            · (repeat' (first | exact trivial | exact Or.inl rfl | exact Or.inr (Or.inl ⟨rfl, _, rfl⟩) | exact Or.inr (Or.inr (Or.inr ⟨_, _, _, rfl, rfl⟩)) | refine And.intro ?_ ?_))
            · simp only
              rw [if_neg hN]
              exact hmu
          · have h9 : ¬ sg n * ((a % b : Nat) : Int) < 0 := of_decide_eq_false h9
            have hv : sg n * ((a % b : Nat) : Int) = ((a % b : Nat) : Int) := by omega
            rw [hv]
            (refine And.intro (rng64 (by omega) (by omega)) ?_)
            refine And.intro (show 0 ≤ ((a % b : Nat) : Int) ∧ ((a % b : Nat) : Int) ≤ ((a % b : Nat) : Int) + 1 ∧ ((a % b : Nat) : Int) + 1 ≤ 16 from ⟨by omega, by omega, by omega⟩) ?_
            rw [hcut]
            refine And.intro (show 1 + (([] : Str)).length ≤ maxLen by unfold maxLen; simp only [List.length_nil]; omega) ?_
            refine And.intro hbe ?_
            rw [hdv]
            (refine And.intro (rng64 (by omega) (by omega)) ?_)
            refine Exists.intro [] (Exists.intro (a / b, dcI ((a % b : Nat) : Int) :: ([] : Str)) (And.intro ⟨Nat.le_trans (Nat.div_le_self a b) ha, Or.inr ⟨hN, hI2⟩⟩ (And.intro ?_ ?_)))
            · (repeat' (first | exact trivial | exact Or.inl rfl | exact Or.inr (Or.inl ⟨rfl, _, rfl⟩) | exact Or.inr (Or.inr (Or.inr ⟨_, _, _, rfl, rfl⟩)) | refine And.intro ?_ ?_))
            · simp only
              rw [if_neg hN]
              exact hmu
theorem s_numText (n : Int) (b : Nat) (hb : b = 2 ∨ b = 8 ∨ b = 10 ∨ b = 16) (h0 : -9223372036854775808 ≤ n) (h1 : n ≤ 9223372036854775807) : PSpec Tryd.prog 21 [.i .i64 n, .i .i64 (b : Int)] (.s (numT n b)) :=
  pspec_of_VCs Γ_good Tryd.func21 rfl Tryd.call21 Tryd.results21 Tryd.ntmps21 (Nat.le_of_ble_eq_true rfl) (w_numText n b hb h0 h1) Γ_good
end
end Go.Proofs.YtdcdmojbkmedpaaDoor
end
section
namespace Go.Proofs
set_option linter.unusedSectionVars false
set_option linter.unusedSimpArgs false
set_option linter.unusedVariables false
open Go.Shelf
def Tryd.laysM173_ren : Go.Shelf.Ren := ⟨fun | 173 => 70 | 246 => 136 | 283 => 196 | 284 => 197 | 285 => 198 | 286 => 199 | 129 => 238 | 317 => 237 | 318 => 239 | 319 => 240 | 320 => 241 | 337 => 258 | 338 => 259 | n => n, fun | 2 => 2 | 3 => 3 | 9 => 9 | 4 => 4 | 171 => 269 | 0 => 0 | 53 => 22 | 37 => 27 | 5 => 5 | 173 => 272 | 212 => 301 | 51 => 252 | 20 => 20 | 213 => 302 | 46 => 190 | 232 => 328 | 233 => 329 | n => n, fun | 17 => 0 | 18 => 3 | 19 => 4 | n => n⟩
theorem Tryd.laysM173 : Go.Proofs.LaysM.n173 Tryd.prog Tryd.laysM173_ren := {
  mixed := by kernel_rfl
  f129 := Tryd.func238.trans (congrArg some (by kernel_rfl))
  f173 := Tryd.func70.trans (congrArg some (by kernel_rfl))
  f246 := Tryd.func136.trans (congrArg some (by kernel_rfl))
  f283 := Tryd.func196.trans (congrArg some (by kernel_rfl))
  f284 := Tryd.func197.trans (congrArg some (by kernel_rfl))
  f285 := Tryd.func198.trans (congrArg some (by kernel_rfl))
  f286 := Tryd.func199.trans (congrArg some (by kernel_rfl))
  f317 := Tryd.func237.trans (congrArg some (by kernel_rfl))
  f318 := Tryd.func239.trans (congrArg some (by kernel_rfl))
  f319 := Tryd.func240.trans (congrArg some (by kernel_rfl))
  f320 := Tryd.func241.trans (congrArg some (by kernel_rfl))
  f337 := Tryd.func258.trans (congrArg some (by kernel_rfl))
  f338 := Tryd.func259.trans (congrArg some (by kernel_rfl))
  t0 := Tryd.underlying0
  a0 := Tryd.isAgg0
  z0 := Tryd.sizeOf0
  v0 := Tryd.zeroValue0
  t2 := Tryd.underlying2
  a2 := Tryd.isAgg2
  z2 := Tryd.sizeOf2
  v2 := Tryd.zeroValue2
  t3 := Tryd.underlying3
  a3 := Tryd.isAgg3
  z3 := Tryd.sizeOf3
  v3 := Tryd.zeroValue3
  t4 := Tryd.underlying4
  a4 := Tryd.isAgg4
  z4 := Tryd.sizeOf4
  v4 := Tryd.zeroValue4
  t5 := Tryd.underlying5
  a5 := Tryd.isAgg5
  z5 := Tryd.sizeOf5
  v5 := Tryd.zeroValue5
  t9 := Tryd.underlying9
  a9 := Tryd.isAgg9
  z9 := Tryd.sizeOf9
  v9 := Tryd.zeroValue9
  t20 := Tryd.underlying20
  a20 := Tryd.isAgg20
  z20 := Tryd.sizeOf20
  v20 := Tryd.zeroValue20
  t37 := Tryd.underlying27
  a37 := Tryd.isAgg27
  z37 := Tryd.sizeOf27
  v37 := Tryd.zeroValue27
  t46 := Tryd.underlying190
  a46 := Tryd.isAgg190
  z46 := Tryd.sizeOf190
  v46 := Tryd.zeroValue190
  t51 := Tryd.underlying252
  a51 := Tryd.isAgg252
  z51 := Tryd.sizeOf252
  v51 := Tryd.zeroValue252
  t53 := Tryd.underlying22
  a53 := Tryd.isAgg22
  z53 := Tryd.sizeOf22
  v53 := Tryd.zeroValue22
  t171 := Tryd.underlying269
  a171 := Tryd.isAgg269
  z171 := Tryd.sizeOf269
  v171 := Tryd.zeroValue269
  t173 := Tryd.underlying272
  a173 := Tryd.isAgg272
  z173 := Tryd.sizeOf272
  v173 := Tryd.zeroValue272
  t212 := Tryd.underlying301
  a212 := Tryd.isAgg301
  z212 := Tryd.sizeOf301
  v212 := Tryd.zeroValue301
  t213 := Tryd.underlying302
  a213 := Tryd.isAgg302
  z213 := Tryd.sizeOf302
  t232 := Tryd.underlying328
  a232 := Tryd.isAgg328
  z232 := Tryd.sizeOf328
  v232 := Tryd.zeroValue328
  t233 := Tryd.underlying329
  a233 := Tryd.isAgg329
  z233 := Tryd.sizeOf329
  v233 := Tryd.zeroValue329
  g17 := by kernel_rfl
  g18 := by kernel_rfl
  g19 := by kernel_rfl
  i0 := by kernel_rfl
  i2 := by kernel_rfl
  i3 := by kernel_rfl
  i4 := by kernel_rfl
  i5 := by kernel_rfl
  i9 := by kernel_rfl
  i20 := by kernel_rfl
  i37 := by kernel_rfl
  i46 := by kernel_rfl
  i51 := by kernel_rfl
  i53 := by kernel_rfl
  i171 := by kernel_rfl
  i173 := by kernel_rfl
  i212 := by kernel_rfl
  i232 := by kernel_rfl
  i233 := by kernel_rfl
  m17 := by kernel_rfl
  m18 := by kernel_rfl
  m19 := by kernel_rfl }
open Go.RowKit Go.Sort Go.Lib in
/-- strconv.FormatInt: "FormatInt returns the string representation of i in the given base": AT BASE 10: i's decimal numeral, for every int64. (LAID: no walk: one application.) -/
theorem Tryd.strconv_FormatInt_10 (n : Int) (h0 : -9223372036854775808 ≤ n) (h1 : n ≤ 9223372036854775807) (w : World) (htab : Lib.TabIs Tryd.prog w "internal/strconv.uint64pow10" .u64 Lib.pow10Tab) :
    Calls Tryd.prog 70 #[.int .i64 n, .int .i64 10] w fun e w' => e = .returned (.string ⟨(Lib.itoa n).toArray⟩) ∧ ∃ k os, w' = grow (w.drewN k) os := Any.strconv_FormatInt_10 Tryd.laysM173 n h0 h1 w htab
def Tryd.lays264_ren : Go.Shelf.Ren := ⟨fun | 264 => 65 | n => n, fun | 53 => 22 | 46 => 190 | n => n, fun | n => n⟩
theorem Tryd.lays264 : Go.Proofs.Lays.n264 Tryd.prog Tryd.lays264_ren := {
  mixed := by kernel_rfl
  f264 := Tryd.func65.trans (congrArg some (by kernel_rfl))
  t46 := Tryd.underlying190
  a46 := Tryd.isAgg190
  z46 := Tryd.sizeOf190
  v46 := Tryd.zeroValue190
  t53 := Tryd.underlying22
  a53 := Tryd.isAgg22
  z53 := Tryd.sizeOf22
  v53 := Tryd.zeroValue22 }
open Go.RowKit Go.Lib in
theorem Tryd.bits_Mul64 (x y : Nat) (hx : x < 18446744073709551616) (hy : y < 18446744073709551616) (w : World) :
    Calls Tryd.prog 65 #[.int .u64 x, .int .u64 y] w fun e w' => e = .returned (.tuple #[.int .u64 ((x * y / 18446744073709551616 : Nat) : Int), .int .u64 ((x * y % 18446744073709551616 : Nat) : Int)]) ∧ w' = w := Any.bits_Mul64 Tryd.lays264 x y hx hy w
end Go.Proofs
end
section
namespace Go.Proofs.YtdcdmojbkmedpaaDoor
set_option linter.unusedSectionVars false
set_option linter.unusedSimpArgs false
set_option linter.unusedVariables false
open Go Go.SX Go.Bg Go.Nm
set_option maxRecDepth 100000
set_option maxHeartbeats 1000000
/-- the library's tables stand as laid: powers of 10 in block 0, places of bits in block 4 -/
def HasNum [G : Globs] : Prop := ∃ o0 o1 : Obj, (0, o0) ∈ G.gl ∧ (4, o1) ∈ G.gl ∧ ∀ w : World, w.heap[0]? = some o0 → w.heap[4]? = some o1 → Lib.TabIs Tryd.prog w "internal/strconv.uint64pow10" .u64 Lib.pow10Tab ∧ TabAt 4 Lib.deBruijn64tab w
def tzR : Go.Shelf.Ren := ⟨fun | 27 => 241 | 28 => 258 | 29 => 259 | n => n, fun | 0 => 0 | 3 => 3 | 4 => 4 | 5 => 5 | 22 => 22 | 25 => 190 | 27 => 252 | 53 => 328 | 54 => 329 | n => n, fun | 0 => 3 | 1 => 4 | n => n⟩
theorem tzL : Lays7.n27 Tryd.prog tzR := {
  mixed := by kernel_rfl
  f27 := Tryd.func241.trans (congrArg some (by kernel_rfl))
  f28 := Tryd.func258.trans (congrArg some (by kernel_rfl))
  f29 := Tryd.func259.trans (congrArg some (by kernel_rfl))
  t0 := Tryd.underlying0
  a0 := Tryd.isAgg0
  z0 := Tryd.sizeOf0
  v0 := Tryd.zeroValue0
  i0 := by kernel_rfl
  t3 := Tryd.underlying3
  a3 := Tryd.isAgg3
  z3 := Tryd.sizeOf3
  v3 := Tryd.zeroValue3
  i3 := by kernel_rfl
  t4 := Tryd.underlying4
  a4 := Tryd.isAgg4
  z4 := Tryd.sizeOf4
  v4 := Tryd.zeroValue4
  i4 := by kernel_rfl
  t5 := Tryd.underlying5
  a5 := Tryd.isAgg5
  z5 := Tryd.sizeOf5
  v5 := Tryd.zeroValue5
  i5 := by kernel_rfl
  t22 := Tryd.underlying22
  a22 := Tryd.isAgg22
  z22 := Tryd.sizeOf22
  v22 := Tryd.zeroValue22
  i22 := by kernel_rfl
  t25 := Tryd.underlying190
  a25 := Tryd.isAgg190
  z25 := Tryd.sizeOf190
  v25 := Tryd.zeroValue190
  i25 := by kernel_rfl
  t27 := Tryd.underlying252
  a27 := Tryd.isAgg252
  z27 := Tryd.sizeOf252
  v27 := Tryd.zeroValue252
  i27 := by kernel_rfl
  t53 := Tryd.underlying328
  a53 := Tryd.isAgg328
  z53 := Tryd.sizeOf328
  v53 := Tryd.zeroValue328
  i53 := by kernel_rfl
  t54 := Tryd.underlying329
  a54 := Tryd.isAgg329
  z54 := Tryd.sizeOf329
  g0 := by kernel_rfl
  g1 := by kernel_rfl }
theorem dcI_lt {d : Nat} (h : d < 10) : dcI (d : Int) = UInt8.ofNat (48 + d) := by
  rcases (show d = 0 ∨ d = 1 ∨ d = 2 ∨ d = 3 ∨ d = 4 ∨ d = 5 ∨ d = 6 ∨ d = 7 ∨ d = 8 ∨ d = 9 by omega) with rfl | rfl | rfl | rfl | rfl | rfl | rfl | rfl | rfl | rfl <;> rfl
theorem dec_txt : ∀ n : Nat, Lib.decDigits n = txtN 10 n := by
  intro n
  induction n using Nat.strongRecOn with
  | ind n ih =>
    rw [Lib.decDigits]
    split
    · rename_i h
      rcases Nat.eq_zero_or_pos n with e | e
      · rw [e]; rfl
      · rw [txtN_pos e, tailN_pos (by decide) e, Nat.div_eq_of_lt h, Nat.mod_eq_of_lt h, tailN_zero, dcI_lt h]
        rfl
    · rename_i h
      rw [ih (n / 10) (by omega), txtN_pos (show 0 < n by omega), tailN_pos (by decide) (show 0 < n by omega), txtN_pos (show 0 < n / 10 by omega), dcI_lt (Nat.mod_lt _ (by decide))]
theorem grow_stp (w : World) (k : Nat) (os : Array Obj) : Stp (fun _ => False) w (Go.Sort.grow (w.drewN k) os) := by
  refine ⟨rfl, rfl, rfl, ?_, fun j hj _ => ?_⟩
  · show w.heap.size ≤ (w.heap ++ os).size
    rw [Array.size_append]; omega
  · show (w.heap ++ os)[j]? = _
    rw [Array.getElem?_append_left hj]
theorem itoa_txt (n : Int) : Lib.itoa n = numT n 10 := by
  unfold Lib.itoa numT
  split
  · rw [dec_txt]; rfl
  · rw [dec_txt, show n.toNat = n.natAbs by omega]; rfl
section
variable [G : Globs]
theorem s_tz (ht : HasNum) (x : Nat) (hx : x < 18446744073709551616) : PSpec Tryd.prog 241 [.i .u64 x] (.i .i64 (Lib.ctz 64 x)) := by
  refine ⟨Tryd.call241, fun O w vs hO hG hargs => ?_⟩
  obtain ⟨v0, vs0, rfl, h0, h⟩ := hargs.cons_inv
  obtain rfl := h.nil_inv
  cases h0
  obtain ⟨o0, o1, m0, m1, hT⟩ := ht
  have hT := hT w (hG _ m0).2 (hG _ m1).2
  refine (Any7.bits_TrailingZeros tzL x hx w (fun _ => hT.2)).mono fun e w' ⟨he, hw⟩ => ?_
  subst he hw
  exact ⟨_, rfl, Stp.refl _ _, .i _ _⟩
theorem s_fmt10 (ht : HasNum) (n : Int) (h0 : -9223372036854775808 ≤ n) (h1 : n ≤ 9223372036854775807) : PSpec Tryd.prog 70 [.i .i64 n, .i .i64 10] (.s (numT n 10)) := by
  refine ⟨Tryd.call70, fun O w vs hO hG hargs => ?_⟩
  obtain ⟨v0, vs0, rfl, h2, h⟩ := hargs.cons_inv
  obtain ⟨v1, vs1, rfl, h3, h⟩ := h.cons_inv
  obtain rfl := h.nil_inv
  cases h2
  cases h3
  obtain ⟨o0, o1, m0, m1, hT⟩ := ht
  have hT := hT w (hG _ m0).2 (hG _ m1).2
  refine (Tryd.strconv_FormatInt_10 n h0 h1 w hT.1).mono fun e w' ⟨he, k, os, hw⟩ => ?_
  subst he hw
  refine ⟨_, rfl, ?_, ?_⟩
  · exact grow_stp w k os
  · rw [itoa_txt]
    have hl := Lib.itoa_length_le n h0 h1
    rw [itoa_txt] at hl
    exact .s _ (by unfold maxLen; omega)
theorem w_isPow (b : Int) (hb : b = 2 ∨ b = 8 ∨ b = 16) : vc Tryd.prog Γ 8 [0, 2] (Tryd.f240.body.getD .skip) (postK Γ [.tmp 2] (fun v => v = .b true)) ⟨argSlots 0 [.i .i64 b], []⟩ := by
  rcases hb with rfl | rfl | rfl
  all_goals
    (repeat' (first | (refine And.intro (fun h => ?_) (fun h => ?_) <;> (try simp [-List.getD_eq_getElem?_getD, -Int.pred_toNat] at h) <;> (try (exfalso; first | omega | contradiction))) | (refine And.intro (rng64 (by omega) (by omega)) ?_) | (refine And.intro ⟨by omega, by omega⟩ ?_) | (refine And.intro ⟨by omega, by omega, by omega⟩ ?_) | (intro _)))
    rfl
theorem s_isPow (b : Int) (hb : b = 2 ∨ b = 8 ∨ b = 16) : PSpec Tryd.prog 240 [.i .i64 b] (.b true) :=
  pspec_of_vc Γ_good Tryd.func240 rfl Tryd.call240 Tryd.results240 Tryd.ntmps240 (Nat.le_of_ble_eq_true rfl) (w_isPow b hb)
end
end Go.Proofs.YtdcdmojbkmedpaaDoor
end
section
namespace Go.Proofs.YtdcdmojbkmedpaaDoor
set_option linter.unusedSectionVars false
set_option linter.unusedSimpArgs false
set_option linter.unusedVariables false
open Go Go.SX Go.Bg Go.Nm
set_option maxRecDepth 100000
set_option maxHeartbeats 1000000
def toJ (s : Str) : List Int := s.map fun b => (b.toNat : Int)
theorem toJ_len (s : Str) : (toJ s).length = s.length := List.length_map ..
theorem ofB_toJ (s : Str) : (toJ s).map ofB = s := by
  unfold toJ
  rw [List.map_map]
  conv => rhs; rw [← List.map_id s]
  refine List.map_congr_left fun b _ => ?_
  simp [ofB]
/-- the array: noughts, and the text behind them -/
def arrL (t : Str) : List Int := List.replicate (65 - t.length) 0 ++ toJ t
theorem arrL_len {t : Str} (h : t.length ≤ 65) : (arrL t).length = 65 := by
  unfold arrL
  rw [List.length_append, List.length_replicate, toJ_len]
  omega
theorem arrL_set {t : Str} {c : UInt8} (h : t.length < 65) : (arrL t).set (65 - t.length - 1) (c.toNat : Int) = arrL (c :: t) := by
  unfold arrL
  have e : 65 - t.length = (65 - t.length - 1) + 1 := by omega
  rw [List.length_cons, show 65 - (t.length + 1) = 65 - t.length - 1 by omega]
  generalize 65 - t.length - 1 = k at e
  rw [e, List.replicate_succ', List.append_assoc, List.set_append_right _ _ (by rw [List.length_replicate]; exact Nat.le_refl _), List.length_replicate, Nat.sub_self]
  rfl
theorem arrL_drop {t : Str} (h : t.length ≤ 65) : (arrL t).drop (65 - t.length) = toJ t := by
  unfold arrL
  rw [List.drop_append_of_le_length (by rw [List.length_replicate]; exact Nat.le_refl _), List.drop_of_length_le (by rw [List.length_replicate]; exact Nat.le_refl _)]
  rfl
def digS : Str := [48, 49, 50, 51, 52, 53, 54, 55, 56, 57, 97, 98, 99, 100, 101, 102, 103, 104, 105, 106, 107, 108, 109, 110, 111, 112, 113, 114, 115, 116, 117, 118, 119, 120, 121, 122]
theorem dig_at {d : Nat} (h : d < 16) : digS.getD (Int.toNat (d : Int)) 0 = dcI (d : Int) := by
  rcases (show d = 0 ∨ d = 1 ∨ d = 2 ∨ d = 3 ∨ d = 4 ∨ d = 5 ∨ d = 6 ∨ d = 7 ∨ d = 8 ∨ d = 9 ∨ d = 10 ∨ d = 11 ∨ d = 12 ∨ d = 13 ∨ d = 14 ∨ d = 15 by omega) with rfl | rfl | rfl | rfl | rfl | rfl | rfl | rfl | rfl | rfl | rfl | rfl | rfl | rfl | rfl | rfl <;> rfl
theorem and_low {m b k : Nat} (hb : b = 2 ^ k) (hk : k ≤ 4) (hm : m < 18446744073709551616) : bits .and .u64 (m : Int) ((b : Int) - 1) = ((m % b : Nat) : Int) := by
  have hp : 0 < b := by rw [hb]; exact Nat.pow_pos (by decide)
  have hb2 : b ≤ 16 := by rw [hb]; exact Nat.pow_le_pow_right (n := 2) (by decide) hk
  have e : (b : Int) - 1 = ((b - 1 : Nat) : Int) := by omega
  rw [e, bits_and_u64_nat m (b - 1) hm (by omega), hb, Nat.and_two_pow_sub_one_eq_mod]
theorem shr_low {m b k : Nat} (hb : b = 2 ^ k) (hk : k ≤ 4) : (m : Int).fdiv (2 ^ min (Int.toNat (k : Int)) IntKind.u64.bits) = ((m / b : Nat) : Int) := by
  have e : min (Int.toNat (k : Int)) IntKind.u64.bits = k := by
    rw [Int.toNat_natCast]
    exact Nat.min_eq_left (show k ≤ 64 by omega)
  rw [e, hb, Int.fdiv_eq_ediv_of_nonneg _ (Int.le_of_lt (Int.pow_pos (by decide))), Int.natCast_ediv, Int.natCast_pow]
  rfl
theorem arr_put {t : Str} {d : Nat} (h : t.length < 65) (hd : d < 16) : (arrL t).set (Int.toNat (((65 - t.length : Nat) : Int) - 1)) ((((48 :: 49 :: 50 :: 51 :: 52 :: 53 :: 54 :: 55 :: 56 :: 57 :: 97 :: 98 :: 99 :: 100 :: 101 :: 102 :: 103 :: 104 :: 105 :: 106 :: 107 :: 108 :: 109 :: 110 :: 111 :: 112 :: 113 :: 114 :: 115 :: 116 :: 117 :: 118 :: 119 :: 120 :: 121 :: 122 :: ([] : Str)).getD (Int.toNat (d : Int)) 0).toNat : Nat) : Int) = arrL (dcI (d : Int) :: t) := by
  rw [show (48 :: 49 :: 50 :: 51 :: 52 :: 53 :: 54 :: 55 :: 56 :: 57 :: 97 :: 98 :: 99 :: 100 :: 101 :: 102 :: 103 :: 104 :: 105 :: 106 :: 107 :: 108 :: 109 :: 110 :: 111 :: 112 :: 113 :: 114 :: 115 :: 116 :: 117 :: 118 :: 119 :: 120 :: 121 :: 122 :: ([] : Str)) = digS from rfl, dig_at hd, show Int.toNat (((65 - t.length : Nat) : Int) - 1) = 65 - t.length - 1 by omega]
  exact arrL_set h
theorem arr_min {t : Str} (h : t.length < 65) : (arrL t).set (Int.toNat (((65 - t.length : Nat) : Int) - 1)) 45 = arrL (45 :: t) := by
  rw [show Int.toNat (((65 - t.length : Nat) : Int) - 1) = 65 - t.length - 1 by omega]
  exact arrL_set (c := 45) h
theorem arr_txt {t : Str} (h : t.length ≤ 65) : ((arrL t).drop (Int.toNat ((65 - t.length : Nat) : Int))).map ofB = t := by
  rw [Int.toNat_natCast, arrL_drop h, ofB_toJ]
/-- the text of a number to these bases, without what tells the base -/
def txtB (n : Int) (b : Nat) : Str := (if n < 0 then [45] else []) ++ txtN b n.natAbs
theorem txt_last {b a : Nat} (hb : 2 ≤ b) {m : Nat} {t : Str} (hm : m < b) (hI : tailN b m ++ t = tailN b a) (h0 : 0 < m ∨ (a = 0 ∧ t = [])) : dcI (m : Int) :: t = txtN b a := by
  rcases Nat.eq_zero_or_pos a with e | e
  · subst e
    rcases h0 with h | ⟨_, h⟩
    · exfalso
      rw [tailN_pos hb h, tailN_zero] at hI
      simp at hI
    · subst h
      rcases Nat.eq_zero_or_pos m with e | e
      · subst e; rfl
      · exfalso
        rw [tailN_pos hb e, tailN_zero] at hI
        simp at hI
  · rw [txtN_pos e, ← hI]
    rcases h0 with h | ⟨h, _⟩
    · rw [tailN_pos hb h, Nat.div_eq_of_lt hm, Nat.mod_eq_of_lt hm, tailN_zero]
      rfl
    · omega
section
variable [G : Globs]
theorem w_fbits (ht : HasNum) (n : Int) (b k : Nat) (hb : b = 2 ^ k) (hk : k = 1 ∨ k = 3 ∨ k = 4) (hc : Lib.ctz 64 b = k) (h0 : -9223372036854775808 ≤ n) (h1 : n ≤ 9223372036854775807) : VCs Tryd.prog Γ 102 [0, 1, 2, 3, 4, 10, 11, 12, 13, 14, 15, 16, 17, 18, 28, 30, 34, 46, 68, 89, 94] (Tryd.f199.body.getD .skip) (postK Γ [.tmp 10, .tmp 11] (fun v => v = .tup [.nl, .s (txtB n b)])) ⟨argSlots 0 [.nl, .i .u64 (IntKind.u64.wrap n), .i .i64 (b : Int), .b (decide (n < 0)), .b false], []⟩ := by
  have hbv : (b = 2 ∧ k = 1) ∨ (b = 8 ∧ k = 3) ∨ (b = 16 ∧ k = 4) := by
    rcases hk with rfl | rfl | rfl
    · exact .inl ⟨hb, rfl⟩
    · exact .inr (.inl ⟨hb, rfl⟩)
    · exact .inr (.inr ⟨hb, rfl⟩)
  have hwb : IntKind.u64.wrap (b : Int) = (b : Int) := by rw [IntKind.wrap_u64]; omega
  have hwk : IntKind.u64.wrap (k : Int) = (k : Int) := by rw [IntKind.wrap_u64]; omega
  have hwm : IntKind.u64.wrap ((b : Int) - 1) = (b : Int) - 1 := by rw [IntKind.wrap_u64]; omega
  have hP := s_isPow (b : Int) (by omega)
  have hT := s_tz ht b (by omega)
  rw [hc] at hT
  have hA : n.natAbs ≤ 9223372036854775808 := by omega
  have hu1 : n < 0 → IntKind.u64.wrap (0 - IntKind.u64.wrap n) = (n.natAbs : Int) := fun h => by
    have e : IntKind.u64.wrap n = n + 18446744073709551616 := by rw [IntKind.wrap_u64]; omega
    rw [e, IntKind.wrap_u64]
    omega
  have hu2 : 0 ≤ n → IntKind.u64.wrap n = (n.natAbs : Int) := fun h => by rw [IntKind.wrap_u64]; omega
  refine VCs.seq (by first | exact Γ_good | exact Ctx.good_kp Γ_good _) ?_
  refine VCs.cut (by first | exact Γ_good | exact Ctx.good_kp Γ_good _) Unit (fun _ => True) (fun _ => ⟨[(0, .nl), (1, .i .u64 (IntKind.u64.wrap n)), (2, .i .i64 (b : Int)), (3, .b (decide (n < 0))), (4, .b false), (10, .nl), (11, .s [])], []⟩) ?_ ?_
  · (repeat' (first | (refine And.intro (fun h => ?_) (fun h => ?_) <;> (try simp [-List.getD_eq_getElem?_getD, -Int.pred_toNat] at h) <;> (try (exfalso; first | omega | contradiction))) | (refine And.intro (rng64 (by omega) (by omega)) ?_) | (refine And.intro ⟨by omega, by omega⟩ ?_) | (refine And.intro ⟨by omega, by omega, by omega⟩ ?_) | (intro _)))
    refine Exists.intro () (And.intro trivial ?_)
    (repeat' (first | exact trivial | exact Or.inl rfl | exact Or.inr (Or.inl ⟨rfl, _, rfl⟩) | exact Or.inr (Or.inr (Or.inr ⟨_, _, _, rfl, rfl⟩)) | refine And.intro ?_ ?_))
  rintro ⟨⟩ _
  refine VCs.seq (by first | exact Γ_good | exact Ctx.good_kp Γ_good _) ?_
  refine VCs.seq (by first | exact Γ_good | exact Ctx.good_kp Γ_good _) ?_
  refine VCs.cut (by first | exact Γ_good | exact Ctx.good_kp Γ_good _) Unit (fun _ => True) (fun _ => ⟨[(1, .i .u64 (n.natAbs : Int)), (2, .i .i64 (b : Int)), (3, .b (decide (n < 0))), (4, .b false), (10, .nl), (11, .s []), (12, .vp 12 .u8 (arrL []) 0 0), (13, .i .i64 65)], []⟩) ?_ ?_
  · rcases (show n < 0 ∨ 0 ≤ n by omega) with h | h
    · (repeat' (first | (refine And.intro (fun h => ?_) (fun h => ?_) <;> (try simp [-List.getD_eq_getElem?_getD, -Int.pred_toNat] at h) <;> (try (exfalso; first | omega | contradiction))) | (refine And.intro (rng64 (by omega) (by omega)) ?_) | (refine And.intro ⟨by omega, by omega⟩ ?_) | (refine And.intro ⟨by omega, by omega, by omega⟩ ?_) | (intro _)))
      refine Exists.intro () (And.intro trivial ?_)
      (repeat' (first | exact trivial | exact Or.inl rfl | exact Or.inl ((congrArg (AV.i .u64) (hu1 h))) | exact Or.inl ((congrArg (fun z => AV.vp 12 .u8 z 0 0) (show List.replicate 65 (0 : Int) = arrL [] from rfl))) | refine And.intro ?_ ?_))
    · (repeat' (first | (refine And.intro (fun h => ?_) (fun h => ?_) <;> (try simp [-List.getD_eq_getElem?_getD, -Int.pred_toNat] at h) <;> (try (exfalso; first | omega | contradiction))) | (refine And.intro (rng64 (by omega) (by omega)) ?_) | (refine And.intro ⟨by omega, by omega⟩ ?_) | (refine And.intro ⟨by omega, by omega, by omega⟩ ?_) | (intro _)))
      refine Exists.intro () (And.intro trivial ?_)
      (repeat' (first | exact trivial | exact Or.inl rfl | exact Or.inl ((congrArg (AV.i .u64) (hu2 h))) | exact Or.inl ((congrArg (fun z => AV.vp 12 .u8 z 0 0) (show List.replicate 65 (0 : Int) = arrL [] from rfl))) | refine And.intro ?_ ?_))
  rintro ⟨⟩ _
  have hT2 : PSpec Tryd.prog 241 [.i .u64 (IntKind.u64.wrap (b : Int))] (.i .i64 (k : Int)) := by rw [hwb]; exact hT
  have hb2 : 2 ≤ b ∧ b ≤ 16 := by omega
  have hN64 : n.natAbs < 2 ^ 64 := by omega
  have hlen : (tailN b n.natAbs).length ≤ 64 := by
    unfold tailN
    rw [List.length_map, List.length_reverse]
    exact dg_len_le hb2.1 64 _ (Nat.lt_of_lt_of_le hN64 (Nat.pow_le_pow_left hb2.1 64))
  refine VCs.of_vc (by first | exact Γ_good | exact Ctx.good_kp Γ_good _) ?_
  refine Or.inl (Exists.intro _ (And.intro (hP) ?_))
  refine And.intro (fun _ => ?_) (fun h => by cases h)
  refine Or.inl (Exists.intro _ (And.intro (hT2) ?_))
  refine Exists.intro [] (Exists.intro [] (Exists.intro [] (Exists.intro (Nat × Str) (Exists.intro (fun q => tailN b q.1 ++ q.2 = tailN b n.natAbs ∧ q.1 ≤ n.natAbs ∧ (0 < q.1 ∨ (n.natAbs = 0 ∧ q.2 = []))) (Exists.intro (fun ⟨m, t⟩ => ⟨[(1, .i .u64 (m : Int)), (2, .i .i64 (b : Int)), (3, .b (decide (n < 0))), (4, .b false), (10, .nl), (11, .s []), (12, .vp 12 .u8 (arrL t) 0 0), (13, .i .i64 ((65 - t.length : Nat) : Int)), (14, .i .u64 (k : Int)), (15, .i .u64 (b : Int)), (16, .i .u64 ((b : Int) - 1))], []⟩) (Exists.intro (fun q => q.1) (Exists.intro (n.natAbs, []) (And.intro ⟨by simp, Nat.le_refl _, by rcases Nat.eq_zero_or_pos n.natAbs with e | e; exact Or.inr ⟨e, rfl⟩; exact Or.inl e⟩ (And.intro ?_ ?_)))))))))
  · (repeat' (first | exact trivial | exact Or.inl rfl | exact Or.inl ((congrArg (AV.i .u64) hwk)) | exact Or.inl ((congrArg (AV.i .u64) hwb)) | exact Or.inl ((congrArg (AV.i .u64) (show IntKind.u64.wrap (IntKind.u64.wrap (b : Int) - 1) = (b : Int) - 1 by rw [hwb, hwm]))) | refine And.intro ?_ ?_))
  · rintro ⟨m, t⟩ ⟨hI, hm, hz⟩
    simp only at hI hm hz
    have hab : m % b < 16 := Nat.lt_of_lt_of_le (Nat.mod_lt _ (by omega)) hb2.2
    have hand := and_low (m := m) hb (by omega) (by omega)
    have hshr := shr_low (m := m) (b := b) hb (by omega)
    have htl : t.length ≤ 63 ∨ (n.natAbs = 0 ∧ t = []) := by
      rcases hz with h | h
      · left
        have e := congrArg List.length hI
        rw [tailN_pos hb2.1 h, List.length_append, List.length_append, List.length_singleton] at e
        omega
      · exact Or.inr h
    have htl2 : t.length ≤ 63 := by rcases htl with h | ⟨_, h⟩; exact h; rw [h]; simp
    have hal := arrL_len (t := t) (by omega)
    refine And.intro (fun h => ?_) (fun h => ?_)
    · have hge : b ≤ m := by have : (m : Int) ≥ b := of_decide_eq_true h
                             omega
      refine And.intro (rng64 (by omega) (by omega)) ?_
      refine And.intro (show 0 ≤ bits .and .u64 (m : Int) ((b : Int) - 1) ∧ bits .and .u64 (m : Int) ((b : Int) - 1) < 36 by rw [hand]; omega) ?_
      refine And.intro ⟨by omega, by omega, by rw [hal]; omega⟩ ?_
      have hI2 : tailN b (m / b) ++ (dcI ((m % b : Nat) : Int) :: t) = tailN b n.natAbs := by
        rw [← hI, tailN_pos (n := m) hb2.1 (by omega), List.append_assoc]
        rfl
      (repeat' (first | (refine And.intro (fun h => ?_) (fun h => ?_) <;> (try simp [-List.getD_eq_getElem?_getD, -Int.pred_toNat] at h) <;> (try (exfalso; first | omega | contradiction))) | (refine And.intro (rng64 (by omega) (by omega)) ?_) | (refine And.intro ⟨by omega, by omega⟩ ?_) | (refine And.intro ⟨by omega, by omega, by omega⟩ ?_) | (intro _)))
      refine And.intro (Int.natCast_nonneg k) ?_
      (repeat' (first | (refine And.intro (fun h => ?_) (fun h => ?_) <;> (try simp [-List.getD_eq_getElem?_getD, -Int.pred_toNat] at h) <;> (try (exfalso; first | omega | contradiction))) | (refine And.intro (rng64 (by omega) (by omega)) ?_) | (refine And.intro ⟨by omega, by omega⟩ ?_) | (refine And.intro ⟨by omega, by omega, by omega⟩ ?_) | (intro _)))
      refine Exists.intro [] (Exists.intro (m / b, dcI ((m % b : Nat) : Int) :: t) (And.intro ⟨hI2, Nat.le_trans (Nat.div_le_self m b) hm, Or.inl (Nat.div_pos hge (by omega))⟩ (And.intro ?_ ?_)))
      · (repeat' (first | exact trivial | exact Or.inl rfl | exact Or.inl ((congrArg (AV.i .u64) hshr)) | exact Or.inl ((congrArg (fun z => AV.vp 12 .u8 z 0 0) (by rw [hand]; exact arr_put (by omega) hab))) | exact Or.inl ((congrArg (AV.i .i64) (show ((65 - t.length : Nat) : Int) - 1 = ((65 - (dcI ((m % b : Nat) : Int) :: t).length : Nat) : Int) by rw [List.length_cons]; omega))) | refine And.intro ?_ ?_))
      · exact Nat.div_lt_self (by omega) (by omega)
    · have hlt : m < b := by have : ¬ (m : Int) ≥ b := of_decide_eq_false h
                             omega
      have hlast := txt_last hb2.1 hlt hI hz
      refine And.intro (rng64 (by omega) (by omega)) ?_
      refine And.intro (show 0 ≤ (m : Int) ∧ (m : Int) < 36 from ⟨by omega, by omega⟩) ?_
      refine And.intro ⟨by omega, by omega, by rw [hal]; omega⟩ ?_
      have hput := arr_put (t := t) (d := m) (by omega) (by omega)
      have hl1 : (dcI (m : Int) :: t).length = t.length + 1 := rfl
      have hi1 : ((65 - t.length : Nat) : Int) - 1 = ((65 - (dcI (m : Int) :: t).length : Nat) : Int) := by rw [hl1]; omega
      have hwl := arrL_len (t := dcI (m : Int) :: t) (by omega)
      rcases (show n < 0 ∨ 0 ≤ n by omega) with hn | hn
      · have hB : txtB n b = 45 :: (dcI (m : Int) :: t) := by unfold txtB; rw [if_pos hn, hlast]; rfl
        rw [hB]
        (repeat' (first | (refine And.intro (fun h => ?_) (fun h => ?_) <;> (try simp [-List.getD_eq_getElem?_getD, -Int.pred_toNat] at h) <;> (try (exfalso; first | omega | contradiction))) | (refine And.intro (rng64 (by omega) (by omega)) ?_) | (refine And.intro ⟨by omega, by omega⟩ ?_) | (refine And.intro ⟨by omega, by omega, by omega⟩ ?_) | (intro _)))
        rw [hput, hi1]
        refine And.intro ⟨by omega, by omega, by rw [hwl]; omega⟩ ?_
        have hl2 : (45 :: dcI (m : Int) :: t).length = t.length + 2 := rfl
        have hi2 : ((65 - (dcI (m : Int) :: t).length : Nat) : Int) - 1 = ((65 - (45 :: dcI (m : Int) :: t).length : Nat) : Int) := by rw [hl1, hl2]; omega
        have hwl2 := arrL_len (t := 45 :: dcI (m : Int) :: t) (by omega)
        (repeat' (first | (refine And.intro (fun h => ?_) (fun h => ?_) <;> (try simp [-List.getD_eq_getElem?_getD, -Int.pred_toNat] at h) <;> (try (exfalso; first | omega | contradiction))) | (refine And.intro (rng64 (by omega) (by omega)) ?_) | (refine And.intro ⟨by omega, by omega⟩ ?_) | (refine And.intro ⟨by omega, by omega, by omega⟩ ?_) | (intro _)))
        rw [arr_min (t := dcI (m : Int) :: t) (by omega), hi2]
        refine And.intro ⟨by omega, by omega, hwl2⟩ ?_
        (repeat' (first | (refine And.intro (fun h => ?_) (fun h => ?_) <;> (try simp [-List.getD_eq_getElem?_getD, -Int.pred_toNat] at h) <;> (try (exfalso; first | omega | contradiction))) | (refine And.intro (rng64 (by omega) (by omega)) ?_) | (refine And.intro ⟨by omega, by omega⟩ ?_) | (refine And.intro ⟨by omega, by omega, by omega⟩ ?_) | (intro _)))
        exact congrArg (fun z => AV.tup [.nl, .s z]) (arr_txt (by omega))
      · have hB : txtB n b = dcI (m : Int) :: t := by unfold txtB; rw [if_neg (by omega), hlast]; rfl
        rw [hB]
        (repeat' (first | (refine And.intro (fun h => ?_) (fun h => ?_) <;> (try simp [-List.getD_eq_getElem?_getD, -Int.pred_toNat] at h) <;> (try (exfalso; first | omega | contradiction))) | (refine And.intro (rng64 (by omega) (by omega)) ?_) | (refine And.intro ⟨by omega, by omega⟩ ?_) | (refine And.intro ⟨by omega, by omega, by omega⟩ ?_) | (intro _)))
        rw [hput, hi1]
        refine And.intro ⟨by omega, by omega, hwl⟩ ?_
        (repeat' (first | (refine And.intro (fun h => ?_) (fun h => ?_) <;> (try simp [-List.getD_eq_getElem?_getD, -Int.pred_toNat] at h) <;> (try (exfalso; first | omega | contradiction))) | (refine And.intro (rng64 (by omega) (by omega)) ?_) | (refine And.intro ⟨by omega, by omega⟩ ?_) | (refine And.intro ⟨by omega, by omega, by omega⟩ ?_) | (intro _)))
        exact congrArg (fun z => AV.tup [.nl, .s z]) (arr_txt (by omega))
theorem s_fbits (ht : HasNum) (n : Int) (b k : Nat) (hb : b = 2 ^ k) (hk : k = 1 ∨ k = 3 ∨ k = 4) (hc : Lib.ctz 64 b = k) (h0 : -9223372036854775808 ≤ n) (h1 : n ≤ 9223372036854775807) : PSpec Tryd.prog 199 [.nl, .i .u64 (IntKind.u64.wrap n), .i .i64 (b : Int), .b (decide (n < 0)), .b false] (.tup [.nl, .s (txtB n b)]) :=
  pspec_of_VCs Γ_good Tryd.func199 rfl Tryd.call199 Tryd.results199 Tryd.ntmps199 (Nat.le_of_ble_eq_true rfl) (w_fbits ht n b k hb hk hc h0 h1) Γ_good
end
end Go.Proofs.YtdcdmojbkmedpaaDoor
end
section
namespace Go.Proofs.YtdcdmojbkmedpaaDoor
set_option linter.unusedSectionVars false
set_option linter.unusedSimpArgs false
set_option linter.unusedVariables false
open Go Go.SX Go.Bg Go.Nm
set_option maxRecDepth 100000
set_option maxHeartbeats 1000000
section
variable [G : Globs]
theorem s_mul64 (x y : Nat) (hx : x < 18446744073709551616) (hy : y < 18446744073709551616) : PSpec Tryd.prog 65 [.i .u64 x, .i .u64 y] (.tup [.i .u64 ((x * y / 18446744073709551616 : Nat) : Int), .i .u64 ((x * y % 18446744073709551616 : Nat) : Int)]) := by
  refine ⟨Tryd.call65, fun O w vs hO hG hargs => ?_⟩
  obtain ⟨v0, vs0, rfl, h0, h⟩ := hargs.cons_inv
  obtain ⟨v1, vs1, rfl, h1, h⟩ := h.cons_inv
  obtain rfl := h.nil_inv
  cases h0
  cases h1
  refine (Tryd.bits_Mul64 x y hx hy w).mono fun e w' ⟨he, hw⟩ => ?_
  subst he hw
  exact ⟨_, rfl, Stp.refl _ _, .tup _ [_, _] rfl (fun j av v hav hv => by
    match j with
    | 0 => simp at hav hv; subst hav hv; exact .i _ _
    | 1 => simp at hav hv; subst hav hv; exact .i _ _
    | j + 2 => simp at hav)⟩
theorem e_add64 (x y : Nat) : ESpec Tryd.prog 66 [.i .u64 x, .i .u64 y, .i .u64 0] (.tup [.i .u64 (((x : Int) + y + 0) % 18446744073709551616), .i .u64 (((x : Int) + y + 0) / 18446744073709551616)]) := by
  intro O w vs hargs
  obtain ⟨v0, vs0, rfl, h0, h⟩ := hargs.cons_inv
  obtain ⟨v1, vs1, rfl, h1, h⟩ := h.cons_inv
  obtain ⟨v2, vs2, rfl, h2, h⟩ := h.cons_inv
  obtain rfl := h.nil_inv
  cases h0
  cases h1
  cases h2
  have hrun : (callFunc 66 #[.int .u64 (x : Int), .int .u64 (y : Int), .int .u64 0]).run Tryd.prog w = .ok (.value (.tuple #[.int .u64 (((x : Int) + y + 0) % 18446744073709551616), .int .u64 (((x : Int) + y + 0) / 18446744073709551616)])) w := by
    rw [run_callFunc_extern Tryd.func66 (by kernel_rfl) (by kernel_rfl) (by kernel_rfl) (e := add64Entry) (by kernel_rfl), run_add64 x y 0 (by omega) (by omega) (by omega) (by omega)]
    rfl
  exact ⟨_, hrun, .tup _ [_, _] rfl (fun j av v hav hv => by
    match j with
    | 0 => simp at hav hv; subst hav hv; exact .i _ _
    | 1 => simp at hav hv; subst hav hv; exact .i _ _
    | j + 2 => simp at hav)⟩
end
end Go.Proofs.YtdcdmojbkmedpaaDoor
end
section
namespace Go.Proofs.YtdcdmojbkmedpaaDoor
set_option linter.unusedSectionVars false
set_option linter.unusedSimpArgs false
set_option linter.unusedVariables false
open Go Go.SX Go.Bg Go.Nm
set_option maxRecDepth 100000
set_option maxHeartbeats 1000000
theorem dgt_lt (c : UInt8) : dgt c < 100 := by
  unfold dgt
  split
  · omega
  · split
    · omega
    · split <;> omega
theorem numN_bound {b : Nat} (hb : 1 ≤ b) : ∀ (s : Str) (l : UInt8) (n N : Nat), numN b l n s = some N → N < (n + 1) * b ^ s.length
  | [], l, n, N, h => by
    rw [numN] at h
    split at h
    · cases h
    · injection h with h; subst h; simp
  | c :: r, l, n, N, h => by
    rw [numN] at h
    have hp : (n + 1) * b ^ r.length ≤ (n + 1) * b ^ (c :: r).length := Nat.mul_le_mul_left _ (Nat.pow_le_pow_right hb (by simp))
    split at h
    · split at h
      · cases h
      · exact Nat.lt_of_lt_of_le (numN_bound hb r _ _ _ h) hp
    · split at h
      · cases h
      · rename_i hd
        have h1 := numN_bound hb r _ _ _ h
        refine Nat.lt_of_lt_of_le h1 ?_
        rw [List.length_cons, Nat.pow_succ, Nat.mul_comm (b ^ r.length) b, ← Nat.mul_assoc]
        refine Nat.mul_le_mul_right _ ?_
        rw [Nat.add_mul]
        omega
theorem bare_long {t : Str} (h : 1 < t.length) (h0 : t.getD 0 0 = 48) :
    bareV t = if t.getD 1 0 = 120 then numN 16 95 0 (t.drop 2) else if t.getD 1 0 = 111 then numN 8 95 0 (t.drop 2) else if t.getD 1 0 = 98 then numN 2 95 0 (t.drop 2) else none := by
  match t with
  | [] => simp at h
  | [c] => simp at h
  | c :: d :: r =>
    have h0 : c = 48 := h0
    show _ = if d = 120 then numN 16 95 0 r else if d = 111 then numN 8 95 0 r else if d = 98 then numN 2 95 0 r else none
    subst h0
    have e0 : frontB (48 :: d :: r) = if (48 : UInt8) = 48 ∧ d = 120 then (16, r) else if (48 : UInt8) = 48 ∧ d = 111 then (8, r) else if (48 : UInt8) = 48 ∧ d = 98 then (2, r) else (10, 48 :: d :: r) := rfl
    unfold bareV
    by_cases h1 : d = 120
    · rw [if_pos h1, show frontB (48 :: d :: r) = (16, r) by rw [e0, if_pos ⟨rfl, h1⟩]]
      exact if_neg (fun h => by have := h.1; simp at this)
    by_cases h2 : d = 111
    · rw [if_neg h1, if_pos h2, show frontB (48 :: d :: r) = (8, r) by rw [e0, if_neg (fun h => h1 h.2), if_pos ⟨rfl, h2⟩]]
      exact if_neg (fun h => by have := h.1; simp at this)
    by_cases h3 : d = 98
    · rw [if_neg h1, if_neg h2, if_pos h3, show frontB (48 :: d :: r) = (2, r) by rw [e0, if_neg (fun h => h1 h.2), if_neg (fun h => h2 h.2), if_pos ⟨rfl, h3⟩]]
      exact if_neg (fun h => by have := h.1; simp at this)
    rw [if_neg h1, if_neg h2, if_neg h3, show frontB (48 :: d :: r) = (10, 48 :: d :: r) by rw [e0, if_neg (fun h => h1 h.2), if_neg (fun h => h2 h.2), if_neg (fun h => h3 h.2)]]
    exact if_pos ⟨rfl, by simp, rfl⟩
theorem bare_short {t : Str} (h : ¬ (1 < t.length ∧ t.getD 0 0 = 48)) : bareV t = numN 10 95 0 t := by
  match t with
  | [] => rfl
  | [c] => exact if_neg (fun h => by simp [frontB] at h)
  | c :: d :: r =>
    have h0 : c ≠ 48 := fun e => h ⟨by simp, e⟩
    have e0 : frontB (c :: d :: r) = if c = 48 ∧ d = 120 then (16, r) else if c = 48 ∧ d = 111 then (8, r) else if c = 48 ∧ d = 98 then (2, r) else (10, c :: d :: r) := rfl
    unfold bareV
    rw [show frontB (c :: d :: r) = (10, c :: d :: r) by rw [e0, if_neg (fun h => h0 h.1), if_neg (fun h => h0 h.1), if_neg (fun h => h0 h.1)]]
    exact if_neg (fun h => h0 h.2.2)
/-- the byte ahead -/
def lastC (u : Str) (i : Nat) : UInt8 := if i = 0 then 95 else u.getD (i - 1) 0
theorem drop_tk (s : Str) (k : Nat) : (s.take (Int.toNat (s.length : Int))).drop k = s.drop k := by rw [Int.toNat_natCast, List.take_length]
section
variable [G : Globs]
theorem w_numeral (s : Str) (hs : s.length ≤ 80) : VCs Tryd.prog Γ 89 [0, 2, 3, 4, 5, 6, 7, 14, 24, 26, 27, 29, 31, 34, 52, 57, 63, 68, 76] (Tryd.f67.body.getD .skip) (postK Γ [.tmp 2, .tmp 3, .tmp 4] (fun v => RL v (.tup [.b (minusS s), .rd .int (match bareV (restS s) with | none => [] | some n => dg 10000 n), .b (bareV (restS s)).isSome]))) ⟨argSlots 0 [.s s], []⟩ := by
  refine VCs.seq (by first | exact Γ_good | exact Ctx.good_kp Γ_good _) ?_
  refine VCs.cut (by first | exact Γ_good | exact Ctx.good_kp Γ_good _) Unit (fun _ => True) (fun _ => ⟨[(0, .s (restS s)), (2, .b (minusS s)), (3, .nl), (4, .b false)], []⟩) ?_ ?_
  · cases s with
    | nil =>
      (repeat' (first | (refine And.intro (fun h => ?_) (fun h => ?_) <;> (try simp [-List.getD_eq_getElem?_getD, -Int.pred_toNat] at h) <;> (try (exfalso; first | omega | contradiction))) | (refine And.intro (rng64 (by omega) (by omega)) ?_) | (refine And.intro ⟨by omega, by omega⟩ ?_) | (refine And.intro ⟨by omega, by omega, by omega⟩ ?_) | (intro _)))
      refine Exists.intro () (And.intro trivial ?_)
      (repeat' (first | exact trivial | exact Or.inl rfl | exact Or.inr (Or.inl ⟨rfl, _, rfl⟩) | exact Or.inr (Or.inr (Or.inr ⟨_, _, _, rfl, rfl⟩)) | refine And.intro ?_ ?_))
    | cons c r =>
      have hl : (c :: r).length = r.length + 1 := rfl
      have e0 : ((c :: r).getD 0 0).toNat = c.toNat := rfl
      by_cases hc : c = 45
      · have hm : minusS (c :: r) = true := decide_eq_true hc
        have hr : restS (c :: r) = r := by unfold restS; rw [if_pos hm]; rfl
        have hcn : c.toNat = 45 := by rw [hc]; rfl
        (repeat' (first | (refine And.intro (fun h => ?_) (fun h => ?_) <;> (try simp [-List.getD_eq_getElem?_getD, -Int.pred_toNat] at h) <;> (try (exfalso; first | omega | contradiction))) | (refine And.intro (rng64 (by omega) (by omega)) ?_) | (refine And.intro ⟨by omega, by omega⟩ ?_) | (refine And.intro ⟨by omega, by omega, by omega⟩ ?_) | (intro _)))
        refine Exists.intro [.blk [0, 1, 2, 3]] (And.intro (by kernel_rfl) ?_)
        (repeat' (first | (refine And.intro (fun h => ?_) (fun h => ?_) <;> (try simp [-List.getD_eq_getElem?_getD, -Int.pred_toNat] at h) <;> (try (exfalso; first | omega | contradiction))) | (refine And.intro (rng64 (by omega) (by omega)) ?_) | (refine And.intro ⟨by omega, by omega⟩ ?_) | (refine And.intro ⟨by omega, by omega, by omega⟩ ?_) | (intro _)))
        refine Exists.intro () (And.intro trivial ?_)
        rw [hm, hr]
        (repeat' (first | exact trivial | exact Or.inl rfl | exact Or.inl ((congrArg AV.s (drop_tk (c :: r) (Int.toNat 1)))) | refine And.intro ?_ ?_))
      · have hm : minusS (c :: r) = false := decide_eq_false hc
        have hr : restS (c :: r) = c :: r := by unfold restS; rw [if_neg (by rw [hm]; decide)]
        have hcn : ¬ c.toNat = 45 := fun h => hc (UInt8.toNat_inj.1 h)
        (repeat' (first | (refine And.intro (fun h => ?_) (fun h => ?_) <;> (try simp [-List.getD_eq_getElem?_getD, -Int.pred_toNat] at h) <;> (try (exfalso; first | omega | contradiction))) | (refine And.intro (rng64 (by omega) (by omega)) ?_) | (refine And.intro ⟨by omega, by omega⟩ ?_) | (refine And.intro ⟨by omega, by omega, by omega⟩ ?_) | (intro _)))
        refine Exists.intro () (And.intro trivial ?_)
        rw [hm, hr]
        (repeat' (first | exact trivial | exact Or.inl rfl | exact Or.inr (Or.inl ⟨rfl, _, rfl⟩) | exact Or.inr (Or.inr (Or.inr ⟨_, _, _, rfl, rfl⟩)) | refine And.intro ?_ ?_))
  rintro ⟨⟩ _
  obtain ⟨t, ht⟩ : ∃ t, t = restS s := ⟨_, rfl⟩
  have htl : t.length ≤ 80 := by rw [ht]; unfold restS; split <;> (try rw [List.length_drop]) <;> omega
  rw [← ht]
  generalize minusS s = m
  refine VCs.seq (by first | exact Γ_good | exact Ctx.good_kp Γ_good _) ?_
  refine VCs.cut (by first | exact Γ_good | exact Ctx.good_kp Γ_good _) (Nat × Str) (fun q => bareV t = numN q.1 95 0 q.2 ∧ 2 ≤ q.1 ∧ q.1 ≤ 16 ∧ q.2.length ≤ 80) (fun ⟨b, u⟩ => ⟨[(0, .s u), (2, .b m), (3, .nl), (4, .b false), (5, .i .i64 (b : Int))], []⟩) ?_ ?_
  · clear ht
    match t, htl with
    | [], htl =>
      (repeat' (first | (refine And.intro (fun h => ?_) (fun h => ?_) <;> (try simp [-List.getD_eq_getElem?_getD, -Int.pred_toNat] at h) <;> (try (exfalso; first | omega | contradiction))) | (refine And.intro (rng64 (by omega) (by omega)) ?_) | (refine And.intro ⟨by omega, by omega⟩ ?_) | (refine And.intro ⟨by omega, by omega, by omega⟩ ?_) | (intro _)))
      refine Exists.intro (10, []) (And.intro ⟨bare_short (by simp), by simp, by simp, htl⟩ ?_)
      (repeat' (first | exact trivial | exact Or.inl rfl | exact Or.inr (Or.inl ⟨rfl, _, rfl⟩) | exact Or.inr (Or.inr (Or.inr ⟨_, _, _, rfl, rfl⟩)) | refine And.intro ?_ ?_))
    | [c], htl =>
      (repeat' (first | (refine And.intro (fun h => ?_) (fun h => ?_) <;> (try simp [-List.getD_eq_getElem?_getD, -Int.pred_toNat] at h) <;> (try (exfalso; first | omega | contradiction))) | (refine And.intro (rng64 (by omega) (by omega)) ?_) | (refine And.intro ⟨by omega, by omega⟩ ?_) | (refine And.intro ⟨by omega, by omega, by omega⟩ ?_) | (intro _)))
      refine Exists.intro (10, [c]) (And.intro ⟨bare_short (by simp), by simp, by simp, htl⟩ ?_)
      (repeat' (first | exact trivial | exact Or.inl rfl | exact Or.inr (Or.inl ⟨rfl, _, rfl⟩) | exact Or.inr (Or.inr (Or.inr ⟨_, _, _, rfl, rfl⟩)) | refine And.intro ?_ ?_))
    | c :: d :: r, htl =>
      have hl : (c :: d :: r).length = r.length + 2 := rfl
      have e0 : ((c :: d :: r).getD 0 0).toNat = c.toNat := rfl
      have e1 : ((c :: d :: r).getD 1 0).toNat = d.toNat := rfl
      by_cases hc : c = 48
      · have hcn : c.toNat = 48 := by rw [hc]; rfl
        have hB := bare_long (t := c :: d :: r) (by omega) hc
        have hB : bareV (c :: d :: r) = if d = 120 then numN 16 95 0 r else if d = 111 then numN 8 95 0 r else if d = 98 then numN 2 95 0 r else none := hB
        by_cases c1 : d = 120
        · rw [if_pos c1] at hB
          have hdn : d.toNat = 120 := by rw [c1]; rfl
          (repeat' (first | (refine And.intro (fun h => ?_) (fun h => ?_) <;> (try simp [-List.getD_eq_getElem?_getD, -Int.pred_toNat] at h) <;> (try (exfalso; first | omega | contradiction))) | (refine And.intro (rng64 (by omega) (by omega)) ?_) | (refine And.intro ⟨by omega, by omega⟩ ?_) | (refine And.intro ⟨by omega, by omega, by omega⟩ ?_) | (intro _)))
          refine Exists.intro (16, r) (And.intro ⟨hB, by simp, by simp, by simp only; omega⟩ ?_)
          (repeat' (first | exact trivial | exact Or.inl rfl | exact Or.inl ((congrArg AV.s (drop_tk (c :: d :: r) (Int.toNat 2)))) | refine And.intro ?_ ?_))
        rw [if_neg c1] at hB
        have hm1 : ¬ d.toNat = 120 := fun h => c1 (UInt8.toNat_inj.1 h)
        by_cases c2 : d = 111
        · rw [if_pos c2] at hB
          have hdn : d.toNat = 111 := by rw [c2]; rfl
          (repeat' (first | (refine And.intro (fun h => ?_) (fun h => ?_) <;> (try simp [-List.getD_eq_getElem?_getD, -Int.pred_toNat] at h) <;> (try (exfalso; first | omega | contradiction))) | (refine And.intro (rng64 (by omega) (by omega)) ?_) | (refine And.intro ⟨by omega, by omega⟩ ?_) | (refine And.intro ⟨by omega, by omega, by omega⟩ ?_) | (intro _)))
          refine Exists.intro (8, r) (And.intro ⟨hB, by simp, by simp, by simp only; omega⟩ ?_)
          (repeat' (first | exact trivial | exact Or.inl rfl | exact Or.inl ((congrArg AV.s (drop_tk (c :: d :: r) (Int.toNat 2)))) | refine And.intro ?_ ?_))
        rw [if_neg c2] at hB
        have hm2 : ¬ d.toNat = 111 := fun h => c2 (UInt8.toNat_inj.1 h)
        by_cases c3 : d = 98
        · rw [if_pos c3] at hB
          have hdn : d.toNat = 98 := by rw [c3]; rfl
          (repeat' (first | (refine And.intro (fun h => ?_) (fun h => ?_) <;> (try simp [-List.getD_eq_getElem?_getD, -Int.pred_toNat] at h) <;> (try (exfalso; first | omega | contradiction))) | (refine And.intro (rng64 (by omega) (by omega)) ?_) | (refine And.intro ⟨by omega, by omega⟩ ?_) | (refine And.intro ⟨by omega, by omega, by omega⟩ ?_) | (intro _)))
          refine Exists.intro (2, r) (And.intro ⟨hB, by simp, by simp, by simp only; omega⟩ ?_)
          (repeat' (first | exact trivial | exact Or.inl rfl | exact Or.inl ((congrArg AV.s (drop_tk (c :: d :: r) (Int.toNat 2)))) | refine And.intro ?_ ?_))
        rw [if_neg c3] at hB
        have hm3 : ¬ d.toNat = 98 := fun h => c3 (UInt8.toNat_inj.1 h)
        (repeat' (first | (refine And.intro (fun h => ?_) (fun h => ?_) <;> (try simp [-List.getD_eq_getElem?_getD, -Int.pred_toNat] at h) <;> (try (exfalso; first | omega | contradiction))) | (refine And.intro (rng64 (by omega) (by omega)) ?_) | (refine And.intro ⟨by omega, by omega⟩ ?_) | (refine And.intro ⟨by omega, by omega, by omega⟩ ?_) | (intro _)))
        rw [hB]
        (repeat' (first | exact trivial | exact Or.inl rfl | exact Or.inr ⟨rfl, _, rfl⟩ | refine And.intro ?_ ?_))
      · have hB := bare_short (t := c :: d :: r) (fun h => hc h.2)
        have hcn : ¬ c.toNat = 48 := fun h => hc (UInt8.toNat_inj.1 h)
        (repeat' (first | (refine And.intro (fun h => ?_) (fun h => ?_) <;> (try simp [-List.getD_eq_getElem?_getD, -Int.pred_toNat] at h) <;> (try (exfalso; first | omega | contradiction))) | (refine And.intro (rng64 (by omega) (by omega)) ?_) | (refine And.intro ⟨by omega, by omega⟩ ?_) | (refine And.intro ⟨by omega, by omega, by omega⟩ ?_) | (intro _)))
        refine Exists.intro (10, c :: d :: r) (And.intro ⟨hB, by simp, by simp, htl⟩ ?_)
        (repeat' (first | exact trivial | exact Or.inl rfl | exact Or.inr (Or.inl ⟨rfl, _, rfl⟩) | exact Or.inr (Or.inr (Or.inr ⟨_, _, _, rfl, rfl⟩)) | refine And.intro ?_ ?_))
  rintro ⟨b, u⟩ ⟨hB, hb1, hb2, hul⟩
  simp only at hB hb1 hb2 hul
  rw [hB]
  clear hB
  refine VCs.of_vc (by first | exact Γ_good | exact Ctx.good_kp Γ_good _) ?_
  by_cases hz : u = []
  · subst hz
    rw [show numN b 95 0 [] = none from rfl]
    (repeat' (first | (refine And.intro (fun h => ?_) (fun h => ?_) <;> (try simp [-List.getD_eq_getElem?_getD, -Int.pred_toNat] at h) <;> (try (exfalso; first | omega | contradiction))) | (refine And.intro (rng64 (by omega) (by omega)) ?_) | (refine And.intro ⟨by omega, by omega⟩ ?_) | (refine And.intro ⟨by omega, by omega, by omega⟩ ?_) | (intro _)))
    (repeat' (first | exact trivial | exact Or.inl rfl | exact Or.inr ⟨rfl, _, rfl⟩ | refine And.intro ?_ ?_))
  have hl : 0 < u.length := List.length_pos_iff.2 hz
  have hne : (u == []) = false := by cases u with
    | nil => exact absurd rfl hz
    | cons c r => rfl
  have hp0 : 0 < u.length := hl
  by_cases h0 : u.getD 0 0 = 95
  · have hN : numN b 95 0 u = none := by
      cases u with
      | nil => rfl
      | cons c r =>
        have h0 : c = 95 := h0
        rw [numN, if_pos h0, if_pos rfl]
    rw [hN]
    have hn0 : (u.getD 0 0).toNat = 95 := by rw [h0]; rfl
    (repeat' (first | (refine And.intro (fun h => ?_) (fun h => ?_) <;> (try simp [-List.getD_eq_getElem?_getD, -Int.pred_toNat] at h) <;> (try (exfalso; first | omega | contradiction))) | (refine And.intro (rng64 (by omega) (by omega)) ?_) | (refine And.intro ⟨by omega, by omega⟩ ?_) | (refine And.intro ⟨by omega, by omega, by omega⟩ ?_) | (intro _)))
    (repeat' (first | exact trivial | exact Or.inl rfl | exact Or.inr ⟨rfl, _, rfl⟩ | refine And.intro ?_ ?_))
  have hn0 : ¬ (u.getD 0 0).toNat = 95 := fun h => h0 (UInt8.toNat_inj.1 h)
  have hlast : u.getLast? = some (u.getD (u.length - 1) 0) := by
    rw [List.getLast?_eq_getElem?, List.getD_eq_getElem?_getD, List.getElem?_eq_getElem (by omega)]
    rfl
  have hix : Int.toNat ((u.length : Int) - 1) = u.length - 1 := by omega
  by_cases h9 : u.getD (u.length - 1) 0 = 95
  · have hN : numN b 95 0 u = none := numN_end u 95 0 hz (by rw [hlast, h9])
    rw [hN]
    have hn9 : (u.getD (Int.toNat ((u.length : Int) - 1)) 0).toNat = 95 := by rw [hix, h9]; rfl
    (repeat' (first | (refine And.intro (fun h => ?_) (fun h => ?_) <;> (try simp [-List.getD_eq_getElem?_getD, -Int.pred_toNat] at h) <;> (try (exfalso; first | omega | contradiction))) | (refine And.intro (rng64 (by omega) (by omega)) ?_) | (refine And.intro ⟨by omega, by omega⟩ ?_) | (refine And.intro ⟨by omega, by omega, by omega⟩ ?_) | (intro _)))
    (repeat' (first | exact trivial | exact Or.inl rfl | exact Or.inr ⟨rfl, _, rfl⟩ | refine And.intro ?_ ?_))
  have hn9 : ¬ (u.getD (Int.toNat ((u.length : Int) - 1)) 0).toNat = 95 := fun h => h9 (by rw [hix] at h; exact UInt8.toNat_inj.1 h)
  (repeat' (first | (refine And.intro (fun h => ?_) (fun h => ?_) <;> (try simp [-List.getD_eq_getElem?_getD, -Int.pred_toNat] at h) <;> (try (exfalso; first | omega | contradiction))) | (refine And.intro (rng64 (by omega) (by omega)) ?_) | (refine And.intro ⟨by omega, by omega⟩ ?_) | (refine And.intro ⟨by omega, by omega, by omega⟩ ?_) | (intro _)))
  refine Exists.intro [] (Exists.intro [] (Exists.intro [] (Exists.intro (Nat × Nat) (Exists.intro (fun q => q.1 ≤ u.length ∧ numN b (lastC u q.1) q.2 (u.drop q.1) = numN b 95 0 u ∧ q.2 < b ^ q.1) (Exists.intro (fun ⟨i, n⟩ => ⟨[(0, .s u), (2, .b m), (3, .rd .int (dg 10000 n)), (4, .b false), (5, .i .i64 (b : Int)), (6, .i .i64 (i : Int))], []⟩) (Exists.intro (fun q => u.length - q.1) (Exists.intro (0, 0) (And.intro ⟨Nat.zero_le _, rfl, by simp⟩ (And.intro ?_ ?_)))))))))
  · (repeat' (first | exact trivial | exact Or.inl rfl | exact Or.inr (Or.inl ⟨rfl, _, rfl⟩) | exact Or.inr (Or.inr (Or.inr ⟨_, _, _, rfl, rfl⟩)) | refine And.intro ?_ ?_))
  · rintro ⟨i, n⟩ ⟨hi, hI, hn⟩
    simp only at hi hI hn
    intro _
    refine And.intro (fun hc => ?_) (fun hc => ?_)
    · have hi : i < u.length := by have : (i : Int) < (u.length : Int) := of_decide_eq_true hc
                                   omega
      have hdr : u.drop i = u.getD i 0 :: u.drop (i + 1) := by
        rw [List.drop_eq_getElem_cons hi, List.getD_eq_getElem?_getD, List.getElem?_eq_getElem hi]; rfl
      rw [hdr, numN] at hI
      have hgi : u.getD (Int.toNat (i : Int)) 0 = u.getD i 0 := by rw [Int.toNat_natCast]
      have hlc : lastC u (i + 1) = u.getD i 0 := rfl
      by_cases hu : u.getD i 0 = 95
      · rw [if_pos hu] at hI
        have hi0 : 0 < i := by
          rcases Nat.eq_zero_or_pos i with e | e
          · rw [e] at hu; exact absurd hu h0
          · exact e
        have hlast2 : lastC u i = u.getD (i - 1) 0 := by unfold lastC; rw [if_neg (by omega)]
        have hgi1 : u.getD (Int.toNat ((i : Int) - 1)) 0 = u.getD (i - 1) 0 := by rw [show Int.toNat ((i : Int) - 1) = i - 1 by omega]
        have hun : (u.getD i 0).toNat = 95 := by rw [hu]; rfl
        by_cases hd : u.getD (i - 1) 0 = 95
        · rw [hlast2, if_pos hd] at hI
          rw [← hI]
          have hdn : (u.getD (Int.toNat ((i : Int) - 1)) 0).toNat = 95 := by rw [hgi1, hd]; rfl
          (repeat' (first | (refine And.intro (fun h => ?_) (fun h => ?_) <;> (try simp [-List.getD_eq_getElem?_getD, -Int.pred_toNat] at h) <;> (try (exfalso; first | omega | contradiction))) | (refine And.intro (rng64 (by omega) (by omega)) ?_) | (refine And.intro ⟨by omega, by omega⟩ ?_) | (refine And.intro ⟨by omega, by omega, by omega⟩ ?_) | (intro _)))
          (repeat' (first | exact trivial | exact Or.inl rfl | exact Or.inr ⟨rfl, _, rfl⟩ | refine And.intro ?_ ?_))
        · rw [hlast2, if_neg hd] at hI
          have hdn : ¬ (u.getD (Int.toNat ((i : Int) - 1)) 0).toNat = 95 := fun h => hd (by rw [hgi1] at h; exact UInt8.toNat_inj.1 h)
          (repeat' (first | (refine And.intro (fun h => ?_) (fun h => ?_) <;> (try simp [-List.getD_eq_getElem?_getD, -Int.pred_toNat] at h) <;> (try (exfalso; first | omega | contradiction))) | (refine And.intro (rng64 (by omega) (by omega)) ?_) | (refine And.intro ⟨by omega, by omega⟩ ?_) | (refine And.intro ⟨by omega, by omega, by omega⟩ ?_) | (intro _)))
          refine Exists.intro [] (Exists.intro (i + 1, n) (And.intro ⟨hi, by simp only; rw [hlc, hu]; exact hI, Nat.lt_of_lt_of_le hn (Nat.pow_le_pow_right (by omega) (by simp))⟩ (And.intro ?_ ?_)))
          · (repeat' (first | exact trivial | exact Or.inl rfl | exact Or.inr (Or.inl ⟨rfl, _, rfl⟩) | exact Or.inr (Or.inr (Or.inr ⟨_, _, _, rfl, rfl⟩)) | refine And.intro ?_ ?_))
          · (exact Nat.sub_lt_sub_left (by omega) (by omega))
      · rw [if_neg hu] at hI
        have hun : ¬ (u.getD i 0).toNat = 95 := fun h => hu (UInt8.toNat_inj.1 h)
        have hx := s_hexOf (u.getD i 0)
        have hd100 := dgt_lt (u.getD i 0)
        generalize dgt (u.getD i 0) = d at hI hx hd100
        (repeat' (first | (refine And.intro (fun h => ?_) (fun h => ?_) <;> (try simp [-List.getD_eq_getElem?_getD, -Int.pred_toNat] at h) <;> (try (exfalso; first | omega | contradiction))) | (refine And.intro (rng64 (by omega) (by omega)) ?_) | (refine And.intro ⟨by omega, by omega⟩ ?_) | (refine And.intro ⟨by omega, by omega, by omega⟩ ?_) | (intro _)))
        refine Or.inl (Exists.intro _ (And.intro (hx) ?_))
        by_cases hd : b ≤ d
        · rw [if_pos hd] at hI
          rw [← hI]
          (repeat' (first | (refine And.intro (fun h => ?_) (fun h => ?_) <;> (try simp [-List.getD_eq_getElem?_getD, -Int.pred_toNat] at h) <;> (try (exfalso; first | omega | contradiction))) | (refine And.intro (rng64 (by omega) (by omega)) ?_) | (refine And.intro ⟨by omega, by omega⟩ ?_) | (refine And.intro ⟨by omega, by omega, by omega⟩ ?_) | (intro _)))
          (repeat' (first | exact trivial | exact Or.inl rfl | exact Or.inr ⟨rfl, _, rfl⟩ | refine And.intro ?_ ?_))
        · rw [if_neg hd] at hI
          have hwb : IntKind.u64.wrap (b : Int) = (b : Int) := by rw [IntKind.wrap_u64]; omega
          have hwd : IntKind.u64.wrap (d : Int) = (d : Int) := by rw [IntKind.wrap_u64]; omega
          have hn2 : n * b + d < b ^ (i + 1) := by
            have : (n + 1) * b ≤ b ^ i * b := Nat.mul_le_mul_right b hn
            rw [Nat.add_mul] at this
            rw [Nat.pow_succ]
            omega
          have hbig : b ^ (i + 1) ≤ 16 ^ 80 := Nat.le_trans (Nat.pow_le_pow_left hb2 _) (Nat.pow_le_pow_right (by decide) (by omega))
          have hl1 : (dg 10000 n).length ≤ 100 := dg_len_le (by decide) 100 n (Nat.lt_of_lt_of_le (show n < 16 ^ 80 by have : n ≤ n * b := Nat.le_mul_of_pos_right n (by omega); omega) (by decide))
          have hl2 : (dg 10000 b).length ≤ 100 := dg_len_le (by decide) 100 b (Nat.lt_of_lt_of_le (show b < 16 ^ 80 from Nat.lt_of_le_of_lt hb2 (by decide)) (by decide))
          have hl3 : (dg 10000 (n * b)).length ≤ 100 := dg_len_le (by decide) 100 _ (Nat.lt_of_lt_of_le (show n * b < 16 ^ 80 by omega) (by decide))
          have hl4 : (dg 10000 d).length ≤ 100 := dg_len_le (by decide) 100 d (Nat.lt_of_lt_of_le (show d < 16 ^ 80 from Nat.lt_trans hd100 (by decide)) (by decide))
          have hS : PSpec Tryd.prog 133 [.i .u64 (IntKind.u64.wrap (b : Int))] (.rd .int (dg 10000 b)) := by rw [hwb]; exact s_small b (by omega)
          have hBy := s_By (dg 10000 n) (dg 10000 b) (dg_Dg (by decide) _) (dg_Dg (by decide) _) (by omega) (by omega)
          rw [vl_dg (by decide), vl_dg (by decide)] at hBy
          have hS2 : PSpec Tryd.prog 133 [.i .u64 (IntKind.u64.wrap (d : Int))] (.rd .int (dg 10000 d)) := by rw [hwd]; exact s_small d (by omega)
          have hPl := s_plus (dg 10000 (n * b)) (dg 10000 d) (dg_Dg (by decide) _) (dg_Dg (by decide) _) (by omega) (by omega)
          rw [vl_dg (by decide), vl_dg (by decide)] at hPl
          (repeat' (first | (refine And.intro (fun h => ?_) (fun h => ?_) <;> (try simp [-List.getD_eq_getElem?_getD, -Int.pred_toNat] at h) <;> (try (exfalso; first | omega | contradiction))) | (refine And.intro (rng64 (by omega) (by omega)) ?_) | (refine And.intro ⟨by omega, by omega⟩ ?_) | (refine And.intro ⟨by omega, by omega, by omega⟩ ?_) | (intro _)))
          refine Or.inl (Exists.intro _ (And.intro (hS) ?_))
          refine Or.inl (Exists.intro _ (And.intro (hBy) ?_))
          refine Or.inl (Exists.intro _ (And.intro (hS2) ?_))
          refine Or.inl (Exists.intro _ (And.intro (hPl) ?_))
          (repeat' (first | (refine And.intro (fun h => ?_) (fun h => ?_) <;> (try simp [-List.getD_eq_getElem?_getD, -Int.pred_toNat] at h) <;> (try (exfalso; first | omega | contradiction))) | (refine And.intro (rng64 (by omega) (by omega)) ?_) | (refine And.intro ⟨by omega, by omega⟩ ?_) | (refine And.intro ⟨by omega, by omega, by omega⟩ ?_) | (intro _)))
          refine Exists.intro [] (Exists.intro (i + 1, n * b + d) (And.intro ⟨hi, by simp only; rw [hlc]; exact hI, hn2⟩ (And.intro ?_ ?_)))
          · (repeat' (first | exact trivial | exact Or.inl rfl | exact Or.inr (Or.inl ⟨rfl, _, rfl⟩) | exact Or.inr (Or.inr (Or.inr ⟨_, _, _, rfl, rfl⟩)) | refine And.intro ?_ ?_))
          · (exact Nat.sub_lt_sub_left (by omega) (by omega))
    · have hi : i = u.length := by have : ¬ (i : Int) < (u.length : Int) := of_decide_eq_false hc
                                   omega
      subst hi
      rw [List.drop_length, numN, if_neg (by unfold lastC; rw [if_neg (by omega)]; exact h9)] at hI
      rw [← hI]
      (repeat' (first | (refine And.intro (fun h => ?_) (fun h => ?_) <;> (try simp [-List.getD_eq_getElem?_getD, -Int.pred_toNat] at h) <;> (try (exfalso; first | omega | contradiction))) | (refine And.intro (rng64 (by omega) (by omega)) ?_) | (refine And.intro ⟨by omega, by omega⟩ ?_) | (refine And.intro ⟨by omega, by omega, by omega⟩ ?_) | (intro _)))
      (repeat' (first | exact trivial | exact Or.inl rfl | exact Or.inr ⟨rfl, _, rfl⟩ | refine And.intro ?_ ?_))
theorem s_numeral (s : Str) (hs : s.length ≤ 80) : PSpec Tryd.prog 67 [.s s] (.tup [.b (minusS s), .rd .int (match bareV (restS s) with | none => [] | some n => dg 10000 n), .b (bareV (restS s)).isSome]) :=
  pspec_of_VCsL Γ_good Tryd.func67 rfl Tryd.call67 Tryd.results67 Tryd.ntmps67 (Nat.le_of_ble_eq_true rfl) (w_numeral s hs) Γ_good
end
end Go.Proofs.YtdcdmojbkmedpaaDoor
end
section
namespace Go.Proofs.YtdcdmojbkmedpaaDoor
set_option linter.unusedSectionVars false
set_option linter.unusedSimpArgs false
set_option linter.unusedVariables false
open Go Go.SX Go.Bg Go.Nm
set_option maxRecDepth 100000
set_option maxHeartbeats 1000000
theorem front_base (t : Str) : 2 ≤ (frontB t).1 ∧ (frontB t).1 ≤ 16 ∧ (frontB t).2.length ≤ t.length := by
  match t with
  | [] => exact ⟨by decide, by decide, Nat.le_refl _⟩
  | [c] => exact ⟨by simp [frontB], by simp [frontB], by simp [frontB]⟩
  | c :: d :: r =>
    have e0 : frontB (c :: d :: r) = if c = 48 ∧ d = 120 then (16, r) else if c = 48 ∧ d = 111 then (8, r) else if c = 48 ∧ d = 98 then (2, r) else (10, c :: d :: r) := rfl
    rw [e0]
    have hr : r.length ≤ (c :: d :: r).length := by simp; omega
    by_cases h1 : c = 48 ∧ d = 120
    · rw [if_pos h1]; exact ⟨by simp, by simp, hr⟩
    rw [if_neg h1]
    by_cases h2 : c = 48 ∧ d = 111
    · rw [if_pos h2]; exact ⟨by simp, by simp, hr⟩
    rw [if_neg h2]
    by_cases h3 : c = 48 ∧ d = 98
    · rw [if_pos h3]; exact ⟨by simp, by simp, hr⟩
    rw [if_neg h3]; exact ⟨by simp, by simp, Nat.le_refl _⟩
theorem rest_len (s : Str) : (restS s).length ≤ s.length := by
  unfold restS
  split
  · rw [List.length_drop]; omega
  · exact Nat.le_refl _
theorem bare_bound {s : Str} {n : Nat} (hs : s.length ≤ 80) (h : bareV s = some n) : n < 16 ^ 80 := by
  unfold bareV at h
  split at h
  · cases h
  · obtain ⟨h1, h2, h3⟩ := front_base s
    have := numN_bound (by omega) _ _ _ _ h
    refine Nat.lt_of_lt_of_le this ?_
    rw [Nat.zero_add, Nat.one_mul]
    exact Nat.le_trans (Nat.pow_le_pow_left h2 _) (Nat.pow_le_pow_right (by decide) (by omega))
theorem dg_len_big {n : Nat} (h : n < 16 ^ 80) : (dg 10000 n).length ≤ 100 := dg_len_le (by decide) 100 n (Nat.lt_of_lt_of_le h (by decide))
theorem readV_long {s : Str} (h : 80 < s.length) : readV s = (0, 2) := by unfold readV; rw [if_pos h]
theorem readV_none {s : Str} (h : ¬ 80 < s.length) (hb : bareV (restS s) = none) : readV s = (0, 4) := by unfold readV; rw [if_neg h, hb]
theorem readV_some {s : Str} {n : Nat} (h : ¬ 80 < s.length) (hb : bareV (restS s) = some n) : readV s = if limN (minusS s) < n then (0, 7) else (if minusS s = true then -(n : Int) else n, 0) := by unfold readV; rw [if_neg h, hb]
theorem vl_drop_le (l : List Int) (k : Nat) (hk : k ≤ l.length) : vl 10000 (l.drop k) ≤ vl 10000 l := by
  rw [vl_split 10000 l k hk]
  have := Nat.le_mul_of_pos_left (vl 10000 (l.drop k)) (Nat.pow_pos (n := k) (show 0 < 10000 by decide))
  omega
section
variable [G : Globs]
theorem w_readNum (s : Str) : vc Tryd.prog Γ 55 [0, 2, 3, 4, 5, 6, 7, 8, 9, 10, 13, 21, 35, 40, 51] (Tryd.f18.body.getD .skip) (postK Γ [.tmp 2, .tmp 3] (fun v => v = .tup [.i .i64 (readV s).1, .i .i64 (readV s).2])) ⟨argSlots 0 [.s s], []⟩ := by
  intro _
  refine And.intro (fun h => ?_) (fun h => ?_)
  · have h : 80 < s.length := by have : (s.length : Int) > 80 := of_decide_eq_true h; omega
    rw [readV_long h]
    rfl
  have h : ¬ 80 < s.length := by have : ¬ (s.length : Int) > 80 := of_decide_eq_false h; omega
  have hN := s_numeral s (by omega)
  cases hb : bareV (restS s) with
  | none =>
    rw [hb] at hN
    rw [readV_none h hb]
    have hN : PSpec Tryd.prog 67 [.s s] (.tup [.b (minusS s), .rd .int [], .b false]) := hN
    refine Or.inl (Exists.intro _ (And.intro (hN) ?_))
    (repeat' (first | (refine And.intro (fun h => ?_) (fun h => ?_) <;> (try simp [-List.getD_eq_getElem?_getD, -Int.pred_toNat] at h) <;> (try (exfalso; first | omega | contradiction))) | (refine And.intro (rng64 (by omega) (by omega)) ?_) | (refine And.intro ⟨by omega, by omega⟩ ?_) | (refine And.intro ⟨by omega, by omega, by omega⟩ ?_) | (intro _)))
    rfl
  | some n =>
    rw [hb] at hN
    rw [readV_some h hb]
    have hN : PSpec Tryd.prog 67 [.s s] (.tup [.b (minusS s), .rd .int (dg 10000 n), .b true]) := hN
    have hn := bare_bound (by have := rest_len s; omega) hb
    have hl := dg_len_big hn
    generalize minusS s = m at hN
    refine Or.inl (Exists.intro _ (And.intro (hN) ?_))
    refine And.intro (fun h9 => by cases h9) (fun _ => ?_)
    have hP : PSpec Tryd.prog 68 [.i .u64 2, .i .i64 63] (.rd .int (dg 10000 (2 ^ 63))) := s_power 2 63 (by decide) (by decide) (fun k hk => Nat.le_trans (dg_len_le (B := 10000) (by decide) 16 _ (Nat.lt_of_le_of_lt (Nat.pow_le_pow_right (by decide) hk) (show 2 ^ 63 < 10000 ^ 16 by decide))) (by decide))
    refine Or.inl (Exists.intro _ (And.intro (hP) ?_))
    have hlp := dg_len_le (B := 10000) (by decide) 16 (2 ^ 63) (by decide)
    have hA := s_against (dg 10000 n) (dg 10000 (2 ^ 63)) (dg_Dg (by decide) _) (dg_Dg (by decide) _) (by omega) (by omega)
    rw [vl_dg (by decide), vl_dg (by decide)] at hA
    obtain ⟨c, hc⟩ : ∃ c, c = cmpN n (2 ^ 63) := ⟨_, rfl⟩
    rw [← hc] at hA
    unfold cmpN at hc
    refine Or.inl (Exists.intro _ (And.intro (hA) ?_))
    have hll := vl_dg (B := 10000) (by decide) n
    have hDg := dg_Dg (B := 10000) (by decide) n
    generalize dg 10000 n = l at hl hll hDg
    by_cases hA : 2 ^ 63 < n
    · have hc : c = 1 := by rw [hc, if_neg (by omega), if_pos hA]
      rw [if_pos (by unfold limN; split <;> omega)]
      (repeat' (first | (refine And.intro (fun h => ?_) (fun h => ?_) <;> (try simp [-List.getD_eq_getElem?_getD, -Int.pred_toNat] at h) <;> (try (exfalso; first | omega | contradiction))) | (refine And.intro (rng64 (by omega) (by omega)) ?_) | (refine And.intro ⟨by omega, by omega⟩ ?_) | (refine And.intro ⟨by omega, by omega, by omega⟩ ?_) | (intro _)))
      rfl
    by_cases hB : n = 2 ^ 63 ∧ m = false
    · have hc : c = 0 := by rw [hc, if_neg (by omega), if_neg (by omega)]
      obtain ⟨hB, rfl⟩ := hB
      rw [if_pos (by unfold limN; rw [if_neg (by decide)]; omega)]
      (repeat' (first | (refine And.intro (fun h => ?_) (fun h => ?_) <;> (try simp [-List.getD_eq_getElem?_getD, -Int.pred_toNat] at h) <;> (try (exfalso; first | omega | contradiction))) | (refine And.intro (rng64 (by omega) (by omega)) ?_) | (refine And.intro ⟨by omega, by omega⟩ ?_) | (refine And.intro ⟨by omega, by omega, by omega⟩ ?_) | (intro _)))
      rfl
    have hlim : ¬ limN m < n := by
      unfold limN
      cases m with
      | true => simp only [if_true]; omega
      | false =>
        have h2 : ¬ n = 2 ^ 63 := fun h => hB ⟨h, rfl⟩
        simp only [Bool.false_eq_true, if_false]
        omega
    rw [if_neg hlim]
    have hgo : ¬ 0 < c ∧ (c = 0 → m = true) := by
      by_cases hlt : n < 2 ^ 63
      · rw [if_pos hlt] at hc; exact ⟨by omega, by omega⟩
      · have : n = 2 ^ 63 := by omega
        rw [if_neg hlt, if_neg hA] at hc
        refine ⟨by omega, fun _ => ?_⟩
        cases m with
        | true => rfl
        | false => exact absurd ⟨this, rfl⟩ hB
    have hn63 : n ≤ 9223372036854775808 := by omega
    have hm63 : m = false → n < 9223372036854775808 := fun h => by
      unfold limN at hlim
      rw [h, if_neg (by decide)] at hlim
      omega
    clear hN hP hc hB hA hlim hb hn
    rcases Int.lt_trichotomy c 0 with hc | hc | hc
    · (repeat' (first | (refine And.intro (fun h => ?_) (fun h => ?_) <;> (try simp [-List.getD_eq_getElem?_getD, -Int.pred_toNat] at h) <;> (try (exfalso; first | omega | contradiction))) | (refine And.intro (rng64 (by omega) (by omega)) ?_) | (refine And.intro ⟨by omega, by omega⟩ ?_) | (refine And.intro ⟨by omega, by omega, by omega⟩ ?_) | (intro _)))
      refine Exists.intro [] (Exists.intro [] (Exists.intro [] (Exists.intro Nat (Exists.intro (fun k => k ≤ l.length) (Exists.intro (fun k => ⟨[(4, .b m), (5, .rd .int l), (9, .i .i64 (-(vl 10000 (l.drop k) : Int))), (10, .i .i64 ((k : Int) - 1))], []⟩) (Exists.intro (fun k => k) (Exists.intro l.length (And.intro (Nat.le_refl _) (And.intro ?_ ?_)))))))))
      · (repeat' (first | exact trivial | exact Or.inl rfl | exact Or.inl ((congrArg (AV.i .i64) (show (0 : Int) = -((vl 10000 (l.drop l.length) : Nat) : Int) by rw [List.drop_length]; rfl))) | refine And.intro ?_ ?_))
      · rintro k hk
        refine And.intro (fun hc => ?_) (fun hc => ?_)
        · have hk0 : 0 < k := by have : (k : Int) - 1 ≥ 0 := of_decide_eq_true hc
                                 omega
          obtain ⟨j, rfl⟩ : ∃ j, k = j + 1 := ⟨k - 1, by omega⟩
          have hv := vl_drop 10000 l j
          have hle := vl_drop_le l j (by omega)
          have hg := hDg.getD (by decide) j
          have hij : Int.toNat (((j + 1 : Nat) : Int) - 1) = j := by omega
          generalize vl 10000 (l.drop (j + 1)) = V at hv
          have hV : ((vl 10000 (l.drop j) : Nat) : Int) = l.getD j 0 + 10000 * (V : Int) := by omega
          have hgl : l.getD (Int.toNat (((j + 1 : Nat) : Int) - 1)) (dflt .int) = l.getD j 0 := by rw [hij]
          (repeat' (first | (refine And.intro (fun h => ?_) (fun h => ?_) <;> (try simp [-List.getD_eq_getElem?_getD, -Int.pred_toNat] at h) <;> (try (exfalso; first | omega | contradiction))) | (refine And.intro (rng64 (by omega) (by omega)) ?_) | (refine And.intro ⟨by omega, by omega⟩ ?_) | (refine And.intro ⟨by omega, by omega, by omega⟩ ?_) | (intro _)))
          rw [hgl]
          refine Exists.intro [] (Exists.intro j (And.intro (by omega) (And.intro ?_ ?_)))
          · (repeat' (first | exact trivial | exact Or.inl rfl | exact Or.inl ((congrArg (AV.i .i64) (show -(V : Int) * 10000 - l.getD j 0 = -((vl 10000 (l.drop j) : Nat) : Int) by omega))) | exact Or.inl ((congrArg (AV.i .i64) (show ((j + 1 : Nat) : Int) - 1 - 1 = (j : Int) - 1 by omega))) | refine And.intro ?_ ?_))
          · exact Nat.lt_succ_self j
        · have hk0 : k = 0 := by have : ¬ (k : Int) - 1 ≥ 0 := of_decide_eq_false hc
                                 omega
          subst hk0
          have hv0 : vl 10000 (l.drop 0) = n := hll
          rw [hv0]
          cases m with
          | true =>
            (repeat' (first | (refine And.intro (fun h => ?_) (fun h => ?_) <;> (try simp [-List.getD_eq_getElem?_getD, -Int.pred_toNat] at h) <;> (try (exfalso; first | omega | contradiction))) | (refine And.intro (rng64 (by omega) (by omega)) ?_) | (refine And.intro ⟨by omega, by omega⟩ ?_) | (refine And.intro ⟨by omega, by omega, by omega⟩ ?_) | (intro _)))
            rfl
          | false =>
            have h63 := hm63 rfl
            (repeat' (first | (refine And.intro (fun h => ?_) (fun h => ?_) <;> (try simp [-List.getD_eq_getElem?_getD, -Int.pred_toNat] at h) <;> (try (exfalso; first | omega | contradiction))) | (refine And.intro (rng64 (by omega) (by omega)) ?_) | (refine And.intro ⟨by omega, by omega⟩ ?_) | (refine And.intro ⟨by omega, by omega, by omega⟩ ?_) | (intro _)))
            refine Or.inl (And.intro (rng64 (by omega) (by omega)) ?_)
            show AV.tup [.i .i64 (0 - -(n : Int)), .i .i64 0] = AV.tup [.i .i64 (n : Int), .i .i64 0]
            rw [show (0 : Int) - -(n : Int) = n by omega]
    · have hm := hgo.2 hc
      subst hm
      (repeat' (first | (refine And.intro (fun h => ?_) (fun h => ?_) <;> (try simp [-List.getD_eq_getElem?_getD, -Int.pred_toNat] at h) <;> (try (exfalso; first | omega | contradiction))) | (refine And.intro (rng64 (by omega) (by omega)) ?_) | (refine And.intro ⟨by omega, by omega⟩ ?_) | (refine And.intro ⟨by omega, by omega, by omega⟩ ?_) | (intro _)))
      refine Exists.intro [] (Exists.intro [] (Exists.intro [] (Exists.intro Nat (Exists.intro (fun k => k ≤ l.length) (Exists.intro (fun k => ⟨[(4, .b true), (5, .rd .int l), (9, .i .i64 (-(vl 10000 (l.drop k) : Int))), (10, .i .i64 ((k : Int) - 1))], []⟩) (Exists.intro (fun k => k) (Exists.intro l.length (And.intro (Nat.le_refl _) (And.intro ?_ ?_)))))))))
      · (repeat' (first | exact trivial | exact Or.inl rfl | exact Or.inl ((congrArg (AV.i .i64) (show (0 : Int) = -((vl 10000 (l.drop l.length) : Nat) : Int) by rw [List.drop_length]; rfl))) | refine And.intro ?_ ?_))
      · rintro k hk
        refine And.intro (fun hc => ?_) (fun hc => ?_)
        · have hk0 : 0 < k := by have : (k : Int) - 1 ≥ 0 := of_decide_eq_true hc
                                 omega
          obtain ⟨j, rfl⟩ : ∃ j, k = j + 1 := ⟨k - 1, by omega⟩
          have hv := vl_drop 10000 l j
          have hle := vl_drop_le l j (by omega)
          have hg := hDg.getD (by decide) j
          have hij : Int.toNat (((j + 1 : Nat) : Int) - 1) = j := by omega
          generalize vl 10000 (l.drop (j + 1)) = V at hv
          have hV : ((vl 10000 (l.drop j) : Nat) : Int) = l.getD j 0 + 10000 * (V : Int) := by omega
          have hgl : l.getD (Int.toNat (((j + 1 : Nat) : Int) - 1)) (dflt .int) = l.getD j 0 := by rw [hij]
          (repeat' (first | (refine And.intro (fun h => ?_) (fun h => ?_) <;> (try simp [-List.getD_eq_getElem?_getD, -Int.pred_toNat] at h) <;> (try (exfalso; first | omega | contradiction))) | (refine And.intro (rng64 (by omega) (by omega)) ?_) | (refine And.intro ⟨by omega, by omega⟩ ?_) | (refine And.intro ⟨by omega, by omega, by omega⟩ ?_) | (intro _)))
          rw [hgl]
          refine Exists.intro [] (Exists.intro j (And.intro (by omega) (And.intro ?_ ?_)))
          · (repeat' (first | exact trivial | exact Or.inl rfl | exact Or.inl ((congrArg (AV.i .i64) (show -(V : Int) * 10000 - l.getD j 0 = -((vl 10000 (l.drop j) : Nat) : Int) by omega))) | exact Or.inl ((congrArg (AV.i .i64) (show ((j + 1 : Nat) : Int) - 1 - 1 = (j : Int) - 1 by omega))) | refine And.intro ?_ ?_))
          · exact Nat.lt_succ_self j
        · have hk0 : k = 0 := by have : ¬ (k : Int) - 1 ≥ 0 := of_decide_eq_false hc
                                 omega
          subst hk0
          have hv0 : vl 10000 (l.drop 0) = n := hll
          rw [hv0]
          (repeat' (first | (refine And.intro (fun h => ?_) (fun h => ?_) <;> (try simp [-List.getD_eq_getElem?_getD, -Int.pred_toNat] at h) <;> (try (exfalso; first | omega | contradiction))) | (refine And.intro (rng64 (by omega) (by omega)) ?_) | (refine And.intro ⟨by omega, by omega⟩ ?_) | (refine And.intro ⟨by omega, by omega, by omega⟩ ?_) | (intro _)))
          rfl
    · exact absurd hc hgo.1
theorem s_readNum (s : Str) : PSpec Tryd.prog 18 [.s s] (.tup [.i .i64 (readV s).1, .i .i64 (readV s).2]) :=
  pspec_of_vc Γ_good Tryd.func18 rfl Tryd.call18 Tryd.results18 Tryd.ntmps18 (Nat.le_of_ble_eq_true rfl) (w_readNum s)
end
end Go.Proofs.YtdcdmojbkmedpaaDoor
end
section
namespace Go.Proofs.YtdcdmojbkmedpaaDoor
set_option linter.unusedSectionVars false
set_option linter.unusedSimpArgs false
set_option linter.unusedVariables false
open Go Go.SX Go.Bg Go.Nm
set_option maxRecDepth 100000
set_option maxHeartbeats 1000000
theorem pre_minus (s : Str) : isPre [45] s = minusS s := by
  unfold isPre minusS
  match s with
  | [] => rfl
  | c :: r =>
    show decide (1 ≤ (c :: r).length ∧ [c] = [45]) = decide (c = 45)
    simp
theorem cut_minus (s : Str) : cutP [45] s = restS s := by
  unfold cutP restS
  rw [pre_minus]
  rfl
theorem pre_two (a b : UInt8) (s : Str) : isPre [a, b] s = decide (1 < s.length ∧ s.getD 0 0 = a ∧ s.getD 1 0 = b) := by
  unfold isPre
  match s with
  | [] => rfl
  | [c] => rfl
  | c :: d :: r =>
    show decide (2 ≤ (c :: d :: r).length ∧ [c, d] = [a, b]) = decide (1 < (c :: d :: r).length ∧ c = a ∧ d = b)
    simp
theorem or_pos {a b : Int} (ha : 0 ≤ a ∧ a ≤ 18446744073709551615) (hb : 0 ≤ b ∧ b ≤ 18446744073709551615) :
    0 ≤ bits .or .u64 a b ∧ bits .or .u64 a b ≤ 18446744073709551615 ∧ (0 < bits .or .u64 a b ↔ 0 < a ∨ 0 < b) := by
  obtain ⟨x, rfl⟩ := Int.eq_ofNat_of_zero_le ha.1
  obtain ⟨y, rfl⟩ := Int.eq_ofNat_of_zero_le hb.1
  have hx : x < 2 ^ 64 := by omega
  have hy : y < 2 ^ 64 := by omega
  have h1 : (BitVec.ofInt 64 (x : Int)).toNat = x := by
    rw [BitVec.ofInt_natCast, BitVec.toNat_ofNat]; exact Nat.mod_eq_of_lt hx
  have h2 : (BitVec.ofInt 64 (y : Int)).toNat = y := by
    rw [BitVec.ofInt_natCast, BitVec.toNat_ofNat]; exact Nat.mod_eq_of_lt hy
  have ho : x ||| y < 2 ^ 64 := Nat.or_lt_two_pow hx hy
  have e : bits .or .u64 (x : Int) (y : Int) = ((x ||| y : Nat) : Int) := by
    show IntKind.u64.wrap ((BitVec.ofInt 64 (x : Int) ||| BitVec.ofInt 64 (y : Int)).toNat : Int) = _
    rw [BitVec.toNat_or, h1, h2, IntKind.wrap_u64]
    omega
  rw [e]
  have h0 : (x ||| y) = 0 ↔ x = 0 ∧ y = 0 := Nat.or_eq_zero_iff
  omega
theorem front_eq (s : Str) : frontB s = if isPre [48, 120] s = true then (16, s.drop 2) else if isPre [48, 111] s = true then (8, s.drop 2) else if isPre [48, 98] s = true then (2, s.drop 2) else (10, s) := by
  rw [pre_two, pre_two, pre_two]
  match s with
  | [] => rfl
  | [c] => rfl
  | c :: d :: r =>
    have e0 : frontB (c :: d :: r) = if c = 48 ∧ d = 120 then (16, r) else if c = 48 ∧ d = 111 then (8, r) else if c = 48 ∧ d = 98 then (2, r) else (10, c :: d :: r) := rfl
    have hp : ∀ x : UInt8, (decide (1 < (c :: d :: r).length ∧ (c :: d :: r).getD 0 0 = 48 ∧ (c :: d :: r).getD 1 0 = x) = true) = (c = 48 ∧ d = x) := fun x => by
      rw [decide_eq_true_eq]
      exact propext ⟨fun h => h.2, fun h => ⟨by simp, h⟩⟩
    rw [e0]
    simp only [hp]
    rfl
theorem neg_wrap {N : Nat} (h : N ≤ 9223372036854775808) : IntKind.i64.wrap (0 - IntKind.i64.wrap (N : Int)) = -(N : Int) := by
  by_cases hN : N = 9223372036854775808
  · subst hN
    rw [IntKind.wrap_i64, IntKind.wrap_i64]
    decide
  · have h1 : IntKind.i64.wrap (N : Int) = N := by rw [IntKind.wrap_i64]; omega
    rw [h1, IntKind.wrap_i64]
    omega
section
variable [G : Globs]
/-- the fronts that tell a base -/
def fronts : List (Str × Int) := [([48, 120], 16), ([48, 111], 8), ([48, 98], 2)]
theorem w_base (s : Str) : vc Tryd.prog Γ 30 [0, 2, 3, 5, 6, 7, 11, 12, 13, 14, 24] (Tryd.f63.body.getD .skip) (postK Γ [.tmp 2, .tmp 3] (fun v => v = .tup [.i .u64 ((frontB s).1 : Int), .s (frontB s).2])) ⟨argSlots 0 [.s s], []⟩ := by
  rw [front_eq]
  (repeat' (first | (refine And.intro (fun h => ?_) (fun h => ?_) <;> (try simp [-List.getD_eq_getElem?_getD, -Int.pred_toNat] at h) <;> (try (exfalso; first | omega | contradiction))) | (refine And.intro (rng64 (by omega) (by omega)) ?_) | (refine And.intro ⟨by omega, by omega⟩ ?_) | (refine And.intro ⟨by omega, by omega, by omega⟩ ?_) | (intro _)))
  refine Exists.intro [] (Exists.intro [] (Exists.intro [] (Exists.intro Nat (Exists.intro (fun i => i ≤ 3 ∧ (1 ≤ i → isPre [48, 120] s = false) ∧ (2 ≤ i → isPre [48, 111] s = false) ∧ (3 ≤ i → isPre [48, 98] s = false)) (Exists.intro (fun i => ⟨[(0, .s s), (2, .i .u64 0), (3, .s []), (11, .vec 11 .frt fronts), (12, .i .i64 3), (13, .i .i64 (i : Int))], []⟩) (Exists.intro (fun i => 3 - i) (Exists.intro 0 (And.intro ⟨by decide, fun h => absurd h (by decide), fun h => absurd h (by decide), fun h => absurd h (by decide)⟩ (And.intro ?_ ?_)))))))))
  · (repeat' (first | exact trivial | exact Or.inl rfl | exact Or.inr (Or.inl ⟨rfl, _, rfl⟩) | exact Or.inr (Or.inr (Or.inr ⟨_, _, _, rfl, rfl⟩)) | refine And.intro ?_ ?_))
  · rintro i ⟨hi, h1, h2, h3⟩
    rcases (show i = 0 ∨ i = 1 ∨ i = 2 ∨ i = 3 by omega) with rfl | rfl | rfl | rfl
    · (repeat' (first | (refine And.intro (fun h => ?_) (fun h => ?_) <;> (try simp [-List.getD_eq_getElem?_getD, -Int.pred_toNat] at h) <;> (try (exfalso; first | omega | contradiction))) | (refine And.intro (rng64 (by omega) (by omega)) ?_) | (refine And.intro ⟨by omega, by omega⟩ ?_) | (refine And.intro ⟨by omega, by omega, by omega⟩ ?_) | (intro _)))
      refine And.intro ⟨by decide, by decide⟩ ?_
      refine Or.inl (Exists.intro _ (And.intro (s_cutPre s [48, 120]) ?_))
      cases hp : isPre [48, 120] s with
      | true =>
        unfold cutP
        rw [hp]
        (repeat' (first | (refine And.intro (fun h => ?_) (fun h => ?_) <;> (try simp [-List.getD_eq_getElem?_getD, -Int.pred_toNat] at h) <;> (try (exfalso; first | omega | contradiction))) | (refine And.intro (rng64 (by omega) (by omega)) ?_) | (refine And.intro ⟨by omega, by omega⟩ ?_) | (refine And.intro ⟨by omega, by omega, by omega⟩ ?_) | (intro _)))
        rfl
      | false =>
        (repeat' (first | (refine And.intro (fun h => ?_) (fun h => ?_) <;> (try simp [-List.getD_eq_getElem?_getD, -Int.pred_toNat] at h) <;> (try (exfalso; first | omega | contradiction))) | (refine And.intro (rng64 (by omega) (by omega)) ?_) | (refine And.intro ⟨by omega, by omega⟩ ?_) | (refine And.intro ⟨by omega, by omega, by omega⟩ ?_) | (intro _)))
        refine Exists.intro [] (Exists.intro 1 (And.intro ⟨by decide, fun _ => rfl, fun h => absurd h (by decide), fun h => absurd h (by decide)⟩ (And.intro ?_ ?_)))
        · (repeat' (first | exact trivial | exact Or.inl rfl | exact Or.inr (Or.inl ⟨rfl, _, rfl⟩) | exact Or.inr (Or.inr (Or.inr ⟨_, _, _, rfl, rfl⟩)) | refine And.intro ?_ ?_))
        · show 3 - 1 < 3 - 0
          decide
    · (repeat' (first | (refine And.intro (fun h => ?_) (fun h => ?_) <;> (try simp [-List.getD_eq_getElem?_getD, -Int.pred_toNat] at h) <;> (try (exfalso; first | omega | contradiction))) | (refine And.intro (rng64 (by omega) (by omega)) ?_) | (refine And.intro ⟨by omega, by omega⟩ ?_) | (refine And.intro ⟨by omega, by omega, by omega⟩ ?_) | (intro _)))
      refine And.intro ⟨by decide, by decide⟩ ?_
      refine Or.inl (Exists.intro _ (And.intro (s_cutPre s [48, 111]) ?_))
      cases hp : isPre [48, 111] s with
      | true =>
        rw [h1 (by decide)]
        unfold cutP
        rw [hp]
        (repeat' (first | (refine And.intro (fun h => ?_) (fun h => ?_) <;> (try simp [-List.getD_eq_getElem?_getD, -Int.pred_toNat] at h) <;> (try (exfalso; first | omega | contradiction))) | (refine And.intro (rng64 (by omega) (by omega)) ?_) | (refine And.intro ⟨by omega, by omega⟩ ?_) | (refine And.intro ⟨by omega, by omega, by omega⟩ ?_) | (intro _)))
        rfl
      | false =>
        (repeat' (first | (refine And.intro (fun h => ?_) (fun h => ?_) <;> (try simp [-List.getD_eq_getElem?_getD, -Int.pred_toNat] at h) <;> (try (exfalso; first | omega | contradiction))) | (refine And.intro (rng64 (by omega) (by omega)) ?_) | (refine And.intro ⟨by omega, by omega⟩ ?_) | (refine And.intro ⟨by omega, by omega, by omega⟩ ?_) | (intro _)))
        refine Exists.intro [] (Exists.intro 2 (And.intro ⟨by decide, fun _ => h1 (by decide), fun _ => rfl, fun h => absurd h (by decide)⟩ (And.intro ?_ ?_)))
        · (repeat' (first | exact trivial | exact Or.inl rfl | exact Or.inr (Or.inl ⟨rfl, _, rfl⟩) | exact Or.inr (Or.inr (Or.inr ⟨_, _, _, rfl, rfl⟩)) | refine And.intro ?_ ?_))
        · show 3 - 2 < 3 - 1
          decide
    · (repeat' (first | (refine And.intro (fun h => ?_) (fun h => ?_) <;> (try simp [-List.getD_eq_getElem?_getD, -Int.pred_toNat] at h) <;> (try (exfalso; first | omega | contradiction))) | (refine And.intro (rng64 (by omega) (by omega)) ?_) | (refine And.intro ⟨by omega, by omega⟩ ?_) | (refine And.intro ⟨by omega, by omega, by omega⟩ ?_) | (intro _)))
      refine And.intro ⟨by decide, by decide⟩ ?_
      refine Or.inl (Exists.intro _ (And.intro (s_cutPre s [48, 98]) ?_))
      cases hp : isPre [48, 98] s with
      | true =>
        rw [h1 (by decide), h2 (by decide)]
        unfold cutP
        rw [hp]
        (repeat' (first | (refine And.intro (fun h => ?_) (fun h => ?_) <;> (try simp [-List.getD_eq_getElem?_getD, -Int.pred_toNat] at h) <;> (try (exfalso; first | omega | contradiction))) | (refine And.intro (rng64 (by omega) (by omega)) ?_) | (refine And.intro ⟨by omega, by omega⟩ ?_) | (refine And.intro ⟨by omega, by omega, by omega⟩ ?_) | (intro _)))
        rfl
      | false =>
        (repeat' (first | (refine And.intro (fun h => ?_) (fun h => ?_) <;> (try simp [-List.getD_eq_getElem?_getD, -Int.pred_toNat] at h) <;> (try (exfalso; first | omega | contradiction))) | (refine And.intro (rng64 (by omega) (by omega)) ?_) | (refine And.intro ⟨by omega, by omega⟩ ?_) | (refine And.intro ⟨by omega, by omega, by omega⟩ ?_) | (intro _)))
        refine Exists.intro [] (Exists.intro 3 (And.intro ⟨by decide, fun _ => h1 (by decide), fun _ => h2 (by decide), fun _ => rfl⟩ (And.intro ?_ ?_)))
        · (repeat' (first | exact trivial | exact Or.inl rfl | exact Or.inr (Or.inl ⟨rfl, _, rfl⟩) | exact Or.inr (Or.inr (Or.inr ⟨_, _, _, rfl, rfl⟩)) | refine And.intro ?_ ?_))
        · show 3 - 3 < 3 - 2
          decide
    · rw [h1 (by decide), h2 (by decide), h3 (by decide)]
      (repeat' (first | (refine And.intro (fun h => ?_) (fun h => ?_) <;> (try simp [-List.getD_eq_getElem?_getD, -Int.pred_toNat] at h) <;> (try (exfalso; first | omega | contradiction))) | (refine And.intro (rng64 (by omega) (by omega)) ?_) | (refine And.intro ⟨by omega, by omega⟩ ?_) | (refine And.intro ⟨by omega, by omega, by omega⟩ ?_) | (intro _)))
      rfl
theorem s_base (s : Str) : PSpec Tryd.prog 63 [.s s] (.tup [.i .u64 ((frontB s).1 : Int), .s (frontB s).2]) :=
  pspec_of_vc Γ_good Tryd.func63 rfl Tryd.call63 Tryd.results63 Tryd.ntmps63 (Nat.le_of_ble_eq_true rfl) (w_base s)
theorem w_readP (s : Str) : VCs Tryd.prog Γ 109 [0, 2, 3, 4, 5, 6, 7, 8, 9, 11, 12, 13, 14, 15, 16, 19, 41, 43, 44, 45, 46, 64, 67, 88, 91, 94, 102] (Tryd.f17.body.getD .skip) (postK Γ [.tmp 2, .tmp 3] (fun v => v = .tup [.i .i64 (readV s).1, .i .i64 (readV s).2])) ⟨argSlots 0 [.s s], []⟩ := by
  refine VCs.seq (by first | exact Γ_good | exact Ctx.good_kp Γ_good _) ?_
  refine VCs.cut (by first | exact Γ_good | exact Ctx.good_kp Γ_good _) Unit (fun _ => ¬ 80 < s.length) (fun _ => ⟨[(0, .s s), (2, .i .i64 0), (3, .i .i64 0)], []⟩) ?_ ?_
  · intro _
    refine And.intro (fun h => ?_) (fun h => ?_)
    · have h : 80 < s.length := by have : (s.length : Int) > 80 := of_decide_eq_true h; omega
      rw [readV_long h]
      rfl
    · have h : ¬ 80 < s.length := by have : ¬ (s.length : Int) > 80 := of_decide_eq_false h; omega
      refine Exists.intro () (And.intro h ?_)
      (repeat' (first | exact trivial | exact Or.inl rfl | exact Or.inr (Or.inl ⟨rfl, _, rfl⟩) | exact Or.inr (Or.inr (Or.inr ⟨_, _, _, rfl, rfl⟩)) | refine And.intro ?_ ?_))
  rintro ⟨⟩ h
  have h80 := h
  have hC := s_cutPre s [45]
  rw [cut_minus, pre_minus] at hC
  have hB := s_base (restS s)
  obtain ⟨f1, f2, f3⟩ := front_base (restS s)
  have hrl := rest_len s
  obtain ⟨b, hb⟩ : ∃ b, b = (frontB (restS s)).1 := ⟨_, rfl⟩
  obtain ⟨u, hu⟩ : ∃ u, u = (frontB (restS s)).2 := ⟨_, rfl⟩
  rw [← hb] at f1 f2 hB
  rw [← hu] at f3 hB
  have hul : u.length ≤ 80 := by omega
  refine VCs.seq (by first | exact Γ_good | exact Ctx.good_kp Γ_good _) ?_
  refine Or.inl (Exists.intro _ (And.intro (hC) ?_))
  refine VCs.seq (by first | exact Γ_good | exact Ctx.good_kp Γ_good _) ?_
  refine Or.inl (Exists.intro _ (And.intro (hB) ?_))
  have hbz : ∀ z : Bool, ((b : Int) == 10) = z → (b = 10 ↔ z = true) := fun z hz => by
    rw [← hz, beq_iff_eq]; omega
  refine VCs.cut (by first | exact Γ_good | exact Ctx.good_kp Γ_good _) Unit (fun _ => ¬ (b = 10 ∧ 1 < u.length ∧ u.headD 0 = 48)) (fun _ => ⟨[(2, .i .i64 0), (3, .i .i64 0), (4, .s u), (5, .b (minusS s)), (6, .i .u64 (b : Int))], []⟩) ?_ ?_
  · by_cases hz : b = 10 ∧ 1 < u.length ∧ u.headD 0 = 48
    · have hV : bareV (restS s) = none := by unfold bareV; rw [← hb, ← hu, if_pos hz]
      rw [readV_none h hV]
      obtain ⟨z1, z2, z3⟩ := hz
      have hg : (u.getD 0 0).toNat = 48 := by
        cases u with
        | nil => simp at z2
        | cons c r => exact congrArg UInt8.toNat z3
      clear hbz
      (repeat' (first | (refine And.intro (fun h => ?_) (fun h => ?_) <;> (try simp [-List.getD_eq_getElem?_getD, -Int.pred_toNat] at h) <;> (try (exfalso; first | omega | contradiction))) | (refine And.intro (rng64 (by omega) (by omega)) ?_) | (refine And.intro ⟨by omega, by omega⟩ ?_) | (refine And.intro ⟨by omega, by omega, by omega⟩ ?_) | (intro _)))
      rfl
    · clear hbz
      by_cases z1 : b = 10
      · by_cases z2 : 1 < u.length
        · have hg : ¬ (u.getD 0 0).toNat = 48 := fun h => hz ⟨z1, z2, by
            cases u with
            | nil => simp at z2
            | cons c r => exact UInt8.toNat_inj.1 h⟩
          (repeat' (first | (refine And.intro (fun h => ?_) (fun h => ?_) <;> (try simp [-List.getD_eq_getElem?_getD, -Int.pred_toNat] at h) <;> (try (exfalso; first | omega | contradiction))) | (refine And.intro (rng64 (by omega) (by omega)) ?_) | (refine And.intro ⟨by omega, by omega⟩ ?_) | (refine And.intro ⟨by omega, by omega, by omega⟩ ?_) | (intro _)))
          refine Exists.intro () (And.intro hz ?_)
          (repeat' (first | exact trivial | exact Or.inl rfl | exact Or.inr (Or.inl ⟨rfl, _, rfl⟩) | exact Or.inr (Or.inr (Or.inr ⟨_, _, _, rfl, rfl⟩)) | refine And.intro ?_ ?_))
        · (repeat' (first | (refine And.intro (fun h => ?_) (fun h => ?_) <;> (try simp [-List.getD_eq_getElem?_getD, -Int.pred_toNat] at h) <;> (try (exfalso; first | omega | contradiction))) | (refine And.intro (rng64 (by omega) (by omega)) ?_) | (refine And.intro ⟨by omega, by omega⟩ ?_) | (refine And.intro ⟨by omega, by omega, by omega⟩ ?_) | (intro _)))
          refine Exists.intro () (And.intro hz ?_)
          (repeat' (first | exact trivial | exact Or.inl rfl | exact Or.inr (Or.inl ⟨rfl, _, rfl⟩) | exact Or.inr (Or.inr (Or.inr ⟨_, _, _, rfl, rfl⟩)) | refine And.intro ?_ ?_))
      · (repeat' (first | (refine And.intro (fun h => ?_) (fun h => ?_) <;> (try simp [-List.getD_eq_getElem?_getD, -Int.pred_toNat] at h) <;> (try (exfalso; first | omega | contradiction))) | (refine And.intro (rng64 (by omega) (by omega)) ?_) | (refine And.intro ⟨by omega, by omega⟩ ?_) | (refine And.intro ⟨by omega, by omega, by omega⟩ ?_) | (intro _)))
        refine Exists.intro () (And.intro hz ?_)
        (repeat' (first | exact trivial | exact Or.inl rfl | exact Or.inr (Or.inl ⟨rfl, _, rfl⟩) | exact Or.inr (Or.inr (Or.inr ⟨_, _, _, rfl, rfl⟩)) | refine And.intro ?_ ?_))
  rintro ⟨⟩ hz
  have hV : bareV (restS s) = numN b 95 0 u := by unfold bareV; rw [← hb, ← hu, if_neg hz]
  clear hz hbz hB hC
  refine VCs.seq (by first | exact Γ_good | exact Ctx.good_kp Γ_good _) ?_
  refine VCs.seq (by first | exact Γ_good | exact Ctx.good_kp Γ_good _) ?_
  refine VCs.cut (by first | exact Γ_good | exact Ctx.good_kp Γ_good _) (UInt8 × Nat × Int) (fun q => numN b q.1 q.2.1 [] = numN b 95 0 u ∧ 0 ≤ q.2.2 ∧ q.2.2 ≤ 18446744073709551615 ∧ (0 < q.2.2 ↔ 18446744073709551616 ≤ q.2.1)) (fun ⟨l, N, o⟩ => ⟨[(2, .i .i64 0), (3, .i .i64 0), (5, .b (minusS s)), (7, .i .u64 ((N % 18446744073709551616 : Nat) : Int)), (8, .i .u64 o), (9, .i .u8 (l.toNat : Int))], []⟩) ?_ ?_
  · (repeat' (first | (refine And.intro (fun h => ?_) (fun h => ?_) <;> (try simp [-List.getD_eq_getElem?_getD, -Int.pred_toNat] at h) <;> (try (exfalso; first | omega | contradiction))) | (refine And.intro (rng64 (by omega) (by omega)) ?_) | (refine And.intro ⟨by omega, by omega⟩ ?_) | (refine And.intro ⟨by omega, by omega, by omega⟩ ?_) | (intro _)))
    refine Exists.intro [] (Exists.intro [] (Exists.intro [] (Exists.intro (Nat × UInt8 × Nat × Int) (Exists.intro (fun q => q.1 ≤ u.length ∧ numN b q.2.1 q.2.2.1 (u.drop q.1) = numN b 95 0 u ∧ 0 ≤ q.2.2.2 ∧ q.2.2.2 ≤ 18446744073709551615 ∧ (0 < q.2.2.2 ↔ 18446744073709551616 ≤ q.2.2.1)) (Exists.intro (fun ⟨i, l, N, o⟩ => ⟨[(2, .i .i64 0), (3, .i .i64 0), (5, .b (minusS s)), (6, .i .u64 (b : Int)), (7, .i .u64 ((N % 18446744073709551616 : Nat) : Int)), (8, .i .u64 o), (9, .i .u8 (l.toNat : Int)), (43, .rd .u8 (u.map fun b => (b.toNat : Int))), (44, .i .i64 (((u.map fun b => (b.toNat : Int)).length : Nat) : Int)), (45, .i .i64 (i : Int))], []⟩) (Exists.intro (fun q => u.length - q.1) (Exists.intro (0, 95, 0, 0) (And.intro ⟨Nat.zero_le _, rfl, by simp, by simp, by simp⟩ (And.intro ?_ ?_)))))))))
    · (repeat' (first | exact trivial | exact Or.inl rfl | exact Or.inr (Or.inl ⟨rfl, _, rfl⟩) | exact Or.inr (Or.inr (Or.inr ⟨_, _, _, rfl, rfl⟩)) | refine And.intro ?_ ?_))
    · rintro ⟨i, l, N, o⟩ ⟨hi, hI, ho0, ho1, ho⟩
      simp only at hi hI ho0 ho1 ho
      have hml : (u.map fun b : UInt8 => (b.toNat : Int)).length = u.length := List.length_map ..
      refine And.intro (fun hc => ?_) (fun hc => ?_)
      · have hi : i < u.length := by
          have : (i : Int) < (((u.map fun b : UInt8 => (b.toNat : Int)).length : Nat) : Int) := of_decide_eq_true hc
          omega
        have hdr : u.drop i = u.getD i 0 :: u.drop (i + 1) := by
          rw [List.drop_eq_getElem_cons hi, List.getD_eq_getElem?_getD, List.getElem?_eq_getElem hi]; rfl
        have hgi : (u.map fun b : UInt8 => (b.toNat : Int)).getD (Int.toNat (i : Int)) (dflt .u8) = ((u.getD i 0).toNat : Int) := by
          rw [Int.toNat_natCast, List.getD_eq_getElem?_getD, List.getElem?_map, List.getD_eq_getElem?_getD, List.getElem?_eq_getElem hi]; rfl
        rw [hdr, numN] at hI
        generalize u.getD i 0 = c at hI hgi
        have hcl := u8_lt c
        refine And.intro ⟨by omega, by omega⟩ ?_
        rw [hgi]
        by_cases hu : c = 95
        · rw [if_pos hu] at hI
          have hcn : c.toNat = 95 := by rw [hu]; rfl
          by_cases hl : l = 95
          · rw [if_pos hl] at hI
            have hln : l.toNat = 95 := by rw [hl]; rfl
            rw [readV_none h80 (hV.trans hI.symm)]
            (repeat' (first | (refine And.intro (fun h => ?_) (fun h => ?_) <;> (try simp [-List.getD_eq_getElem?_getD, -Int.pred_toNat] at h) <;> (try (exfalso; first | omega | contradiction))) | (refine And.intro (rng64 (by omega) (by omega)) ?_) | (refine And.intro ⟨by omega, by omega⟩ ?_) | (refine And.intro ⟨by omega, by omega, by omega⟩ ?_) | (intro _)))
            rfl
          · rw [if_neg hl] at hI
            have hln : ¬ l.toNat = 95 := fun h => hl (UInt8.toNat_inj.1 h)
            (repeat' (first | (refine And.intro (fun h => ?_) (fun h => ?_) <;> (try simp [-List.getD_eq_getElem?_getD, -Int.pred_toNat] at h) <;> (try (exfalso; first | omega | contradiction))) | (refine And.intro (rng64 (by omega) (by omega)) ?_) | (refine And.intro ⟨by omega, by omega⟩ ?_) | (refine And.intro ⟨by omega, by omega, by omega⟩ ?_) | (intro _)))
            refine Exists.intro [] (Exists.intro (i + 1, c, N, o) (And.intro ⟨hi, by simp only; rw [hu]; exact hI, ho0, ho1, ho⟩ (And.intro ?_ ?_)))
            · (repeat' (first | exact trivial | exact Or.inl rfl | exact Or.inr (Or.inl ⟨rfl, _, rfl⟩) | exact Or.inr (Or.inr (Or.inr ⟨_, _, _, rfl, rfl⟩)) | refine And.intro ?_ ?_))
            · (exact Nat.sub_lt_sub_left (by omega) (by omega))
        · rw [if_neg hu] at hI
          have hcn : ¬ c.toNat = 95 := fun h => hu (UInt8.toNat_inj.1 h)
          have hD := s_digit c
          have hd100 := dgt_lt c
          generalize dgt c = d at hI hD hd100
          (repeat' (first | (refine And.intro (fun h => ?_) (fun h => ?_) <;> (try simp [-List.getD_eq_getElem?_getD, -Int.pred_toNat] at h) <;> (try (exfalso; first | omega | contradiction))) | (refine And.intro (rng64 (by omega) (by omega)) ?_) | (refine And.intro ⟨by omega, by omega⟩ ?_) | (refine And.intro ⟨by omega, by omega, by omega⟩ ?_) | (intro _)))
          refine Or.inl (Exists.intro _ (And.intro (hD) ?_))
          by_cases hd : b ≤ d
          · rw [if_pos hd] at hI
            rw [readV_none h80 (hV.trans hI.symm)]
            (repeat' (first | (refine And.intro (fun h => ?_) (fun h => ?_) <;> (try simp [-List.getD_eq_getElem?_getD, -Int.pred_toNat] at h) <;> (try (exfalso; first | omega | contradiction))) | (refine And.intro (rng64 (by omega) (by omega)) ?_) | (refine And.intro ⟨by omega, by omega⟩ ?_) | (refine And.intro ⟨by omega, by omega, by omega⟩ ?_) | (intro _)))
            rfl
          · rw [if_neg hd] at hI
            have hM := s_mul64 (N % 18446744073709551616) b (Nat.mod_lt _ (by decide)) (by omega)
            have hlim : N % 18446744073709551616 * b / 18446744073709551616 < 18446744073709551616 := by
              rw [Nat.div_lt_iff_lt_mul (by decide)]
              exact Nat.mul_lt_mul'' (Nat.mod_lt _ (by decide)) (by omega)
            obtain ⟨e1, e2⟩ := step64 (N := N) (n := N % 18446744073709551616) (b := b) (d := d) (o := decide (0 < o)) f1 f2 (by omega) rfl (by rw [decide_eq_true_eq]; exact ho)
            rw [decide_eq_true_eq] at e2
            have hlo : N % 18446744073709551616 * b % 18446744073709551616 < 18446744073709551616 := Nat.mod_lt _ (by decide)
            generalize N % 18446744073709551616 * b / 18446744073709551616 = H at hM hlim e2
            generalize N % 18446744073709551616 * b % 18446744073709551616 = L at hM hlo e1 e2
            obtain ⟨g1, g2, g3⟩ := or_pos (a := (H : Int)) (b := ((L : Int) + (d : Int) + 0) / 18446744073709551616) (by omega) (by omega)
            generalize hO1 : bits .or .u64 (H : Int) (((L : Int) + (d : Int) + 0) / 18446744073709551616) = O1 at g1 g2 g3
            obtain ⟨k1, k2, k3⟩ := or_pos (a := o) (b := O1) ⟨ho0, ho1⟩ ⟨g1, g2⟩
            generalize hO2 : bits .or .u64 o O1 = O2 at k1 k2 k3
            have hA := e_add64 L d
            (repeat' (first | (refine And.intro (fun h => ?_) (fun h => ?_) <;> (try simp [-List.getD_eq_getElem?_getD, -Int.pred_toNat] at h) <;> (try (exfalso; first | omega | contradiction))) | (refine And.intro (rng64 (by omega) (by omega)) ?_) | (refine And.intro ⟨by omega, by omega⟩ ?_) | (refine And.intro ⟨by omega, by omega, by omega⟩ ?_) | (intro _)))
            refine Or.inl (Exists.intro _ (And.intro (hM) ?_))
            refine Or.inl (Exists.intro _ (And.intro (hD) ?_))
            refine Or.inr (Or.inr (Or.inr (Or.inr (Exists.intro _ (And.intro (hA) ?_)))))
            (repeat' (first | (refine And.intro (fun h => ?_) (fun h => ?_) <;> (try simp [-List.getD_eq_getElem?_getD, -Int.pred_toNat] at h) <;> (try (exfalso; first | omega | contradiction))) | (refine And.intro (rng64 (by omega) (by omega)) ?_) | (refine And.intro ⟨by omega, by omega⟩ ?_) | (refine And.intro ⟨by omega, by omega, by omega⟩ ?_) | (intro _)))
            refine Exists.intro [] (Exists.intro (i + 1, c, N * b + d, O2) (And.intro ⟨hi, by simp only; exact hI, k1, k2, by simp only; omega⟩ (And.intro ?_ ?_)))
            · (repeat' (first | exact trivial | exact Or.inl rfl | exact Or.inl ((congrArg (AV.i .u64) (show ((L : Int) + (d : Int) + 0) % 18446744073709551616 = (((N * b + d) % 18446744073709551616 : Nat) : Int) by omega))) | exact Or.inl ((congrArg (AV.i .u64) (show bits .or .u64 o (bits .or .u64 (H : Int) (((L : Int) + (d : Int) + 0) / 18446744073709551616)) = O2 by rw [hO1, hO2]))) | refine And.intro ?_ ?_))
            · (exact Nat.sub_lt_sub_left (by omega) (by omega))
      · have hi : i = u.length := by
          have : ¬ (i : Int) < (((u.map fun b : UInt8 => (b.toNat : Int)).length : Nat) : Int) := of_decide_eq_false hc
          omega
        subst hi
        rw [List.drop_length] at hI
        refine Exists.intro (l, N, o) (And.intro ⟨hI, ho0, ho1, ho⟩ ?_)
        (repeat' (first | exact trivial | exact Or.inl rfl | exact Or.inr (Or.inl ⟨rfl, _, rfl⟩) | exact Or.inr (Or.inr (Or.inr ⟨_, _, _, rfl, rfl⟩)) | refine And.intro ?_ ?_))
  rintro ⟨l, N, o⟩ ⟨hN, ho0, ho1, ho⟩
  simp only at hN ho0 ho1 ho
  rw [numN] at hN
  refine VCs.of_vc (by first | exact Γ_good | exact Ctx.good_kp Γ_good _) ?_
  have hML : N % 18446744073709551616 < 18446744073709551616 := Nat.mod_lt _ (by decide)
  by_cases hl : l = 95
  · rw [if_pos hl] at hN
    have hln : l.toNat = 95 := by rw [hl]; rfl
    rw [readV_none h80 (hV.trans hN.symm)]
    generalize minusS s = m
    cases m
    all_goals
      (repeat' (first | (refine And.intro (fun h => ?_) (fun h => ?_) <;> (try simp [-List.getD_eq_getElem?_getD, -Int.pred_toNat] at h) <;> (try (exfalso; first | omega | contradiction))) | (refine And.intro (rng64 (by omega) (by omega)) ?_) | (refine And.intro ⟨by omega, by omega⟩ ?_) | (refine And.intro ⟨by omega, by omega, by omega⟩ ?_) | (intro _)))
      rfl
  rw [if_neg hl] at hN
  have hln : ¬ l.toNat = 95 := fun h => hl (UInt8.toNat_inj.1 h)
  rw [readV_some h80 (hV.trans hN.symm)]
  clear hV hN
  generalize minusS s = m
  by_cases h64 : 18446744073709551616 ≤ N
  · have hov : limN m < N := by unfold limN; split <;> omega
    have hop := ho.2 h64
    rw [if_pos hov]
    cases m
    all_goals
      (repeat' (first | (refine And.intro (fun h => ?_) (fun h => ?_) <;> (try simp [-List.getD_eq_getElem?_getD, -Int.pred_toNat] at h) <;> (try (exfalso; first | omega | contradiction))) | (refine And.intro (rng64 (by omega) (by omega)) ?_) | (refine And.intro ⟨by omega, by omega⟩ ?_) | (refine And.intro ⟨by omega, by omega, by omega⟩ ?_) | (intro _)))
      rfl
  have hop : o = 0 := by omega
  have hNM : N % 18446744073709551616 = N := Nat.mod_eq_of_lt (by omega)
  dsimp only
  rw [hNM]
  have hwn : N ≤ 9223372036854775807 → IntKind.i64.wrap (N : Int) = N := fun h => by rw [IntKind.wrap_i64]; omega
  cases m with
  | false =>
    by_cases hov : limN false < N
    · have hov2 : 9223372036854775807 < N := hov
      rw [if_pos hov]
      (repeat' (first | (refine And.intro (fun h => ?_) (fun h => ?_) <;> (try simp [-List.getD_eq_getElem?_getD, -Int.pred_toNat] at h) <;> (try (exfalso; first | omega | contradiction))) | (refine And.intro (rng64 (by omega) (by omega)) ?_) | (refine And.intro ⟨by omega, by omega⟩ ?_) | (refine And.intro ⟨by omega, by omega, by omega⟩ ?_) | (intro _)))
      rfl
    · have hov2 : ¬ 9223372036854775807 < N := hov
      rw [if_neg hov]
      (repeat' (first | (refine And.intro (fun h => ?_) (fun h => ?_) <;> (try simp [-List.getD_eq_getElem?_getD, -Int.pred_toNat] at h) <;> (try (exfalso; first | omega | contradiction))) | (refine And.intro (rng64 (by omega) (by omega)) ?_) | (refine And.intro ⟨by omega, by omega⟩ ?_) | (refine And.intro ⟨by omega, by omega, by omega⟩ ?_) | (intro _)))
      show AV.tup [.i .i64 (IntKind.i64.wrap (N : Int)), .i .i64 0] = AV.tup [.i .i64 (N : Int), .i .i64 0]
      rw [hwn (by omega)]
  | true =>
    have hW : IntKind.u64.wrap ((9223372036854775807 : Int) + 1) = 9223372036854775808 := by rw [IntKind.wrap_u64]; rfl
    have hW2 : IntKind.u64.wrap (9223372036854775808 : Int) = 9223372036854775808 := by rw [IntKind.wrap_u64]; rfl
    by_cases hov : limN true < N
    · have hov2 : 9223372036854775808 < N := hov
      rw [if_pos hov]
      (repeat' (first | (refine And.intro (fun h => ?_) (fun h => ?_) <;> (try simp [-List.getD_eq_getElem?_getD, -Int.pred_toNat] at h) <;> (try (exfalso; first | omega | contradiction))) | (refine And.intro (rng64 (by omega) (by omega)) ?_) | (refine And.intro ⟨by omega, by omega⟩ ?_) | (refine And.intro ⟨by omega, by omega, by omega⟩ ?_) | (intro _)))
      rfl
    · have hov2 : ¬ 9223372036854775808 < N := hov
      rw [if_neg hov]
      (repeat' (first | (refine And.intro (fun h => ?_) (fun h => ?_) <;> (try simp [-List.getD_eq_getElem?_getD, -Int.pred_toNat] at h) <;> (try (exfalso; first | omega | contradiction))) | (refine And.intro (rng64 (by omega) (by omega)) ?_) | (refine And.intro ⟨by omega, by omega⟩ ?_) | (refine And.intro ⟨by omega, by omega, by omega⟩ ?_) | (intro _)))
      refine Or.inr ?_
      have hwm : IntKind.i64.wrap (0 - IntKind.i64.wrap (N : Int)) = -(N : Int) := neg_wrap (by omega)
      show AV.tup [.i .i64 (IntKind.i64.wrap (0 - IntKind.i64.wrap (N : Int))), .i .i64 0] = AV.tup [.i .i64 (-(N : Int)), .i .i64 0]
      rw [hwm]
theorem s_readP (s : Str) : PSpec Tryd.prog 17 [.s s] (.tup [.i .i64 (readV s).1, .i .i64 (readV s).2]) :=
  pspec_of_VCs Γ_good Tryd.func17 rfl Tryd.call17 Tryd.results17 Tryd.ntmps17 (Nat.le_of_ble_eq_true rfl) (w_readP s) Γ_good
end
end Go.Proofs.YtdcdmojbkmedpaaDoor
end
section
namespace Go.Proofs.YtdcdmojbkmedpaaDoor
set_option linter.unusedSectionVars false
set_option linter.unusedSimpArgs false
set_option linter.unusedVariables false
open Go Go.SX Go.Bg Go.Nm
set_option maxRecDepth 100000
set_option maxHeartbeats 1000000
theorem dcI_ne (d : Int) : dcI d ≠ 45 := by
  unfold dcI
  generalize d.toNat = k
  by_cases h : k < 16
  · rcases (show k = 0 ∨ k = 1 ∨ k = 2 ∨ k = 3 ∨ k = 4 ∨ k = 5 ∨ k = 6 ∨ k = 7 ∨ k = 8 ∨ k = 9 ∨ k = 10 ∨ k = 11 ∨ k = 12 ∨ k = 13 ∨ k = 14 ∨ k = 15 by omega) with rfl | rfl | rfl | rfl | rfl | rfl | rfl | rfl | rfl | rfl | rfl | rfl | rfl | rfl | rfl | rfl <;> decide
  · rw [List.getD_eq_getElem?_getD, List.getElem?_eq_none (show hexS.length ≤ k by show 16 ≤ k; omega)]
    decide
theorem txt_minus (b a : Nat) : minusS (txtN b a) = false := by
  unfold minusS txtN
  split
  · rfl
  · cases (dg b a).reverse with
    | nil => rfl
    | cons x r => exact decide_eq_false (dcI_ne x)
theorem min_rest (w : Str) : minusS (45 :: w) = true ∧ restS (45 :: w) = w := by
  refine ⟨rfl, ?_⟩
  unfold restS
  rw [if_pos (show minusS (45 :: w) = true from rfl)]
  rfl
theorem no_rest {w : Str} (h : minusS w = false) : restS w = w := by
  unfold restS
  rw [if_neg (by rw [h]; decide)]
section
variable [G : Globs]
theorem w_fmt0 (ht : HasNum) (n : Int) (b k : Nat) (hb : b = 2 ^ k) (hk : k = 1 ∨ k = 3 ∨ k = 4) (hc : Lib.ctz 64 b = k) (h0 : -9223372036854775808 ≤ n) (h1 : n ≤ 9223372036854775807) : vc Tryd.prog Γ 54 [0, 1, 4, 5, 6, 7, 9, 11, 17, 23, 34] (Tryd.f136.body.getD .skip) (postK Γ [.tmp 4] (fun v => v = .s (txtB n b))) ⟨argSlots 0 [.i .i64 n, .i .i64 (b : Int)], []⟩ := by
  have hbv : (b = 2 ∧ k = 1) ∨ (b = 8 ∧ k = 3) ∨ (b = 16 ∧ k = 4) := by
    rcases hk with rfl | rfl | rfl
    · exact .inl ⟨hb, rfl⟩
    · exact .inr (.inl ⟨hb, rfl⟩)
    · exact .inr (.inr ⟨hb, rfl⟩)
  have hF := s_fbits ht n b k hb hk hc h0 h1
  (repeat' (first | (refine And.intro (fun h => ?_) (fun h => ?_) <;> (try simp [-List.getD_eq_getElem?_getD, -Int.pred_toNat] at h) <;> (try (exfalso; first | omega | contradiction))) | (refine And.intro (rng64 (by omega) (by omega)) ?_) | (refine And.intro ⟨by omega, by omega⟩ ?_) | (refine And.intro ⟨by omega, by omega, by omega⟩ ?_) | (intro _)))
  refine Or.inl (Exists.intro _ (And.intro (hF) ?_))
  rfl
theorem s_fmt0 (ht : HasNum) (n : Int) (b k : Nat) (hb : b = 2 ^ k) (hk : k = 1 ∨ k = 3 ∨ k = 4) (hc : Lib.ctz 64 b = k) (h0 : -9223372036854775808 ≤ n) (h1 : n ≤ 9223372036854775807) : PSpec Tryd.prog 136 [.i .i64 n, .i .i64 (b : Int)] (.s (txtB n b)) :=
  pspec_of_vc Γ_good Tryd.func136 rfl Tryd.call136 Tryd.results136 Tryd.ntmps136 (Nat.le_of_ble_eq_true rfl) (w_fmt0 ht n b k hb hk hc h0 h1)
theorem w_fmtB (ht : HasNum) (n : Int) (b k : Nat) (hb : b = 2 ^ k) (hk : k = 1 ∨ k = 3 ∨ k = 4) (hc : Lib.ctz 64 b = k) (h0 : -9223372036854775808 ≤ n) (h1 : n ≤ 9223372036854775807) : vc Tryd.prog Γ 8 [0, 1, 4] (Tryd.f70.body.getD .skip) (postK Γ [.tmp 4] (fun v => v = .s (txtB n b))) ⟨argSlots 0 [.i .i64 n, .i .i64 (b : Int)], []⟩ := by
  refine Or.inl (Exists.intro _ (And.intro (s_fmt0 ht n b k hb hk hc h0 h1) ?_))
  rfl
theorem s_fmtB (ht : HasNum) (n : Int) (b k : Nat) (hb : b = 2 ^ k) (hk : k = 1 ∨ k = 3 ∨ k = 4) (hc : Lib.ctz 64 b = k) (h0 : -9223372036854775808 ≤ n) (h1 : n ≤ 9223372036854775807) : PSpec Tryd.prog 70 [.i .i64 n, .i .i64 (b : Int)] (.s (txtB n b)) :=
  pspec_of_vc Γ_good Tryd.func70 rfl Tryd.call70 Tryd.results70 Tryd.ntmps70 (Nat.le_of_ble_eq_true rfl) (w_fmtB ht n b k hb hk hc h0 h1)
theorem w_textP (ht : HasNum) (n : Int) (h0 : -9223372036854775808 ≤ n) (h1 : n ≤ 9223372036854775807) : vc Tryd.prog Γ 5 [0, 2] (Tryd.f20.body.getD .skip) (postK Γ [.tmp 2] (fun v => v = .s (numT n 10))) ⟨argSlots 0 [.i .i64 n], []⟩ := by
  refine Or.inl (Exists.intro _ (And.intro (s_fmt10 ht n h0 h1) ?_))
  rfl
theorem s_textP (ht : HasNum) (n : Int) (h0 : -9223372036854775808 ≤ n) (h1 : n ≤ 9223372036854775807) : PSpec Tryd.prog 20 [.i .i64 n] (.s (numT n 10)) :=
  pspec_of_vc Γ_good Tryd.func20 rfl Tryd.call20 Tryd.results20 Tryd.ntmps20 (Nat.le_of_ble_eq_true rfl) (w_textP ht n h0 h1)
/-- what the program's Base answers at bases 2, 8 and 16 -/
theorem w_baseB (ht : HasNum) (n : Int) (b k : Nat) (hb : b = 2 ^ k) (hk : k = 1 ∨ k = 3 ∨ k = 4) (hc : Lib.ctz 64 b = k) (h0 : -9223372036854775808 ≤ n) (h1 : n ≤ 9223372036854775807) : vc Tryd.prog Γ 35 [0, 1, 4, 5, 6, 7, 8, 9, 10, 11, 13, 15, 17, 27] (Tryd.f19.body.getD .skip) (postK Γ [.tmp 4, .tmp 5] (fun v => v = .tup [.s (numT n b), .i .i64 0])) ⟨argSlots 0 [.i .i64 n, .i .i64 (b : Int)], []⟩ := by
  have hF := s_fmtB ht n b k hb hk hc h0 h1
  have hC := s_cutPre (txtB n b) [45]
  rw [cut_minus, pre_minus] at hC
  have hbv : (b = 2 ∧ k = 1) ∨ (b = 8 ∧ k = 3) ∨ (b = 16 ∧ k = 4) := by
    rcases hk with rfl | rfl | rfl
    · exact .inl ⟨hb, rfl⟩
    · exact .inr (.inl ⟨hb, rfl⟩)
    · exact .inr (.inr ⟨hb, rfl⟩)
  have hlen := txt_len (b := b) (n := n.natAbs) (by omega) (by omega)
  have hfl : (frontS (b : Int)).length ≤ 2 := by
    unfold frontS
    repeat' split
    all_goals simp
  have key : (n < 0 ∧ minusS (txtB n b) = true ∧ restS (txtB n b) = txtN b n.natAbs ∧ numT n b = ([45] ++ frontS (b : Int)) ++ txtN b n.natAbs) ∨ (0 ≤ n ∧ minusS (txtB n b) = false ∧ txtB n b = txtN b n.natAbs ∧ numT n b = frontS (b : Int) ++ txtB n b) := by
    rcases (show n < 0 ∨ 0 ≤ n by omega) with h | h
    · have hB : txtB n b = 45 :: txtN b n.natAbs := by unfold txtB; rw [if_pos h]; rfl
      obtain ⟨m1, m2⟩ := min_rest (txtN b n.natAbs)
      refine .inl ⟨h, by rw [hB]; exact m1, by rw [hB]; exact m2, ?_⟩
      unfold numT
      rw [if_pos h]
    · have hB : txtB n b = txtN b n.natAbs := by unfold txtB; rw [if_neg (by omega)]; rfl
      refine .inr ⟨h, by rw [hB]; exact txt_minus _ _, hB, ?_⟩
      unfold numT
      rw [if_neg (by omega), hB]
      rfl
  rcases hbv with ⟨rfl, rfl⟩ | ⟨rfl, rfl⟩ | ⟨rfl, rfl⟩
  all_goals
    (repeat' (first | (refine And.intro (fun h => ?_) (fun h => ?_) <;> (try simp [-List.getD_eq_getElem?_getD, -Int.pred_toNat] at h) <;> (try (exfalso; first | omega | contradiction))) | (refine And.intro (rng64 (by omega) (by omega)) ?_) | (refine And.intro ⟨by omega, by omega⟩ ?_) | (refine And.intro ⟨by omega, by omega, by omega⟩ ?_) | (intro _)))
    refine Or.inl (Exists.intro _ (And.intro (hF) ?_))
    refine Or.inl (Exists.intro _ (And.intro (hC) ?_))
    rcases key with ⟨_, k1, k2, k3⟩ | ⟨_, k1, k2, k3⟩
    · refine And.intro (fun _ => ?_) (fun h => by rw [k1] at h; cases h)
      rw [k3]
      refine And.intro (show 3 ≤ maxLen by decide) ?_
      refine And.intro (by rw [k2]; show 3 + (txtN _ n.natAbs).length ≤ maxLen; unfold maxLen; omega) ?_
      rw [k2]
      rfl
    · refine And.intro (fun h => by rw [k1] at h; cases h) (fun _ => ?_)
      rw [k3]
      refine And.intro (by rw [k2]; show 2 + (txtN _ n.natAbs).length ≤ maxLen; unfold maxLen; omega) ?_
      rfl
theorem s_baseB (ht : HasNum) (n : Int) (b k : Nat) (hb : b = 2 ^ k) (hk : k = 1 ∨ k = 3 ∨ k = 4) (hc : Lib.ctz 64 b = k) (h0 : -9223372036854775808 ≤ n) (h1 : n ≤ 9223372036854775807) : PSpec Tryd.prog 19 [.i .i64 n, .i .i64 (b : Int)] (.tup [.s (numT n b), .i .i64 0]) :=
  pspec_of_vc Γ_good Tryd.func19 rfl Tryd.call19 Tryd.results19 Tryd.ntmps19 (Nat.le_of_ble_eq_true rfl) (w_baseB ht n b k hb hk hc h0 h1)
theorem w_baseT (ht : HasNum) (n : Int) (h0 : -9223372036854775808 ≤ n) (h1 : n ≤ 9223372036854775807) : vc Tryd.prog Γ 35 [0, 1, 4, 5, 6, 7, 8, 9, 10, 11, 13, 15, 17, 27] (Tryd.f19.body.getD .skip) (postK Γ [.tmp 4, .tmp 5] (fun v => v = .tup [.s (numT n 10), .i .i64 0])) ⟨argSlots 0 [.i .i64 n, .i .i64 10], []⟩ := by
  have hF := s_fmt10 ht n h0 h1
  have hC := s_cutPre (numT n 10) [45]
  rw [cut_minus, pre_minus] at hC
  have hlen := txt_len (b := 10) (n := n.natAbs) (by decide) (by omega)
  have key : (n < 0 ∧ minusS (numT n 10) = true ∧ restS (numT n 10) = txtN 10 n.natAbs ∧ numT n 10 = 45 :: txtN 10 n.natAbs) ∨ (0 ≤ n ∧ minusS (numT n 10) = false ∧ numT n 10 = txtN 10 n.natAbs) := by
    rcases (show n < 0 ∨ 0 ≤ n by omega) with h | h
    · have hB : numT n 10 = 45 :: txtN 10 n.natAbs := by unfold numT; rw [if_pos h]; rfl
      obtain ⟨m1, m2⟩ := min_rest (txtN 10 n.natAbs)
      exact .inl ⟨h, by rw [hB]; exact m1, by rw [hB]; exact m2, hB⟩
    · have hB : numT n 10 = txtN 10 n.natAbs := by unfold numT; rw [if_neg (by omega)]; rfl
      exact .inr ⟨h, by rw [hB]; exact txt_minus _ _, hB⟩
  (repeat' (first | (refine And.intro (fun h => ?_) (fun h => ?_) <;> (try simp [-List.getD_eq_getElem?_getD, -Int.pred_toNat] at h) <;> (try (exfalso; first | omega | contradiction))) | (refine And.intro (rng64 (by omega) (by omega)) ?_) | (refine And.intro ⟨by omega, by omega⟩ ?_) | (refine And.intro ⟨by omega, by omega, by omega⟩ ?_) | (intro _)))
  refine Or.inl (Exists.intro _ (And.intro (hF) ?_))
  refine Or.inl (Exists.intro _ (And.intro (hC) ?_))
  rcases key with ⟨_, k1, k2, k3⟩ | ⟨_, k1, k3⟩
  · refine And.intro (fun _ => ?_) (fun h => by rw [k1] at h; cases h)
    refine And.intro (show 1 ≤ maxLen by decide) ?_
    refine And.intro (by rw [k2]; show 1 + (txtN _ n.natAbs).length ≤ maxLen; unfold maxLen; omega) ?_
    rw [k2, k3]
    rfl
  · refine And.intro (fun h => by rw [k1] at h; cases h) (fun _ => ?_)
    refine And.intro (by rw [k3]; show 0 + (txtN _ n.natAbs).length ≤ maxLen; unfold maxLen; omega) ?_
    rfl
theorem s_baseT (ht : HasNum) (n : Int) (h0 : -9223372036854775808 ≤ n) (h1 : n ≤ 9223372036854775807) : PSpec Tryd.prog 19 [.i .i64 n, .i .i64 10] (.tup [.s (numT n 10), .i .i64 0]) :=
  pspec_of_vc Γ_good Tryd.func19 rfl Tryd.call19 Tryd.results19 Tryd.ntmps19 (Nat.le_of_ble_eq_true rfl) (w_baseT ht n h0 h1)
theorem w_baseX (n b : Int) (hb : b ≠ 2 ∧ b ≠ 8 ∧ b ≠ 10 ∧ b ≠ 16) : vc Tryd.prog Γ 35 [0, 1, 4, 5, 6, 7, 8, 9, 10, 11, 13, 15, 17, 27] (Tryd.f19.body.getD .skip) (postK Γ [.tmp 4, .tmp 5] (fun v => v = .tup [.s [], .i .i64 1])) ⟨argSlots 0 [.i .i64 n, .i .i64 b], []⟩ := by
  obtain ⟨a1, a2, a3, a4⟩ := hb
  (repeat' (first | (refine And.intro (fun h => ?_) (fun h => ?_) <;> (try simp [-List.getD_eq_getElem?_getD, -Int.pred_toNat] at h) <;> (try (exfalso; first | omega | contradiction))) | (refine And.intro (rng64 (by omega) (by omega)) ?_) | (refine And.intro ⟨by omega, by omega⟩ ?_) | (refine And.intro ⟨by omega, by omega, by omega⟩ ?_) | (intro _)))
  rfl
theorem s_baseX (n b : Int) (hb : b ≠ 2 ∧ b ≠ 8 ∧ b ≠ 10 ∧ b ≠ 16) : PSpec Tryd.prog 19 [.i .i64 n, .i .i64 b] (.tup [.s [], .i .i64 1]) :=
  pspec_of_vc Γ_good Tryd.func19 rfl Tryd.call19 Tryd.results19 Tryd.ntmps19 (Nat.le_of_ble_eq_true rfl) (w_baseX n b hb)
theorem w_law (ht : HasNum) (s : Str) (n b : Int) (h0 : -9223372036854775808 ≤ n) (h1 : n ≤ 9223372036854775807) : vc Tryd.prog Γ 73 [0, 1, 2, 6, 7, 8, 9, 10, 11, 12, 43, 57] (Tryd.f4.body.getD .skip) (postK Γ [.tmp 6] (fun v => v = .b true)) ⟨argSlots 0 [.s s, .i .i64 n, .i .i64 b], []⟩ := by
  have hB : ∃ t e, PSpec Tryd.prog 19 [.i .i64 n, .i .i64 b] (.tup [.s t, .i .i64 e]) ∧ ((b = 2 ∨ b = 8 ∨ b = 10 ∨ b = 16) → e = 0 ∧ PSpec Tryd.prog 21 [.i .i64 n, .i .i64 b] (.s t)) ∧ (¬ (b = 2 ∨ b = 8 ∨ b = 10 ∨ b = 16) → e = 1 ∧ t = []) := by
    by_cases hb : b = 2 ∨ b = 8 ∨ b = 10 ∨ b = 16
    · rcases hb with rfl | rfl | rfl | rfl
      · exact ⟨_, _, s_baseB ht n 2 1 rfl (by omega) (by decide) h0 h1, fun _ => ⟨rfl, s_numText n 2 (by omega) h0 h1⟩, fun h => absurd (by omega) h⟩
      · exact ⟨_, _, s_baseB ht n 8 3 rfl (by omega) (by decide) h0 h1, fun _ => ⟨rfl, s_numText n 8 (by omega) h0 h1⟩, fun h => absurd (by omega) h⟩
      · exact ⟨_, _, s_baseT ht n h0 h1, fun _ => ⟨rfl, s_numText n 10 (by omega) h0 h1⟩, fun h => absurd (by omega) h⟩
      · exact ⟨_, _, s_baseB ht n 16 4 rfl (by omega) (by decide) h0 h1, fun _ => ⟨rfl, s_numText n 16 (by omega) h0 h1⟩, fun h => absurd (by omega) h⟩
    · exact ⟨_, _, s_baseX n b ⟨fun h => hb (by omega), fun h => hb (by omega), fun h => hb (by omega), fun h => hb (by omega)⟩, fun h => absurd h hb, fun _ => ⟨rfl, rfl⟩⟩
  obtain ⟨t, e, hB, hy, hn⟩ := hB
  refine Or.inl (Exists.intro _ (And.intro (s_readP s) ?_))
  refine Or.inl (Exists.intro _ (And.intro (s_readNum s) ?_))
  refine Or.inl (Exists.intro _ (And.intro (hB) ?_))
  have r1 : ((readV s).1 != (readV s).1) = false := by simp
  have r2 : ((readV s).2 != (readV s).2) = false := by simp
  have r3 : (numT n 10 != numT n 10) = false := by simp
  refine And.intro (fun _ => ?_) (fun h => by have h : ((readV s).1 != (readV s).1) = true := h; rw [r1] at h; cases h)
  refine And.intro (fun _ => ?_) (fun h => by have h : ((readV s).2 != (readV s).2) = true := h; rw [r2] at h; cases h)
  refine Or.inl (Exists.intro _ (And.intro (s_textP ht n h0 h1) ?_))
  have hN10 : PSpec Tryd.prog 21 [.i .i64 n, .i .i64 10] (.s (numT n 10)) := s_numText n 10 (by omega) h0 h1
  refine Or.inl (Exists.intro _ (And.intro (hN10) ?_))
  refine And.intro (fun h => by have h : (numT n 10 != numT n 10) = true := h; rw [r3] at h; cases h) (fun _ => ?_)
  by_cases hb : b = 2 ∨ b = 8 ∨ b = 10 ∨ b = 16
  · obtain ⟨rfl, hY⟩ := hy hb
    clear hn hy
    rcases hb with rfl | rfl | rfl | rfl
    all_goals
      (repeat' (first | (refine And.intro (fun h => ?_) (fun h => ?_) <;> (try simp [-List.getD_eq_getElem?_getD, -Int.pred_toNat] at h) <;> (try (exfalso; first | omega | contradiction))) | (refine And.intro (rng64 (by omega) (by omega)) ?_) | (refine And.intro ⟨by omega, by omega⟩ ?_) | (refine And.intro ⟨by omega, by omega, by omega⟩ ?_) | (intro _)))
      refine Or.inl (Exists.intro _ (And.intro (hY) ?_))
      exact congrArg AV.b (beq_self_eq_true t)
  · obtain ⟨rfl, rfl⟩ := hn hb
    clear hn hy
    (repeat' (first | (refine And.intro (fun h => ?_) (fun h => ?_) <;> (try simp [-List.getD_eq_getElem?_getD, -Int.pred_toNat] at h) <;> (try (exfalso; first | omega | contradiction))) | (refine And.intro (rng64 (by omega) (by omega)) ?_) | (refine And.intro ⟨by omega, by omega⟩ ?_) | (refine And.intro ⟨by omega, by omega, by omega⟩ ?_) | (intro _)))
    rfl
theorem s_law (ht : HasNum) (s : Str) (n b : Int) (h0 : -9223372036854775808 ≤ n) (h1 : n ≤ 9223372036854775807) : PSpec Tryd.prog 4 [.s s, .i .i64 n, .i .i64 b] (.b true) :=
  pspec_of_vc Γ_good Tryd.func4 rfl Tryd.call4 Tryd.results4 Tryd.ntmps4 (Nat.le_of_ble_eq_true rfl) (w_law ht s n b h0 h1)
end
end Go.Proofs.YtdcdmojbkmedpaaDoor
end
section
namespace Go.SX
set_option linter.unusedSectionVars false
variable [Globs]
open Go.RowKit Go.WideShapes Go.ChangeShapes Go.Deep
theorem mapM_at {α β : Type} {f : α → Option β} : ∀ {l : List α} {r : List β}, l.mapM f = some r → r.length = l.length ∧ ∀ (j : Nat) x, l[j]? = some x → f x = r[j]? := by
  intro l
  induction l with
  | nil => intro r h; simp at h; subst h; exact ⟨rfl, fun j x h => by simp at h⟩
  | cons a l ih =>
    intro r h
    simp only [List.mapM_cons, Option.bind_eq_bind, Option.bind_eq_some_iff] at h
    obtain ⟨b, hb, bs, hbs, h⟩ := h
    have h : b :: bs = r := by injection h
    subst h
    obtain ⟨h1, h2⟩ := ih hbs
    refine ⟨by simp [h1], fun j x hx => ?_⟩
    cases j with
    | zero => simp at hx; subst hx; simpa using hb
    | succ j => simpa using h2 j x (by simpa using hx)
section
variable {H : Type} {encH : TypeId × Value → H} {P : Program} {W : World} {sp : Nat → Bool} {hd : Bool} {O : Nat → Prop}

theorem cells_get {w : World} {base : Nat} {a : Addr} {n : Nat} {cs : List Value} (h : w.cells? base a n = some cs) : cs.length = n ∧ ∀ (j : Nat) v, cs[j]? = some v → w.cell? (a.add j) = some v := by
  unfold World.cells? at h
  split at h
  · obtain ⟨h1, h2⟩ := mapM_at h
    rw [List.length_range] at h1
    refine ⟨h1, fun j v hv => ?_⟩
    have hj : j < n := by rw [← h1]; exact (List.getElem?_eq_some_iff.1 hv).1
    rw [h2 j j (by simp [hj]), hv]
  · cases h
theorem add_of {a : Addr} {n : Nat} (h : (a.add n).spot = none) : a.add n = ⟨a.block, a.off + n, none⟩ := by
  unfold Addr.add at h ⊢
  split
  · rename_i h0
    rw [if_pos h0] at h
    obtain ⟨b, o, s⟩ := a
    simp only at h
    subst h h0
    rfl
  · rfl
theorem arg_int {t : TypeId} {k : IntKind} {fuel : Nat} {cs : List Value} {x : DataW H × List MemPlace} (ht : P.underlying t = some (.int k)) (h : DataW.trod encH P W 0 sp hd fuel t cs = some x) : ∃ n, cs = [.int k n] ∧ Im O W (.i k n) (.int k n) ∧ (Lit.int k n).wf = true := by
  obtain ⟨n, h1, _, h2⟩ := DataW.trod_int ht h
  exact ⟨n, h1, .i k n, h2⟩
theorem arg_str {t : TypeId} {fuel : Nat} {cs : List Value} {x : DataW H × List MemPlace} (ht : P.underlying t = some .string) (h : DataW.trod encH P W 0 sp hd fuel t cs = some x) : ∃ (l : Str) (v : Value), cs = [v] ∧ Im O W (.s l) v := by
  obtain ⟨s, h1, _, h2⟩ := DataW.trod_string ht h
  refine ⟨s.data.toList, .string s, h1, ?_⟩
  have := Im.s (O := O) (w := W) s.data.toList (by rw [Array.length_toList]; exact h2)
  simpa using this
theorem arg_bool {t : TypeId} {fuel : Nat} {cs : List Value} {x : DataW H × List MemPlace} (ht : P.underlying t = some .bool) (h : DataW.trod encH P W 0 sp hd fuel t cs = some x) : ∃ b, cs = [.bool b] ∧ Im O W (.b b) (.bool b) := by
  obtain ⟨b, h1, _⟩ := DataW.trod_bool ht h
  exact ⟨b, h1, .b b⟩
/-- a slice, by its elements -/
theorem arg_slice {t e : TypeId} {τ : Ty} (hO : ∀ k, ¬ O k) (ht : P.underlying t = some (.slice e)) (hc : P.cellsOf e = esz τ)
    (hel : ∀ (n : Nat) (cs : List Value) (x : DataW H × List MemPlace), DataW.trod encH P W 0 sp hd n e cs = some x → ∃ y : den τ, All2 (Im O W) (enc τ y) cs)
    {fuel : Nat} {cs : List Value} {x : DataW H × List MemPlace} (h : DataW.trod encH P W 0 sp hd fuel t cs = some x) : ∃ (l : List (den τ)) (v : Value), cs = [v] ∧ Im O W (.rd τ l) v := by
  rcases open_slice ht h with ⟨rfl, _⟩ | ⟨a, len, cap, m, n, D, Pl, rfl, hb, hlc, hcm, hm, _, hall⟩
  · exact ⟨[], _, rfl, .rd0 τ none 0 (Nat.zero_le _)⟩
  have hlm : len ≤ m := by rw [hm]; split <;> omega
  by_cases h0 : len = 0
  · subst h0; exact ⟨[], _, rfl, .rd0 τ _ _ hcm⟩
  have hch : ∀ i, i < len → ∃ (y : den τ) (us : List Value), All2 (Im O W) (enc τ y) us ∧ us.length = esz τ ∧ ∀ (j : Nat) v, us[j]? = some v → W.cell? ⟨a.block, a.off + (i * esz τ + j), none⟩ = some v := by
    intro i hi
    obtain ⟨us, h1, h2⟩ := hall i (by omega)
    obtain ⟨y, hy⟩ := hel _ _ _ h2
    rw [hc] at h1
    obtain ⟨h3, h4⟩ := cells_get h1
    refine ⟨y, us, hy, h3, fun j v hv => ?_⟩
    have h5 := h4 j v hv
    have hs : ∀ j v, us[j]? = some v → ((a.add (i * esz τ)).add j).spot = none := fun j v hv => World.cell?_spot (h4 j v hv)
    have hpos := esz_pos τ
    have h00 : (a.add (i * esz τ)).spot = none := by
      have := hs 0 (us[0]'(by omega)) (List.getElem?_eq_getElem _)
      simpa [Addr.add] using this
    have e1 := add_of h00
    rw [e1] at h5
    rw [add_none] at h5
    rw [← h5, Nat.add_assoc]
  have ys : ∃ l : List (den τ), l.length = len ∧ ∀ (i : Nat) y, l[i]? = some y → ∃ us : List Value, All2 (Im O W) (enc τ y) us ∧ ∀ (j : Nat) v, us[j]? = some v → W.cell? ⟨a.block, a.off + (i * esz τ + j), none⟩ = some v := by
    have hch' := fun (i : Fin len) => hch i.1 i.2
    refine ⟨List.ofFn fun i : Fin len => Classical.choose (hch' i), by simp, fun i y hy => ?_⟩
    have hi : i < len := by have := (List.getElem?_eq_some_iff.1 hy).1; simpa using this
    rw [List.getElem?_ofFn, dif_pos hi] at hy
    injection hy with hy
    subst hy
    obtain ⟨us, h1, _, h2⟩ := Classical.choose_spec (hch' ⟨i, hi⟩)
    exact ⟨us, h1, h2⟩
  obtain ⟨l, hll, hl⟩ := ys
  refine ⟨l, _, rfl, ?_⟩
  have hane : a = ⟨a.block, a.off, none⟩ := by
    obtain ⟨y, us, _, h3, h4⟩ := hch 0 (by omega)
    obtain ⟨us', h1, h2⟩ := hall 0 (by omega)
    have hpos := esz_pos τ
    rw [hc] at h1
    obtain ⟨h5, h6⟩ := cells_get h1
    have := World.cell?_spot (h6 0 (us'[0]'(by omega)) (List.getElem?_eq_getElem _))
    simp [Addr.add] at this
    obtain ⟨b, o, s⟩ := a
    simp only at this
    subst this
    rfl
  rw [hane, ← hll]
  refine .rd τ l a.block a.off cap (fun i j => (W.cell? ⟨a.block, a.off + (i * esz τ + j), none⟩).getD undef) (hO _) (by omega) hcm (fun e => h0 (by rw [← hll, e]; rfl)) (fun i y j av hy hav => ?_) (fun i y j av hy hav => ?_)
  · obtain ⟨us, h1, h2⟩ := hl i y hy
    have hj : j < us.length := by rw [← h1.1]; exact (List.getElem?_eq_some_iff.1 hav).1
    rw [h2 j _ (List.getElem?_eq_getElem hj)]; rfl
  · obtain ⟨us, h1, h2⟩ := hl i y hy
    have hj : j < us.length := by rw [← h1.1]; exact (List.getElem?_eq_some_iff.1 hav).1
    rw [h2 j _ (List.getElem?_eq_getElem hj)]
    exact h1.2 j av _ hav (List.getElem?_eq_getElem hj)
/-- a struct of cells: each field's one -/
theorem one_field {t : TypeId} {fs : Array Field} {fuel : Nat} {cs : List Value} {x : DataW H × List MemPlace} (ht : P.underlying t = some (.struct fs)) (h : DataW.trod encH P W 0 sp hd fuel t cs = some x) :
    cs.length = P.cellsOf t ∧ ∃ n, ∀ (i : Nat) (f : Field), fs[i]? = some f → ∃ y, DataW.trod encH P W 0 sp hd n f.type ((cs.drop f.offset).take (P.cellsOf f.type)) = some y := by
  obtain ⟨xs, n, _, _, h1, h2, h3⟩ := DataW.trod_struct ht h
  refine ⟨h1, n, fun i f hf => ?_⟩
  have hi : i < xs.length := by rw [h2]; exact (Array.getElem?_eq_some_iff.1 hf).1
  rw [h3 i f hf, List.getElem?_eq_getElem hi]
  exact ⟨_, rfl⟩
theorem arg_part {t : TypeId} {f0 f1 f2 : Field} {fuel : Nat} {cs : List Value} {x : DataW H × List MemPlace} (ht : P.underlying t = some (.struct #[f0, f1, f2])) (hC : P.cellsOf t = 3)
    (ho : f0.offset = 0 ∧ f1.offset = 1 ∧ f2.offset = 2) (hc : P.cellsOf f0.type = 1 ∧ P.cellsOf f1.type = 1 ∧ P.cellsOf f2.type = 1)
    (h0 : P.underlying f0.type = some (.int .i64)) (h1 : P.underlying f1.type = some (.int .i64)) (h2 : P.underlying f2.type = some .string)
    (h : DataW.trod encH P W 0 sp hd fuel t cs = some x) : ∃ y : den .part, All2 (Im O W) (enc .part y) cs := by
  obtain ⟨hl, n, hf⟩ := one_field ht h
  rw [hC] at hl
  match cs, hl with
  | [u0, u1, u2], _ =>
    obtain ⟨_, g0⟩ := hf 0 f0 rfl
    obtain ⟨_, g1⟩ := hf 1 f1 rfl
    obtain ⟨_, g2⟩ := hf 2 f2 rfl
    rw [ho.1, hc.1] at g0
    rw [ho.2.1, hc.2.1] at g1
    rw [ho.2.2, hc.2.2] at g2
    obtain ⟨a, e0, i0, _⟩ := arg_int (O := O) h0 g0
    obtain ⟨b, e1, i1, _⟩ := arg_int (O := O) h1 g1
    obtain ⟨s, v, e2, i2⟩ := arg_str (O := O) h2 g2
    simp at e0 e1 e2
    subst e0 e1 e2
    exact ⟨⟨a, b, s⟩, All2.cons i0 (All2.cons i1 (All2.cons i2 (All2.nil _)))⟩
theorem slice_shape {t e : TypeId} {fuel : Nat} {cs : List Value} {x : DataW H × List MemPlace} (ht : P.underlying t = some (.slice e)) (h : DataW.trod encH P W 0 sp hd fuel t cs = some x) : ∃ u, cs = [u] ∧ u.oneCell' = true := by
  rcases open_slice ht h with ⟨rfl, _⟩ | ⟨a, len, cap, m, n, D, Pl, rfl, _⟩
  · exact ⟨_, rfl, rfl⟩
  · exact ⟨_, rfl, rfl⟩
/-- a node, of whose kids nothing is asked -/
theorem arg_node {t e : TypeId} {f0 f1 f2 f3 : Field} {fuel : Nat} {cs : List Value} {x : DataW H × List MemPlace} (ht : P.underlying t = some (.struct #[f0, f1, f2, f3])) (hC : P.cellsOf t = 4)
    (ho : f0.offset = 0 ∧ f1.offset = 1 ∧ f2.offset = 2 ∧ f3.offset = 3) (hc : P.cellsOf f0.type = 1 ∧ P.cellsOf f1.type = 1 ∧ P.cellsOf f2.type = 1 ∧ P.cellsOf f3.type = 1)
    (h0 : P.underlying f0.type = some (.int .i64)) (h1 : P.underlying f1.type = some (.int .i64)) (h2 : P.underlying f2.type = some (.int .i64)) (h3 : P.underlying f3.type = some (.slice e))
    (h : DataW.trod encH P W 0 sp hd fuel t cs = some x) : ∃ (a b c : Int) (u : Value), cs = [.int .i64 a, .int .i64 b, .int .i64 c, u] ∧ u.oneCell' = true ∧ (Lit.int .i64 c).wf = true := by
  obtain ⟨hl, n, hf⟩ := one_field ht h
  rw [hC] at hl
  match cs, hl with
  | [u0, u1, u2, u3], _ =>
    obtain ⟨_, g0⟩ := hf 0 f0 rfl
    obtain ⟨_, g1⟩ := hf 1 f1 rfl
    obtain ⟨_, g2⟩ := hf 2 f2 rfl
    obtain ⟨_, g3⟩ := hf 3 f3 rfl
    rw [ho.1, hc.1] at g0
    rw [ho.2.1, hc.2.1] at g1
    rw [ho.2.2.1, hc.2.2.1] at g2
    rw [ho.2.2.2, hc.2.2.2] at g3
    obtain ⟨a, e0, _, _⟩ := arg_int (O := fun _ => False) h0 g0
    obtain ⟨b, e1, _, _⟩ := arg_int (O := fun _ => False) h1 g1
    obtain ⟨c, e2, _, w2⟩ := arg_int (O := fun _ => False) h2 g2
    obtain ⟨u, e3, o3⟩ := slice_shape h3 g3
    simp at e0 e1 e2 e3
    subst e0 e1 e2 e3
    exact ⟨a, b, c, _, rfl, o3, w2⟩
end
theorem wf_i64 {n : Int} (h : (Lit.int .i64 n).wf = true) : (-9223372036854775808 : Int) ≤ n ∧ n ≤ (9223372036854775807 : Int) := by
  simp only [Lit.wf, Bool.and_eq_true, decide_eq_true_eq] at h; exact h
theorem wf_i32 {n : Int} (h : (Lit.int .i32 n).wf = true) : (-2147483648 : Int) ≤ n ∧ n ≤ (2147483647 : Int) := by
  simp only [Lit.wf, Bool.and_eq_true, decide_eq_true_eq] at h; exact h
theorem wf_u8 {n : Int} (h : (Lit.int .u8 n).wf = true) : (0 : Int) ≤ n ∧ n ≤ (255 : Int) := by
  simp only [Lit.wf, Bool.and_eq_true, decide_eq_true_eq] at h; exact h
theorem wf_u32 {n : Int} (h : (Lit.int .u32 n).wf = true) : (0 : Int) ≤ n ∧ n ≤ (4294967295 : Int) := by
  simp only [Lit.wf, Bool.and_eq_true, decide_eq_true_eq] at h; exact h
theorem wf_u64 {n : Int} (h : (Lit.int .u64 n).wf = true) : (0 : Int) ≤ n ∧ n ≤ (18446744073709551615 : Int) := by
  simp only [Lit.wf, Bool.and_eq_true, decide_eq_true_eq] at h; exact h
end Go.SX
end
section
namespace Go.SX
set_option linter.unusedSectionVars false
variable [Globs]
open Go.RowKit Go.WideShapes Go.ChangeShapes Go.Deep
section
variable {H : Type} {encH : TypeId × Value → H} {P : Program} {W : World} {sp : Nat → Bool} {hd : Bool} {O : Nat → Prop}
/-- a slice, by its elements, beside what is read of them -/
theorem arg_sliceR {t e : TypeId} {τ : Ty} {R : den τ → DataW H → Prop} (hO : ∀ k, ¬ O k) (ht : P.underlying t = some (.slice e)) (hc : P.cellsOf e = esz τ)
    (hel : ∀ (n : Nat) (cs : List Value) (x : DataW H × List MemPlace), DataW.trod encH P W 0 sp hd n e cs = some x → ∃ y : den τ, All2 (Im O W) (enc τ y) cs ∧ R y x.1)
    {fuel : Nat} {cs : List Value} {x : DataW H × List MemPlace} (h : DataW.trod encH P W 0 sp hd fuel t cs = some x) : ∃ (l : List (den τ)) (v : Value), cs = [v] ∧ Im O W (.rd τ l) v ∧ ((x.1 = .nil ∧ l = []) ∨ ∃ els rest, x.1 = .slice els rest ∧ els.length = l.length ∧ ∀ (i : Nat) y d, l[i]? = some y → els[i]? = some d → R y d) := by
  rcases open_slice ht h with ⟨rfl, rfl⟩ | ⟨a, len, cap, m, n, D, Pl, rfl, hb, hlc, hcm, hm, rfl, hall⟩
  · exact ⟨[], _, rfl, .rd0 τ none 0 (Nat.zero_le _), .inl ⟨rfl, rfl⟩⟩
  have hlm : len ≤ m := by rw [hm]; split <;> omega
  by_cases h0 : len = 0
  · subst h0; exact ⟨[], _, rfl, .rd0 τ _ _ hcm, .inr ⟨_, _, rfl, rfl, fun i y d hy _ => by simp at hy⟩⟩
  have hch : ∀ i, i < len → ∃ (y : den τ) (us : List Value), (All2 (Im O W) (enc τ y) us ∧ R y (D i)) ∧ us.length = esz τ ∧ ∀ (j : Nat) v, us[j]? = some v → W.cell? ⟨a.block, a.off + (i * esz τ + j), none⟩ = some v := by
    intro i hi
    obtain ⟨us, h1, h2⟩ := hall i (by omega)
    obtain ⟨y, hy⟩ := hel _ _ _ h2
    rw [hc] at h1
    obtain ⟨h3, h4⟩ := cells_get h1
    refine ⟨y, us, hy, h3, fun j v hv => ?_⟩
    have h5 := h4 j v hv
    have hs : ∀ j v, us[j]? = some v → ((a.add (i * esz τ)).add j).spot = none := fun j v hv => World.cell?_spot (h4 j v hv)
    have hpos := esz_pos τ
    have h00 : (a.add (i * esz τ)).spot = none := by
      have := hs 0 (us[0]'(by omega)) (List.getElem?_eq_getElem _)
      simpa [Addr.add] using this
    have e1 := add_of h00
    rw [e1] at h5
    rw [add_none] at h5
    rw [← h5, Nat.add_assoc]
  have ys : ∃ l : List (den τ), l.length = len ∧ ∀ (i : Nat) y, l[i]? = some y → ∃ us : List Value, (All2 (Im O W) (enc τ y) us ∧ R y (D i)) ∧ ∀ (j : Nat) v, us[j]? = some v → W.cell? ⟨a.block, a.off + (i * esz τ + j), none⟩ = some v := by
    have hch' := fun (i : Fin len) => hch i.1 i.2
    refine ⟨List.ofFn fun i : Fin len => Classical.choose (hch' i), by simp, fun i y hy => ?_⟩
    have hi : i < len := by have := (List.getElem?_eq_some_iff.1 hy).1; simpa using this
    rw [List.getElem?_ofFn, dif_pos hi] at hy
    injection hy with hy
    subst hy
    obtain ⟨us, h1, _, h2⟩ := Classical.choose_spec (hch' ⟨i, hi⟩)
    exact ⟨us, h1, h2⟩
  obtain ⟨l, hll, hl⟩ := ys
  refine ⟨l, _, rfl, ?_, .inr ⟨_, _, rfl, by simp [hll], fun i y d hy hd => ?_⟩⟩
  rotate_left
  · obtain ⟨us, h1, _⟩ := hl i y hy
    have hi : i < len := by rw [← hll]; exact (List.getElem?_eq_some_iff.1 hy).1
    rw [List.getElem?_map, List.getElem?_range hi] at hd
    injection hd with hd
    subst hd
    exact h1.2
  have hane : a = ⟨a.block, a.off, none⟩ := by
    obtain ⟨y, us, _, h3, h4⟩ := hch 0 (by omega)
    obtain ⟨us', h1, h2⟩ := hall 0 (by omega)
    have hpos := esz_pos τ
    rw [hc] at h1
    obtain ⟨h5, h6⟩ := cells_get h1
    have := World.cell?_spot (h6 0 (us'[0]'(by omega)) (List.getElem?_eq_getElem _))
    simp [Addr.add] at this
    obtain ⟨b, o, s⟩ := a
    simp only at this
    subst this
    rfl
  rw [hane, ← hll]
  refine .rd τ l a.block a.off cap (fun i j => (W.cell? ⟨a.block, a.off + (i * esz τ + j), none⟩).getD undef) (hO _) (by omega) hcm (fun e => h0 (by rw [← hll, e]; rfl)) (fun i y j av hy hav => ?_) (fun i y j av hy hav => ?_)
  · obtain ⟨us, h1, h2⟩ := hl i y hy
    have hj : j < us.length := by rw [← h1.1.1]; exact (List.getElem?_eq_some_iff.1 hav).1
    rw [h2 j _ (List.getElem?_eq_getElem hj)]; rfl
  · obtain ⟨us, h1, h2⟩ := hl i y hy
    have hj : j < us.length := by rw [← h1.1.1]; exact (List.getElem?_eq_some_iff.1 hav).1
    rw [h2 j _ (List.getElem?_eq_getElem hj)]
    exact h1.1.2 j av _ hav (List.getElem?_eq_getElem hj)
end
end Go.SX
end
section
namespace Go.Proofs.YtdcdmojbkmedpaaDoor.numTells
set_option linter.unusedSectionVars false
set_option linter.unusedSimpArgs false
set_option linter.unusedVariables false
open Go Go.SX Go.Bg Go.Nm
open Go.ChangeShapes Go.WideShapes Go.ChangeAt Go.RowKit
set_option maxRecDepth 100000
theorem own : ownKnob Tryd.prog.godebug = none := by kernel_rfl
theorem laidOut : laidOutB Tryd.prog = true := by kernel_rfl
theorem cell_block {w : World} {g o : Nat} {k : IntKind} {n : Int} (h : w.cell? ⟨g, o, none⟩ = some (.int k n)) : ∃ cur e fz, w.heap[g]? = some (.cells cur e fz) ∧ cur[o]? = some (.int k n) := by
  unfold World.cell? at h
  split at h
  · rename_i cur e fz hh
    exact ⟨_, _, _, hh, by simpa using h⟩
  · cases h
theorem tabIs_of_reads {P : Program} {W : World} {name : String} {k : IntKind} {zs : List Int} {g : Nat} {t e : TypeId} {n : Nat}
    (hg : P.globalNamed name = some g) (hty : (P.globals[g]?).map (·.type) = some t) (ht : P.underlying t = some (.array n e)) (he : P.underlying e = some (.int k)) (hce : P.cellsOf e = 1) (hct : P.cellsOf t = n)
    (h : Lib.VarReads P W name (Lib.tabData k zs)) : Lib.TabIs P W name k zs := by
  obtain ⟨g', t', cs, fuel, p, hg', ht', hvar, hd⟩ := h
  obtain rfl := Option.some.inj (hg.symm.trans hg')
  obtain rfl := Option.some.inj (hty.symm.trans ht')
  unfold Lib.TabIs
  rw [hvar, ← Lib.cells_of_tab ht he hce hct hd]
theorem tabIs_block {P : Program} {W w : World} {name : String} {k : IntKind} {zs : List Int} {g : Nat} (hg : P.globalNamed name = some g) (hh : w.heap[g]? = W.heap[g]?) (h : Lib.TabIs P W name k zs) : Lib.TabIs P w name k zs := by
  unfold Lib.TabIs World.var? at *
  rw [hg] at h ⊢
  simp only [Option.bind_some] at h ⊢
  rw [hh]
  exact h
def bits64 : List Int := Lib.deBruijn64tab.map fun (n : Nat) => (n : Int)
theorem bits64_len : bits64.length = Lib.deBruijn64tab.length := List.length_map ..
theorem bits64_at (j : Nat) : bits64.getD j 0 = ((Lib.deBruijn64tab.getD j 0 : Nat) : Int) := by
  unfold bits64
  rw [List.getD_eq_getElem?_getD, List.getElem?_map, List.getD_eq_getElem?_getD]
  cases Lib.deBruijn64tab[j]? <;> rfl
theorem contract (H : Type) (enc : TypeId × Value → H) (W : World) (base : Nat) (args : Array Value) (ds gs : List (DataW H)) (before : List MemPlace)
    (hval : ∀ (j : Nat) t v, Tryd.f4.params[j]? = some t → args[j]? = some v → Value.okWide Tryd.prog W .any base t v)
    (hW : DataW.Whole enc Tryd.prog Tryd.f4.params.toList Rows.numTellsSpec.vars false W args.toList ds gs before) (hk : Rows.uptoSmall H (ds ++ gs) = true) (hL : laidMetH Tryd.prog Rows.numTellsUptoRow.laid W) :
    Calls Tryd.prog 4 args W fun e W' => ∃ v, e = .returned v ∧ Rows.numTellsSpec.post enc Tryd.prog Tryd.f4 false true false false W args v W' := by
  have hW' := hW
  obtain ⟨p, q, hA0, hV, rfl, hfz, hnd⟩ := hW
  have hA : DataW.TrodAll enc Tryd.prog W 0 (fun _ => true) true Tryd.f4.params.toList args.toList ds p := hA0
  rw [Tryd.params4] at hA hval
  obtain ⟨v0, vs0, d0, ds0, p0, q0, hargs0, rfl, rfl, h0, r0⟩ := trodAll_cons hA
  obtain ⟨v1, vs1, d1, ds1, p1, q1, hargs1, rfl, rfl, h1, r1⟩ := trodAll_cons r0
  obtain ⟨v2, vs2, d2, ds2, p2, q2, hargs2, rfl, rfl, h2, r2⟩ := trodAll_cons r1
  obtain ⟨rfl, rfl, rfl⟩ := trodAll_nil r2
  obtain rfl : args = #[v0, v1, v2] := by cases args; simp_all
  obtain ⟨rfl, rfl⟩ := trodVars_none hV
  obtain ⟨s0, rfl, rfl, rfl, hmax0⟩ := Go.ChangeMaps.open_string Tryd.underlying9 (hval 0 9 v0 rfl rfl) h0
  have i0 : Im (fun _ => False) W (.s s0.data.toList) (.string s0) := by have := Im.s (O := fun _ => False) (w := W) s0.data.toList (by rw [Array.length_toList]; exact hmax0); simpa using this
  obtain ⟨n1, rfl, rfl, rfl, hwf1⟩ := open_int Tryd.underlying2 (hval 1 2 v1 rfl rfl) h1
  have i1 : Im (fun _ => False) W (.i .i64 n1) (.int .i64 n1) := .i _ _
  have b1 : (-9223372036854775808 : Int) ≤ n1 ∧ n1 ≤ (9223372036854775807 : Int) := (letI : Globs := ⟨[]⟩; wf_i64 hwf1)
  obtain ⟨n2, rfl, rfl, rfl, hwf2⟩ := open_int Tryd.underlying3 (hval 2 3 v2 rfl rfl) h2
  have i2 : Im (fun _ => False) W (.i .i64 n2) (.int .i64 n2) := .i _ _
  have b2 : (-9223372036854775808 : Int) ≤ n2 ∧ n2 ≤ (9223372036854775807 : Int) := (letI : Globs := ⟨[]⟩; wf_i64 hwf2)
  have hW'' := hW'
  have bk : Rows.uptoBulkAll _ ≤ 1048576 := of_decide_eq_true hk
  simp only [List.append_nil, List.cons_append, List.nil_append, Rows.uptoBulkAll, Rows.uptoBulk, Array.length_toList] at bk
  have hL' : laidMet Tryd.prog Rows.numTellsUptoRow.laid W := hL
  have hp : Lib.TabIs Tryd.prog W "internal/strconv.uint64pow10" .u64 Lib.pow10Tab := tabIs_of_reads (g := 0) (t := 301) (e := 22) (n := 20) (by kernel_rfl) (by kernel_rfl) Tryd.underlying301 Tryd.underlying22 (by kernel_rfl) (by kernel_rfl) (by have := Lib.laidMet.reads hL' (.tail _ (.tail _ (.head _))); rw [show Rows.laid_internal_strconv_uint64pow10 = Lib.tabData .u64 Lib.pow10Tab by kernel_rfl] at this; exact this)
  have hb64 : Lib.TabIs Tryd.prog W "math/bits.deBruijn64tab" .u8 bits64 := tabIs_of_reads (g := 4) (t := 329) (e := 5) (n := 64) (by kernel_rfl) (by kernel_rfl) Tryd.underlying329 Tryd.underlying5 (by kernel_rfl) (by kernel_rfl) (by have := Lib.laidMet.reads hL' (.tail _ (.head _)); rw [show Rows.laid_math_bits_deBruijn64tab = Lib.tabData .u8 bits64 by kernel_rfl] at this; exact this)
  have g0 : Tryd.prog.globalNamed "internal/strconv.uint64pow10" = some 0 := by kernel_rfl
  have g4 : Tryd.prog.globalNamed "math/bits.deBruijn64tab" = some 4 := by kernel_rfl
  obtain ⟨cur0, e0, fz0, hh0, _⟩ := cell_block (hp.cell g0 0 (by decide))
  obtain ⟨cur1, e1, fz1, hh1, _⟩ := cell_block (hb64.cell g4 0 (by decide))
  let G : Globs := ⟨[(0, .cells cur0 e0 fz0), (4, .cells cur1 e1 fz1)]⟩
  have ht : @HasNum G := ⟨_, _, .head _, .tail _ (.head _), fun w k0 k1 =>
    ⟨tabIs_block g0 (k0.trans hh0.symm) hp, fun j hj => by
      have h := (tabIs_block g4 (k1.trans hh1.symm) hb64).cell g4 j (by rw [bits64_len]; exact hj)
      rw [h, bits64_at]⟩⟩
  have hG : @GlobOK G (fun _ => False) W := fun p hp => by
    rcases List.mem_cons.1 hp with rfl | hp
    · exact ⟨fun h => h, hh0⟩
    · cases List.mem_singleton.1 hp
      exact ⟨fun h => h, hh1⟩
  refine ((s_law (G := G) ht s0.data.toList n1 n2 b1.1 b1.2).2 (fun _ => False) W [.string s0, .int .i64 n1, .int .i64 n2] (fun _ h => h.elim) hG (All2.cons i0 (All2.cons i1 (All2.cons i2 (All2.nil _))))).mono fun e W' ⟨v, he, hst, hv⟩ => ?_
  subst he
  cases hv
  have hb := hst.below
  have hlt : ∀ x : MemPlace, x ∈ ([] ++ ([] ++ ([] ++ []))) ++ [] → x.block < W.heap.size := fun x hx => hW''.lt x hx
  have hargs' : ∀ sp : Nat → Bool, (∀ x : MemPlace, x ∈ ([] ++ ([] ++ ([] ++ []))) ++ [] → sp x.block = true) → DataW.TrodAll enc Tryd.prog W' 0 sp true [9, 2, 3] [.string s0, .int .i64 n1, .int .i64 n2] [.lit (.string s0.data.toList), .lit (.int .i64 n1), .lit (.int .i64 n2)] ([] ++ ([] ++ ([] ++ []))) := fun sp hsp =>
    trodAll_cons_mk (Go.ChangeMaps.shut_string Tryd.underlying9 hmax0) (trodAll_cons_mk (shut_int Tryd.underlying2 hwf1) (trodAll_cons_mk (shut_int Tryd.underlying3 hwf2) (trodAll_mk0)))
  exact ⟨_, rfl, post_of_below (pa := [] ++ ([] ++ ([] ++ []))) (pv := []) hW'' (fun _ _ _ => (trodAll_cons_mk (shut_bool Tryd.underlying4 _) trodAll_mk0)) (fun sp hsp => hargs' sp hsp) (fun _ _ => rfl) rfl
    hb (ok_one (by kernel_rfl) rfl (okWide_bool_mk Tryd.underlying4 _))⟩
/-- a world for the witness: the tables as their initialisers lay them -/
def layB (cs : List Value) : Obj → Obj
  | .cells _ t frozen => .cells cs.toArray t frozen
  | o => o
noncomputable def laidWorld (os : Os) : World :=
  { World.holding Tryd.prog os ⟨#[], #[], []⟩ with
    heap := (((World.holding Tryd.prog os ⟨#[], #[], []⟩).heap.modify 0 (layB (Lib.pow10Tab.map fun n => Value.int .u64 n))).modify 3
      (layB (Lib.deBruijn32tab.map fun (n : Nat) => Value.int .u8 (n : Int)))).modify 4 (layB (Lib.deBruijn64tab.map fun (n : Nat) => Value.int .u8 (n : Int))) }
theorem laid_met (os : Os) : laidMet Tryd.prog Rows.numTellsUptoRow.laid ((laidWorld os).forCall (fun _ _ => 0) ⟨#[], #[.string .empty, .int .i64 0, .int .i64 0], []⟩).memory :=
  laidMet_of_run' 8 (by kernel_rfl) (by kernel_rfl)
theorem reads (os : Os) {H : Type} (enc : TypeId × Value → H) : ∃ places, DataW.whole enc Tryd.prog ((laidWorld os).forCall (fun _ _ => 0) ⟨#[], #[.string .empty, .int .i64 0, .int .i64 0], []⟩).memory Tryd.f4.params.toList Rows.numTellsSpec.vars false #[.string .empty, .int .i64 0, .int .i64 0].toList 8 = some ([.lit (.string []), .lit (.int .i64 0), .lit (.int .i64 0)], [], places) :=
  ⟨[], by kernel_rfl⟩
set_option maxRecDepth 100000 in
theorem lifted (os : Os) (started : os.Started) (H : Type) (enc : TypeId × Value → H) (F : Stop.Interp) :
    ReturnsInHanded {} Tryd.checked os 4 .any ((Rows.OpenSpec.upto Rows.numTellsSpec).preRow enc Tryd.prog Tryd.f4 Rows.numTellsUptoRow.domain false Rows.numTellsUptoRow.laid) (((Rows.OpenSpec.upto Rows.numTellsSpec).at F).post enc Tryd.prog Tryd.f4 false true false false) := by
  obtain ⟨places, hx⟩ := reads os enc
  refine returnsInHanded_of_row (C := Tryd.checked) (s := Rows.OpenSpec.upto Rows.numTellsSpec) own started (by kernel_rfl) Tryd.func4
    (witness_row_at (enc := enc) (C := Tryd.checked) false (laidWorld os) #[.string .empty, .int .i64 0, .int .i64 0] rfl (by kernel_rfl) (by kernel_rfl) (by kernel_rfl)
      (OpenSpec.preRow_of_cond 8 hx (by kernel_rfl) (fun k hk => by cases hk; kernel_rfl) (by kernel_rfl) (laid_met os))) ?_
  intro W base args ds gs before hval hW _ hcond _ hL _ _
  exact contract H enc W base args ds gs before hval hW (hcond _ rfl) hL
theorem said : Rows.NumTellsUptoSaid :=
  OpenClaim.holds_of_cond 4 Tryd.f4 rfl rfl rfl rfl rfl rfl rfl ⟨rfl, rfl, rfl, rfl, rfl⟩ rfl rfl rfl rfl rfl (by kernel_rfl) Tryd.func4 (by kernel_rfl)
    (of_decide_eq_true (by kernel_rfl)) (by unfold Func.isWrapper; first | (rw [if_pos (by decide +kernel)]; kernel_rfl) | (rw [if_neg (by decide +kernel)]; exact ⟨rfl, rfl⟩))
    (fun os started H enc _ F => by rw [OpenClaim.pre_eq_preRow]; exact lifted os started H enc F)
theorem plain (f : FuncId) (fn : Func) (hf : Tryd.pinned.checked.prog.funcNamed "typecase/typecaselaw.NumTells" = some f) (hfn : Tryd.pinned.checked.prog.funcs[f]? = some fn) :
    false = Tryd.pinned.checked.prog.looks [] ∧ ∀ (j : Nat) t, fn.params[j]? = some t → Tryd.pinned.checked.prog.wantsStandIn t = false := by
  obtain rfl : f = 4 := Option.some.inj ((show Tryd.prog.funcNamed "typecase/typecaselaw.NumTells" = some 4 by kernel_rfl).symm.trans hf) |>.symm
  obtain rfl : fn = Tryd.f4 := (Option.some.inj (Tryd.func4.symm.trans hfn)).symm
  refine ⟨by kernel_rfl, fun j t ht => ?_⟩
  rw [Tryd.params4] at ht
  have hm := Array.mem_of_getElem? ht
  simp only [List.mem_toArray, List.mem_cons, List.not_mem_nil, or_false] at hm
  rcases hm with rfl | rfl | rfl
  · exact (show Tryd.prog.wantsStandIn 9 = false by kernel_rfl)
  · exact (show Tryd.prog.wantsStandIn 2 = false by kernel_rfl)
  · exact (show Tryd.prog.wantsStandIn 3 = false by kernel_rfl)
theorem proved : Rows.NumTellsUptoCardSaid :=
  Claim7.holds_tied_plain_at .later [] _ _ _ _ said (fun _ h => by cases h) (by kernel_rfl) (fun _ h => by cases h) numTellsUpto_row_tie rfl ⟨rfl, rfl⟩ (by kernel_rfl) rfl plain (by kernel_rfl)

end Go.Proofs.YtdcdmojbkmedpaaDoor.numTells
end
