/-
  A part of the proof of the laws of whole numbers: the program's products, walked. No conditions.
-/
import Derived.Test.YtjlbaagnoppfgaaBigProC
namespace Go.Proofs.Ytjlbaagnoppfgaa
set_option linter.unusedSectionVars false
set_option linter.unusedSimpArgs false
set_option linter.unusedVariables false
open Go Go.SX Go.Bg
set_option maxRecDepth 100000
set_option maxHeartbeats 0
theorem get32 {l : List Int} (h : Dg 4294967296 l) (k : Nat) : ∃ z : Nat, l.getD k 0 = z ∧ z < 4294967296 ∧ (l.getD k 0).toNat = z := by
  have g := h.getD (by decide) k
  exact ⟨(l.getD k 0).toNat, by omega, by omega, rfl⟩
theorem getD_set_ne {l : List Int} {p t : Nat} {v : Int} (h : p ≠ t) : (l.set p v).getD t 0 = l.getD t 0 := by
  rw [List.getD_eq_getElem?_getD, List.getD_eq_getElem?_getD, List.getElem?_set_ne h]
theorem mul_val {x y z c : Nat} (hx : x < 4294967296) (hy : y < 4294967296) (hz : z < 4294967296) (hc : c < 4294967296) :
    IntKind.u64.wrap ((c : Int) + IntKind.u64.wrap (IntKind.u64.wrap (IntKind.u64.wrap (x : Int) * IntKind.u64.wrap (y : Int)) + IntKind.u64.wrap (z : Int))) = ((c + (z + x * y) : Nat) : Int) := by
  have hxy : x * y ≤ 4294967295 * 4294967295 := Nat.mul_le_mul (by omega) (by omega)
  have e1 : IntKind.u64.wrap (x : Int) = x := by rw [IntKind.wrap_u64]; omega
  have e2 : IntKind.u64.wrap (y : Int) = y := by rw [IntKind.wrap_u64]; omega
  have e3 : IntKind.u64.wrap (z : Int) = z := by rw [IntKind.wrap_u64]; omega
  rw [e1, e2, e3, show (x : Int) * (y : Int) = ((x * y : Nat) : Int) from rfl]
  generalize x * y = p at hxy
  rw [IntKind.wrap_u64, IntKind.wrap_u64, IntKind.wrap_u64]
  omega
theorem shr32 (t : Nat) : ((t : Nat) : Int).fdiv (2 ^ (min (Int.toNat 32) IntKind.u64.bits)) = ((t / 4294967296 : Nat) : Int) := by
  rw [show min (Int.toNat 32) IntKind.u64.bits = 32 from rfl, Int.fdiv_eq_ediv_of_nonneg _ (by decide)]
  rfl
section
variable [G : Globs]
theorem w_mul (a b : List Int) (ha : Dg 4294967296 a) (hb : Dg 4294967296 b) (hla : a.length ≤ 500000) (hlb : b.length ≤ 500000) : vc Try.prog Γ 67 [0, 1, 4, 5, 6, 7, 8, 9, 10, 17, 18, 19, 20, 24, 25, 26, 27] (Try.f90.body.getD .skip) (postK Γ [.tmp 4] (fun v => v = .rd .u32 (dg 4294967296 (vl 4294967296 a * vl 4294967296 b)))) ⟨argSlots 0 [.rd .u32 a, .rd .u32 b], []⟩ := by
  intro hl0
  intro hl1
  (refine And.intro (rng64 (by omega) (by omega)) ?_)
  refine And.intro ⟨by omega, Int.le_refl _, by omega, by show (a.length + b.length) * 4 ≤ _; omega⟩ ?_
  intro _
  refine Exists.intro [] (Exists.intro [] (Exists.intro [] (Exists.intro (Nat × List Int) (Exists.intro (fun x => Dg 4294967296 x.2 ∧ x.2.length = a.length + b.length ∧ vl 4294967296 x.2 = vl 4294967296 (a.take x.1) * vl 4294967296 b ∧ x.1 ≤ a.length ∧ ∀ t, x.1 + b.length ≤ t → x.2.getD t 0 = 0) (Exists.intro (fun ⟨i, o⟩ => ⟨[(1, .rd .u32 b), (5, .vec 16 .u32 o), (17, .rd .u32 a), (18, .i .i64 a.length), (19, .i .i64 i)], []⟩) (Exists.intro (fun x => a.length - x.1) (Exists.intro (0, List.replicate (a.length + b.length) 0) (And.intro ⟨Dg.replicate (by decide) _, by simp, by rw [vl_replicate]; simp [vl], by simp, fun t _ => rep_get _ _⟩ (And.intro ?_ ?_)))))))))
  · (repeat' (first | exact trivial | exact Or.inl rfl | exact Or.inr (Or.inl ⟨rfl, _, rfl⟩) | refine And.intro ?_ ?_))
  · rintro ⟨i, o⟩ ⟨h1, h2, h3, h4, h5⟩
    dsimp only at h1 h2 h3 h4 h5
    refine And.intro (fun hc => ?_) (fun hc => ?_)
    · have hi : i < a.length := by have : (i : Int) < (a.length : Int) := of_decide_eq_true hc
                                   omega
      clear hc
      obtain ⟨x, hx, hxl, hxn⟩ := get32 ha i
      refine And.intro ⟨by omega, by omega⟩ ?_
      intro _
      refine Exists.intro [] (Exists.intro [] (Exists.intro [] (Exists.intro (Nat × Nat × List Int) (Exists.intro (fun q => Dg 4294967296 q.2.2 ∧ q.2.2.length = a.length + b.length ∧ q.2.1 < 4294967296 ∧ vl 4294967296 q.2.2 + 4294967296 ^ (i + q.1) * q.2.1 = vl 4294967296 (a.take i) * vl 4294967296 b + 4294967296 ^ i * (x * vl 4294967296 (b.take q.1)) ∧ q.1 ≤ b.length ∧ ∀ t, i + b.length ≤ t → q.2.2.getD t 0 = 0) (Exists.intro (fun ⟨k, c, o⟩ => ⟨[(1, .rd .u32 b), (5, .vec 16 .u32 o), (6, .i .i64 i), (7, .i .u32 x), (8, .i .u64 c), (17, .rd .u32 a), (18, .i .i64 a.length), (19, .i .i64 i), (24, .rd .u32 b), (25, .i .i64 b.length), (26, .i .i64 k)], []⟩) (Exists.intro (fun q => b.length - q.1) (Exists.intro (0, 0, o) (And.intro ⟨h1, h2, by simp, by simp [h3, vl], by simp, h5⟩ (And.intro ?_ ?_)))))))))
      · (repeat' (first | exact trivial | exact Or.inl rfl | exact Or.inl ((congrArg (AV.i .u32) hx)) | refine And.intro ?_ ?_))
      · rintro ⟨k, c, q⟩ ⟨g1, g2, g3, g4, g5, g6⟩
        dsimp only at g1 g2 g3 g4 g5 g6
        refine And.intro (fun hd => ?_) (fun hd => ?_)
        · have hk : k < b.length := by have : (k : Int) < (b.length : Int) := of_decide_eq_true hd
                                       omega
          clear hd
          obtain ⟨y, hy, hyl, hyn⟩ := get32 hb k
          obtain ⟨z, hz, hzl, hzn⟩ := get32 g1 (i + k)
          have hs := by_step (a := a) (b := b) (x := x) b32 g1 (by omega) hzn hyn g4
          have hcl : (c + (z + x * y)) / 4294967296 < 4294967296 := by_carry b32 hzl hxl hyl g3
          have em := mul_val hxl hyl hzl g3
          rw [← hy, ← hz] at em
          have em : IntKind.u64.wrap ((c : Int) + IntKind.u64.wrap (IntKind.u64.wrap (IntKind.u64.wrap (x : Int) * IntKind.u64.wrap (b.getD (Int.toNat (k : Int)) (dflt .u32))) + IntKind.u64.wrap (q.getD (Int.toNat ((i : Int) + (k : Int))) (dflt .u32)))) = ((c + (z + x * y) : Nat) : Int) := em
          refine And.intro ⟨by omega, by omega⟩ ?_
          (refine And.intro (rng64 (by omega) (by omega)) ?_)
          refine And.intro ⟨by omega, by omega⟩ ?_
          (refine And.intro (rng64 (by omega) (by omega)) ?_)
          (conv => whnf)
          rw [em]
          generalize hT : c + (z + x * y) = T at hs hcl
          have e7 : IntKind.u32.wrap (T : Int) = ((T % 4294967296 : Nat) : Int) := by rw [IntKind.wrap_u32']; rfl
          refine And.intro ⟨by omega, by omega⟩ ?_
          refine And.intro (by decide) ?_
          (refine And.intro (rng64 (by omega) (by omega)) ?_)
          refine Exists.intro [] (Exists.intro (k + 1, T / 4294967296, q.set (i + k) ((T % 4294967296 : Nat) : Int)) (And.intro ⟨hs.1, by simp [g2], hcl, hs.2, hk, fun t ht => by rw [getD_set_ne (by omega)]; exact g6 t ht⟩ (And.intro ?_ ?_)))
          · (repeat' (first | exact trivial | exact Or.inl rfl | exact Or.inl ((by first | exact congrArg (fun v => AV.vec 16 .u32 (q.set (i + k) v)) e7 | exact congrArg (AV.i .u64) (shr32 T))) | refine And.intro ?_ ?_))
          · show b.length - (k + 1) < b.length - k
            omega
        · have hk : k = b.length := by have : ¬ (k : Int) < (b.length : Int) := of_decide_eq_false hd
                                       omega
          subst hk
          clear hd
          have hset := vl_set (B := 4294967296) (l := q) (k := i + b.length) (by omega) (c : Int)
          rw [g6 _ (Nat.le_refl _), Int.toNat_natCast, g4, List.take_length] at hset
          have hv := by_end (B := 4294967296) (q := q.set (i + b.length) c) hxn (Nat.le_refl b.length) (by rw [List.take_length]; simpa using hset)
          intro _
          (refine And.intro (rng64 (by omega) (by omega)) ?_)
          refine And.intro ⟨by omega, by omega⟩ ?_
          (refine And.intro (rng64 (by omega) (by omega)) ?_)
          refine Exists.intro [] (Exists.intro (i + 1, q.set (i + b.length) (c : Int)) (And.intro ⟨g1.set _ ⟨by omega, by omega⟩, by simp [g2], hv, hi, fun t ht => by rw [getD_set_ne (by omega)]; exact g6 t (by omega)⟩ (And.intro ?_ ?_)))
          · (repeat' (first | exact trivial | exact Or.inl rfl | exact Or.inl ((congrArg (fun v => AV.vec 16 .u32 (q.set (i + b.length) v)) (wrap32 g3))) | refine And.intro ?_ ?_))
          · show a.length - (i + 1) < a.length - i
            omega
    · have hi : i = a.length := by have : ¬ (i : Int) < (a.length : Int) := of_decide_eq_false hc
                                   omega
      subst hi
      rw [List.take_length] at h3
      refine Or.inl (Exists.intro _ (And.intro (s_trimmed o h1) ?_))
      exact congrArg (fun n => AV.rd .u32 (dg 4294967296 n)) h3
theorem s_mul (a b : List Int) (ha : Dg 4294967296 a) (hb : Dg 4294967296 b) (hla : a.length ≤ 500000) (hlb : b.length ≤ 500000) : PSpec Try.prog 90 [.rd .u32 a, .rd .u32 b] (.rd .u32 (dg 4294967296 (vl 4294967296 a * vl 4294967296 b))) :=
  pspec_of_vc Γ_good Try.func90 rfl Try.call90 Try.results90 Try.ntmps90 (Nat.le_of_ble_eq_true rfl) (w_mul a b ha hb hla hlb)
end
end Go.Proofs.Ytjlbaagnoppfgaa
