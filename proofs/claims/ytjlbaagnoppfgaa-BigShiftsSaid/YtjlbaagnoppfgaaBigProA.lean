/-
  A part of the proof of the laws of whole numbers: the program's numbers, walked. No conditions.
-/
import Derived.Test.YtjlbaagnoppfgaaBigRefH
import Derived.Laws.BitsAllLaws
import Derived.Laws.Bits64b
namespace Go.Proofs.Ytjlbaagnoppfgaa
set_option linter.unusedSectionVars false
set_option linter.unusedSimpArgs false
set_option linter.unusedVariables false
open Go Go.SX Go.Bg
set_option maxRecDepth 100000
set_option maxHeartbeats 0
theorem pow32 {n : Nat} (hn : n < 32) : 4294967296 = 2 ^ n * 2 ^ (32 - n) := by
  rw [← Nat.pow_add, show n + (32 - n) = 32 by omega]
theorem left_or {n x c : Nat} (hn : n < 32) (hc : c < 2 ^ n) : bits .or .u32 (IntKind.u32.wrap ((x : Int) * 2 ^ (min (IntKind.u64.wrap (n : Int)).toNat 32))) (c : Int) = ((2 ^ n * (x % 2 ^ (32 - n)) + c : Nat) : Int) := by
  have h0 : IntKind.u64.wrap (n : Int) = n := by rw [IntKind.wrap_u64]; omega
  have h1 : min (IntKind.u64.wrap (n : Int)).toNat 32 = n := by rw [h0, Int.toNat_natCast]; omega
  have h2 : IntKind.u32.wrap ((x : Int) * 2 ^ n) = ((2 ^ n * (x % 2 ^ (32 - n)) : Nat) : Int) := by
    rw [IntKind.wrap_u32', ← Nat.mul_mod_mul_left, ← pow32 hn, Nat.mul_comm (2 ^ n) x]
    simp
  have h3 : 2 ^ n * (x % 2 ^ (32 - n)) < 4294967296 := by
    rw [← Nat.mul_mod_mul_left, ← pow32 hn]
    exact Nat.mod_lt _ (by decide)
  have h4 : c < 4294967296 := Nat.lt_of_lt_of_le hc (Nat.pow_le_pow_right (i := n) (j := 32) (by decide) (by omega))
  rw [h1, h2, u32_or_nat _ _ h3 h4, Nat.two_pow_add_eq_or_of_lt hc]
theorem left_low {n x : Nat} (hn : n < 32) (hx : x < 4294967296) : IntKind.u32.wrap ((IntKind.u64.wrap (x : Int)).fdiv (2 ^ (min (IntKind.u64.wrap (32 - (n : Int))).toNat 64))) = ((x / 2 ^ (32 - n) : Nat) : Int) := by
  have h0 : IntKind.u64.wrap (32 - (n : Int)) = ((32 - n : Nat) : Int) := by rw [IntKind.wrap_u64]; omega
  have h1 : min (IntKind.u64.wrap (32 - (n : Int))).toNat 64 = 32 - n := by rw [h0, Int.toNat_natCast]; omega
  have h2 : IntKind.u64.wrap (x : Int) = x := by rw [IntKind.wrap_u64]; omega
  have h3 : x / 2 ^ (32 - n) ≤ x := Nat.div_le_self _ _
  rw [h1, h2, Int.fdiv_eq_ediv_of_nonneg _ (by exact_mod_cast Nat.zero_le (2 ^ (32 - n)))]
  rw [show ((x : Int) / 2 ^ (32 - n)) = ((x / 2 ^ (32 - n) : Nat) : Int) by simp, IntKind.wrap_u32']
  generalize x / 2 ^ (32 - n) = y at h3
  omega
theorem left_next {n k c x : Nat} {l o : List Int} (hn : n < 32) (hx : (l.getD k 0).toNat = x) (hxl : x < 4294967296) (h2 : o.length = k) (h3 : Dg 4294967296 o) (h4 : c < 2 ^ n) (h5 : vl 4294967296 o + 4294967296 ^ k * c = 2 ^ n * vl 4294967296 (l.take k)) :
    (o ++ [((2 ^ n * (x % 2 ^ (32 - n)) + c : Nat) : Int)]).length = k + 1 ∧ Dg 4294967296 (o ++ [((2 ^ n * (x % 2 ^ (32 - n)) + c : Nat) : Int)]) ∧ x / 2 ^ (32 - n) < 2 ^ n ∧
    vl 4294967296 (o ++ [((2 ^ n * (x % 2 ^ (32 - n)) + c : Nat) : Int)]) + 4294967296 ^ (k + 1) * (x / 2 ^ (32 - n)) = 2 ^ n * vl 4294967296 (l.take (k + 1)) := by
  have hp := pow32 hn
  have hpos : 0 < 2 ^ (32 - n) := Nat.pow_pos (by decide)
  have hm : x % 2 ^ (32 - n) + 1 ≤ 2 ^ (32 - n) := Nat.mod_lt _ hpos
  have hy : 2 ^ n * (x % 2 ^ (32 - n)) + 2 ^ n ≤ 4294967296 := by
    have := Nat.mul_le_mul_left (2 ^ n) hm
    rw [Nat.mul_add, Nat.mul_one, ← hp] at this
    exact this
  refine ⟨by simp [h2], h3.snoc ⟨by omega, by omega⟩, ?_, ?_⟩
  · rw [Nat.div_lt_iff_lt_mul hpos, ← hp]
    exact hxl
  · have e : 2 ^ n * (x % 2 ^ (32 - n)) + 4294967296 * (x / 2 ^ (32 - n)) = 2 ^ n * x := by
      rw [hp, Nat.mul_assoc, ← Nat.mul_add, Nat.mod_add_div]
    have e2 : 4294967296 ^ k * (2 ^ n * (x % 2 ^ (32 - n)) + 4294967296 * (x / 2 ^ (32 - n))) = 4294967296 ^ k * (2 ^ n * x) := by rw [e]
    rw [vl_snoc, vl_take_succ, hx, h2, Int.toNat_natCast, Nat.pow_succ, Nat.mul_assoc, Nat.mul_add (2 ^ n)]
    rw [Nat.mul_add] at e2
    rw [Nat.mul_add]
    have e3 : 4294967296 ^ k * (2 ^ n * x) = 2 ^ n * (4294967296 ^ k * x) := by rw [← Nat.mul_assoc, Nat.mul_comm _ (2 ^ n), Nat.mul_assoc]
    omega
section
variable [G : Globs]
theorem w_trimmed (l : List Int) (hl : Dg 4294967296 l) : vc Try.prog Γ 21 [0, 2, 14] (Try.f84.body.getD .skip) (postK Γ [.tmp 2] (fun v => v = .rd .u32 (dg 4294967296 (vl 4294967296 l)))) ⟨argSlots 0 [.rd .u32 l], []⟩ := by
  refine Exists.intro [] (Exists.intro [] (Exists.intro [] (Exists.intro Nat (Exists.intro (fun k => k ≤ l.length ∧ ∀ i, k ≤ i → l.getD i 0 = 0) (Exists.intro (fun k => ⟨[(0, .rd .u32 (l.take k))], []⟩) (Exists.intro (fun k => k) (Exists.intro l.length (And.intro ⟨Nat.le_refl _, fun i hi => by rw [List.getD_eq_getElem?_getD, List.getElem?_eq_none hi]; rfl⟩ (And.intro ?_ ?_)))))))))
  · (repeat' (first | exact trivial | exact Or.inl rfl | exact Or.inl ((by rw [List.take_length])) | refine And.intro ?_ ?_))
  · rintro k ⟨hk, hz⟩
    intro hlen; replace hlen := len_le hlen
    have hlk : (l.take k).length = k := by rw [List.length_take]; omega
    refine And.intro (fun hg => ?_) (fun hg => ?_)
    · have hg : 0 < k := by have : (0 : Int) < ((l.take k).length : Int) := of_decide_eq_true hg
                            omega
      intro _
      (refine And.intro (rng64 (by omega) (by omega)) ?_)
      refine And.intro ⟨by omega, by omega⟩ ?_
      obtain ⟨j, rfl⟩ : ∃ j, k = j + 1 := ⟨k - 1, by omega⟩
      have hd : (l.take (j + 1)).getD (Int.toNat (((l.take (j + 1)).length : Int) - 1)) (dflt .u32) = l.getD j 0 := by
        rw [hlk, show Int.toNat (((j + 1 : Nat) : Int) - 1) = j from by omega, List.getD_eq_getElem?_getD, List.getD_eq_getElem?_getD, List.getElem?_take_of_lt (by omega)]
      refine And.intro (fun hq => ?_) (fun hq => ?_)
      · have hq : l.getD j 0 = 0 := by rw [hd] at hq; simpa using hq
        intro _
        (refine And.intro (rng64 (by omega) (by omega)) ?_)
        refine And.intro ⟨by omega, by omega, by omega⟩ ?_
        refine Exists.intro [] (Exists.intro j (And.intro ⟨by omega, zero_below hz hq⟩ (And.intro ?_ ?_)))
        · (repeat' (first | exact trivial | exact Or.inl rfl | exact Or.inl ((congrArg (AV.rd .u32) (take_take_pred l hk))) | refine And.intro ?_ ?_))
        · show j < j + 1
          omega
      · have hq : l.getD j 0 ≠ 0 := by rw [hd] at hq; simpa using hq
        exact congrArg (AV.rd .u32) (canonTake b32 hl hk (Or.inr (by simpa using hq)) hz)
    · have hg : k = 0 := by have : ¬ (0 : Int) < ((l.take k).length : Int) := of_decide_eq_false hg
                            omega
      refine And.intro (fun h9 => absurd h9 (by simp)) (fun _ => ?_)
      exact congrArg (AV.rd .u32) (canonTake b32 hl hk (Or.inl hg) hz)
theorem s_trimmed (l : List Int) (hl : Dg 4294967296 l) : PSpec Try.prog 84 [.rd .u32 l] (.rd .u32 (dg 4294967296 (vl 4294967296 l))) :=
  pspec_of_vc Γ_good Try.func84 rfl Try.call84 Try.results84 Try.ntmps84 (Nat.le_of_ble_eq_true rfl) (w_trimmed l hl)
theorem w_left (m n : Nat) (hn : n < 32) (hll : (dg 4294967296 m).length ≤ 1000000) : vc Try.prog Γ 43 [0, 1, 4, 5, 6, 8, 13, 14, 15, 16, 37] (Try.f85.body.getD .skip) (postK Γ [.tmp 4] (fun v => v = .rd .u32 (dg 4294967296 (2 ^ n * m)))) ⟨argSlots 0 [.rd .u32 (dg 4294967296 m), .i .i64 n], []⟩ := by
  have hl := dg_Dg b32 m
  have hv := vl_dg b32 m
  have hge : 0 < m → 4294967296 ^ ((dg 4294967296 m).length - 1) ≤ m := dg_ge b32
  have hm0 : m = 0 → (dg 4294967296 m).length = 0 := fun e => by rw [e]; rfl
  generalize dg 4294967296 m = l at hl hv hge hll hm0
  intro _
  (refine And.intro (rng64 (by omega) (by omega)) ?_)
  refine And.intro ⟨by omega, by omega, by omega, by show (l.length + 2) * 4 ≤ _; omega⟩ ?_
  intro _
  refine Exists.intro [] (Exists.intro [] (Exists.intro [] (Exists.intro (Nat × Nat × List Int) (Exists.intro (fun x => x.1 ≤ l.length ∧ x.2.2.length = x.1 ∧ Dg 4294967296 x.2.2 ∧ x.2.1 < 2 ^ n ∧ vl 4294967296 x.2.2 + 4294967296 ^ x.1 * x.2.1 = 2 ^ n * vl 4294967296 (l.take x.1)) (Exists.intro (fun ⟨k, c, o⟩ => ⟨[(1, .i .i64 n), (5, .vec 12 .u32 o), (6, .i .u32 c), (13, .rd .u32 l), (14, .i .i64 l.length), (15, .i .i64 k)], []⟩) (Exists.intro (fun x => l.length - x.1) (Exists.intro (0, 0, []) (And.intro ⟨Nat.zero_le _, rfl, Dg.nil _, Nat.pow_pos (by decide), by simp [vl]⟩ (And.intro ?_ ?_)))))))))
  · (repeat' (first | exact trivial | exact Or.inl rfl | exact Or.inr (Or.inl ⟨rfl, _, rfl⟩) | refine And.intro ?_ ?_))
  · rintro ⟨k, c, o⟩ ⟨h1, h2, h3, h4, h5⟩
    dsimp only at h1 h2 h3 h4 h5
    refine And.intro (fun hc => ?_) (fun hc => ?_)
    · have hk : k < l.length := by have : (k : Int) < (l.length : Int) := of_decide_eq_true hc
                                   omega
      have g := hl.getD (by decide) k
      obtain ⟨x, hx, hxn, hxl⟩ : ∃ x : Nat, l.getD k 0 = x ∧ (l.getD k 0).toNat = x ∧ x < 4294967296 := ⟨(l.getD k 0).toNat, by omega, rfl, by omega⟩
      have nx := left_next hn hxn hxl h2 h3 h4 h5
      refine And.intro ⟨by omega, by omega⟩ ?_
      refine And.intro (by rw [IntKind.wrap_u64]; omega) ?_
      refine And.intro (by show (o.length + 1) * 4 ≤ _; omega) ?_
      (refine And.intro (rng64 (by omega) (by omega)) ?_)
      refine And.intro (by rw [IntKind.wrap_u64]; omega) ?_
      (refine And.intro (rng64 (by omega) (by omega)) ?_)
      have e1 := left_or (x := x) hn h4
      have e2 := left_low hn hxl
      rw [← hx] at e1 e2
      refine Exists.intro [(27, 12)] (Exists.intro (k + 1, x / 2 ^ (32 - n), o ++ [((2 ^ n * (x % 2 ^ (32 - n)) + c : Nat) : Int)]) (And.intro ⟨hk, nx.1, nx.2.1, nx.2.2.1, nx.2.2.2⟩ (And.intro ?_ ?_)))
      · (repeat' (first | exact trivial | exact Or.inl rfl | exact Or.inl ((by first | exact congrArg (fun x : Int => AV.vec 12 .u32 (o ++ [x])) e1 | exact congrArg (AV.i .u32) e2)) | refine And.intro ?_ ?_))
      · show l.length - (k + 1) < l.length - k
        omega
    · have hk : k = l.length := by have : ¬ (k : Int) < (l.length : Int) := of_decide_eq_false hc
                                   omega
      subst hk
      rw [List.take_length, hv] at h5
      refine And.intro (fun hd => ?_) (fun hd => ?_)
      · have hd : 0 < c := by have : (0 : Int) < (c : Int) := of_decide_eq_true hd
                              omega
        refine And.intro (by show (o.length + 1) * 4 ≤ _; omega) ?_
        have hcw : c < 4294967296 := Nat.lt_of_lt_of_le h4 (Nat.pow_le_pow_right (i := n) (j := 32) (by decide) (by omega))
        have hcan := canon b32 (l := o ++ [(c : Int)]) (h3.snoc ⟨by omega, by omega⟩) (by simp; omega)
        rw [vl_snoc, h2, Int.toNat_natCast, h5] at hcan
        exact congrArg (AV.rd .u32) hcan.symm
      · have hd : c = 0 := by have : ¬ (0 : Int) < (c : Int) := of_decide_eq_false hd
                              omega
        subst hd
        rw [Nat.mul_zero, Nat.add_zero] at h5
        have hcan := canonLen b32 h3 (by
          rcases Nat.eq_zero_or_pos m with h | h
          · exact .inl (List.eq_nil_of_length_eq_zero (by rw [h2]; exact hm0 h))
          · refine .inr ?_
            rw [h5, h2]
            have h6 := hge h
            have h7 : 1 * m ≤ 2 ^ n * m := Nat.mul_le_mul_right _ (Nat.pow_pos (by decide))
            omega)
        rw [h5] at hcan
        exact congrArg (AV.rd .u32) hcan.symm
theorem s_left (m n : Nat) (hn : n < 32) (hll : (dg 4294967296 m).length ≤ 1000000) : PSpec Try.prog 85 [.rd .u32 (dg 4294967296 m), .i .i64 n] (.rd .u32 (dg 4294967296 (2 ^ n * m))) :=
  pspec_of_vc Γ_good Try.func85 rfl Try.call85 Try.results85 Try.ntmps85 (Nat.le_of_ble_eq_true rfl) (w_left m n hn hll)
end
end Go.Proofs.Ytjlbaagnoppfgaa
