/-
  A part of the proof that 'typecaselaw.ValCompares' returns true: the document's compare, walked. No conditions.
-/
import Derived.Test.YtjlbaagnoppfgaaValA
import Derived.Test.YtjlbaagnoppfgaaSxCut
namespace Go.Proofs.Ytjlbaagnoppfgaa
set_option linter.unusedSectionVars false
set_option linter.unusedSimpArgs false
set_option linter.unusedVariables false
open Go Go.SX Go.Vl
set_option maxRecDepth 100000
set_option maxHeartbeats 0
def sg (t : Bool) : Int := if t = true then -1 else 1
theorem cmpI_ne {a b : Int} (h : a ≠ b) : cmpI a b = sg (decide (a < b)) := by
  unfold cmpI sg
  rw [if_neg h]
  simp
theorem cmpS_ne {a b : Str} (h : a ≠ b) : cmpS a b = sg (Op.bytesLess a b) := by
  unfold cmpS sg
  rw [if_neg h]
theorem bool_ne {a b : Bool} (h : (!(a == b)) = true) : a ≠ b := by simpa using h
theorem bool_eq {a b : Bool} (h : (!(a == b)) = false) : a = b := by simpa using h
theorem len_ne {m n : Nat} (h : (((m : Nat) : Int) != ((n : Nat) : Int)) = true) : m ≠ n := fun e => by subst e; simp at h
theorem len_eq {m n : Nat} (h : (((m : Nat) : Int) != ((n : Nat) : Int)) = false) : m = n := by
  have : (m : Int) = (n : Int) := by simpa using h
  omega
theorem sg_nz (t : Bool) : sg t ≠ 0 := by cases t <;> decide
theorem shr63z {f : Int} (h0 : 0 ≤ f) (h1 : f ≤ 18446744073709551615) : (f.fdiv (2 ^ min (Int.toNat 63) IntKind.u64.bits) == 0) = decide (f < 9223372036854775808) := by
  rw [show (2 : Int) ^ min (Int.toNat 63) IntKind.u64.bits = 9223372036854775808 from rfl, Int.fdiv_eq_ediv_of_nonneg _ (by decide)]
  rw [Bool.eq_iff_iff, beq_iff_eq, decide_eq_true_eq]
  omega
theorem rank_low {a b : Int} (ha : 0 ≤ a ∧ a ≤ 18446744073709551615) (hb : 0 ≤ b ∧ b ≤ 18446744073709551615) (h : decide (a < 9223372036854775808) ≠ decide (b < 9223372036854775808)) : cmpI (rank a) (rank b) = sg (decide (b < 9223372036854775808)) := by
  by_cases h1 : a < 9223372036854775808 <;> by_cases h2 : b < 9223372036854775808
  · simp [h1, h2] at h
  · rw [decide_eq_false h2, rank, rank, if_pos h1, if_neg h2, cmpI_ne (by omega), decide_eq_false (by omega)]
  · rw [decide_eq_true h2, rank, rank, if_neg h1, if_pos h2, cmpI_ne (by omega), decide_eq_true (by omega)]
  · simp [h1, h2] at h
theorem rank_high {a b : Int} (ha : 0 ≤ a ∧ a ≤ 18446744073709551615) (hb : 0 ≤ b ∧ b ≤ 18446744073709551615) (hne : a ≠ b) (h : decide (a < 9223372036854775808) = decide (b < 9223372036854775808)) : cmpI (rank a) (rank b) = sg (decide (a < b) == decide (a < 9223372036854775808)) := by
  by_cases h1 : a < 9223372036854775808 <;> by_cases h2 : b < 9223372036854775808
  · rw [rank, rank, if_pos h1, if_pos h2, cmpI_ne (by omega), decide_eq_true h1]
    congr 1
    by_cases h3 : a < b
    · rw [decide_eq_true h3, decide_eq_true (by omega)]; rfl
    · rw [decide_eq_false h3, decide_eq_false (by omega)]; rfl
  · simp [h1, h2] at h
  · simp [h1, h2] at h
  · rw [rank, rank, if_neg h1, if_neg h2, cmpI_ne (by omega), decide_eq_false h1]
    congr 1
    by_cases h3 : a < b
    · rw [decide_eq_true h3, decide_eq_false (by omega)]; rfl
    · rw [decide_eq_false h3, decide_eq_true (by omega)]; rfl
section
variable [G : Globs]
theorem w_sgn (t : Bool) : vc Try.prog Γ 4 [0, 2, 3] (Try.f105.body.getD .skip) (postK Γ [.tmp 2] (fun v => v = .i .i64 (sg t))) ⟨argSlots 0 [.b t], []⟩ := by
  refine And.intro (fun h => ?_) (fun h => ?_)
  · have h : t = true := h
    subst h
    rfl
  · have h : t = false := h
    subst h
    rfl
theorem s_sgn (t : Bool) : PSpec Try.prog 105 [.b t] (.i .i64 (sg t)) :=
  pspec_of_vc Γ_good Try.func105 rfl Try.call105 Try.results105 Try.ntmps105 (Nat.le_of_ble_eq_true rfl) (w_sgn t)
theorem w_besd (a b : Val) (h0 : 0 ≤ a.f ∧ a.f ≤ 18446744073709551615) (h1 : 0 ≤ b.f ∧ b.f ≤ 18446744073709551615) (hc : ∀ x ∈ a.l, ∀ y ∈ b.l, PSpec Try.prog 51 [.agg (encVal x), .agg (encVal y)] (.i .i64 (cmpV x y))) (hp : ∀ x ∈ a.e, ∀ y ∈ b.e, PSpec Try.prog 51 [.agg (encVal x.2), .agg (encVal y.2)] (.i .i64 (cmpV x.2 y.2))) : VCs Try.prog Γ 185 [2, 3, 4, 5, 6, 7, 8, 9, 10, 15, 26, 37, 48, 63, 81, 96, 104, 124, 139, 168, 176] (Try.f51.body.getD .skip) (postK Γ [.tmp 4] (fun v => v = .i .i64 (cmpV a b))) ⟨argSlots 0 [.agg (encVal a), .agg (encVal b)], []⟩ := by
  refine VCs.seq Γ_good ?_
  refine VCs.seq Γ_good ?_
  refine And.intro (fun hk => ?_) (fun hk => ?_)
  · have hk : a.kind ≠ b.kind := by simpa using hk
    refine Or.inl (Exists.intro _ (And.intro (s_sgn (decide (a.kind < b.kind))) ?_))
    refine congrArg (AV.i .i64) ?_
    rw [cmpV_eq, cmpI_ne hk, orI_ne (sg_nz _)]
  have hk : a.kind = b.kind := by simpa using hk
  refine VCs.seq Γ_good ?_
  refine And.intro (fun hn => ?_) (fun hn => ?_)
  · have hn : a.n ≠ b.n := by simpa using hn
    refine Or.inl (Exists.intro _ (And.intro (s_sgn (decide (a.n < b.n))) ?_))
    refine congrArg (AV.i .i64) ?_
    rw [cmpV_eq, hk, cmpI_self, orI_zero, cmpI_ne hn, orI_ne (sg_nz _)]
  have hn : a.n = b.n := by simpa using hn
  refine VCs.seq Γ_good ?_
  refine And.intro (fun hf => ?_) (fun hf => ?_)
  · have hf : a.f ≠ b.f := by simpa using hf
    refine Exists.intro [.blk [0, 1, 2, 3, 4, 5, 6, 7, 8, 9]] (And.intro (by kernel_rfl) ?_)
    refine And.intro (by decide) ?_
    refine And.intro (by decide) ?_
    refine And.intro (fun hd => ?_) (fun hd => ?_)
    · have hd := bool_ne hd
      rw [shr63z h0.1 h0.2, shr63z h1.1 h1.2] at hd
      refine Or.inl (Exists.intro _ (And.intro (s_sgn (b.f.fdiv (2 ^ min (Int.toNat 63) IntKind.u64.bits) == 0)) ?_))
      refine congrArg (AV.i .i64) ?_
      rw [shr63z h1.1 h1.2, cmpV_eq, hk, cmpI_self, orI_zero, hn, cmpI_self, orI_zero, rank_low h0 h1 hd, orI_ne (sg_nz _)]
    · have hd := bool_eq hd
      rw [shr63z h0.1 h0.2, shr63z h1.1 h1.2] at hd
      refine Or.inl (Exists.intro _ (And.intro (s_sgn (decide (a.f < b.f) == (a.f.fdiv (2 ^ min (Int.toNat 63) IntKind.u64.bits) == 0))) ?_))
      refine congrArg (AV.i .i64) ?_
      rw [shr63z h0.1 h0.2, cmpV_eq, hk, cmpI_self, orI_zero, hn, cmpI_self, orI_zero, rank_high h0 h1 hf hd, orI_ne (sg_nz _)]
  have hf : a.f = b.f := by simpa using hf
  refine VCs.seq Γ_good ?_
  refine And.intro (fun hs => ?_) (fun hs => ?_)
  · have hs : a.s ≠ b.s := by simpa using hs
    refine Or.inl (Exists.intro _ (And.intro (s_sgn (Op.bytesLess a.s b.s)) ?_))
    refine congrArg (AV.i .i64) ?_
    rw [cmpV_eq, hk, cmpI_self, orI_zero, hn, cmpI_self, orI_zero, hf, cmpI_self, orI_zero, cmpS_ne hs, orI_ne (sg_nz _)]
  have hs : a.s = b.s := by simpa using hs
  have hr : cmpV a b = orI (cmpL a.l b.l) (cmpE a.e b.e) := by rw [cmpV_eq, hk, cmpI_self, orI_zero, hn, cmpI_self, orI_zero, hf, cmpI_self, orI_zero, hs, cmpS_self, orI_zero]
  refine VCs.cut Γ_good Unit (fun _ => ∃ k, cmpL a.l b.l = cmpL (a.l.drop k) (b.l.drop k) ∧ ((k = a.l.length ∧ k ≤ b.l.length) ∨ (k = b.l.length ∧ k ≤ a.l.length))) (fun _ => ⟨[(2, .pt 2 0), (3, .pt 3 0)], [(2, encVal a), (3, encVal b)]⟩) ?_ ?_
  · refine Exists.intro [] (Exists.intro [] (Exists.intro [] (Exists.intro Nat (Exists.intro (fun k => k ≤ a.l.length ∧ k ≤ b.l.length ∧ cmpL a.l b.l = cmpL (a.l.drop k) (b.l.drop k)) (Exists.intro (fun k => ⟨[(2, .pt 2 0), (3, .pt 3 0), (7, .i .i64 k)], [(2, encVal a), (3, encVal b)]⟩) (Exists.intro (fun k => a.l.length - k) (Exists.intro 0 (And.intro ⟨Nat.zero_le _, Nat.zero_le _, rfl⟩ (And.intro ?_ ?_)))))))))
    · (repeat' (first | exact trivial | exact Or.inl rfl | exact Or.inr (Or.inl ⟨rfl, _, rfl⟩) | exact Or.inr (Or.inr (Or.inr ⟨_, _, _, rfl, rfl⟩)) | refine And.intro ?_ ?_))
    · rintro k ⟨hka, hkb, he⟩
      intro hla
      refine And.intro (fun hc1 => ?_) (fun hc1 => ?_)
      · have hc1 : k < a.l.length := by have : (k : Int) < (a.l.length : Int) := of_decide_eq_true hc1
                                        omega
        intro _
        refine And.intro (fun hc2 => ?_) (fun hc2 => ?_)
        · have hc2 : k < b.l.length := by have : (k : Int) < (b.l.length : Int) := of_decide_eq_true hc2
                                          omega
          have hg : a.l.getD (Int.toNat (k : Int)) (dflt .val) = a.l[k] := by rw [Int.toNat_natCast, List.getD_eq_getElem?_getD, List.getElem?_eq_getElem hc1]; rfl
          have hgb : b.l.getD (Int.toNat (k : Int)) (dflt .val) = b.l[k] := by rw [Int.toNat_natCast, List.getD_eq_getElem?_getD, List.getElem?_eq_getElem hc2]; rfl
          have hcall := hc a.l[k] (List.getElem_mem hc1) b.l[k] (List.getElem_mem hc2)
          rw [← hg, ← hgb] at hcall
          refine Exists.intro [.blk [0, 1, 2, 3, 4, 5, 6, 7, 8, 9, 10, 11]] (And.intro (by kernel_rfl) ?_)
          refine And.intro ⟨by omega, by omega⟩ ?_
          refine And.intro ⟨by omega, by omega⟩ ?_
          refine Exists.intro _ (And.intro (hcall) ?_)
          rw [hg, hgb]
          rw [cmpL_drop hc1 hc2] at he
          refine And.intro (fun hz => ?_) (fun hz => ?_)
          · have hz : cmpV a.l[k] b.l[k] ≠ 0 := by simpa using hz
            rw [orI_ne hz] at he
            refine congrArg (AV.i .i64) ?_
            rw [hr, he, orI_ne hz]
          · have hz : cmpV a.l[k] b.l[k] = 0 := by simpa using hz
            rw [hz, orI_zero] at he
            have := len_le hla
            (refine And.intro (rng64 (by omega) (by omega)) ?_)
            refine Exists.intro [] (Exists.intro (k + 1) (And.intro ⟨hc1, hc2, he⟩ (And.intro ?_ ?_)))
            · (repeat' (first | exact trivial | exact Or.inl rfl | exact Or.inr (Or.inl ⟨rfl, _, rfl⟩) | exact Or.inr (Or.inr (Or.inr ⟨_, _, _, rfl, rfl⟩)) | refine And.intro ?_ ?_))
            · show a.l.length - (k + 1) < a.l.length - k
              omega
        · have hc2 : k = b.l.length := by have : ¬ (k : Int) < (b.l.length : Int) := of_decide_eq_false hc2
                                          omega
          refine Exists.intro () (And.intro ⟨k, he, .inr ⟨hc2, hka⟩⟩ ?_)
          (repeat' (first | exact trivial | exact Or.inl rfl | exact Or.inr (Or.inl ⟨rfl, _, rfl⟩) | exact Or.inr (Or.inr (Or.inr ⟨_, _, _, rfl, rfl⟩)) | refine And.intro ?_ ?_))
      · have hc1 : k = a.l.length := by have : ¬ (k : Int) < (a.l.length : Int) := of_decide_eq_false hc1
                                        omega
        refine And.intro (fun h9 => Bool.noConfusion h9) (fun _ => ?_)
        refine Exists.intro () (And.intro ⟨k, he, .inl ⟨hc1, hkb⟩⟩ ?_)
        (repeat' (first | exact trivial | exact Or.inl rfl | exact Or.inr (Or.inl ⟨rfl, _, rfl⟩) | exact Or.inr (Or.inr (Or.inr ⟨_, _, _, rfl, rfl⟩)) | refine And.intro ?_ ?_))
  rintro _ ⟨k, he, hk2⟩
  refine VCs.seq Γ_good ?_
  intro hla
  intro hlb
  refine And.intro (fun hz => ?_) (fun hz => ?_)
  · have hz : a.l.length ≠ b.l.length := len_ne hz
    intro _
    intro _
    refine Or.inl (Exists.intro _ (And.intro (s_sgn (decide ((a.l.length : Int) < (b.l.length : Int)))) ?_))
    refine congrArg (AV.i .i64) ?_
    rcases hk2 with ⟨h2, h3⟩ | ⟨h2, h3⟩
    · rw [cmpL_long (by omega) (by omega)] at he
      rw [hr, he, decide_eq_true (by omega)]
      rfl
    · rw [cmpL_short (by omega) (by omega)] at he
      rw [hr, he, decide_eq_false (by omega)]
      rfl
  have hz : a.l.length = b.l.length := len_eq hz
  have hr : cmpV a b = cmpE a.e b.e := by rw [hr, he, cmpL_end (by omega) (by omega), orI_zero]
  clear he hk2 k
  refine VCs.cut Γ_good Unit (fun _ => ∃ k, cmpE a.e b.e = cmpE (a.e.drop k) (b.e.drop k) ∧ ((k = a.e.length ∧ k ≤ b.e.length) ∨ (k = b.e.length ∧ k ≤ a.e.length))) (fun _ => ⟨[(2, .pt 2 0), (3, .pt 3 0)], [(2, encVal a), (3, encVal b)]⟩) ?_ ?_
  · refine Exists.intro [] (Exists.intro [] (Exists.intro [] (Exists.intro Nat (Exists.intro (fun k => k ≤ a.e.length ∧ k ≤ b.e.length ∧ cmpE a.e b.e = cmpE (a.e.drop k) (b.e.drop k)) (Exists.intro (fun k => ⟨[(2, .pt 2 0), (3, .pt 3 0), (9, .i .i64 k)], [(2, encVal a), (3, encVal b)]⟩) (Exists.intro (fun k => a.e.length - k) (Exists.intro 0 (And.intro ⟨Nat.zero_le _, Nat.zero_le _, rfl⟩ (And.intro ?_ ?_)))))))))
    · (repeat' (first | exact trivial | exact Or.inl rfl | exact Or.inr (Or.inl ⟨rfl, _, rfl⟩) | exact Or.inr (Or.inr (Or.inr ⟨_, _, _, rfl, rfl⟩)) | refine And.intro ?_ ?_))
    · rintro k ⟨hka, hkb, he⟩
      intro hla
      refine And.intro (fun hc1 => ?_) (fun hc1 => ?_)
      · have hc1 : k < a.e.length := by have : (k : Int) < (a.e.length : Int) := of_decide_eq_true hc1
                                        omega
        intro _
        refine And.intro (fun hc2 => ?_) (fun hc2 => ?_)
        · have hc2 : k < b.e.length := by have : (k : Int) < (b.e.length : Int) := of_decide_eq_true hc2
                                          omega
          have hg : a.e.getD (Int.toNat (k : Int)) (dflt .ent) = a.e[k] := by rw [Int.toNat_natCast, List.getD_eq_getElem?_getD, List.getElem?_eq_getElem hc1]; rfl
          have hgb : b.e.getD (Int.toNat (k : Int)) (dflt .ent) = b.e[k] := by rw [Int.toNat_natCast, List.getD_eq_getElem?_getD, List.getElem?_eq_getElem hc2]; rfl
          have hcall := hp a.e[k] (List.getElem_mem hc1) b.e[k] (List.getElem_mem hc2)
          rw [← hg, ← hgb] at hcall
          refine Exists.intro [.blk [0, 1, 2, 3, 4, 5, 6, 7, 8, 9, 10, 11, 12]] (And.intro (by kernel_rfl) ?_)
          refine And.intro ⟨by omega, by omega⟩ ?_
          refine And.intro ⟨by omega, by omega⟩ ?_
          rw [cmpE_drop hc1 hc2, cmpP_eq] at he
          refine And.intro (fun hq => ?_) (fun hq => ?_)
          · have hq : a.e[k].1 ≠ b.e[k].1 := by rw [hg, hgb] at hq; simpa using hq
            refine Exists.intro [.blk [0, 1, 2, 3, 4, 5, 6, 7, 8, 9, 10, 11, 12, 13, 14]] (And.intro (by kernel_rfl) ?_)
            refine And.intro ⟨by omega, by omega⟩ ?_
            refine And.intro ⟨by omega, by omega⟩ ?_
            refine Exists.intro _ (And.intro (s_sgn (Op.bytesLess (a.e.getD (Int.toNat (k : Int)) (dflt .ent)).1 (b.e.getD (Int.toNat (k : Int)) (dflt .ent)).1)) ?_)
            refine congrArg (AV.i .i64) ?_
            rw [hg, hgb, hr, he, cmpS_ne hq, orI_ne (sg_nz _), orI_ne (sg_nz _)]
          · have hq : a.e[k].1 = b.e[k].1 := by rw [hg, hgb] at hq; simpa using hq
            rw [hq, cmpS_self, orI_zero] at he
            refine Exists.intro [.blk [0, 1, 2, 3, 4, 5, 6, 7, 8, 9, 10, 11, 12, 13]] (And.intro (by kernel_rfl) ?_)
            refine And.intro ⟨by omega, by omega⟩ ?_
            refine And.intro ⟨by omega, by omega⟩ ?_
            refine Exists.intro _ (And.intro (hcall) ?_)
            rw [hg, hgb]
            refine And.intro (fun hz => ?_) (fun hz => ?_)
            · have hz : cmpV a.e[k].2 b.e[k].2 ≠ 0 := by simpa using hz
              rw [orI_ne hz] at he
              refine congrArg (AV.i .i64) ?_
              rw [hr, he]
            · have hz : cmpV a.e[k].2 b.e[k].2 = 0 := by simpa using hz
              rw [hz, orI_zero] at he
              have := len_le hla
              (refine And.intro (rng64 (by omega) (by omega)) ?_)
              refine Exists.intro [] (Exists.intro (k + 1) (And.intro ⟨hc1, hc2, he⟩ (And.intro ?_ ?_)))
              · (repeat' (first | exact trivial | exact Or.inl rfl | exact Or.inr (Or.inl ⟨rfl, _, rfl⟩) | exact Or.inr (Or.inr (Or.inr ⟨_, _, _, rfl, rfl⟩)) | refine And.intro ?_ ?_))
              · show a.e.length - (k + 1) < a.e.length - k
                omega
        · have hc2 : k = b.e.length := by have : ¬ (k : Int) < (b.e.length : Int) := of_decide_eq_false hc2
                                          omega
          refine Exists.intro () (And.intro ⟨k, he, .inr ⟨hc2, hka⟩⟩ ?_)
          (repeat' (first | exact trivial | exact Or.inl rfl | exact Or.inr (Or.inl ⟨rfl, _, rfl⟩) | exact Or.inr (Or.inr (Or.inr ⟨_, _, _, rfl, rfl⟩)) | refine And.intro ?_ ?_))
      · have hc1 : k = a.e.length := by have : ¬ (k : Int) < (a.e.length : Int) := of_decide_eq_false hc1
                                        omega
        refine And.intro (fun h9 => Bool.noConfusion h9) (fun _ => ?_)
        refine Exists.intro () (And.intro ⟨k, he, .inl ⟨hc1, hkb⟩⟩ ?_)
        (repeat' (first | exact trivial | exact Or.inl rfl | exact Or.inr (Or.inl ⟨rfl, _, rfl⟩) | exact Or.inr (Or.inr (Or.inr ⟨_, _, _, rfl, rfl⟩)) | refine And.intro ?_ ?_))
  rintro _ ⟨k, he, hk2⟩
  refine VCs.of_vc Γ_good ?_
  intro hla
  intro hlb
  refine And.intro (fun hz => ?_) (fun hz => ?_)
  · have hz : a.e.length ≠ b.e.length := len_ne hz
    intro _
    intro _
    refine Or.inl (Exists.intro _ (And.intro (s_sgn (decide ((a.e.length : Int) < (b.e.length : Int)))) ?_))
    refine congrArg (AV.i .i64) ?_
    rcases hk2 with ⟨h2, h3⟩ | ⟨h2, h3⟩
    · rw [cmpE_long (by omega) (by omega)] at he
      rw [hr, he, decide_eq_true (by omega)]
      rfl
    · rw [cmpE_short (by omega) (by omega)] at he
      rw [hr, he, decide_eq_false (by omega)]
      rfl
  · have hz : a.e.length = b.e.length := len_eq hz
    refine congrArg (AV.i .i64) ?_
    rw [hr, he, cmpE_end (by omega) (by omega)]
theorem s_besd (a b : Val) (h0 : 0 ≤ a.f ∧ a.f ≤ 18446744073709551615) (h1 : 0 ≤ b.f ∧ b.f ≤ 18446744073709551615) (hc : ∀ x ∈ a.l, ∀ y ∈ b.l, PSpec Try.prog 51 [.agg (encVal x), .agg (encVal y)] (.i .i64 (cmpV x y))) (hp : ∀ x ∈ a.e, ∀ y ∈ b.e, PSpec Try.prog 51 [.agg (encVal x.2), .agg (encVal y.2)] (.i .i64 (cmpV x.2 y.2))) : PSpec Try.prog 51 [.agg (encVal a), .agg (encVal b)] (.i .i64 (cmpV a b)) :=
  pspec_of_VCs Γ_good Try.func51 rfl Try.call51 Try.results51 Try.ntmps51 (Nat.le_of_ble_eq_true rfl) (w_besd a b h0 h1 hc hp) Γ_good
theorem beside_spec : ∀ (n : Nat) (a b : Val), SizeOf.sizeOf a < n → VB a → VB b → PSpec Try.prog 51 [.agg (encVal a), .agg (encVal b)] (.i .i64 (cmpV a b)) := by
  intro n
  induction n with
  | zero => intro a b h; exact absurd h (Nat.not_lt_zero _)
  | succ n ih =>
    intro a b hs ha hb
    cases ha with
    | mk _ a1 a2 a3 a4 a5 =>
    cases hb with
    | mk _ b1 b2 b3 b4 b5 =>
      refine s_besd a b a3 b3 (fun x hx y hy => ih x y ?_ (a4 x hx) (b4 y hy)) (fun x hx y hy => ih x.2 y.2 ?_ (a5 x hx) (b5 y hy))
      · have := val_sz_l hx; omega
      · have := val_sz_e hx; omega
theorem s_Beside (a b : Val) (ha : VB a) (hb : VB b) : PSpec Try.prog 51 [.agg (encVal a), .agg (encVal b)] (.i .i64 (cmpV a b)) :=
  beside_spec _ a b (Nat.lt_succ_self _) ha hb
end
end Go.Proofs.Ytjlbaagnoppfgaa
