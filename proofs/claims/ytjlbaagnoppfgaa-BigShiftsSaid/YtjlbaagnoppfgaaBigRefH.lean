/-
  A part of the proof of the laws of whole numbers: the document's numbers out of decimal digits, walked. No conditions.
-/
import Derived.Test.YtjlbaagnoppfgaaBigRefG
namespace Go.Proofs.Ytjlbaagnoppfgaa
set_option linter.unusedSectionVars false
set_option linter.unusedSimpArgs false
set_option linter.unusedVariables false
open Go Go.SX Go.Bg
set_option maxRecDepth 100000
set_option maxHeartbeats 0
theorem byte_sub {c : UInt8} (h : isd c) : IntKind.i64.wrap (IntKind.u8.wrap ((c.toNat : Int) - 48)) = ((c.toNat - 48 : Nat) : Int) := by
  obtain ⟨h1, h2⟩ := h
  rw [IntKind.wrap_u8, IntKind.wrap_i64]
  omega
theorem isd_get {s : Str} (h : ∀ c ∈ s, isd c) {k : Nat} (hk : k < s.length) : isd (s.getD k 0) := by
  rw [List.getD_eq_getElem?_getD, List.getElem?_eq_getElem hk]
  exact h _ (List.getElem_mem hk)
theorem chunk {s : Str} {k n : Nat} (hk : k ≤ s.length) (hn : n ≤ k) : dv (s.take k) = dv (s.take n) * 10 ^ (k - n) + dv ((s.take k).drop n) := by
  have := dv_split (s.take k) n
  rw [List.take_take, Nat.min_eq_left hn, List.length_drop, List.length_take, Nat.min_eq_left hk] at this
  exact this
theorem chunk_next {s : Str} {k n m : Nat} (hk : k ≤ s.length) (hm : m < k) (hn : n ≤ m) : dv ((s.take (m + 1)).drop n) = dv ((s.take m).drop n) * 10 + ((s.getD m 0).toNat - 48) := by
  have : (s.take (m + 1)).drop n = (s.take m).drop n ++ [s.getD m 0] := by
    rw [List.take_add_one, List.getElem?_eq_getElem (by omega), List.getD_eq_getElem?_getD, List.getElem?_eq_getElem (by omega), List.drop_append_of_le_length (by rw [List.length_take]; omega)]
    rfl
  rw [this, dv_snoc]
theorem ofd_next {s : Str} {k n x : Nat} {o : List Int} (h1 : k ≤ s.length) (h2 : Dg 10000 o) (h3 : o.length + k ≤ s.length) (h4 : vl 10000 o + 10000 ^ o.length * dv (s.take k) = dv s) (hx : x < 10000) (hc : dv (s.take k) = dv (s.take n) * 10 ^ (k - n) + x)
    (hn : n + 4 = k ∨ (n = 0 ∧ k < 4)) (hk : 0 < k) :
    n ≤ s.length ∧ Dg 10000 (o ++ [(x : Int)]) ∧ (o ++ [(x : Int)]).length + n ≤ s.length ∧ vl 10000 (o ++ [(x : Int)]) + 10000 ^ (o ++ [(x : Int)]).length * dv (s.take n) = dv s := by
  refine ⟨by omega, h2.snoc ⟨by omega, by omega⟩, by simp; omega, ?_⟩
  rw [vl_snoc, List.length_append, List.length_singleton, Int.toNat_natCast, Nat.pow_succ, ← h4, hc, Nat.mul_assoc, Nat.add_assoc, ← Nat.mul_add]
  rcases hn with h | ⟨rfl, h⟩
  · rw [show k - n = 4 by omega, Nat.add_comm x, Nat.mul_comm 10000]
  · rw [List.take_zero, dv]
    simp
section
variable [G : Globs]
theorem w_ofDigits (s : Str) (hs : ∀ c ∈ s, isd c) (hl : s.length ≤ 1000000) : vc Try.prog Γ 38 [0, 2, 3, 4, 5, 6, 9, 18] (Try.f42.body.getD .skip) (postK Γ [.tmp 2] (fun v => v = .rd .int (dg 10000 (dv s)))) ⟨argSlots 0 [.s s], []⟩ := by
  refine Exists.intro [(3, 3, .int)] (Exists.intro [] (Exists.intro [] (Exists.intro (Nat × List Int) (Exists.intro (fun x => x.1 ≤ s.length ∧ Dg 10000 x.2 ∧ x.2.length + x.1 ≤ s.length ∧ vl 10000 x.2 + 10000 ^ x.2.length * dv (s.take x.1) = dv s) (Exists.intro (fun ⟨k, o⟩ => ⟨[(0, .s (s.take k)), (3, .vec 3 .int o)], []⟩) (Exists.intro (fun x => x.1) (Exists.intro (s.length, []) (And.intro ⟨Nat.le_refl _, Dg.nil _, by simp, by simp [vl]⟩ (And.intro ?_ ?_)))))))))
  · (repeat' (first | exact trivial | exact Or.inl rfl | exact Or.inl ((by rw [List.take_length])) | refine And.intro ?_ ?_))
  · rintro ⟨k, o⟩ ⟨h1, h2, h3, h4⟩
    dsimp only at h1 h2 h3 h4
    have hlk : (s.take k).length = k := by rw [List.length_take]; omega
    intro _
    refine And.intro (fun hc => ?_) (fun hc => ?_)
    · have hk : 0 < k := by
        have : (0 : Int) < ((s.take k).length : Int) := of_decide_eq_true hc
        omega
      clear hc
      intro _
      (refine And.intro (rng64 (by omega) (by omega)) ?_)
      obtain ⟨n, hn, hn2⟩ : ∃ n : Nat, (if (0 : Int) < ((s.take k).length : Int) - 4 then ((s.take k).length : Int) - 4 else 0) = n ∧ ((n + 4 = k) ∨ (n = 0 ∧ k < 4)) := by
        rw [hlk]
        rcases Nat.lt_or_ge k 5 with h | h
        · exact ⟨0, by rw [if_neg (by omega)]; rfl, by omega⟩
        · exact ⟨k - 4, by rw [if_pos (by omega)]; omega, by omega⟩
      refine Exists.intro [] (Exists.intro [] (Exists.intro [] (Exists.intro (Nat × Nat) (Exists.intro (fun x => n ≤ x.1 ∧ x.1 ≤ k ∧ x.2 = dv ((s.take x.1).drop n)) (Exists.intro (fun ⟨m, x⟩ => ⟨[(0, .s (s.take k)), (3, .vec 3 .int o), (4, .i .i64 n), (5, .i .i64 x), (6, .i .i64 m)], []⟩) (Exists.intro (fun x => k - x.1) (Exists.intro (n, 0) (And.intro ⟨by simp, by dsimp only; omega, by dsimp only; rw [List.drop_of_length_le (by rw [List.length_take]; omega)]; rfl⟩ (And.intro ?_ ?_)))))))))
      · (repeat' (first | exact trivial | exact Or.inl rfl | exact Or.inl ((congrArg (AV.i .i64) hn)) | refine And.intro ?_ ?_))
      · rintro ⟨m, x⟩ ⟨g1, g2, g3⟩
        dsimp only at g1 g2 g3
        have hxl : x < 10 ^ (m - n) := by
          rw [g3]
          have := dv_lt (s := (s.take m).drop n) (fun c hc => hs c (List.mem_of_mem_take (List.mem_of_mem_drop hc)))
          rwa [List.length_drop, List.length_take, Nat.min_eq_left (by omega)] at this
        intro _
        refine And.intro (fun hd => ?_) (fun hd => ?_)
        · have hm : m < k := by have : (m : Int) < ((s.take k).length : Int) := of_decide_eq_true hd
                                omega
          clear hd
          have hx3 : x < 1000 := Nat.lt_of_lt_of_le hxl (Nat.pow_le_pow_right (i := m - n) (j := 3) (by decide) (by omega))
          have hg : isd (s.getD m 0) := isd_get hs (by omega)
          have he : (s.take k).getD (Int.toNat (m : Int)) 0 = s.getD m 0 := by
            rw [Int.toNat_natCast, List.getD_eq_getElem?_getD, List.getD_eq_getElem?_getD, List.getElem?_take_of_lt hm]
          have hb := hg.2
          (refine And.intro (rng64 (by omega) (by omega)) ?_)
          refine And.intro ⟨by omega, by omega⟩ ?_
          refine And.intro (rng64 (by rw [he, byte_sub hg]; omega) (by rw [he, byte_sub hg]; omega)) ?_
          (refine And.intro (rng64 (by omega) (by omega)) ?_)
          refine Exists.intro [] (Exists.intro (m + 1, x * 10 + ((s.getD m 0).toNat - 48)) (And.intro ⟨by dsimp only; omega, hm, by dsimp only; rw [chunk_next h1 hm g1, ← g3]⟩ (And.intro ?_ ?_)))
          · (repeat' (first | exact trivial | exact Or.inl rfl | exact Or.inl ((by rw [he, byte_sub hg]; rfl)) | refine And.intro ?_ ?_))
          · show k - (m + 1) < k - m
            omega
        · have hm : m = k := by have : ¬ (m : Int) < ((s.take k).length : Int) := of_decide_eq_false hd
                                omega
          subst hm
          have hx4 : x < 10000 := Nat.lt_of_lt_of_le hxl (Nat.pow_le_pow_right (i := m - n) (j := 4) (by decide) (by omega))
          refine And.intro (by show (o.length + 1) * 8 ≤ _; omega) ?_
          refine And.intro ⟨by omega, by omega, by omega⟩ ?_
          have hch := chunk h1 g1
          rw [← g3] at hch
          refine Exists.intro [(32, 3)] (Exists.intro (n, o ++ [(x : Int)]) (And.intro (ofd_next h1 h2 h3 h4 hx4 hch hn2 hk) (And.intro ?_ ?_)))
          · (repeat' (first | exact trivial | exact Or.inl rfl | exact Or.inl ((congrArg AV.s (by rw [Int.toNat_natCast, List.take_take, Nat.min_eq_left g1]; rfl))) | refine And.intro ?_ ?_))
          · show n < m
            omega
    · have hk : k = 0 := by
        have : ¬ (0 : Int) < ((s.take k).length : Int) := of_decide_eq_false hc
        omega
      subst hk
      have h4 : vl 10000 o = dv s := by simpa [dv] using h4
      refine Or.inl (Exists.intro _ (And.intro (s_cut o h2) ?_))
      exact congrArg (fun n => AV.rd .int (dg 10000 n)) h4
theorem s_ofDigits (s : Str) (hs : ∀ c ∈ s, isd c) (hl : s.length ≤ 1000000) : PSpec Try.prog 42 [.s s] (.rd .int (dg 10000 (dv s))) :=
  pspec_of_vc Γ_good Try.func42 rfl Try.call42 Try.results42 Try.ntmps42 (Nat.le_of_ble_eq_true rfl) (w_ofDigits s hs hl)
end
end Go.Proofs.Ytjlbaagnoppfgaa
