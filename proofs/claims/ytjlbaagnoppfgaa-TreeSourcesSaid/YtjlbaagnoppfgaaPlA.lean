/-
  A part of the proof that 'typecaselaw.PlaceTells' returns true: where lines begin, walked. No conditions.
-/
import Derived.Test.YtjlbaagnoppfgaaSxCtx
import Derived.Test.YtjlbaagnoppfgaaSxLaw
import Derived.Test.YtjlbaagnoppfgaaPlaceLaw
namespace Go.Proofs.Ytjlbaagnoppfgaa
set_option linter.unusedSectionVars false
set_option linter.unusedSimpArgs false
set_option linter.unusedVariables false
open Go Go.SX Go.Spl
set_option maxRecDepth 100000
set_option maxHeartbeats 0
theorem take_snoc {s : Str} {k : Nat} (hk : k < s.length) : s.take (k + 1) = s.take k ++ [s[k]] := by rw [List.take_add_one, List.getElem?_eq_getElem hk]; rfl
theorem startsFrom_len (s : Str) : ∀ i, (startsFrom i s).length ≤ s.length := by
  induction s with
  | nil => intro i; exact Nat.le_refl _
  | cons b s ih =>
    intro i
    have := ih (i + 1)
    unfold startsFrom
    split <;> simp only [List.length_cons] <;> omega
theorem starts_len (s : Str) : (starts s).length ≤ s.length + 1 := by have := startsFrom_len s 0; simp only [starts, List.length_cons]; omega
theorem byte_ten (b : UInt8) : (b.toNat : Int) = 10 ↔ b = 10 := by
  constructor
  · intro h
    have h : b.toNat = 10 := by omega
    exact UInt8.toNat_inj.1 h
  · rintro rfl; rfl
theorem walk45 (s : Str) (hs : s.length ≤ 1048576) : vc Try.prog Γ 24 [0, 2, 3, 4, 5, 8, 9, 10, 11, 16] (Try.f45.body.getD .skip) (postK Γ [.tmp 2] (fun v => v = .rd .int (starts s))) ⟨argSlots 0 [.s s], []⟩ := by
  intro hl
  refine Exists.intro [] (Exists.intro [] (Exists.intro [] (Exists.intro Nat (Exists.intro (fun k => k ≤ s.length) (Exists.intro (fun k => ⟨[(3, .vec 6 .int (starts (s.take k))), (8, .rd .u8 (s.map fun b => (b.toNat : Int))), (9, .i .i64 (s.map fun b => (b.toNat : Int)).length), (10, .i .i64 k)], []⟩) (Exists.intro (fun k => s.length - k) (Exists.intro 0 (And.intro (Nat.zero_le _) (And.intro ?_ ?_)))))))))
  · repeat' (first | exact trivial | exact Or.inl rfl | refine And.intro ?_ ?_)
  · intro k hk
    refine And.intro (fun h => ?_) (fun h => ?_)
    · have hk : k < s.length := by have := of_decide_eq_true h; rw [List.length_map] at this; omega
      refine And.intro ⟨by omega, by rw [List.length_map]; omega⟩ ?_
      have hb : (s.map fun b => (b.toNat : Int)).getD (Int.toNat k) (dflt .u8) = (s[k].toNat : Int) := by rw [Int.toNat_natCast, List.getD_eq_getElem?_getD, List.getElem?_map, List.getElem?_eq_getElem hk]; rfl
      have hst := starts_len (s.take k)
      have htl : (s.take k).length = k := by simp; omega
      refine And.intro (fun h => ?_) (fun h => ?_)
      · have h10 : s[k] = 10 := by rw [hb] at h; exact (byte_ten _).1 (by simpa using h)
        refine And.intro ⟨by show (-9223372036854775808 : Int) ≤ _; omega, by show _ ≤ (9223372036854775807 : Int); omega⟩ ?_
        refine And.intro (by show ((starts (s.take k)).length + 1) * 8 ≤ _; omega) ?_
        refine And.intro ⟨by show (-9223372036854775808 : Int) ≤ _; omega, by show _ ≤ (9223372036854775807 : Int); omega⟩ ?_
        refine Exists.intro [(21, 6)] (Exists.intro (k + 1) (And.intro hk (And.intro ?_ ?_)))
        · refine And.intro (And.intro (Or.inl ?_) (And.intro (Or.inl rfl) (And.intro (Or.inl rfl) (And.intro (Or.inl rfl) trivial)))) trivial
          show AV.vec 6 .int (starts (s.take k) ++ [(k : Int) + 1]) = AV.vec 6 .int (starts (s.take (k + 1)))
          rw [take_snoc hk, starts_snoc, if_pos h10, htl]
          rfl
        · show s.length - (k + 1) < s.length - k
          omega
      · have h10 : s[k] ≠ 10 := by rw [hb] at h; intro e; rw [e] at h; exact absurd h (by decide)
        refine And.intro ⟨by show (-9223372036854775808 : Int) ≤ _; omega, by show _ ≤ (9223372036854775807 : Int); omega⟩ ?_
        refine Exists.intro [] (Exists.intro (k + 1) (And.intro hk (And.intro ?_ ?_)))
        · refine And.intro (And.intro (Or.inl ?_) (And.intro (Or.inl rfl) (And.intro (Or.inl rfl) (And.intro (Or.inl rfl) trivial)))) trivial
          show AV.vec 6 .int (starts (s.take k)) = AV.vec 6 .int (starts (s.take (k + 1)))
          rw [take_snoc hk, starts_snoc, if_neg h10, List.append_nil]
        · show s.length - (k + 1) < s.length - k
          omega
    · have hk : k = s.length := by have := of_decide_eq_false h; rw [List.length_map] at this; omega
      show AV.rd .int (starts (s.take k)) = AV.rd .int (starts s)
      rw [hk, List.take_length]
theorem spec45 (s : Str) (hs : s.length ≤ 1048576) : PSpec Try.prog 45 [.s s] (.rd .int (starts s)) :=
  pspec_of_vc Γ_good Try.func45 rfl Try.call45 Try.results45 Try.ntmps45 (Nat.le_of_ble_eq_true rfl) (walk45 s hs)
theorem line_le (s : Str) (k : Nat) : ((lines s).getD k []).length ≤ s.length := by
  rw [List.getD_eq_getElem?_getD]
  cases h : (lines s)[k]? with
  | none => exact Nat.zero_le _
  | some x =>
    have hk := (List.getElem?_eq_some_iff.1 h).1
    rw [(lok s).len] at hk
    have := ((lok s).say k _ (List.getElem?_eq_getElem hk)).1
    rw [h] at this
    injection this with e
    rw [Option.getD_some, e]
    have h1 := (List.takeWhile_sublist (l := s.drop ((starts s)[k]).toNat) lineP).length_le
    have h2 : (s.drop ((starts s)[k]).toNat).length ≤ s.length := by simp
    omega
theorem lines_len (s : Str) : (lines s).length ≤ s.length + 1 := by rw [(lok s).len]; exact starts_len s
theorem walk43 (s : Str) (hs : s.length ≤ 1048576) : vc Try.prog Γ 42 [0, 2, 3, 4, 5, 6, 12, 18] (Try.f43.body.getD .skip) (postK Γ [.tmp 2, .tmp 3] (fun v => v = .tup [.rd .int (starts s), .rd .str (lines s)])) ⟨argSlots 0 [.s s], []⟩ := by
  refine Exists.intro [] (Exists.intro [] (Exists.intro [] (Exists.intro Nat (Exists.intro (fun k => k ≤ s.length) (Exists.intro (fun k => ⟨[(0, .s s), (4, .vec 7 .int (starts (s.take k))), (5, .vec 8 .str (lines (s.take k))), (6, .i .i64 k)], []⟩) (Exists.intro (fun k => s.length - k) (Exists.intro 0 (And.intro (Nat.zero_le _) (And.intro ?_ ?_)))))))))
  · repeat' (first | exact trivial | exact Or.inl rfl | refine And.intro ?_ ?_)
  · intro k hk
    intro hl
    refine And.intro (fun h => ?_) (fun h => ?_)
    · have hk : k < s.length := by have := of_decide_eq_true h; omega
      refine And.intro ⟨by omega, by omega⟩ ?_
      have htl : (s.take k).length = k := by simp; omega
      have hst := starts_len (s.take k)
      have hln := lines_len (s.take k)
      refine And.intro (fun h => ?_) (fun h => ?_)
      · have h10 : s[k] = 10 := by
          have hg : s.getD (Int.toNat k) 0 = s[k] := by rw [Int.toNat_natCast, List.getD_eq_getElem?_getD, List.getElem?_eq_getElem hk]; rfl
          rw [hg] at h; exact (byte_ten _).1 (by simpa using h)
        refine And.intro ⟨by show (-9223372036854775808 : Int) ≤ _; omega, by show _ ≤ (9223372036854775807 : Int); omega⟩ ?_
        refine And.intro (by show ((starts (s.take k)).length + 1) * 8 ≤ _; omega) ?_
        refine And.intro (by show ((lines (s.take k)).length + 1) * 16 ≤ _; omega) ?_
        refine And.intro ⟨by show (-9223372036854775808 : Int) ≤ _; omega, by show _ ≤ (9223372036854775807 : Int); omega⟩ ?_
        refine Exists.intro [(23, 7), (26, 8)] (Exists.intro (k + 1) (And.intro hk (And.intro ?_ ?_)))
        · refine And.intro (And.intro (Or.inl rfl) (And.intro (Or.inl ?_) (And.intro (Or.inl ?_) (And.intro (Or.inl rfl) trivial)))) trivial
          · show AV.vec 7 .int (starts (s.take k) ++ [(k : Int) + 1]) = AV.vec 7 .int (starts (s.take (k + 1)))
            rw [take_snoc hk, starts_snoc, if_pos h10, htl]
            rfl
          · show AV.vec 8 .str (lines (s.take k) ++ [[]]) = AV.vec 8 .str (lines (s.take (k + 1)))
            rw [take_snoc hk, lines_snoc, lineStep, if_pos h10]
        · show s.length - (k + 1) < s.length - k
          omega
      · have hg : s.getD (Int.toNat k) 0 = s[k] := by rw [Int.toNat_natCast, List.getD_eq_getElem?_getD, List.getElem?_eq_getElem hk]; rfl
        have h10 : s[k] ≠ 10 := by rw [hg] at h; intro e; rw [e] at h; exact absurd h (by decide)
        refine Exists.intro [.take 0, .take 1, .take 2, .blk [3, 4, 5, 6, 7, 8, 9, 10, 11, 12], .one 13] (And.intro (by kernel_rfl) ?_)
        intro hll
        have hlp : 1 ≤ (lines (s.take k)).length := by rw [(lok _).len]; exact starts_pos _
        have hle := line_le (s.take k) (((lines (s.take k)).length : Int) - 1).toNat
        have hi : (((lines (s.take k)).length : Int) - 1).toNat = (lines (s.take k)).length - 1 := by omega
        have hd : (s.take ((k : Int) + 1).toNat).drop (k : Int).toNat = [s[k]] := by
          have e : ((k : Int) + 1).toNat = k + 1 := by omega
          have e2 : (k : Int).toNat = k := by omega
          rw [e, e2, take_snoc hk, List.drop_append_of_le_length (by omega), List.drop_of_length_le (by omega)]
          rfl
        refine And.intro ⟨by show (-9223372036854775808 : Int) ≤ _; omega, by show _ ≤ (9223372036854775807 : Int); omega⟩ ?_
        refine And.intro ⟨by omega, by omega⟩ ?_
        refine And.intro ⟨by show (-9223372036854775808 : Int) ≤ _; omega, by show _ ≤ (9223372036854775807 : Int); omega⟩ ?_
        refine And.intro ⟨by omega, by omega, by omega⟩ ?_
        refine And.intro (by rw [hd]; show ((lines (s.take k)).getD _ []).length + 1 ≤ _; unfold maxLen; omega) ?_
        refine And.intro ⟨by omega, by omega⟩ ?_
        refine And.intro ⟨by show (-9223372036854775808 : Int) ≤ _; omega, by show _ ≤ (9223372036854775807 : Int); omega⟩ ?_
        refine Exists.intro [] (Exists.intro (k + 1) (And.intro hk (And.intro ?_ ?_)))
        · refine And.intro (And.intro (Or.inl rfl) (And.intro (Or.inl ?_) (And.intro (Or.inl ?_) (And.intro (Or.inl rfl) trivial)))) trivial
          · show AV.vec 7 .int (starts (s.take k)) = AV.vec 7 .int (starts (s.take (k + 1)))
            rw [take_snoc hk, starts_snoc, if_neg h10, List.append_nil]
          · show AV.vec 8 .str ((lines (s.take k)).set (((lines (s.take k)).length : Int) - 1).toNat ((lines (s.take k)).getD (((lines (s.take k)).length : Int) - 1).toNat [] ++ (s.take ((k : Int) + 1).toNat).drop (k : Int).toNat)) = AV.vec 8 .str (lines (s.take (k + 1)))
            rw [take_snoc hk, lines_snoc, lineStep, if_neg h10, hd, hi]
        · show s.length - (k + 1) < s.length - k
          omega
    · have hk : k = s.length := by have := of_decide_eq_false h; omega
      show AV.tup [.rd .int (starts (s.take k)), .rd .str (lines (s.take k))] = _
      rw [hk, List.take_length]
theorem spec43 (s : Str) (hs : s.length ≤ 1048576) : PSpec Try.prog 43 [.s s] (.tup [.rd .int (starts s), .rd .str (lines s)]) :=
  pspec_of_vc Γ_good Try.func43 rfl Try.call43 Try.results43 Try.ntmps43 (Nat.le_of_ble_eq_true rfl) (walk43 s hs)
theorem walk15 (a b : List Int) : vc Try.prog Γ 26 [0, 1, 4, 5, 10, 12, 13, 14, 24] (Try.f15.body.getD .skip) (postK Γ [.tmp 4] (fun v => v = .b (decide (a = b)))) ⟨argSlots 0 [.rd .int a, .rd .int b], []⟩ := by
  intro hlx hly
  refine And.intro (fun h => ?_) (fun h => ?_)
  · have hne : a.length ≠ b.length := by have : ¬ ((a.length : Int) = b.length) := by simpa using h
                                         omega
    show AV.b false = AV.b (decide (a = b))
    rw [decide_eq_false (fun e => hne (by rw [e]))]
  · have heq : a.length = b.length := by have : (a.length : Int) = b.length := by simpa using h
                                         omega
    intro _
    refine Exists.intro [] (Exists.intro [] (Exists.intro [] (Exists.intro Nat (Exists.intro (fun k => k ≤ a.length ∧ a.take k = b.take k) (Exists.intro (fun k => ⟨[(0, .rd .int a), (1, .rd .int b), (12, .i .i64 a.length), (13, .i .i64 k)], []⟩) (Exists.intro (fun k => a.length - k) (Exists.intro 0 (And.intro ⟨Nat.zero_le _, by simp⟩ (And.intro ?_ ?_)))))))))
    · repeat' (first | exact trivial | exact Or.inl rfl | refine And.intro ?_ ?_)
    · intro k ⟨hk, ht⟩
      refine And.intro (fun h => ?_) (fun h => ?_)
      · have hk : k < a.length := by have := of_decide_eq_true h; omega
        refine Exists.intro [.blk [0, 1, 2, 3, 4, 5, 6, 7, 8]] (And.intro (by kernel_rfl) ?_)
        refine And.intro ⟨by omega, by omega⟩ ?_
        refine And.intro ⟨by omega, by omega⟩ ?_
        have hky : k < b.length := by omega
        have hpx : a.getD (Int.toNat k) (dflt .int) = a[k] := by rw [Int.toNat_natCast, List.getD_eq_getElem?_getD, List.getElem?_eq_getElem hk]; rfl
        have hpy : b.getD (Int.toNat k) (dflt .int) = b[k] := by rw [Int.toNat_natCast, List.getD_eq_getElem?_getD, List.getElem?_eq_getElem hky]; rfl
        refine And.intro (fun h => ?_) (fun h => ?_)
        · show AV.b false = AV.b (decide (a = b))
          rw [decide_eq_false]
          intro e
          subst e
          rw [hpx] at h
          simp at h
        · have he : a[k] = b[k] := by
            rw [hpx, hpy] at h
            simpa using h
          refine And.intro ⟨by show (-9223372036854775808 : Int) ≤ _; omega, by unfold maxLen at hlx; show _ ≤ (9223372036854775807 : Int); omega⟩ ?_
          refine Exists.intro [] (Exists.intro (k + 1) (And.intro ⟨hk, by rw [List.take_add_one, List.take_add_one, ht, List.getElem?_eq_getElem hk, List.getElem?_eq_getElem hky, he]⟩ (And.intro ?_ ?_)))
          · repeat' (first | exact trivial | exact Or.inl rfl | refine And.intro ?_ ?_)
          · show a.length - (k + 1) < a.length - k
            omega
      · have hk : k = a.length := by have := of_decide_eq_false h; omega
        show AV.b true = AV.b (decide (a = b))
        rw [decide_eq_true (by rw [hk, List.take_length, heq, List.take_length] at ht; exact ht)]
theorem spec15 (a b : List Int) : PSpec Try.prog 15 [.rd .int a, .rd .int b] (.b (decide (a = b))) :=
  pspec_of_vc Γ_good Try.func15 rfl Try.call15 Try.results15 Try.ntmps15 (Nat.le_of_ble_eq_true rfl) (walk15 a b)
end Go.Proofs.Ytjlbaagnoppfgaa
