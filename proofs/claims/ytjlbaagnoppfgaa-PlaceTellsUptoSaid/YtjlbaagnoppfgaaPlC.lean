/-
  A part of the proof that 'typecaselaw.PlaceTells' returns true: a place's line is sought. No conditions.
-/
import Derived.Test.YtjlbaagnoppfgaaPlB
namespace Go.Proofs.Ytjlbaagnoppfgaa
open Go Go.SX Go.Spl
set_option maxRecDepth 100000
set_option maxHeartbeats 0
theorem walk93 (l : List Int) (p k : Int) (h0 : 0 ≤ k) (h1 : k < l.length) : vc Try.prog Γ 11 [0, 1, 2, 4, 1000, 1001] (Try.f93.body.getD .skip) (postBK Γ [.tmp 4] (.b (decide (p < l.getD k.toNat 0))) [(1000, [.rd .int l]), (1001, [.i .i64 p])])
    ⟨argSlots 0 [.i .i64 k, .pt 1000 0, .pt 1001 0], [(1000, [.rd .int l]), (1001, [.i .i64 p])]⟩ := by
  refine Exists.intro [.blk [0, 1, 2, 3, 4, 5, 6]] (And.intro (by kernel_rfl) ?_)
  refine And.intro ⟨by omega, by omega⟩ ?_
  refine Exists.intro [] (And.intro ?_ (And.intro (And.intro (Or.inl rfl) trivial) (And.intro (And.intro (Or.inl rfl) trivial) trivial)))
  show AV.b (decide (p < l.getD k.toNat 0)) = _
  rfl
theorem spec93 (l : List Int) (p k : Int) (h0 : 0 ≤ k) (h1 : k < l.length) : CSpec Try.prog 93 [.i .i64 k, .pt 1000 0, .pt 1001 0] [(1000, [.rd .int l]), (1001, [.i .i64 p])] (.b (decide (p < l.getD k.toNat 0))) [(1000, [.rd .int l]), (1001, [.i .i64 p])] :=
  cspec_of_vc Γ_good Try.func93 rfl Try.call93 Try.results93 Try.ntmps93 (Nat.le_of_ble_eq_true rfl) (Nat.le_of_ble_eq_true rfl) (by rfl) (walk93 l p k h0 h1)
def mid (i j : Nat) : Int := IntKind.i64.wrap ((IntKind.u64.wrap ((i : Int) + (j : Int))).fdiv (2 ^ (min (Int.toNat 1) IntKind.u64.bits)))
theorem mid_eq {i j : Nat} (h : i + j ≤ 100000000) : mid i j = (((i + j) / 2 : Nat) : Int) := by
  unfold mid
  rw [IntWalk.u64_in _ ⟨by omega, by omega⟩]
  have e : (2 : Int) ^ (min (Int.toNat 1) IntKind.u64.bits) = 2 := by decide
  rw [e, Int.fdiv_eq_ediv_of_nonneg _ (by decide), IntWalk.i64_in _ ⟨by omega, by omega⟩]
  omega
theorem walk92 (l : List Int) (p : Int) (hl : l.length ≤ 2000000) (hs : l.Pairwise (· < ·)) : vc Try.prog Γ 26 [0, 1, 4, 5, 6, 7, 11, 21, 1000, 1001] (Try.f92.body.getD .skip) (postBK Γ [.tmp 4] (.i .i64 (upTo l p)) [(1000, [.rd .int l]), (1001, [.i .i64 p])])
    ⟨argSlots 0 [.i .i64 l.length, .fn 93 [.pt 1000 0, .pt 1001 0]], [(1000, [.rd .int l]), (1001, [.i .i64 p])]⟩ := by
  refine Exists.intro [] (Exists.intro [] (Exists.intro [] (Exists.intro (Nat × Nat) (Exists.intro (fun x => x.1 ≤ x.2 ∧ x.2 ≤ l.length ∧ x.1 ≤ upTo l p ∧ upTo l p ≤ x.2) (Exists.intro (fun x => ⟨[(1, .fn 93 [.pt 1000 0, .pt 1001 0]), (5, .i .i64 x.1), (6, .i .i64 x.2)], [(1000, [.rd .int l]), (1001, [.i .i64 p])]⟩) (Exists.intro (fun x => x.2 - x.1) (Exists.intro (0, l.length) (And.intro ⟨Nat.zero_le _, Nat.le_refl _, Nat.zero_le _, upTo_le _ _⟩ (And.intro ?_ ?_)))))))))
  · repeat' (first | exact trivial | exact Or.inl rfl | refine And.intro ?_ ?_)
  · rintro ⟨i, j⟩ ⟨h1, h2, h3, h4⟩
    refine And.intro (fun h => ?_) (fun h => ?_)
    · have h : i < j := by have := of_decide_eq_true h; simp only at this; omega
      simp only at h1 h2 h3 h4
      have hm := mid_eq (i := i) (j := j) (by omega)
      refine And.intro ⟨by show (-9223372036854775808 : Int) ≤ (i : Int) + (j : Int); omega, by show (i : Int) + (j : Int) ≤ (9223372036854775807 : Int); omega⟩ ?_
      refine And.intro (by decide) ?_
      refine Or.inr (Exists.intro [] (Exists.intro 93 (Exists.intro [.i .i64 (mid i j), .pt 1000 0, .pt 1001 0] (Exists.intro [(1000, [.rd .int l]), (1001, [.i .i64 p])] (Exists.intro (.b (decide (p < l.getD (mid i j).toNat 0))) (Exists.intro [(1000, [.rd .int l]), (1001, [.i .i64 p])] (Exists.intro [(1000, 1000), (1001, 1001)] (And.intro (spec93 l p (mid i j) (by omega) (by omega)) ?_))))))))
      refine (And.intro rfl (And.intro rfl (And.intro rfl (And.intro rfl (And.intro rfl (And.intro rfl ?_))))))
      have hmn : (mid i j).toNat = (i + j) / 2 := by omega
      have hg := getI (l := l) (k := (mid i j).toNat) (by omega)
      rw [hmn] at hg ⊢
      refine And.intro (fun h => ?_) (fun h => ?_)
      · have hle : ¬ p < l.getD ((i + j) / 2) 0 := by simpa using h
        have hup : (i + j) / 2 < upTo l p := by
          rcases Nat.lt_or_ge ((i + j) / 2) (upTo l p) with h | h
          · exact h
          · exact absurd (upTo_ge hs hg h) hle
        refine And.intro ⟨by show (-9223372036854775808 : Int) ≤ mid i j + 1; omega, by show mid i j + 1 ≤ (9223372036854775807 : Int); omega⟩ ?_
        refine Exists.intro [] (Exists.intro ((i + j) / 2 + 1, j) (And.intro ⟨by show (i + j) / 2 + 1 ≤ j; omega, h2, by show (i + j) / 2 + 1 ≤ upTo l p; omega, h4⟩ (And.intro ?_ ?_)))
        · refine And.intro (And.intro (Or.inl rfl) (And.intro (Or.inl ?_) (And.intro (Or.inl rfl) trivial))) (And.intro (And.intro (Or.inl rfl) trivial) (And.intro (And.intro (Or.inl rfl) trivial) trivial))
          show AV.i .i64 (mid i j + 1) = AV.i .i64 (((i + j) / 2 + 1 : Nat) : Int)
          rw [hm]
          rfl
        · show j - ((i + j) / 2 + 1) < j - i
          omega
      · have hlt : p < l.getD ((i + j) / 2) 0 := by simpa using h
        have hup : upTo l p ≤ (i + j) / 2 := by
          rcases Nat.lt_or_ge ((i + j) / 2) (upTo l p) with h | h
          · have := upTo_lt hg h; omega
          · exact h
        refine Exists.intro [] (Exists.intro (i, (i + j) / 2) (And.intro ⟨by show i ≤ (i + j) / 2; omega, by show (i + j) / 2 ≤ l.length; omega, h3, hup⟩ (And.intro ?_ ?_)))
        · refine And.intro (And.intro (Or.inl rfl) (And.intro (Or.inl rfl) (And.intro (Or.inl ?_) trivial))) (And.intro (And.intro (Or.inl rfl) trivial) (And.intro (And.intro (Or.inl rfl) trivial) trivial))
          show AV.i .i64 (mid i j) = AV.i .i64 (((i + j) / 2 : Nat) : Int)
          rw [hm]
        · show (i + j) / 2 - i < j - i
          omega
    · have hij : i = j := by have := of_decide_eq_false h; simp only at this h1; omega
      simp only at h3 h4
      refine Exists.intro [] (And.intro ?_ (And.intro (And.intro (Or.inl rfl) trivial) (And.intro (And.intro (Or.inl rfl) trivial) trivial)))
      show AV.i .i64 (i : Int) = AV.i .i64 (upTo l p : Int)
      have : i = upTo l p := by omega
      rw [this]
theorem spec92 (l : List Int) (p : Int) (hl : l.length ≤ 2000000) (hs : l.Pairwise (· < ·)) : CSpec Try.prog 92 [.i .i64 l.length, .fn 93 [.pt 1000 0, .pt 1001 0]] [(1000, [.rd .int l]), (1001, [.i .i64 p])] (.i .i64 (upTo l p)) [(1000, [.rd .int l]), (1001, [.i .i64 p])] :=
  cspec_of_vc Γ_good Try.func92 rfl Try.call92 Try.results92 Try.ntmps92 (Nat.le_of_ble_eq_true rfl) (Nat.le_of_ble_eq_true rfl) (by rfl) (walk92 l p hl hs)
def ofRes (s : Str) (p : Int) : AV := if p < 0 ∨ s.length < p then .tup [.i .i64 0, .i .i64 0, .i .i64 1] else .tup [.i .i64 (upTo (starts s) p), .i .i64 (p - (starts s).getD (upTo (starts s) p - 1) 0 + 1), .i .i64 0]
theorem upTo_pos (s : Str) {p : Int} (h : 0 ≤ p) : 1 ≤ upTo (starts s) p := by
  have hd : decide ((0 : Int) ≤ p) = true := by simpa using h
  simp only [upTo, starts, List.takeWhile_cons, hd, if_true, List.length_cons]
  omega
theorem walk44 (s : Str) (p : Int) (hs : s.length ≤ 1048576) : vc Try.prog Γ 32 [0, 3, 4, 5, 6, 7, 8, 16] (Try.f44.body.getD .skip) (postK Γ [.tmp 4, .tmp 5, .tmp 6] (fun v => v = ofRes s p)) ⟨argSlots 0 [.s s, .i .i64 p], []⟩ := by
  have hsl := starts_len s
  refine And.intro (fun h0 => ?_) (fun h0 => ?_)
  · have h0 : 0 ≤ p := by have := of_decide_eq_false h0; omega
    intro _
    refine And.intro (fun h1 => ?_) (fun h1 => ?_)
    · have h1 : (s.length : Int) < p := by simpa using h1
      show AV.tup [.i .i64 0, .i .i64 0, .i .i64 1] = ofRes s p
      rw [ofRes, if_pos (.inr h1)]
    · have h1 : ¬ (s.length : Int) < p := by simpa using h1
      have hu1 := upTo_pos s h0
      have hu2 := upTo_le (starts s) p
      have hk : upTo (starts s) p - 1 < (starts s).length := by omega
      have hx := (lok s).le _ (List.mem_of_getElem? (getI hk))
      refine Or.inl (Exists.intro _ (And.intro (spec45 s hs) ?_))
      intro _
      refine Or.inr (Exists.intro [] (Exists.intro 92 (Exists.intro [.i .i64 (starts s).length, .fn 93 [.pt 1000 0, .pt 1001 0]] (Exists.intro [(1000, [.rd .int (starts s)]), (1001, [.i .i64 p])] (Exists.intro (.i .i64 (upTo (starts s) p)) (Exists.intro [(1000, [.rd .int (starts s)]), (1001, [.i .i64 p])] (Exists.intro [(1000, 7), (1001, 3)] (And.intro (spec92 (starts s) p (by omega) (lok s).inc) ?_))))))))
      refine (And.intro rfl (And.intro rfl (And.intro rfl (And.intro rfl (And.intro rfl (And.intro rfl ?_))))))
      refine Exists.intro [.blk [0, 1, 2, 3, 4, 5, 6, 7, 8, 9, 10, 11]] (And.intro (by kernel_rfl) ?_)
      have hi : (((upTo (starts s) p : Nat) : Int) - 1).toNat = upTo (starts s) p - 1 := by omega
      refine And.intro ⟨by show (-9223372036854775808 : Int) ≤ ((upTo (starts s) p : Nat) : Int) - 1; omega, by show ((upTo (starts s) p : Nat) : Int) - 1 ≤ (9223372036854775807 : Int); omega⟩ ?_
      refine And.intro ⟨by omega, by omega⟩ ?_
      refine And.intro ⟨by show (-9223372036854775808 : Int) ≤ p - (starts s).getD (((upTo (starts s) p : Nat) : Int) - 1).toNat 0; rw [hi]; omega, by show p - (starts s).getD (((upTo (starts s) p : Nat) : Int) - 1).toNat 0 ≤ (9223372036854775807 : Int); rw [hi]; omega⟩ ?_
      refine And.intro ⟨by show (-9223372036854775808 : Int) ≤ p - (starts s).getD (((upTo (starts s) p : Nat) : Int) - 1).toNat 0 + 1; rw [hi]; omega, by show p - (starts s).getD (((upTo (starts s) p : Nat) : Int) - 1).toNat 0 + 1 ≤ (9223372036854775807 : Int); rw [hi]; omega⟩ ?_
      show AV.tup [.i .i64 (upTo (starts s) p), .i .i64 (p - (starts s).getD (((upTo (starts s) p : Nat) : Int) - 1).toNat 0 + 1), .i .i64 0] = ofRes s p
      rw [ofRes, if_neg (by omega), hi]
  · have h0 : p < 0 := by simpa using h0
    refine And.intro (fun _ => ?_) (fun h => absurd h (by simp))
    show AV.tup [.i .i64 0, .i .i64 0, .i .i64 1] = ofRes s p
    rw [ofRes, if_pos (.inl h0)]
theorem spec44 (s : Str) (p : Int) (hs : s.length ≤ 1048576) : PSpec Try.prog 44 [.s s, .i .i64 p] (ofRes s p) :=
  pspec_of_vc Γ_good Try.func44 rfl Try.call44 Try.results44 Try.ntmps44 (Nat.le_of_ble_eq_true rfl) (walk44 s p hs)
end Go.Proofs.Ytjlbaagnoppfgaa
