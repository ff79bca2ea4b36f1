/-
  A part of the proof that 'typecaselaw.ValCompares' returns true: the document's entry put in, walked. No conditions.
-/
import Derived.Test.YtjlbaagnoppfgaaValD
import Derived.Test.YtjlbaagnoppfgaaSxCut
namespace Go.Proofs.Ytjlbaagnoppfgaa
set_option linter.unusedSectionVars false
set_option linter.unusedSimpArgs false
set_option linter.unusedVariables false
open Go Go.SX Go.Vl
set_option maxRecDepth 100000
set_option maxHeartbeats 0
/-- an entry put in its place -/
def putE (l : List Ent) (k : Str) (a : Val) : List Ent := (withoutE l k).take ((withoutE l k).findIdx (keyGt k)) ++ (k, a) :: (withoutE l k).drop ((withoutE l k).findIdx (keyGt k))
section
variable [G : Globs]
theorem w_with (l : List Ent) (k : Str) (a : Val) (hl1 : l.length ≤ 100000000) : VCs Try.prog Γ 39 [0, 1, 5, 6, 7, 23] (Try.f56.body.getD .skip) (postK Γ [.tmp 6] (fun v => v = .rd .ent (putE l k a))) ⟨argSlots 0 [.rd .ent l, .s k, .agg (encVal a)], []⟩ := by
  refine VCs.seq Γ_good ?_
  refine VCs.seq Γ_good ?_
  refine Or.inl (Exists.intro _ (And.intro (s_wout l k hl1) ?_))
  have hml : (withoutE l k).length ≤ l.length := List.length_filter_le _ _
  unfold putE
  generalize withoutE l k = m at hml
  refine VCs.seq Γ_good ?_
  refine VCs.cut Γ_good Unit (fun _ => True) (fun _ => ⟨[(0, .rd .ent m), (1, .s k), (5, .pt 5 0), (7, .i .i64 (m.findIdx (keyGt k) : Nat))], [(5, encVal a)]⟩) ?_ ?_
  · refine Exists.intro [] (Exists.intro [] (Exists.intro [] (Exists.intro Nat (Exists.intro (fun i => i ≤ m.length ∧ i ≤ m.findIdx (keyGt k)) (Exists.intro (fun i => ⟨[(0, .rd .ent m), (1, .s k), (5, .pt 5 0), (7, .i .i64 i)], [(5, encVal a)]⟩) (Exists.intro (fun i => m.length - i) (Exists.intro 0 (And.intro ⟨Nat.zero_le _, Nat.zero_le _⟩ (And.intro ?_ ?_)))))))))
    · (repeat' (first | exact trivial | exact Or.inl rfl | exact Or.inr (Or.inl ⟨rfl, _, rfl⟩) | exact Or.inr (Or.inr (Or.inr ⟨_, _, _, rfl, rfl⟩)) | refine And.intro ?_ ?_))
    · rintro i ⟨hi, hf⟩
      intro _
      refine And.intro (fun hz => ?_) (fun hz => ?_)
      · have hi : i < m.length := by have : (i : Int) < (m.length : Int) := of_decide_eq_true hz
                                     omega
        have hg : m.getD (Int.toNat (i : Int)) (dflt .ent) = m[i] := by rw [Int.toNat_natCast, List.getD_eq_getElem?_getD, List.getElem?_eq_getElem hi]; rfl
        refine And.intro ⟨by omega, by omega⟩ ?_
        refine And.intro (fun hq => ?_) (fun hq => ?_)
        · have hq : keyGt k m[i] = false := by
            rw [hg] at hq
            have hq : (Op.bytesLess m[i].1 k || m[i].1 == k) = true := hq
            rw [keyGt, hq]; rfl
          (refine And.intro (rng64 (by omega) (by omega)) ?_)
          refine Exists.intro [] (Exists.intro (i + 1) (And.intro ⟨hi, ix_miss hi hf hq⟩ (And.intro ?_ ?_)))
          · (repeat' (first | exact trivial | exact Or.inl rfl | exact Or.inr (Or.inl ⟨rfl, _, rfl⟩) | exact Or.inr (Or.inr (Or.inr ⟨_, _, _, rfl, rfl⟩)) | refine And.intro ?_ ?_))
          · show m.length - (i + 1) < m.length - i
            omega
        · have hq : keyGt k m[i] = true := by
            rw [hg] at hq
            have hq : (Op.bytesLess m[i].1 k || m[i].1 == k) = false := hq
            rw [keyGt, hq]; rfl
          have e : i = m.findIdx (keyGt k) := by
            have := List.not_of_lt_findIdx (p := keyGt k) (xs := m) (i := i)
            rcases Nat.lt_or_ge i (m.findIdx (keyGt k)) with h1 | h1
            · have := this h1
              rw [hq] at this
              cases this
            · omega
          refine Exists.intro () (And.intro trivial ?_)
          (repeat' (first | exact trivial | exact Or.inl rfl | exact Or.inl ((congrArg (fun n : Nat => AV.i .i64 n) e)) | refine And.intro ?_ ?_))
      · have hi : i = m.length := by have : ¬ (i : Int) < (m.length : Int) := of_decide_eq_false hz
                                     omega
        have e : i = m.findIdx (keyGt k) := by
          have := List.findIdx_le_length (p := keyGt k) (xs := m)
          omega
        refine And.intro (fun h9 => Bool.noConfusion h9) (fun _ => ?_)
        refine Exists.intro () (And.intro trivial ?_)
        (repeat' (first | exact trivial | exact Or.inl rfl | exact Or.inl ((congrArg (fun n : Nat => AV.i .i64 n) e)) | refine And.intro ?_ ?_))
  rintro _ _
  have hle := List.findIdx_le_length (p := keyGt k) (xs := m)
  generalize m.findIdx (keyGt k) = j at hle
  refine VCs.of_vc Γ_good ?_
  refine Exists.intro [.take 0, .take 1, .take 2, .take 4, .take 9, .take 10, .take 11, .tree 4 [3, 5, 6, 7] (.opt 3 (.opt 5 (.opt 6 (.opt 7 .fin .non) .non) .non) (.opt 5 (.opt 3 (.opt 6 (.opt 7 .fin .non) .non) (.opt 6 (.opt 3 (.opt 7 .fin .non) (.opt 7 (.opt 3 .fin .non) .non)) .non)) .non)), .one 8, .one 12, .take 13] (And.intro (by kernel_rfl) ?_)
  refine And.intro ⟨by omega, by omega, by omega⟩ ?_
  refine And.intro ⟨by omega, by omega⟩ ?_
  have hob : (List.drop (Int.toNat 0) (m.take (Int.toNat (j : Int)))).length * 104 ≤ 140737488355328 := by
    rw [List.length_drop, List.length_take]
    omega
  refine Exists.intro ⟨[(29, .vec 29 .ent (m.take j)), (33, .vec 33 .ent [(k, ⟨a.kind, a.n, a.f, a.s, a.l, a.e⟩)]), (37, .rd .ent ((m.take m.length).drop j))], []⟩ (And.intro ?_ ?_)
  · repeat' (first | exact trivial | exact hob | exact Or.inl rfl | refine And.intro ?_ ?_)
  rw [List.take_length]
  refine And.intro (show ((m.take j).length + 1) * 104 ≤ 140737488355328 by rw [List.length_take]; omega) ?_
  refine And.intro (show ((m.take j ++ [(k, (⟨a.kind, a.n, a.f, a.s, a.l, a.e⟩ : Val))]).length + (m.drop j).length) * 104 ≤ 140737488355328 by rw [List.length_append, List.length_take, List.length_drop, List.length_singleton]; omega) ?_
  have e : m.take j ++ [(k, (⟨a.kind, a.n, a.f, a.s, a.l, a.e⟩ : Val))] ++ m.drop j = m.take j ++ (k, a) :: m.drop j := by rw [val_eta, List.append_assoc]; rfl
  exact congrArg (AV.rd .ent) e
theorem s_with (l : List Ent) (k : Str) (a : Val) (hl1 : l.length ≤ 100000000) : PSpec Try.prog 56 [.rd .ent l, .s k, .agg (encVal a)] (.rd .ent (putE l k a)) :=
  pspec_of_VCs Γ_good Try.func56 rfl Try.call56 Try.results56 Try.ntmps56 (Nat.le_of_ble_eq_true rfl) (w_with l k a hl1) Γ_good
end
end Go.Proofs.Ytjlbaagnoppfgaa
