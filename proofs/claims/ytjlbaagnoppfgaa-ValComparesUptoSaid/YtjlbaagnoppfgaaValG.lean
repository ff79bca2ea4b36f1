/-
  A part of the proof that 'typecaselaw.ValCompares' returns true: an entry put in, walked. No conditions.
-/
import Derived.Test.YtjlbaagnoppfgaaValF
import Derived.Test.YtjlbaagnoppfgaaInsA
namespace Go.Proofs.Ytjlbaagnoppfgaa
set_option linter.unusedSectionVars false
set_option linter.unusedSimpArgs false
set_option linter.unusedVariables false
open Go Go.SX Go.Vl
set_option maxRecDepth 100000
set_option maxHeartbeats 0
section
variable [G : Globs]
theorem w_dropV (l : List Ent) (k : Str) (hl1 : l.length ≤ 100000000) (hn : ∀ p ∈ l, VN 100000000 p.2) : vc Try.prog Γ 29 [0, 1, 4, 5, 7, 8, 9, 10, 11, 17, 1000] (Try.f57.body.getD .skip) (postBK Γ [.tmp 4] (.vec 1000 .ent (withoutE l k)) []) ⟨argSlots 0 [.rd .ent l, .s k], []⟩ := by
  intro hl
  refine Exists.intro [(5, 5, .ent)] (Exists.intro [] (Exists.intro [] (Exists.intro Nat (Exists.intro (fun i => i ≤ l.length) (Exists.intro (fun i => ⟨[(1, .s k), (5, .vec 5 .ent (withoutE (l.take i) k)), (8, .rd .ent l), (9, .i .i64 l.length), (10, .i .i64 i)], []⟩) (Exists.intro (fun i => l.length - i) (Exists.intro 0 (And.intro (Nat.zero_le _) (And.intro ?_ ?_)))))))))
  · (repeat' (first | exact trivial | exact Or.inl rfl | exact Or.inr (Or.inl ⟨rfl, _, rfl⟩) | exact Or.inr (Or.inr (Or.inr ⟨_, _, _, rfl, rfl⟩)) | refine And.intro ?_ ?_))
  · rintro i hi
    refine And.intro (fun he => ?_) (fun he => ?_)
    · have hi : i < l.length := by have : (i : Int) < (l.length : Int) := of_decide_eq_true he
                                   omega
      have hg : l.getD (Int.toNat (i : Int)) (dflt .ent) = l[i] := by rw [Int.toNat_natCast, List.getD_eq_getElem?_getD, List.getElem?_eq_getElem hi]; rfl
      refine And.intro ⟨by omega, by omega⟩ ?_
      refine And.intro (fun hz => ?_) (fun hz => ?_)
      · have hz : keyIs k l[i] = false := by rw [← hg]; simpa [keyIs] using hz
        have hs := s_Own l[i].2 (hn _ (List.getElem_mem hi))
        rw [← hg] at hs
        refine Exists.intro [.blk [0, 1, 2, 3, 4, 5, 6, 7] [25], .one 8, .take 9] (And.intro (by kernel_rfl) ?_)
        refine Exists.intro _ (And.intro (hs) ?_)
        rw [hg]
        have hfl := filter_len (l := l) (k := k) (i := i)
        refine And.intro (show ((withoutE (l.take i) k).length + 1) * 104 ≤ 140737488355328 by omega) ?_
        (refine And.intro (rng64 (by omega) (by omega)) ?_)
        refine Exists.intro [(26, 5)] (Exists.intro (i + 1) (And.intro hi (And.intro ?_ ?_)))
        · have e : withoutE (l.take i) k ++ [(l[i].1, (⟨l[i].2.kind, l[i].2.n, l[i].2.f, l[i].2.s, l[i].2.l, l[i].2.e⟩ : Val))] = withoutE (l.take (i + 1)) k := by rw [val_eta]; exact (filter_next hi hz).symm
          (repeat' (first | exact trivial | exact Or.inl rfl | exact Or.inl ((congrArg (AV.vec 5 .ent) e)) | refine And.intro ?_ ?_))
        · show l.length - (i + 1) < l.length - i
          omega
      · have hz : keyIs k l[i] = true := by rw [← hg]; simpa [keyIs] using hz
        (refine And.intro (rng64 (by omega) (by omega)) ?_)
        refine Exists.intro [] (Exists.intro (i + 1) (And.intro hi (And.intro ?_ ?_)))
        · (repeat' (first | exact trivial | exact Or.inl rfl | exact Or.inl ((congrArg (AV.vec 5 .ent) (filter_skip hi hz).symm)) | refine And.intro ?_ ?_))
        · show l.length - (i + 1) < l.length - i
          omega
    · have hi : i = l.length := by have : ¬ (i : Int) < (l.length : Int) := of_decide_eq_false he
                                   omega
      subst hi
      rw [List.take_length]
      refine Exists.intro [(5, 1000)] (And.intro rfl (by (repeat' (first | exact trivial | exact Or.inl rfl | exact Or.inr (Or.inl ⟨rfl, _, rfl⟩) | exact Or.inr (Or.inr (Or.inr ⟨_, _, _, rfl, rfl⟩)) | refine And.intro ?_ ?_))))
theorem s_dropV (l : List Ent) (k : Str) (hl1 : l.length ≤ 100000000) (hn : ∀ p ∈ l, VN 100000000 p.2) : CSpec Try.prog 57 [.rd .ent l, .s k] [] (.vec 1000 .ent (withoutE l k)) [] :=
  cspec_of_vc Γ_good Try.func57 rfl Try.call57 Try.results57 Try.ntmps57 (Nat.le_of_ble_eq_true rfl) (Nat.le_of_ble_eq_true rfl) (by rfl) (w_dropV l k hl1 hn)
theorem w_put (l : List Ent) (k : Str) (a : Val) (hl1 : l.length ≤ 100000000) (hn : ∀ p ∈ l, VN 100000000 p.2) (ha : VN 100000000 a) : VCs Try.prog Γ 27 [0, 4, 5, 6, 7, 8, 16] (Try.f55.body.getD .skip) (postK Γ [.tmp 6] (fun v => v = .rd .ent (putE l k a))) ⟨argSlots 0 [.rd .ent l, .s k, .agg (encVal a)], []⟩ := by
  refine VCs.seq Γ_good ?_
  refine VCs.seq Γ_good ?_
  refine Or.inr (Or.inl (Exists.intro [] (Exists.intro _ (Exists.intro _ (Exists.intro _ (Exists.intro _ (Exists.intro _ (Exists.intro [(1000, 7)] (And.intro (s_dropV l k hl1 hn) ?_)))))))))
  refine (And.intro rfl (And.intro rfl (And.intro rfl (And.intro rfl ?_))))
  have hml : (withoutE l k).length ≤ l.length := List.length_filter_le _ _
  unfold putE
  generalize withoutE l k = m at hml
  refine VCs.seq Γ_good ?_
  refine Or.inr (Or.inr (Exists.intro _ (And.intro (s_ixE m k (keyGt k) 109 (fun x _ => s_put1 x k)) ?_)))
  refine VCs.cut Γ_good Unit (fun _ => True) (fun _ => ⟨[(7, .vec 7 .ent m), (4, .pt 4 0), (5, .pt 5 0), (8, .i .i64 (m.findIdx (keyGt k) : Nat))], [(4, [.s k]), (5, encVal a)]⟩) ?_ ?_
  · have hle := List.findIdx_le_length (p := keyGt k) (xs := m)
    refine And.intro (fun hz => ?_) (fun hz => ?_)
    · have hz : ixI m (keyGt k) < 0 := of_decide_eq_true hz
      have e : m.length = m.findIdx (keyGt k) := by
        unfold ixI at hz
        split at hz
        · omega
        · omega
      intro _
      refine Exists.intro () (And.intro trivial ?_)
      (repeat' (first | exact trivial | exact Or.inl rfl | exact Or.inl ((congrArg (fun n : Nat => AV.i .i64 n) e)) | refine And.intro ?_ ?_))
    · have hz : ¬ ixI m (keyGt k) < 0 := of_decide_eq_false hz
      have e : ixI m (keyGt k) = (m.findIdx (keyGt k) : Nat) := by
        unfold ixI at hz ⊢
        split at hz
        · rename_i h; rw [if_pos h]
        · omega
      refine Exists.intro () (And.intro trivial ?_)
      (repeat' (first | exact trivial | exact Or.inl rfl | exact Or.inl ((congrArg (fun n : Int => AV.i .i64 n) e)) | refine And.intro ?_ ?_))
  rintro _ _
  have hle := List.findIdx_le_length (p := keyGt k) (xs := m)
  generalize m.findIdx (keyGt k) = j at hle
  refine VCs.of_vc Γ_good ?_
  refine Exists.intro [.take 0, .take 1, .blk [2, 3, 4, 5], .one 6, .one 7, .take 8] (And.intro (by kernel_rfl) ?_)
  refine Exists.intro _ (And.intro (s_Own a ha) ?_)
  refine Or.inr (Or.inl (Exists.intro [] (Exists.intro _ (Exists.intro _ (Exists.intro _ (Exists.intro _ (Exists.intro _ (Exists.intro [(1000, 7), (1001, 25)] (And.intro (s_insE m (k, (⟨a.kind, a.n, a.f, a.s, a.l, a.e⟩ : Val)) j hle (by omega)) ?_)))))))))
  refine (And.intro rfl (And.intro rfl (And.intro rfl (And.intro rfl ?_))))
  have e : m.take j ++ (k, (⟨a.kind, a.n, a.f, a.s, a.l, a.e⟩ : Val)) :: m.drop j = m.take j ++ (k, a) :: m.drop j := by rw [val_eta]
  exact congrArg (AV.rd .ent) e
theorem s_put (l : List Ent) (k : Str) (a : Val) (hl1 : l.length ≤ 100000000) (hn : ∀ p ∈ l, VN 100000000 p.2) (ha : VN 100000000 a) : PSpec Try.prog 55 [.rd .ent l, .s k, .agg (encVal a)] (.rd .ent (putE l k a)) :=
  pspec_of_VCs Γ_good Try.func55 rfl Try.call55 Try.results55 Try.ntmps55 (Nat.le_of_ble_eq_true rfl) (w_put l k a hl1 hn ha) Γ_good
end
end Go.Proofs.Ytjlbaagnoppfgaa
