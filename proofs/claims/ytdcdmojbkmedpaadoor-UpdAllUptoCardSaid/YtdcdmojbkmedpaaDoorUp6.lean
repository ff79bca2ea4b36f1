/-
  'typecaselaw.UpdAll' returns true, whatever the input, where what comes in is of bulk at most 1048576, and the input reads as it did. No conditions.
-/
import Derived.Test.YtdcdmojbkmedpaaDoorUp5
import Derived.Test.YtdcdmojbkmedpaaDoorRows
import Derived.WalkKit
import Derived.ProofKit
import Derived.OpenShut
import Derived.JoinedCond
import Derived.ChangeMaps5
import Derived.Test.YtdcdmojbkmedpaaDoorCards
import Derived.Test.YtdcdmojbkmedpaaDoorTie
import Derived.Deep.DeepHandedRow
import Derived.Lib.LaidU8
import Derived.PinnedBridge
set_option linter.constructorNameAsVariable false
set_option linter.unusedVariables false
set_option linter.unusedSimpArgs false
set_option linter.unusedSectionVars false
section
namespace Go.Proofs.YtdcdmojbkmedpaaDoor
set_option linter.unusedSectionVars false
set_option linter.unusedSimpArgs false
set_option linter.unusedVariables false
open Go Go.SX Go.Ck Go.Vl Go.Ut Go.Up
set_option maxRecDepth 100000
set_option maxHeartbeats 1000000
def updA (a : Val) (l : List PStep) (o : OpR) : AV := .tup [.agg (encVal (upV a l o).1), .i .i64 (upV a l o).2]
theorem updA_eq {a w : Val} {l : List PStep} {o : OpR} {e : Int} (h : upV a l o = (w, e)) : updA a l o = .tup [.agg (encVal w), .i .i64 e] := by unfold updA; rw [h]
theorem part_lx {v : Val} {p : PStep} (h : (partV v p).2 = 0) (hp : ¬ p.i < 0) : p.i.toNat < v.l.length ∧ p.i < (v.l.length : Int) := by
  unfold partV at h
  rw [if_neg hp] at h
  by_cases c : v.kind ≠ 5
  · rw [if_pos c] at h; exact absurd h (by decide)
  · rw [if_neg c] at h
    by_cases d : (v.l.length : Int) ≤ p.i
    · rw [if_pos d] at h; exact absurd h (by decide)
    · omega
section
variable [G : Globs]
theorem w_upd0 (a : Val) (o : OpR) : vc Tryd.prog Γ 195 [1, 3, 5, 6, 7, 8, 9, 10, 11, 12, 13, 14, 15, 18, 31, 39, 51, 56, 82, 83, 86, 91, 93, 109, 130, 133, 138, 163, 168, 182] (Tryd.f85.body.getD .skip) (postK Γ [.cell 6 26, .tmp 7] (fun v => RL v (updA a [] o))) ⟨argSlots 0 [.agg (encVal a), .rd .pstep [], .agg (enc .op o)], []⟩ := by
  intro _
  refine And.intro (fun _ => ?_) (fun hq => Bool.noConfusion hq)
  (repeat' (first | exact trivial | exact Or.inl rfl | exact Or.inr ⟨rfl, _, rfl⟩ | refine And.intro ?_ ?_))
theorem s_upd0 (a : Val) (o : OpR) : PSpec Tryd.prog 85 [.agg (encVal a), .rd .pstep [], .agg (enc .op o)] (updA a [] o) :=
  pspec_of_vcL Γ_good Tryd.func85 rfl Tryd.call85 Tryd.results85 Tryd.ntmps85 (Nat.le_of_ble_eq_true rfl) (w_upd0 a o)
theorem w_upd1 (a : Val) (p : PStep) (r : List PStep) (o : OpR) (hp : -1 ≤ p.i) (hn : VN 100000000 a) (ih : ∀ w, VN 100000000 w → PSpec Tryd.prog 85 [.agg (encVal w), .rd .pstep r, .agg (enc .op o)] (updA w r o)) : VCs Tryd.prog Γ 195 [1, 3, 5, 6, 7, 8, 9, 10, 11, 12, 13, 14, 15, 18, 31, 39, 51, 56, 82, 83, 86, 91, 93, 109, 130, 133, 138, 163, 168, 182] (Tryd.f85.body.getD .skip) (postK Γ [.cell 6 26, .tmp 7] (fun v => RL v (updA a (p :: r) o))) ⟨argSlots 0 [.agg (encVal a), .rd .pstep (p :: r), .agg (enc .op o)], []⟩ := by
  have hnl : a.l.length ≤ 100000000 ∧ a.e.length ≤ 100000000 := by cases hn with | mk _ h1 h2 => exact ⟨h1, h2⟩
  refine VCs.seq (by first | exact Γ_good | exact Ctx.good_kp Γ_good _) ?_
  refine VCs.seq (by first | exact Γ_good | exact Ctx.good_kp Γ_good _) ?_
  intro _
  refine And.intro (fun hq => ?_) (fun _ => ?_)
  · have := eq_of_beq hq
    simp only [List.length_cons] at this
    omega
  refine VCs.seq (by first | exact Γ_good | exact Ctx.good_kp Γ_good _) ?_
  refine And.intro ⟨by omega, by simp only [List.length_cons]; omega⟩ ?_
  refine VCs.seqS ?_
  refine VCs.cut (by first | exact Γ_good | exact Ctx.good_kp Γ_good _) Unit (fun _ => True) (fun _ => ⟨[(1, .rd .pstep (p :: r)), (3, .pt 3 0), (5, .pt 5 0), (6, .pt 6 0), (7, .i .i64 0), (8, .pt 8 0), (31, .b (decide (o.kind = 1 ∨ r ≠ [])))], [(3, encVal a), (5, enc .op o), (6, [.i .i64 0, .i .i64 0, .i .u64 0, .s [], .nl, .nl]), (8, enc .pstep p)]⟩) ?_ ?_
  · have hr : (1 < (((p :: r).length : Nat) : Int)) ↔ r ≠ [] := by
      cases r with
      | nil => simp
      | cons _ _ => simp only [List.length_cons]; constructor <;> intro <;> first | omega | simp
    (repeat' (first | (refine And.intro (fun h => ?_) (fun h => ?_) <;> (try simp [-List.getD_eq_getElem?_getD, -Int.pred_toNat] at h) <;> (try (exfalso; first | omega | contradiction))) | (refine And.intro (rng64 (by omega) (by omega)) ?_) | (refine And.intro ⟨by omega, by omega⟩ ?_) | (refine And.intro ⟨by omega, by omega, by omega⟩ ?_) | (intro _)))
    all_goals refine Exists.intro () (And.intro trivial ?_)
    all_goals (repeat' (first | exact trivial | exact Or.inl rfl | exact Or.inl ((congrArg AV.b (by (rw [Bool.eq_iff_iff]; (try simp only [beq_iff_eq, bne_iff_ne, beq_eq_false_iff_ne, bne_eq_false_iff_eq, decide_eq_true_eq, decide_eq_false_iff_not, Bool.not_eq_true', Bool.not_eq_false', Bool.not_true, Bool.not_false, ne_eq, Decidable.not_not, gt_iff_lt, ge_iff_le, Int.not_lt, Int.not_le, Bool.cond_true, Bool.cond_false, cond_true, cond_false, Int.reduceBNe, Int.reduceBEq, Int.reduceLT, Int.reduceLE, Int.reduceEq, Int.reduceNe, not_true_eq_false, not_false_eq_true, Bool.false_eq_true, Bool.true_eq_false, reduceCtorEq, Bool.and_eq_true, Bool.or_eq_true, Bool.and_eq_false_iff, Bool.or_eq_false_iff, Bool.true_and, Bool.and_true, Bool.false_and, Bool.and_false, Bool.or_false, Bool.false_or, Bool.or_true, Bool.true_or, bne_iff_ne, List.length_pos_iff, Int.natCast_pos, Int.ofNat_lt, Int.ofNat_le] at *); first | done | omega | grind)))) | refine And.intro ?_ ?_))
  intro _ _
  refine VCs.cond rfl (fun h => ?_) (fun h => ?_)
  · have hA : o.kind = 1 ∨ r ≠ [] := of_decide_eq_true h
    have hu : upV a (p :: r) o = if (partV a p).2 ≠ 0 then (a, (partV a p).2) else if (upV (partV a p).1 r o).2 ≠ 0 then (a, (upV (partV a p).1 r o).2) else (setAt a p (upV (partV a p).1 r o).1, 0) := by rw [upV, if_pos hA]
    refine VCs.of_vc (by first | exact Γ_good | exact Ctx.good_kp Γ_good _) ?_
    refine Or.inl (Exists.intro _ (And.intro (s_partOf a p hp) ?_))
    refine And.intro (fun hq => ?_) (fun hq => ?_)
    · have hq : (partV a p).2 ≠ 0 := by simpa using hq
      rw [if_pos hq] at hu
      rw [updA_eq hu]
      (repeat' (first | exact trivial | exact Or.inl rfl | exact Or.inr ⟨rfl, _, rfl⟩ | refine And.intro ?_ ?_))
    have hq : ¬ (partV a p).2 ≠ 0 := by simpa using hq
    rw [if_neg hq] at hu
    have hw : VN 100000000 (partV a p).1 := vn_part hn (partV_in (by simpa using hq))
    have hr : PSpec Tryd.prog 85 [.agg (encVal (partV a p).1), .rd .pstep (((p :: r).take (Int.toNat ((p :: r).length : Int))).drop (Int.toNat 1)), .agg (enc .op o)] (updA (partV a p).1 r o) := by
      rw [tail_eq]; exact ih _ hw
    refine Exists.intro [.blk [0, 1, 2, 3, 4, 5], .take 6, .take 7, .one 8, .take 9] (And.intro (by kernel_rfl) ?_)
    refine And.intro ⟨by omega, by simp only [List.length_cons]; omega, by simp only [List.length_cons]; omega⟩ ?_
    refine Exists.intro _ (And.intro (hr) ?_)
    refine And.intro (fun hq2 => ?_) (fun hq2 => ?_)
    · have hq2 : (upV (partV a p).1 r o).2 ≠ 0 := by simpa using hq2
      rw [if_pos hq2] at hu
      rw [updA_eq hu]
      (repeat' (first | exact trivial | exact Or.inl rfl | exact Or.inr ⟨rfl, _, rfl⟩ | refine And.intro ?_ ?_))
    have hq2 : ¬ (upV (partV a p).1 r o).2 ≠ 0 := by simpa using hq2
    rw [if_neg hq2] at hu
    rw [updA_eq hu]
    refine And.intro (fun hi => ?_) (fun hi => ?_)
    · have hi : p.i < 0 := by have := eq_of_beq hi; omega
      refine Or.inl (Exists.intro _ (And.intro (s_with a.e p.key (upV (partV a p).1 r o).1 hnl.2) ?_))
      rw [setAt, if_pos hi]
      (repeat' (first | exact trivial | exact Or.inl rfl | exact Or.inr ⟨rfl, _, rfl⟩ | refine And.intro ?_ ?_))
    · have hi : ¬ p.i < 0 := by have := ne_of_beq_false hi; omega
      have hx := part_lx (by simpa using hq) hi
      rw [setAt, if_neg hi]
      refine And.intro (show a.l.length * 88 ≤ 140737488355328 by omega) ?_
      refine And.intro ⟨by omega, by omega⟩ ?_
      (repeat' (first | exact trivial | exact Or.inl rfl | exact Or.inl (congrArg (fun w => AV.rd .val (a.l.set p.i.toNat w)) (val_eta _)) | exact Or.inr ⟨rfl, _, rfl⟩ | refine And.intro ?_ ?_))
  · have hA : ¬ (o.kind = 1 ∨ r ≠ []) := of_decide_eq_false h
    have hr0 : r = [] := by
      cases r with
      | nil => rfl
      | cons _ _ => exact absurd (.inr (by simp)) hA
    subst hr0
    have hu : upV a [p] o = lastU a p o := by rw [upV, if_neg hA]
    rw [show updA a [p] o = .tup [.agg (encVal (lastU a p o).1), .i .i64 (lastU a p o).2] from updA_eq hu]
    refine VCs.of_vc (by first | exact Γ_good | exact Ctx.good_kp Γ_good _) ?_
    refine VCs.of_vc (by first | exact Γ_good | exact Ctx.good_kp Γ_good _) ?_
    refine Or.inl (Exists.intro _ (And.intro (s_partOf a p hp) ?_))
    refine And.intro (fun hk => ?_) (fun hk => ?_)
    · have hk : o.kind = 2 := eq_of_beq hk
      unfold lastU
      rw [if_pos hk]
      refine And.intro (fun hq => ?_) (fun hq => ?_)
      · have hq : (partV a p).2 = 10 := eq_of_beq hq
        rw [if_pos hq, hq]
        (repeat' (first | exact trivial | exact Or.inl rfl | exact Or.inr ⟨rfl, _, rfl⟩ | refine And.intro ?_ ?_))
      have hq : ¬ (partV a p).2 = 10 := ne_of_beq_false hq
      rw [if_neg hq]
      refine And.intro (fun hi => ?_) (fun hi => ?_)
      · have hi : p.i < 0 := by have := eq_of_beq hi; omega
        rw [if_pos hi]
        refine And.intro (fun hz => ?_) (fun hz => ?_)
        · rw [if_pos (eq_of_beq hz)]
          (repeat' (first | exact trivial | exact Or.inl rfl | exact Or.inr ⟨rfl, _, rfl⟩ | refine And.intro ?_ ?_))
        rw [if_neg (ne_of_beq_false hz)]
        refine Or.inl (Exists.intro _ (And.intro (s_with a.e p.key o.v hnl.2) ?_))
        (repeat' (first | exact trivial | exact Or.inl rfl | exact Or.inr ⟨rfl, _, rfl⟩ | refine And.intro ?_ ?_))
      have hi : ¬ p.i < 0 := by have := ne_of_beq_false hi; omega
      rw [if_neg hi]
      intro _
      refine And.intro (fun hz => ?_) (fun hz => ?_)
      · rw [if_pos (of_decide_eq_true hz)]
        (repeat' (first | exact trivial | exact Or.inl rfl | exact Or.inr ⟨rfl, _, rfl⟩ | refine And.intro ?_ ?_))
      have hz : ¬ (a.l.length : Int) < p.i := of_decide_eq_false hz
      rw [if_neg hz]
      refine And.intro ⟨by omega, by omega, by omega⟩ ?_
      have hlt : ((a.l.take p.i.toNat).drop (Int.toNat 0)).length ≤ a.l.length := by rw [List.length_drop, List.length_take]; omega
      refine And.intro (show ((a.l.take p.i.toNat).drop (Int.toNat 0)).length * 88 ≤ 140737488355328 by omega) ?_
      refine Exists.intro [.take 0, .take 1, .take 5, .take 7, .tree 6 [2, 3, 4, 6, 8, 9] (.opt 2 (.opt 3 (.opt 4 (.opt 6 (.opt 8 (.opt 9 .fin .non) .non) (.opt 8 (.opt 6 (.opt 9 .fin .non) .non) .non)) (.opt 6 (.opt 4 (.opt 8 (.opt 9 .fin .non) .non) (.opt 8 (.opt 4 (.opt 9 .fin .non) (.opt 9 (.opt 4 .fin .non) .non)) .non)) (.opt 8 (.opt 4 (.opt 6 (.opt 9 .fin .non) .non) (.opt 6 (.opt 4 (.opt 9 .fin .non) (.opt 9 (.opt 4 .fin .non) .non)) .non)) .non))) (.opt 6 (.opt 3 (.opt 4 (.opt 8 (.opt 9 .fin .non) .non) (.opt 8 (.opt 4 (.opt 9 .fin .non) (.opt 9 (.opt 4 .fin .non) .non)) .non)) (.opt 8 (.opt 3 (.opt 4 (.opt 9 .fin .non) (.opt 9 (.opt 4 .fin .non) .non)) (.opt 9 (.opt 3 (.opt 4 .fin .non) .non) .non)) .non)) (.opt 8 (.opt 3 (.opt 4 (.opt 6 (.opt 9 .fin .non) .non) (.opt 6 (.opt 4 (.opt 9 .fin .non) (.opt 9 (.opt 4 .fin .non) .non)) .non)) (.opt 6 (.opt 3 (.opt 4 (.opt 9 .fin .non) (.opt 9 (.opt 4 .fin .non) .non)) (.opt 9 (.opt 3 (.opt 4 .fin .non) .non) .non)) .non)) .non))) (.opt 6 (.opt 2 (.opt 3 (.opt 4 (.opt 8 (.opt 9 .fin .non) .non) (.opt 8 (.opt 4 (.opt 9 .fin .non) (.opt 9 (.opt 4 .fin .non) .non)) .non)) (.opt 8 (.opt 3 (.opt 4 (.opt 9 .fin .non) (.opt 9 (.opt 4 .fin .non) .non)) (.opt 9 (.opt 3 (.opt 4 .fin .non) .non) .non)) .non)) (.opt 8 (.opt 2 (.opt 3 (.opt 4 (.opt 9 .fin .non) (.opt 9 (.opt 4 .fin .non) .non)) (.opt 9 (.opt 3 (.opt 4 .fin .non) .non) .non)) (.opt 9 (.opt 2 (.opt 3 (.opt 4 .fin .non) .non) .non) .non)) .non)) (.opt 8 (.opt 2 (.opt 3 (.opt 4 (.opt 6 (.opt 9 .fin .non) .non) (.opt 6 (.opt 4 (.opt 9 .fin .non) (.opt 9 (.opt 4 .fin .non) .non)) .non)) (.opt 6 (.opt 3 (.opt 4 (.opt 9 .fin .non) (.opt 9 (.opt 4 .fin .non) .non)) (.opt 9 (.opt 3 (.opt 4 .fin .non) .non) .non)) .non)) (.opt 6 (.opt 2 (.opt 3 (.opt 4 (.opt 9 .fin .non) (.opt 9 (.opt 4 .fin .non) .non)) (.opt 9 (.opt 3 (.opt 4 .fin .non) .non) .non)) (.opt 9 (.opt 2 (.opt 3 (.opt 4 .fin .non) .non) .non) .non)) .non)) .non))), .one 10, .take 11, .one 12] (And.intro (by kernel_rfl) ?_)
      have o1 : (((a.l.take p.i.toNat).drop (Int.toNat 0)).length + 1) * 88 ≤ 140737488355328 := by omega
      have o2 : (0 : Int) ≤ p.i ∧ p.i ≤ (a.l.length : Int) ∧ (a.l.length : Int) ≤ (a.l.length : Int) := ⟨by omega, by omega, by omega⟩
      refine Exists.intro ⟨[(3, .pt 3 0), (6, .pt 6 0), (7, .i .i64 0), (121, .vec 121 .val ((a.l.take p.i.toNat).drop (Int.toNat 0) ++ [(⟨o.v.kind, o.v.n, o.v.f, o.v.s, o.v.l, o.v.e⟩ : Val)])), (126, .rd .val ((a.l.take (Int.toNat (a.l.length : Int))).drop p.i.toNat))], [(3, encVal a), (6, [.i .i64 0, .i .i64 0, .i .u64 0, .s [], .nl, .nl])]⟩ (And.intro ?_ ?_)
      · repeat' (first | exact trivial | exact Or.inl rfl | exact o1 | exact o2 | refine And.intro ?_ ?_)
      have ed : (a.l.take (Int.toNat (a.l.length : Int))).drop p.i.toNat = a.l.drop p.i.toNat := by rw [Int.toNat_natCast, List.take_length]
      have el : (a.l.take p.i.toNat).drop (Int.toNat 0) = a.l.take p.i.toNat := rfl
      rw [ed, el, val_eta]
      refine And.intro (show ((a.l.take p.i.toNat ++ [o.v]).length + (a.l.drop p.i.toNat).length) * 88 ≤ 140737488355328 by rw [List.length_append, List.length_take, List.length_drop]; simp only [List.length_cons, List.length_nil]; omega) ?_
      have ec : a.l.take p.i.toNat ++ [o.v] ++ a.l.drop p.i.toNat = a.l.take p.i.toNat ++ o.v :: a.l.drop p.i.toNat := by rw [List.append_assoc]; rfl
      (repeat' (first | exact trivial | exact Or.inl rfl | exact Or.inl (congrArg (AV.rd .val) ec) | exact Or.inr ⟨rfl, _, rfl⟩ | refine And.intro ?_ ?_))
    · have hk : ¬ o.kind = 2 := ne_of_beq_false hk
      unfold lastU
      rw [if_neg hk]
      refine And.intro (fun h3 => ?_) (fun h3 => ?_)
      · have h3 : o.kind = 3 := eq_of_beq h3
        refine And.intro (fun hq => ?_) (fun hq => ?_)
        · have hq : (partV a p).2 ≠ 0 := by simpa using hq
          rw [if_pos hq]
          (repeat' (first | exact trivial | exact Or.inl rfl | exact Or.inr ⟨rfl, _, rfl⟩ | refine And.intro ?_ ?_))
        have hq : ¬ (partV a p).2 ≠ 0 := by simpa using hq
        rw [if_neg hq, if_pos h3]
        refine And.intro (fun hi => ?_) (fun hi => ?_)
        · have hi : p.i < 0 := by have := eq_of_beq hi; omega
          rw [if_pos hi]
          refine Or.inl (Exists.intro _ (And.intro (s_wout a.e p.key hnl.2) ?_))
          (repeat' (first | exact trivial | exact Or.inl rfl | exact Or.inr ⟨rfl, _, rfl⟩ | refine And.intro ?_ ?_))
        have hi : ¬ p.i < 0 := by have := ne_of_beq_false hi; omega
        rw [if_neg hi]
        have hx := part_lx (by simpa using hq) hi
        refine And.intro ⟨by omega, by omega, by omega⟩ ?_
        have hlt : ((a.l.take p.i.toNat).drop (Int.toNat 0)).length ≤ a.l.length := by rw [List.length_drop, List.length_take]; omega
        refine And.intro (show ((a.l.take p.i.toNat).drop (Int.toNat 0)).length * 88 ≤ 140737488355328 by omega) ?_
        (refine And.intro (rng64 (by omega) (by omega)) ?_)
        refine And.intro ⟨by omega, by omega, by omega⟩ ?_
        have ed : (a.l.take (Int.toNat (a.l.length : Int))).drop (Int.toNat (p.i + 1)) = a.l.drop (p.i.toNat + 1) := by rw [Int.toNat_natCast, List.take_length, show Int.toNat (p.i + 1) = p.i.toNat + 1 from by omega]
        have el : (a.l.take p.i.toNat).drop (Int.toNat 0) = a.l.take p.i.toNat := rfl
        rw [ed, el]
        refine And.intro (show ((a.l.take p.i.toNat).length + (a.l.drop (p.i.toNat + 1)).length) * 88 ≤ 140737488355328 by rw [List.length_take, List.length_drop]; omega) ?_
        (repeat' (first | exact trivial | exact Or.inl rfl | exact Or.inr ⟨rfl, _, rfl⟩ | refine And.intro ?_ ?_))
      · have h3 : ¬ o.kind = 3 := ne_of_beq_false h3
        refine And.intro (fun hq => ?_) (fun hq => ?_)
        · have hq : (partV a p).2 ≠ 0 := by simpa using hq
          rw [if_pos hq]
          (repeat' (first | exact trivial | exact Or.inl rfl | exact Or.inr ⟨rfl, _, rfl⟩ | refine And.intro ?_ ?_))
        have hq : ¬ (partV a p).2 ≠ 0 := by simpa using hq
        rw [if_neg hq, if_neg h3]
        refine And.intro (fun hi => ?_) (fun hi => ?_)
        · have hi : ¬ p.i < 0 := by have : p.i ≠ -1 := by simpa using hi
                                    omega
          rw [if_pos hi]
          (repeat' (first | exact trivial | exact Or.inl rfl | exact Or.inr ⟨rfl, _, rfl⟩ | refine And.intro ?_ ?_))
        have hi : ¬ ¬ p.i < 0 := by have : p.i = -1 := by simpa using hi
                                    omega
        rw [if_neg hi]
        have hdr : (withoutE a.e p.key).length ≤ 100000000 := Nat.le_trans (List.length_filter_le _ _) hnl.2
        have fin : ∀ Q : Prop, Q → Q := fun _ h => h
        refine And.intro (fun hz => ?_) (fun hz => ?_)
        · have hz : o.key ≠ p.key := by simpa using hz
          refine Or.inl (Exists.intro _ (And.intro (s_entAt a.e o.key) ?_))
          refine And.intro (fun hy => ?_) (fun hy => ?_)
          · rw [if_pos ⟨hz, of_decide_eq_true hy⟩]
            (repeat' (first | exact trivial | exact Or.inl rfl | exact Or.inr ⟨rfl, _, rfl⟩ | refine And.intro ?_ ?_))
          · rw [if_neg (fun h => absurd h.2 (of_decide_eq_false hy))]
            refine Exists.intro [.blk [0, 1, 2, 3, 4, 5, 6, 7, 8, 9], .one 10] (And.intro (by kernel_rfl) ?_)
            refine Exists.intro _ (And.intro (s_wout a.e p.key hnl.2) ?_)
            refine Exists.intro _ (And.intro (s_with (withoutE a.e p.key) o.key (partV a p).1 hdr) ?_)
            (repeat' (first | exact trivial | exact Or.inl rfl | exact Or.inr ⟨rfl, _, rfl⟩ | refine And.intro ?_ ?_))
        · have hz : ¬ o.key ≠ p.key := by simpa using hz
          refine And.intro (fun hy => Bool.noConfusion hy) (fun _ => ?_)
          rw [if_neg (fun h => absurd h.1 hz)]
          refine Exists.intro [.blk [0, 1, 2, 3, 4, 5, 6, 7, 8, 9], .one 10] (And.intro (by kernel_rfl) ?_)
          refine Exists.intro _ (And.intro (s_wout a.e p.key hnl.2) ?_)
          refine Exists.intro _ (And.intro (s_with (withoutE a.e p.key) o.key (partV a p).1 hdr) ?_)
          (repeat' (first | exact trivial | exact Or.inl rfl | exact Or.inr ⟨rfl, _, rfl⟩ | refine And.intro ?_ ?_))
theorem s_upd1 (a : Val) (p : PStep) (r : List PStep) (o : OpR) (hp : -1 ≤ p.i) (hn : VN 100000000 a) (ih : ∀ w, VN 100000000 w → PSpec Tryd.prog 85 [.agg (encVal w), .rd .pstep r, .agg (enc .op o)] (updA w r o)) : PSpec Tryd.prog 85 [.agg (encVal a), .rd .pstep (p :: r), .agg (enc .op o)] (updA a (p :: r) o) :=
  pspec_of_VCsL Γ_good Tryd.func85 rfl Tryd.call85 Tryd.results85 Tryd.ntmps85 (Nat.le_of_ble_eq_true rfl) (w_upd1 a p r o hp hn ih) Γ_good
theorem s_upd : ∀ (l : List PStep) (a : Val) (o : OpR), (∀ p ∈ l, -1 ≤ p.i) → VN 100000000 a → PSpec Tryd.prog 85 [.agg (encVal a), .rd .pstep l, .agg (enc .op o)] (updA a l o)
  | [], a, o, _, _ => s_upd0 a o
  | p :: r, a, o, h, hn => s_upd1 a p r o (h p (.head _)) hn fun w hw => s_upd r w o (fun q hq => h q (.tail _ hq)) hw
end
end Go.Proofs.YtdcdmojbkmedpaaDoor
end
section
namespace Go.SX
set_option linter.unusedSectionVars false
set_option linter.unusedVariables false
set_option linter.unusedSimpArgs false
open Go.RowKit Go.WideShapes Go.ChangeShapes Go.Deep
structure BulkS {H : Type} (bk : DataW H → Nat) : Prop where
  sl : ∀ els rest, (els.map bk).sum + 1 ≤ bk (.slice els rest)
  ag : ∀ ds, (ds.map bk).sum + 1 ≤ bk (.agg ds)
  st : ∀ b, b.length + 1 ≤ bk (.lit (.string b))
  pos : ∀ d, 1 ≤ bk d
/-! the bulk of a value -/
mutual
def bkV : Val → Nat
  | ⟨_, _, _, s, l, e⟩ => s.length + bkL l + bkE e + 7
def bkL : List Val → Nat
  | [] => 0
  | x :: xs => bkV x + bkL xs
def bkE : List (Str × Val) → Nat
  | [] => 0
  | x :: xs => bkP x + bkE xs
def bkP : Str × Val → Nat
  | (k, x) => k.length + bkV x + 2
end
theorem bkL_sum (l : List Val) : bkL l = (l.map bkV).sum := by
  induction l with
  | nil => rfl
  | cons x r ih => rw [bkL, List.map_cons, List.sum_cons, ih]
theorem bkE_sum (l : List (Str × Val)) : bkE l = (l.map bkP).sum := by
  induction l with
  | nil => rfl
  | cons x r ih => rw [bkE, List.map_cons, List.sum_cons, ih]
theorem bkV_eq (v : Val) : bkV v = v.s.length + (v.l.map bkV).sum + (v.e.map bkP).sum + 7 := by
  cases v
  rw [bkV, bkL_sum, bkE_sum]
theorem bkP_eq (p : Str × Val) : bkP p = p.1.length + bkV p.2 + 2 := by
  cases p
  rw [bkP]
theorem sum_mem {α : Type} {m : α → Nat} : ∀ {l : List α} {x : α}, x ∈ l → m x ≤ (l.map m).sum
  | y :: r, x, h => by
    rw [List.map_cons, List.sum_cons]
    rcases List.mem_cons.1 h with rfl | h
    · omega
    · have := sum_mem (m := m) h
      omega
theorem sum_len {α : Type} {m : α → Nat} (h1 : ∀ x, 1 ≤ m x) : ∀ l : List α, l.length ≤ (l.map m).sum
  | [] => Nat.zero_le _
  | x :: r => by
    have := sum_len h1 r
    have := h1 x
    rw [List.map_cons, List.sum_cons, List.length_cons]
    omega
theorem sum_le2 {α β : Type} {m : α → Nat} {k : β → Nat} : ∀ {l : List α} {r : List β}, l.length = r.length → (∀ (i : Nat) x y, l[i]? = some x → r[i]? = some y → m x ≤ k y) → (l.map m).sum ≤ (r.map k).sum
  | [], _, _, _ => Nat.zero_le _
  | x :: l, [], h, _ => nomatch h
  | x :: l, y :: r, h, hh => by
    have h1 := hh 0 x y rfl rfl
    have h2 := sum_le2 (m := m) (k := k) (l := l) (r := r) (by simpa using h) (fun i a b ha hb => hh (i + 1) a b (by simpa using ha) (by simpa using hb))
    rw [List.map_cons, List.sum_cons, List.map_cons, List.sum_cons]
    omega
theorem bkV_pos (v : Val) : 1 ≤ bkV v := by rw [bkV_eq]; omega
theorem bkP_pos (p : Str × Val) : 1 ≤ bkP p := by rw [bkP_eq]; omega
theorem bkV_l {v : Val} : (v.l.map bkV).sum + 7 ≤ bkV v := by rw [bkV_eq v]; omega
theorem bkV_mem {v x : Val} (h : x ∈ v.l) : bkV x < bkV v := by
  have := sum_mem (m := bkV) h
  rw [bkV_eq v]
  omega
theorem bkV_ent {v : Val} {p : Str × Val} (h : p ∈ v.e) : bkV p.2 + p.1.length < bkV v := by
  have := sum_mem (m := bkP) h
  rw [bkP_eq] at this
  rw [bkV_eq v]
  omega
theorem bkV_len (v : Val) : v.s.length + v.l.length + v.e.length < bkV v := by
  have h1 := sum_len (m := bkV) bkV_pos v.l
  have h2 := sum_len (m := bkP) bkP_pos v.e
  rw [bkV_eq v]
  omega
section
variable [Globs]
variable {H : Type} {encH : TypeId × Value → H} {P : Program} {W : World} {sp : Nat → Bool} {hd : Bool} {O : Nat → Prop} {bk : DataW H → Nat}
/-- a slice, by its elements, which are read with less fuel -/
theorem arg_sliceS {t e : TypeId} {τ : Ty} {m : den τ → Nat} {R : den τ → Prop} (hbk : BulkS bk) (hO : ∀ k, ¬ O k) (ht : P.underlying t = some (.slice e)) (hc : P.cellsOf e = esz τ) {fuel : Nat}
    (hel : ∀ n, n < fuel → ∀ (cs : List Value) (x : DataW H × List MemPlace), DataW.trod encH P W 0 sp hd n e cs = some x → ∃ y : den τ, All2 (Im O W) (enc τ y) cs ∧ m y ≤ bk x.1 ∧ R y)
    {cs : List Value} {x : DataW H × List MemPlace} (h : DataW.trod encH P W 0 sp hd fuel t cs = some x) : ∃ (l : List (den τ)) (v : Value), cs = [v] ∧ Im O W (.rd τ l) v ∧ (l.map m).sum + 1 ≤ bk x.1 ∧ ∀ y ∈ l, R y := by
  rcases DataW.trod_slice ht h with ⟨rfl, rfl⟩ | ⟨a, len, cap, elems, rest, n, rfl, rfl, rfl, hb, hlc, hcm, hlen, hall, _, _⟩
  · exact ⟨[], _, rfl, .rd0 τ none 0 (Nat.zero_le _), by simpa using hbk.pos _, fun y hy => nomatch hy⟩
  by_cases h0 : len = 0
  · subst h0; exact ⟨[], _, rfl, .rd0 τ _ _ hcm, by simpa using hbk.pos _, fun y hy => nomatch hy⟩
  have hall : ∀ i, i < len → ∃ (us : List Value) (y : DataW H × List MemPlace), W.cells? 0 (a.add (i * P.cellsOf e)) (P.cellsOf e) = some us ∧ DataW.trod encH P W 0 sp hd n e us = some y ∧ elems[i]? = some y := fun i hi => by
    have := hall i hi
    rw [List.getElem?_eq_getElem (by omega)] at this
    obtain ⟨us, h1, h2⟩ := Option.bind_eq_some_iff.1 this
    exact ⟨us, _, h1, h2, List.getElem?_eq_getElem _⟩
  have hch : ∀ i, i < len → ∃ (y : den τ) (us : List Value), (All2 (Im O W) (enc τ y) us ∧ (∀ d, elems[i]? = some d → m y ≤ bk d.1) ∧ R y) ∧ us.length = esz τ ∧ ∀ (j : Nat) v, us[j]? = some v → W.cell? ⟨a.block, a.off + (i * esz τ + j), none⟩ = some v := by
    intro i hi
    obtain ⟨us, yy, h1, h2, hm⟩ := hall i hi
    obtain ⟨y, hy⟩ := hel n (Nat.lt_succ_self n) _ _ h2
    rw [hc] at h1
    obtain ⟨h3, h4⟩ := cells_get h1
    refine ⟨y, us, ⟨hy.1, fun d hd => ?_, hy.2.2⟩, h3, fun j v hv => ?_⟩
    · rw [hm] at hd
      injection hd with hd
      subst hd
      exact hy.2.1
    have h5 := h4 j v hv
    have hs : ∀ j v, us[j]? = some v → ((a.add (i * esz τ)).add j).spot = none := fun j v hv => World.cell?_spot (h4 j v hv)
    have hpos := esz_pos τ
    have h00 : (a.add (i * esz τ)).spot = none := by
      have := hs 0 (us[0]'(by omega)) (List.getElem?_eq_getElem _)
      simpa [Addr.add] using this
    have e1 := add_of h00
    rw [e1] at h5
    rw [add_none] at h5
    rw [← h5, Nat.add_assoc]
  have ys : ∃ l : List (den τ), l.length = len ∧ ∀ (i : Nat) y, l[i]? = some y → ∃ us : List Value, (All2 (Im O W) (enc τ y) us ∧ (∀ d, elems[i]? = some d → m y ≤ bk d.1) ∧ R y) ∧ ∀ (j : Nat) v, us[j]? = some v → W.cell? ⟨a.block, a.off + (i * esz τ + j), none⟩ = some v := by
    have hch' := fun (i : Fin len) => hch i.1 i.2
    refine ⟨List.ofFn fun i : Fin len => Classical.choose (hch' i), by simp, fun i y hy => ?_⟩
    have hi : i < len := by have := (List.getElem?_eq_some_iff.1 hy).1; simpa using this
    rw [List.getElem?_ofFn, dif_pos hi] at hy
    injection hy with hy
    subst hy
    obtain ⟨us, h1, _, h2⟩ := Classical.choose_spec (hch' ⟨i, hi⟩)
    exact ⟨us, h1, h2⟩
  obtain ⟨l, hll, hl⟩ := ys
  refine ⟨l, _, rfl, ?_, ?_, fun y hy => ?_⟩
  rotate_left
  · have h1 := hbk.sl (elems.map (·.1)) (rest.map (·.1))
    have h2 : (l.map m).sum ≤ ((elems.map (·.1)).map bk).sum := sum_le2 (by rw [List.length_map]; omega) fun i y d hy hd => by
      obtain ⟨us, h3, _⟩ := hl i y hy
      rw [List.getElem?_map, Option.map_eq_some_iff] at hd
      obtain ⟨d', hd', rfl⟩ := hd
      exact h3.2.1 d' hd'
    exact Nat.le_trans (Nat.succ_le_succ h2) h1
  · obtain ⟨i, hi, rfl⟩ := List.getElem_of_mem hy
    obtain ⟨us, h1, _⟩ := hl i _ (List.getElem?_eq_getElem hi)
    exact h1.2.2
  have hane : a = ⟨a.block, a.off, none⟩ := by
    obtain ⟨us', yy, h1, h2, _⟩ := hall 0 (by omega)
    have hpos := esz_pos τ
    rw [hc] at h1
    obtain ⟨h5, h6⟩ := cells_get h1
    have := World.cell?_spot (h6 0 (us'[0]'(by omega)) (List.getElem?_eq_getElem _))
    simp [Addr.add] at this
    obtain ⟨b, o, s⟩ := a
    simp only at this
    subst this
    rfl
  rw [hane, ← hll]
  refine .rd τ l a.block a.off cap (fun i j => (W.cell? ⟨a.block, a.off + (i * esz τ + j), none⟩).getD undef) (hO _) (by omega) hcm (fun e => h0 (by rw [← hll, e]; rfl)) (fun i y j av hy hav => ?_) (fun i y j av hy hav => ?_)
  · obtain ⟨us, h1, h2⟩ := hl i y hy
    have hj : j < us.length := by rw [← h1.1.1]; exact (List.getElem?_eq_some_iff.1 hav).1
    rw [h2 j _ (List.getElem?_eq_getElem hj)]; rfl
  · obtain ⟨us, h1, h2⟩ := hl i y hy
    have hj : j < us.length := by rw [← h1.1.1]; exact (List.getElem?_eq_some_iff.1 hav).1
    rw [h2 j _ (List.getElem?_eq_getElem hj)]
    exact h1.1.2 j av _ hav (List.getElem?_eq_getElem hj)
theorem one_fieldS {t : TypeId} {fs : Array Field} {fuel : Nat} {cs : List Value} {x : DataW H × List MemPlace} (ht : P.underlying t = some (.struct fs)) (h : DataW.trod encH P W 0 sp hd fuel t cs = some x) :
    ∃ (n : Nat) (ds : List (DataW H)), fuel = n + 1 ∧ cs.length = P.cellsOf t ∧ x.1 = .agg ds ∧ ds.length = fs.size ∧ ∀ (i off : Nat) (t' : TypeId), HasF fs i off t' → ∃ y, DataW.trod encH P W 0 sp hd n t' ((cs.drop off).take (P.cellsOf t')) = some y ∧ ds[i]? = some y.1 := by
  obtain ⟨xs, n, hn, rfl, h1, h2, h3⟩ := DataW.trod_struct ht h
  refine ⟨n, xs.map (·.1), hn, h1, rfl, by rw [List.length_map]; exact h2, fun i off t' hf => ?_⟩
  obtain ⟨f, hf, rfl, rfl⟩ := hf
  have hi : i < xs.length := by rw [h2]; exact (Array.getElem?_eq_some_iff.1 hf).1
  rw [h3 i f hf, List.getElem?_eq_getElem hi]
  exact ⟨_, rfl, by rw [List.getElem?_map, List.getElem?_eq_getElem hi]; rfl⟩
theorem arg_strS (hbk : BulkS bk) {t : TypeId} {fuel : Nat} {cs : List Value} {x : DataW H × List MemPlace} (ht : P.underlying t = some .string) (h : DataW.trod encH P W 0 sp hd fuel t cs = some x) : ∃ (l : Str) (v : Value), cs = [v] ∧ Im O W (.s l) v ∧ l.length + 1 ≤ bk x.1 := by
  obtain ⟨s, h1, h3, h2⟩ := DataW.trod_string ht h
  refine ⟨s.data.toList, .string s, h1, ?_, ?_⟩
  · have := Im.s (O := O) (w := W) s.data.toList (by rw [Array.length_toList]; exact h2)
    simpa using this
  · rw [h3]; exact hbk.st _
theorem arg_valS {V : TypeId} (hbk : BulkS bk) (T : VTy P V) (hs : T.fs.size = 6) (hs2 : T.gs.size = 2) (hO : ∀ k, ¬ O k) : ∀ (fuel : Nat) (cs : List Value) (x : DataW H × List MemPlace), DataW.trod encH P W 0 sp hd fuel V cs = some x → ∃ y : Val, All2 (Im O W) (encVal y) cs ∧ bkV y ≤ bk x.1 ∧ VB y := by
  intro fuel
  induction fuel using Nat.strongRecOn with
  | _ fuel ih =>
  intro cs x h
  obtain ⟨n, ds, rfl, hl, hag, hds, hf⟩ := one_fieldS T.hV h
  rw [T.cV] at hl
  rw [hs] at hds
  obtain ⟨c0, c1, c2, c3, c4, c5⟩ := T.c
  match cs, hl, ds, hds with
  | [u0, u1, u2, u3, u4, u5], _, [d0, d1, d2, d3, d4, d5], _ =>
    obtain ⟨y0, q0, k0⟩ := hf 0 0 _ T.h0
    obtain ⟨y1, q1, k1⟩ := hf 1 1 _ T.h1
    obtain ⟨y2, q2, k2⟩ := hf 2 2 _ T.h2
    obtain ⟨y3, q3, k3⟩ := hf 3 3 _ T.h3
    obtain ⟨y4, q4, k4⟩ := hf 4 4 _ T.h4
    obtain ⟨y5, q5, k5⟩ := hf 5 5 _ T.h5
    simp only [List.getElem?_cons_zero, List.getElem?_cons_succ, Option.some.injEq] at k0 k1 k2 k3 k4 k5
    subst k0 k1 k2 k3 k4 k5
    rw [c0] at q0
    rw [c1] at q1
    rw [c2] at q2
    rw [c3] at q3
    rw [c4] at q4
    rw [c5] at q5
    obtain ⟨k, e0, i0, w0⟩ := arg_int (O := O) T.uK q0
    obtain ⟨m, e1, i1, w1⟩ := arg_int (O := O) T.uN q1
    obtain ⟨f, e2, i2, w2⟩ := arg_int (O := O) T.uU q2
    obtain ⟨s, vs, e3, i3, z3⟩ := arg_strS (O := O) hbk T.uS q3
    obtain ⟨l, vl, e4, i4, z4, r4⟩ := arg_sliceS (O := O) (τ := .val) (m := bkV) (R := VB) hbk hO T.uL T.cV (fun n' hn cs' x' hx => ih n' (by omega) cs' x' hx) q4
    obtain ⟨es, ve, e5, i5, z5, r5⟩ := arg_sliceS (O := O) (τ := .ent) (m := bkP) (R := fun p => VB p.2) hbk hO T.uE T.cE (fun n' hn cs' x' hx => by
      obtain ⟨n2, ds2, rfl, hl2, hag2, hds2, hf2⟩ := one_fieldS T.hE hx
      rw [T.cE] at hl2
      rw [hs2] at hds2
      match cs', hl2, ds2, hds2 with
      | [z0, z1, z2, z3, z4, z5, z6], _, [g0, g1], _ =>
        obtain ⟨_, p0, m0⟩ := hf2 0 0 _ T.g0
        obtain ⟨_, p1, m1⟩ := hf2 1 1 _ T.g1
        simp only [List.getElem?_cons_zero, List.getElem?_cons_succ, Option.some.injEq] at m0 m1
        subst m0 m1
        rw [c3] at p0
        rw [T.cV] at p1
        obtain ⟨ks, kv, d0, j0, lk⟩ := arg_strS (O := O) hbk T.uS p0
        obtain ⟨y, j1, hyb, hy⟩ := ih n2 (by omega) _ _ p1
        simp at d0
        subst d0
        refine ⟨(ks, y), All2.cons j0 (by simpa using j1), ?_, hy⟩
        rw [hag2]
        refine Nat.le_trans ?_ (hbk.ag _)
        rw [bkP_eq]
        simp only [List.map_cons, List.map_nil, List.sum_cons, List.sum_nil]
        omega) q5
    simp at e0 e1 e2 e3 e4 e5
    subst e0 e1 e2 e3 e4 e5
    refine ⟨⟨k, m, f, s, l, es⟩, All2.cons i0 (All2.cons i1 (All2.cons i2 (All2.cons i3 (All2.cons i4 (All2.cons i5 (All2.nil _)))))), ?_, .mk _ (wf_i64 w0) (wf_i64 w1) (wf_u64 w2) r4 r5⟩
    have h9 := hbk.ag [y0.1, y1.1, y2.1, y3.1, y4.1, y5.1]
    have p0 := hbk.pos y0.1
    have p1 := hbk.pos y1.1
    have p2 := hbk.pos y2.1
    rw [hag]
    refine Nat.le_trans ?_ h9
    rw [bkV_eq]
    simp only [List.map_cons, List.map_nil, List.sum_cons, List.sum_nil]
    omega
theorem arg_entS {V : TypeId} (hbk : BulkS bk) (T : VTy P V) (hs : T.fs.size = 6) (hs2 : T.gs.size = 2) (hO : ∀ k, ¬ O k) {fuel : Nat} {cs : List Value} {x : DataW H × List MemPlace} (hx : DataW.trod encH P W 0 sp hd fuel T.En cs = some x) : ∃ p : Str × Val, All2 (Im O W) (enc .ent p) cs ∧ bkP p ≤ bk x.1 ∧ VB p.2 := by
  obtain ⟨n2, ds2, rfl, hl2, hag2, hds2, hf2⟩ := one_fieldS T.hE hx
  rw [T.cE] at hl2
  rw [hs2] at hds2
  obtain ⟨c0, c1, c2, c3, c4, c5⟩ := T.c
  match cs, hl2, ds2, hds2 with
  | [z0, z1, z2, z3, z4, z5, z6], _, [g0, g1], _ =>
    obtain ⟨_, p0, m0⟩ := hf2 0 0 _ T.g0
    obtain ⟨_, p1, m1⟩ := hf2 1 1 _ T.g1
    simp only [List.getElem?_cons_zero, List.getElem?_cons_succ, Option.some.injEq] at m0 m1
    subst m0 m1
    rw [c3] at p0
    rw [T.cV] at p1
    obtain ⟨ks, kv, d0, j0, lk⟩ := arg_strS (O := O) hbk T.uS p0
    obtain ⟨y, j1, hyb, hy⟩ := arg_valS hbk T hs hs2 hO n2 _ _ p1
    simp at d0
    subst d0
    refine ⟨(ks, y), All2.cons j0 (by simpa using j1), ?_, hy⟩
    rw [hag2]
    refine Nat.le_trans ?_ (hbk.ag _)
    rw [bkP_eq]
    simp only [List.map_cons, List.map_nil, List.sum_cons, List.sum_nil]
    omega
end
end Go.SX
end
section
namespace Go.Up
set_option linter.unusedSectionVars false
set_option linter.unusedSimpArgs false
set_option linter.unusedVariables false
open Go.SX Go.Vl Go.Ut Go.Ck
theorem putE_in {l : List Ent} {k : Str} {a : Val} {p : Ent} (h : p ∈ putE l k a) : p = (k, a) ∨ p ∈ l := by
  unfold putE at h
  have hw : ∀ q ∈ withoutE l k, q ∈ l := fun q hq => (List.mem_filter.1 hq).1
  rcases List.mem_append.1 h with h | h
  · exact .inr (hw _ (List.mem_of_mem_take h))
  · rcases List.mem_cons.1 h with h | h
    · exact .inl h
    · exact .inr (hw _ (List.mem_of_mem_drop h))
/-- a property that a value has if its parts have it and its lists are not too long -/
structure Clo (R : Nat → Val → Prop) : Prop where
  parts : ∀ n v, R n v → ∀ x ∈ partsOf v, R n x
  mono : ∀ n m v, n ≤ m → R n v → R m v
  mak : ∀ n v l e, R n v → l.length ≤ n → e.length ≤ n → (∀ x ∈ l, R n x) → (∀ p ∈ e, R n p.2) → R n { v with l := l, e := e }
  len : ∀ n v, R n v → v.l.length ≤ n ∧ v.e.length ≤ n
theorem put_len {l : List Ent} {k : Str} {a : Val} : (putE l k a).length ≤ l.length + 1 := by
  have h := List.length_filter_le (fun p => !keyIs k p) l
  unfold putE
  rw [List.length_append, List.length_cons, List.length_take, List.length_drop]
  have : (withoutE l k).length ≤ l.length := h
  omega
theorem Clo.l_of {R : Nat → Val → Prop} (hR : Clo R) {n : Nat} {v : Val} (h : R n v) : ∀ x ∈ v.l, R n x := fun x hx => hR.parts n v h x (List.mem_append_left _ hx)
theorem Clo.e_of {R : Nat → Val → Prop} (hR : Clo R) {n : Nat} {v : Val} (h : R n v) : ∀ p ∈ v.e, R n p.2 := fun p hp => hR.parts n v h p.2 (List.mem_append_right _ (List.mem_map.2 ⟨p, hp, rfl⟩))
theorem Clo.setE {R : Nat → Val → Prop} (hR : Clo R) {n : Nat} {v : Val} (h : R n v) {e : List Ent} (hl : e.length ≤ n + 1) (he : ∀ p ∈ e, R (n + 1) p.2) : R (n + 1) { v with e := e } :=
  hR.mak (n + 1) v v.l e (hR.mono _ _ _ (Nat.le_succ n) h) (Nat.le_succ_of_le (hR.len n v h).1) hl (fun x hx => hR.mono _ _ _ (Nat.le_succ n) (hR.l_of h x hx)) he
theorem Clo.setL {R : Nat → Val → Prop} (hR : Clo R) {n : Nat} {v : Val} (h : R n v) {l : List Val} (hl : l.length ≤ n + 1) (he : ∀ x ∈ l, R (n + 1) x) : R (n + 1) { v with l := l } :=
  hR.mak (n + 1) v l v.e (hR.mono _ _ _ (Nat.le_succ n) h) hl (Nat.le_succ_of_le (hR.len n v h).2) he (fun p hp => hR.mono _ _ _ (Nat.le_succ n) (hR.e_of h p hp))
theorem Clo.setAt {R : Nat → Val → Prop} (hR : Clo R) {n : Nat} {v w : Val} {p : PStep} (h : R n v) (hw : R (n + 1) w) : R (n + 1) (setAt v p w) := by
  have hl := hR.len n v h
  unfold Up.setAt
  split
  · refine hR.setE h (by have := put_len (l := v.e) (k := p.key) (a := w); omega) fun q hq => ?_
    rcases putE_in hq with rfl | hq
    · exact hw
    · exact hR.mono _ _ _ (Nat.le_succ n) (hR.e_of h q hq)
  · refine hR.setL h (by rw [List.length_set]; omega) fun x hx => ?_
    rcases List.mem_or_eq_of_mem_set hx with hx | rfl
    · exact hR.mono _ _ _ (Nat.le_succ n) (hR.l_of h x hx)
    · exact hw
theorem Clo.last {R : Nat → Val → Prop} (hR : Clo R) {n : Nat} {v : Val} {p : PStep} {o : OpR} (h : R n v) (ho : R (n + 1) o.v) : R (n + 1) (lastU v p o).1 := by
  have hl := hR.len n v h
  have hv : R (n + 1) v := hR.mono _ _ _ (Nat.le_succ n) h
  have he := fun q hq => hR.mono _ _ _ (Nat.le_succ n) (hR.e_of h q hq)
  have hll := fun q hq => hR.mono _ _ _ (Nat.le_succ n) (hR.l_of h q hq)
  have hwl : (withoutE v.e p.key).length ≤ v.e.length := List.length_filter_le _ _
  have hwm : ∀ q ∈ withoutE v.e p.key, q ∈ v.e := fun q hq => (List.mem_filter.1 hq).1
  unfold lastU
  split
  · split
    · exact hv
    · split
      · split
        · exact hv
        · refine hR.setE h (by have := put_len (l := v.e) (k := p.key) (a := o.v); omega) fun q hq => ?_
          rcases putE_in hq with rfl | hq
          · exact ho
          · exact he q hq
      · split
        · exact hv
        · refine hR.setL h (by rw [List.length_append, List.length_cons, List.length_take, List.length_drop]; omega) fun x hx => ?_
          rcases List.mem_append.1 hx with hx | hx
          · exact hll x (List.mem_of_mem_take hx)
          · rcases List.mem_cons.1 hx with rfl | hx
            · exact ho
            · exact hll x (List.mem_of_mem_drop hx)
  · split
    · exact hv
    · rename_i hq
      split
      · split
        · exact hR.setE h (by omega) fun q hq => he q (hwm q hq)
        · refine hR.setL h (by rw [List.length_append, List.length_take, List.length_drop]; omega) fun x hx => ?_
          rcases List.mem_append.1 hx with hx | hx
          · exact hll x (List.mem_of_mem_take hx)
          · exact hll x (List.mem_of_mem_drop hx)
      · split
        · exact hv
        · split
          · exact hv
          · refine hR.setE h (by have := put_len (l := withoutE v.e p.key) (k := o.key) (a := (partV v p).1); omega) fun q hq2 => ?_
            rcases putE_in hq2 with rfl | hq2
            · exact hR.mono _ _ _ (Nat.le_succ n) (hR.parts n v h _ (partV_in (by simpa using hq)))
            · exact he q (hwm q hq2)
theorem Clo.upV {R : Nat → Val → Prop} (hR : Clo R) {n : Nat} {o : OpR} (ho : R (n + 1) o.v) : ∀ (p : List PStep) (v : Val), R n v → R (n + 1) (upV v p o).1
  | [], v, _ => by rw [Up.upV]; exact ho
  | x :: r, v, h => by
    have hv : R (n + 1) v := hR.mono _ _ _ (Nat.le_succ n) h
    rw [Up.upV]
    split
    · split
      · exact hv
      · rename_i hq
        split
        · exact hv
        · exact hR.setAt h (Clo.upV hR ho r _ (hR.parts n v h _ (partV_in (by simpa using hq))))
    · exact hR.last h ho
end Go.Up
namespace Go.Up
open Go.SX Go.Vl Go.Ut Go.Ck
/-- numbers in their bounds, and no list longer than told -/
inductive VW (n : Nat) : Val → Prop
  | mk (v : Val) : (-9223372036854775808 ≤ v.kind ∧ v.kind ≤ 9223372036854775807) → (-9223372036854775808 ≤ v.n ∧ v.n ≤ 9223372036854775807) → (0 ≤ v.f ∧ v.f ≤ 18446744073709551615) → v.l.length ≤ n → v.e.length ≤ n → (∀ x ∈ v.l, VW n x) → (∀ p ∈ v.e, VW n p.2) → VW n v
theorem VW.mono {n m : Nat} (h : n ≤ m) {v : Val} (hv : VW n v) : VW m v := by
  induction hv with
  | mk v a b c h1 h2 _ _ i1 i2 => exact .mk v a b c (Nat.le_trans h1 h) (Nat.le_trans h2 h) i1 i2
theorem VW.vb {n : Nat} {v : Val} (hv : VW n v) : VB v := by
  induction hv with
  | mk v a b c h1 h2 _ _ i1 i2 => exact .mk v a b c i1 i2
theorem VW.part {n : Nat} {v x : Val} (hv : VW n v) (hx : x ∈ partsOf v) : VW n x := by
  cases hv with
  | mk _ _ _ _ _ _ h4 h5 =>
    rcases List.mem_append.1 hx with hx | hx
    · exact h4 x hx
    · obtain ⟨z, hz, rfl⟩ := List.mem_map.1 hx
      exact h5 z hz
theorem clo_vw : Clo VW := ⟨fun _ _ h x hx => h.part hx, fun _ _ _ hle h => h.mono hle, fun n v l e h h1 h2 h3 h4 => by cases h with | mk _ a b c => exact .mk _ a b c h1 h2 h3 h4, fun _ _ h => by cases h with | mk _ _ _ _ h1 h2 => exact ⟨h1, h2⟩⟩
theorem vw_of_vb {v : Val} (hv : VB v) : VW (bkV v) v := by
  induction hv with
  | mk v a b c _ _ i1 i2 =>
    have := bkV_len v
    exact .mk v a b c (by omega) (by omega) (fun x hx => (i1 x hx).mono (by have := bkV_mem hx; omega)) (fun p hp => (i2 p hp).mono (by have := bkV_ent hp; omega))
/-! how much an update makes -/
theorem sum_filter {m : Ent → Nat} (q : Ent → Bool) : ∀ l : List Ent, ((l.filter q).map m).sum ≤ (l.map m).sum
  | [] => Nat.le_refl _
  | x :: r => by
    have := sum_filter (m := m) q r
    rw [List.filter_cons, List.map_cons, List.sum_cons]
    split
    · rw [List.map_cons, List.sum_cons]; omega
    · omega
theorem sum_split {α : Type} {m : α → Nat} (l : List α) (i : Nat) : ((l.take i).map m).sum + ((l.drop i).map m).sum = (l.map m).sum := by
  conv => rhs; rw [← List.take_append_drop i l]
  rw [List.map_append, List.sum_append]
theorem put_bulk {l : List Ent} {k : Str} {a : Val} : ((putE l k a).map bkP).sum ≤ (l.map bkP).sum + bkP (k, a) := by
  have h1 := sum_filter (m := bkP) (fun p => !keyIs k p) l
  have h2 := sum_split (m := bkP) (withoutE l k) ((withoutE l k).findIdx (keyGt k))
  unfold putE
  rw [List.map_append, List.sum_append, List.map_cons, List.sum_cons]
  have h3 : ((withoutE l k).map bkP).sum ≤ (l.map bkP).sum := h1
  omega
theorem bk_e (v : Val) (e : List Ent) : bkV { v with e := e } + (v.e.map bkP).sum = bkV v + (e.map bkP).sum := by rw [bkV_eq, bkV_eq]; simp only; omega
theorem bk_l (v : Val) (l : List Val) : bkV { v with l := l } + (v.l.map bkV).sum = bkV v + (l.map bkV).sum := by rw [bkV_eq, bkV_eq]; simp only; omega
theorem set_bulk {l : List Val} {i : Nat} {w : Val} : ((l.set i w).map bkV).sum ≤ (l.map bkV).sum + bkV w := by
  induction l generalizing i with
  | nil => simp
  | cons x r ih =>
    cases i with
    | zero => simp only [List.set_cons_zero, List.map_cons, List.sum_cons]; omega
    | succ i =>
      have := ih (i := i)
      simp only [List.set_cons_succ, List.map_cons, List.sum_cons]
      omega
theorem setAt_bulk {v w : Val} {p : PStep} : bkV (setAt v p w) ≤ bkV v + bkV w + p.key.length + 2 := by
  unfold Up.setAt
  split
  · have h1 := bk_e v (putE v.e p.key w)
    have h2 := put_bulk (l := v.e) (k := p.key) (a := w)
    rw [bkP_eq] at h2
    simp only at h2
    omega
  · have h1 := bk_l v (v.l.set p.i.toNat w)
    have h2 := set_bulk (l := v.l) (i := p.i.toNat) (w := w)
    omega
end Go.Up
namespace Go.Up
open Go.SX Go.Vl Go.Ut Go.Ck
theorem parts_bulk {v x : Val} (h : x ∈ partsOf v) : bkV x < bkV v := by
  rcases List.mem_append.1 h with h | h
  · exact bkV_mem h
  · obtain ⟨p, hp, rfl⟩ := List.mem_map.1 h
    have := bkV_ent hp
    omega
theorem last_bulk {v : Val} {p : PStep} {o : OpR} : bkV (lastU v p o).1 ≤ 2 * bkV v + bkV o.v + p.key.length + o.key.length + 4 := by
  unfold lastU
  split
  · split
    · simp only; omega
    · split
      · split
        · simp only; omega
        · have h1 := bk_e v (putE v.e p.key o.v)
          have h2 := put_bulk (l := v.e) (k := p.key) (a := o.v)
          rw [bkP_eq] at h2
          simp only at h2 ⊢
          omega
      · split
        · simp only; omega
        · have h1 := bk_l v (v.l.take p.i.toNat ++ o.v :: v.l.drop p.i.toNat)
          have h2 := sum_split (m := bkV) v.l p.i.toNat
          rw [List.map_append, List.sum_append, List.map_cons, List.sum_cons] at h1
          simp only
          omega
  · split
    · simp only; omega
    · rename_i hq
      split
      · split
        · have h1 := bk_e v (withoutE v.e p.key)
          have h2 : ((withoutE v.e p.key).map bkP).sum ≤ (v.e.map bkP).sum := sum_filter _ _
          simp only
          omega
        · have h1 := bk_l v (v.l.take p.i.toNat ++ v.l.drop (p.i.toNat + 1))
          have h2 := sum_split (m := bkV) v.l p.i.toNat
          have h3 := sum_split (m := bkV) (v.l.drop p.i.toNat) 1
          rw [List.drop_drop] at h3
          rw [List.map_append, List.sum_append] at h1
          simp only
          omega
      · split
        · simp only; omega
        · split
          · simp only; omega
          · have h1 := bk_e v (putE (withoutE v.e p.key) o.key (partV v p).1)
            have h2 := put_bulk (l := withoutE v.e p.key) (k := o.key) (a := (partV v p).1)
            have h3 : ((withoutE v.e p.key).map bkP).sum ≤ (v.e.map bkP).sum := sum_filter _ _
            have h4 := parts_bulk (partV_in (v := v) (p := p) (by simpa using hq))
            rw [bkP_eq] at h2
            simp only at h2 ⊢
            omega
theorem up_bulk {o : OpR} {K B : Nat} (hk : o.key.length ≤ K) : ∀ (p : List PStep) (v : Val), (∀ q ∈ p, q.key.length ≤ 100) → bkV v ≤ B → bkV (upV v p o).1 ≤ (p.length + 1) * (2 * B + 110) + bkV o.v + K
  | [], v, _, _ => by rw [upV]; simp only [List.length_nil, Nat.zero_add, Nat.one_mul]; omega
  | x :: r, v, h, hB => by
    have hx := h x (.head _)
    have e : ((x :: r).length + 1) * (2 * B + 110) = (r.length + 1) * (2 * B + 110) + (2 * B + 110) := by
      rw [List.length_cons, Nat.add_mul (r.length + 1) 1, Nat.one_mul]
    have ih0 := fun (w : Val) (hw : bkV w ≤ B) => up_bulk hk r w (fun q hq => h q (.tail _ hq)) hw
    rw [e]
    generalize (r.length + 1) * (2 * B + 110) = M at ih0 ⊢
    rw [upV]
    split
    · split
      · simp only; omega
      · rename_i hq
        split
        · simp only; omega
        · have hp := parts_bulk (partV_in (v := v) (p := x) (by simpa using hq))
          have ih := ih0 (partV v x).1 (by omega)
          have h1 := setAt_bulk (v := v) (w := (upV (partV v x).1 r o).1) (p := x)
          simp only
          omega
    · have h1 := last_bulk (v := v) (p := x) (o := o)
      omega
end Go.Up
end
section
namespace Go.Ck
set_option linter.unusedSectionVars false
set_option linter.unusedSimpArgs false
set_option linter.unusedVariables false
open Go.SX Go.Vl
theorem sum_bulk : ∀ l : List Val, (∀ x ∈ l, (sizV x).2 ≤ (bkV x : Int)) → sumT (l.map fun v => (⟨v, 0⟩ : VPlace)) ≤ ((l.map bkV).sum : Nat)
  | [], _ => by simp [sumT]
  | x :: r, h => by
    have h1 := h x (.head _)
    have h2 := sum_bulk r fun y hy => h y (.tail _ hy)
    rw [List.map_cons, sumT, List.map_cons, List.sum_cons]
    show (sizV x).2 + _ ≤ _
    omega
theorem siz_bulk_n : ∀ (n : Nat) (v : Val), SizeOf.sizeOf v < n → (sizV v).2 ≤ (bkV v : Int) := by
  intro n
  induction n with
  | zero => intro v h; exact absurd h (Nat.not_lt_zero _)
  | succ n ih =>
    intro v h
    have h1 := sum_bulk (partsOf v) fun x hx => ih x (by have := parts_sz hx; omega)
    have h2 := fold_sum (partsOf v) (0, 1) 0
    have h3 : ((partsOf v).map bkV).sum ≤ (v.l.map bkV).sum + (v.e.map bkP).sum := by
      unfold partsOf
      rw [List.map_append, List.sum_append, List.map_map]
      have : (v.e.map (bkV ∘ (·.2))).sum ≤ (v.e.map bkP).sum := by
        generalize v.e = e
        induction e with
        | nil => exact Nat.le_refl _
        | cons p r ih =>
          rw [List.map_cons, List.sum_cons, List.map_cons, List.sum_cons, bkP_eq]
          simp only [Function.comp]
          omega
      omega
    rw [sizV_eq, bkV_eq]
    simp only at h2 ⊢
    omega
theorem siz_bulk (v : Val) : (sizV v).2 ≤ (bkV v : Int) := siz_bulk_n _ v (Nat.lt_succ_self _)
end Go.Ck
end
section
namespace Go.Proofs.YtdcdmojbkmedpaaDoor
set_option linter.unusedSectionVars false
set_option linter.unusedSimpArgs false
set_option linter.unusedVariables false
open Go Go.SX Go.Ck Go.Vl Go.Ut Go.Up
set_option maxRecDepth 100000
set_option maxHeartbeats 1000000
theorem stepF_ok {p : PStep} (h : stepF p = 0) : -1 ≤ p.i ∧ p.key.length ≤ 100 := by
  unfold stepF at h
  by_cases c : p.i < -1 ∨ (0 ≤ p.i ∧ p.key ≠ [])
  · rw [if_pos c] at h; exact absurd h (by decide)
  · rw [if_neg c] at h
    by_cases d : 100 < p.key.length
    · rw [if_pos d] at h; exact absurd h (by decide)
    · omega
theorem pathF_ok {l : List PStep} (h : pathF l = 0) : l.length ≤ 20 ∧ ∀ p ∈ l, -1 ≤ p.i ∧ p.key.length ≤ 100 := by
  unfold pathF at h
  by_cases c : 20 < l.length
  · rw [if_pos c] at h; exact absurd h (by decide)
  · rw [if_neg c] at h
    exact ⟨by omega, fun p hp => stepF_ok (stepsF_mem h p hp)⟩
theorem opF_ok {o : OpR} (h : opF o = 0) : (1 ≤ o.kind ∧ o.kind ≤ 4) ∧ pathF o.p = 0 ∧ (o.kind = 1 ∨ o.p ≠ []) := by
  unfold opF at h
  by_cases c : o.kind < 1 ∨ 4 < o.kind
  · rw [if_pos c] at h; exact absurd h (by decide)
  · rw [if_neg c] at h
    obtain ⟨h1, h2⟩ := orI_0 h
    obtain ⟨_, h3⟩ := orI_0 h2
    refine ⟨by omega, h1, ?_⟩
    by_cases d : o.kind = 1
    · exact .inl d
    · refine .inr fun e => ?_
      by_cases f : o.kind = 4 ∧ 100 < o.key.length
      · rw [if_pos f] at h3; exact absurd h3 (by decide)
      · rw [if_neg f] at h3
        by_cases g : o.kind = 4 ∧ 0 ≤ bad o.key
        · rw [if_pos g] at h3; exact absurd h3 (by decide)
        · rw [if_neg g, if_pos ⟨by omega, e⟩] at h3; exact absurd h3 (by decide)
theorem vn_of_vw {n m : Nat} (h : n ≤ m) {v : Val} (hv : VW n v) : VN m v := by
  induction hv with
  | mk v _ _ _ h1 h2 _ _ i1 i2 => exact .mk v (Nat.le_trans h1 h) (Nat.le_trans h2 h) i1 i2
/-- a value that may be updated: numbers in their bounds, not too much of it -/
structure Mod (v : Val) : Prop where
  vb : VB v
  bk : bkV v ≤ 10000000
theorem Mod.siz {v : Val} (h : Mod v) : (sizV v).2 ≤ 1000000000 := by have := siz_bulk v; have := h.bk; omega
theorem Mod.vw {v : Val} (h : Mod v) : VW 10000000 v := (vw_of_vb h.vb).mono h.bk
theorem Mod.vn {v : Val} (h : Mod v) : VN 100000000 v := vn_of_vw (by decide) h.vw
theorem up_ok {v : Val} {o : OpR} (hv : Mod v) (ho : Mod o.v) (hk : o.key.length ≤ 10000000) (hp : pathF o.p = 0) : VB (upV v o.p o).1 ∧ (sizV (upV v o.p o).1).2 ≤ 1000000000 ∧ VN 100000000 (upV v o.p o).1 := by
  obtain ⟨h1, h2⟩ := pathF_ok hp
  have h3 := clo_vw.upV (n := 10000000) (ho.vw.mono (Nat.le_succ _)) o.p v hv.vw
  have h4 := up_bulk (o := o) (B := 10000000) hk o.p v (fun q hq => (h2 q hq).2) hv.bk
  have h5 := siz_bulk (upV v o.p o).1
  have h6 : (o.p.length + 1) * (2 * 10000000 + 110) ≤ 21 * (2 * 10000000 + 110) := Nat.mul_le_mul_right _ (by omega)
  have := ho.bk
  exact ⟨h3.vb, by omega, vn_of_vw (by decide) h3⟩
def appA (a : Val) (o : OpR) : AV := .tup [.agg (encVal (applyV a o).1), .i .i64 (applyV a o).2]
theorem appA_eq {a w : Val} {o : OpR} {e : Int} (h : applyV a o = (w, e)) : appA a o = .tup [.agg (encVal w), .i .i64 e] := by unfold appA; rw [h]
section
variable [G : Globs]
theorem w_updd (a : Val) (o : OpR) (ha : Mod a) (ho : Mod o.v) (hk : o.key.length ≤ 10000000) : vc Tryd.prog Γ 39 [2, 3, 4, 5, 6, 7, 8, 9, 13, 19, 31, 35] (Tryd.f29.body.getD .skip) (postK Γ [.cell 4 26, .tmp 5] (fun v => RL v (appA a o))) ⟨argSlots 0 [.agg (encVal a), .agg (enc .op o)], []⟩ := by
  refine Or.inl (Exists.intro _ (And.intro (s_fault a ha.vb ha.siz) ?_))
  refine And.intro (fun hq => ?_) (fun hq => ?_)
  · have hq : faultV a ≠ 0 := by simpa using hq
    rw [appA_eq (show applyV a o = (zeroV, faultV a) from if_pos hq)]
    (repeat' (first | exact trivial | exact Or.inl rfl | exact Or.inr ⟨rfl, _, rfl⟩ | refine And.intro ?_ ?_))
  have hq : ¬ faultV a ≠ 0 := by simpa using hq
  refine Or.inl (Exists.intro _ (And.intro (s_opFault o ho.vb ho.siz) ?_))
  refine And.intro (fun hq2 => ?_) (fun hq2 => ?_)
  · have hq2 : opF o ≠ 0 := by simpa using hq2
    rw [appA_eq (show applyV a o = (zeroV, opF o) from by unfold applyV; rw [if_neg hq, if_pos hq2])]
    (repeat' (first | exact trivial | exact Or.inl rfl | exact Or.inr ⟨rfl, _, rfl⟩ | refine And.intro ?_ ?_))
  have hq2 : ¬ opF o ≠ 0 := by simpa using hq2
  have hop := opF_ok (o := o) (by simpa using hq2)
  have hpp := pathF_ok hop.2.1
  have hup := up_ok ha ho hk hop.2.1
  have e0 : applyV a o = if (upV a o.p o).2 ≠ 0 then (zeroV, (upV a o.p o).2) else if faultV (upV a o.p o).1 ≠ 0 then (zeroV, faultV (upV a o.p o).1) else ((upV a o.p o).1, 0) := by unfold applyV; rw [if_neg hq, if_neg hq2]
  refine Or.inl (Exists.intro _ (And.intro (s_upd o.p a o (fun p hp => (hpp.2 p hp).1) ha.vn) ?_))
  refine And.intro (fun hq3 => ?_) (fun hq3 => ?_)
  · have hq3 : (upV a o.p o).2 = 0 := eq_of_beq hq3
    rw [if_neg (by simp [hq3])] at e0
    refine Or.inl (Exists.intro _ (And.intro (s_fault (upV a o.p o).1 hup.1 hup.2.1) ?_))
    refine And.intro (fun hq4 => ?_) (fun hq4 => ?_)
    · have hq4 : faultV (upV a o.p o).1 ≠ 0 := by simpa using hq4
      rw [if_pos hq4] at e0
      rw [appA_eq e0]
      (repeat' (first | exact trivial | exact Or.inl rfl | exact Or.inr ⟨rfl, _, rfl⟩ | refine And.intro ?_ ?_))
    · have hq4 : ¬ faultV (upV a o.p o).1 ≠ 0 := by simpa using hq4
      rw [if_neg hq4] at e0
      rw [appA_eq e0]
      (repeat' (first | exact trivial | exact Or.inl rfl | exact Or.inr ⟨rfl, _, rfl⟩ | refine And.intro ?_ ?_))
  · have hq3 : (upV a o.p o).2 ≠ 0 := ne_of_beq_false hq3
    rw [if_pos hq3] at e0
    refine And.intro (fun _ => ?_) (fun h => absurd h (by simpa using hq3))
    rw [appA_eq e0]
    (repeat' (first | exact trivial | exact Or.inl rfl | exact Or.inr ⟨rfl, _, rfl⟩ | refine And.intro ?_ ?_))
theorem s_updd (a : Val) (o : OpR) (ha : Mod a) (ho : Mod o.v) (hk : o.key.length ≤ 10000000) : PSpec Tryd.prog 29 [.agg (encVal a), .agg (enc .op o)] (appA a o) :=
  pspec_of_vcL Γ_good Tryd.func29 rfl Tryd.call29 Tryd.results29 Tryd.ntmps29 (Nat.le_of_ble_eq_true rfl) (w_updd a o ha ho hk)
theorem w_samePath (l k : List PStep) : vc Tryd.prog Γ 26 [0, 1, 4, 5, 10, 12, 13, 14, 24] (Tryd.f51.body.getD .skip) (postK Γ [.tmp 4] (fun v => v = .b (decide (l = k)))) ⟨argSlots 0 [.rd .pstep l, .rd .pstep k], []⟩ := by
  intro hl
  intro hk
  refine And.intro (fun hq => ?_) (fun hq => ?_)
  · have hq : l.length ≠ k.length := by have := hq; simp only [bne_iff_ne, ne_eq] at this; omega
    refine congrArg AV.b ?_
    rw [eq_comm, decide_eq_false_iff_not]
    exact fun e => hq (by rw [e])
  have hq : l.length = k.length := by have : ((l.length : Int) != (k.length : Int)) = false := hq; simp only [bne_eq_false_iff_eq] at this; omega
  intro _
  refine Exists.intro [] (Exists.intro [] (Exists.intro [] (Exists.intro Nat (Exists.intro (fun i => i ≤ (l).length ∧ (l.take i = k.take i)) (Exists.intro (fun i => ⟨[(0, .rd .pstep l), (1, .rd .pstep k), (12, .i .i64 l.length), (13, .i .i64 i)], []⟩) (Exists.intro (fun i => (l).length - i) (Exists.intro 0 (And.intro ⟨Nat.zero_le _, rfl⟩ (And.intro ?_ ?_)))))))))
  · (repeat' (first | exact trivial | exact Or.inl rfl | exact Or.inr (Or.inl ⟨rfl, _, rfl⟩) | exact Or.inr (Or.inr (Or.inr ⟨_, _, _, rfl, rfl⟩)) | refine And.intro ?_ ?_))
  rintro i ⟨hi, hI⟩
  refine And.intro (fun hz => ?_) (fun hz => ?_)
  · have hi := ltD hz
    have hg := getI (τ := .pstep) hi
    have hg2 := getI (τ := .pstep) (l := k) (show i < k.length by omega)
    refine Exists.intro [.blk [0, 1, 2, 3, 4, 5, 6, 7, 8]] (And.intro (by kernel_rfl) ?_)
    refine And.intro ⟨by omega, by omega⟩ ?_
    refine And.intro ⟨by omega, by omega⟩ ?_
    rw [hg, hg2]
    have hik : i < k.length := by omega
    have hll := len_le hl
    have hst : (l[i].key == k[i].key && (decide (l[i].i = k[i].i) && true)) = decide (l[i] = k[i]) := by
      rw [Bool.eq_iff_iff]
      simp only [Bool.and_true, Bool.and_eq_true, beq_iff_eq, decide_eq_true_eq]
      constructor
      · rintro ⟨h1, h2⟩
        cases hl1 : l[i]; cases hk1 : k[i]
        rw [hl1, hk1] at h1 h2
        simp only at h1 h2
        rw [h1, h2]
      · intro h; rw [h]; exact ⟨rfl, rfl⟩
    refine And.intro (fun hc => ?_) (fun hc => ?_)
    · have hc : (!(l[i].key == k[i].key && (decide (l[i].i = k[i].i) && true))) = true := hc
      rw [hst] at hc
      have hne : l[i] ≠ k[i] := by simpa using hc
      refine congrArg AV.b ?_
      rw [eq_comm, decide_eq_false_iff_not]
      intro e
      exact hne (by subst e; rfl)
    · have hc : (!(l[i].key == k[i].key && (decide (l[i].i = k[i].i) && true))) = false := hc
      rw [hst] at hc
      have heq : l[i] = k[i] := by simpa using hc
      (refine And.intro (rng64 (by omega) (by omega)) ?_)
      refine Exists.intro [] (Exists.intro (_ + 1) (And.intro ⟨hi, (by rw [take_snoc hi, take_snoc hik, hI, heq])⟩ (And.intro ?_ ?_)))
      · (repeat' (first | exact trivial | exact Or.inl rfl | exact Or.inr (Or.inl ⟨rfl, _, rfl⟩) | exact Or.inr (Or.inr (Or.inr ⟨_, _, _, rfl, rfl⟩)) | refine And.intro ?_ ?_))
      · (exact Nat.sub_lt_sub_left (by omega) (by omega))
  · (have hi := geD hi hz)
    subst hi
    rw [List.take_length, hq, List.take_length] at hI
    exact congrArg AV.b (by rw [eq_comm, decide_eq_true_eq]; exact hI)
theorem s_samePath (l k : List PStep) : PSpec Tryd.prog 51 [.rd .pstep l, .rd .pstep k] (.b (decide (l = k))) :=
  pspec_of_vc Γ_good Tryd.func51 rfl Tryd.call51 Tryd.results51 Tryd.ntmps51 (Nat.le_of_ble_eq_true rfl) (w_samePath l k)
theorem vb_zero : VB zeroV := .mk zeroV ⟨by decide, by decide⟩ ⟨by decide, by decide⟩ ⟨by decide, by decide⟩ (fun _ h => nomatch h) (fun _ h => nomatch h)
/-- the update that leads back -/
def undoV (v : Val) (o : OpR) : OpR :=
  if o.kind = 1 then ⟨1, o.p, (ledV v o.p).1, []⟩ else if o.kind = 2 then ⟨3, o.p, zeroV, []⟩ else if o.kind = 3 then ⟨2, o.p, (ledV v o.p).1, []⟩
  else ⟨4, o.p.dropLast ++ [⟨o.key, (o.p.getLastD default).i⟩], zeroV, (o.p.getLastD default).key⟩
def sameO (a b : OpR) : Bool := decide (a.kind = b.kind) && (decide (a.key = b.key) && (decide (a.p = b.p) && decide (cmpV a.v b.v = 0)))
theorem w_sameOp (a : OpR) (hv : VB a.v) : vc Tryd.prog Γ 31 [2, 3, 4] (Tryd.f31.body.getD .skip) (postK Γ [.tmp 4] (fun v => v = .b true)) ⟨argSlots 0 [.agg (enc .op a), .agg (enc .op a)], []⟩ := by
  refine And.intro (fun _ => ?_) (fun h => absurd ((beq_self_eq_true a.kind).symm.trans h) (by decide))
  refine And.intro (fun _ => ?_) (fun h => absurd ((beq_self_eq_true a.key).symm.trans h) (by decide))
  refine Or.inl (Exists.intro _ (And.intro (s_samePath a.p a.p) ?_))
  refine And.intro (fun _ => ?_) (fun h => absurd ((decide_eq_true (rfl : a.p = a.p)).symm.trans h) (by decide))
  refine Or.inl (Exists.intro _ (And.intro (s_same a.v a.v hv hv) ?_))
  exact congrArg AV.b (decide_eq_true (cmpV_self a.v))
theorem s_sameOp (a : OpR) (hv : VB a.v) : PSpec Tryd.prog 31 [.agg (enc .op a), .agg (enc .op a)] (.b true) :=
  pspec_of_vc Γ_good Tryd.func31 rfl Tryd.call31 Tryd.results31 Tryd.ntmps31 (Nat.le_of_ble_eq_true rfl) (w_sameOp a hv)
end
end Go.Proofs.YtdcdmojbkmedpaaDoor
end
section
namespace Go.Proofs.YtdcdmojbkmedpaaDoor
set_option linter.unusedSectionVars false
set_option linter.unusedSimpArgs false
set_option linter.unusedVariables false
open Go Go.SX Go.Ck Go.Vl Go.Ut Go.Up
set_option maxRecDepth 100000
set_option maxHeartbeats 1000000
section
variable [G : Globs]
theorem w_reb0 (a c : Val) (g : Nat) (cs : List AV) (hc : PSpec Tryd.prog g [.agg (encVal a), .rp cs] (.agg (encVal c))) : vc Tryd.prog Γ 64 [1, 2, 3, 6, 7, 8, 11, 21] (Tryd.f80.body.getD .skip) (postK Γ [.cell 6 26] (fun v => v = .agg (encVal c))) ⟨argSlots 0 [.agg (encVal a), .rd .pstep [], .fn g [.rp cs]], []⟩ := by
  intro _
  refine And.intro (fun _ => ?_) (fun hq => Bool.noConfusion hq)
  refine Or.inl (Exists.intro _ (And.intro (hc) ?_))
  rfl
theorem s_reb0 (a c : Val) (g : Nat) (cs : List AV) (hc : PSpec Tryd.prog g [.agg (encVal a), .rp cs] (.agg (encVal c))) : PSpec Tryd.prog 80 [.agg (encVal a), .rd .pstep [], .fn g [.rp cs]] (.agg (encVal c)) :=
  pspec_of_vc Γ_good Tryd.func80 rfl Tryd.call80 Tryd.results80 Tryd.ntmps80 (Nat.le_of_ble_eq_true rfl) (w_reb0 a c g cs hc)
theorem w_reb1 (a c : Val) (p : PStep) (r : List PStep) (g : Nat) (cs : List AV) (h0 : (partV a p).2 = 0) (ha : VN 100000000 a) (ih : PSpec Tryd.prog 80 [.agg (encVal (partV a p).1), .rd .pstep r, .fn g [.rp cs]] (.agg (encVal (rebV (partV a p).1 r c)))) : vc Tryd.prog Γ 64 [1, 2, 3, 6, 7, 8, 11, 21] (Tryd.f80.body.getD .skip) (postK Γ [.cell 6 26] (fun v => RL v (.agg (encVal (rebV a (p :: r) c))))) ⟨argSlots 0 [.agg (encVal a), .rd .pstep (p :: r), .fn g [.rp cs]], []⟩ := by
  have hr : PSpec Tryd.prog 80 [.agg (encVal (partV a p).1), .rd .pstep (((p :: r).take (Int.toNat ((p :: r).length : Int))).drop (Int.toNat 1)), .fn g [.rp cs]] (.agg (encVal (rebV (partV a p).1 r c))) := by
    rw [tail_eq]; exact ih
  intro _
  refine And.intro (fun hq => ?_) (fun _ => ?_)
  · exact absurd (eq_of_beq hq) (by simp only [List.length_cons]; omega)
  refine Or.inr (Or.inl (Exists.intro [] (Exists.intro _ (Exists.intro _ (Exists.intro _ (Exists.intro _ (Exists.intro _ (Exists.intro [(1000, 60), (1001, 61)] (And.intro (s_OwnO a ha) ?_)))))))))
  refine (And.intro rfl (And.intro rfl (And.intro rfl (And.intro rfl ?_))))
  refine And.intro ⟨by omega, by simp only [List.length_cons]; omega⟩ ?_
  refine And.intro (fun hi => ?_) (fun hi => ?_)
  · have hi : p.i < 0 := by have := of_decide_eq_true hi; exact this
    have hb := ix_bound (part_ix h0 hi)
    have hp1 : (partV a p).1 = (a.e.getD (ixI a.e (keyIs p.key)).toNat (dflt .ent)).2 := by
      unfold partV
      rw [if_pos hi]
      have h6 : ¬ a.kind ≠ 6 := fun h6 => by unfold partV at h0; rw [if_pos hi, if_pos h6] at h0; exact absurd h0 (by decide)
      rw [if_neg h6, if_neg (part_ix h0 hi)]
    rw [hp1] at hr
    refine Exists.intro [.blk [0, 1, 2, 3, 4, 5, 6, 7]] (And.intro (by kernel_rfl) ?_)
    refine And.intro ⟨by omega, by simp only [List.length_cons]; omega⟩ ?_
    refine Exists.intro _ (And.intro (s_find a.e p.key) ?_)
    have hb1 : 0 ≤ ixI a.e (keyIs p.key) ∧ ixI a.e (keyIs p.key) < (a.e.length : Int) := ⟨hb.1, by omega⟩
    refine Exists.intro [.blk [0, 1, 2, 3, 4, 5, 6, 7, 8, 9, 10, 11, 12, 13, 14], .one 15] (And.intro (by kernel_rfl) ?_)
    refine And.intro hb1 ?_
    refine And.intro ⟨by omega, by simp only [List.length_cons]; omega, by simp only [List.length_cons]; omega⟩ ?_
    refine Exists.intro _ (And.intro (hr) ?_)
    refine And.intro hb1 ?_
    rw [rebV, if_pos hi, hp1]
    (repeat' (first | exact trivial | exact Or.inl rfl | exact Or.inl (congrArg (fun w => AV.rd .ent (a.e.set (ixI a.e (keyIs p.key)).toNat ((a.e.getD (ixI a.e (keyIs p.key)).toNat (dflt .ent)).1, w))) (val_eta _)) | exact Or.inr ⟨rfl, _, rfl⟩ | refine And.intro ?_ ?_))
  · have hi : ¬ p.i < 0 := by have := of_decide_eq_false hi; exact this
    have hx := part_ln h0 hi
    have hp1 : (partV a p).1 = a.l.getD p.i.toNat (dflt .val) := by
      unfold partV
      rw [if_neg hi]
      have h5 : ¬ a.kind ≠ 5 := fun h5 => by unfold partV at h0; rw [if_neg hi, if_pos h5] at h0; exact absurd h0 (by decide)
      rw [if_neg h5, if_neg (by omega)]
    rw [hp1] at hr
    have hb1 : 0 ≤ p.i ∧ p.i < (a.l.length : Int) := ⟨by omega, hx.2⟩
    refine Exists.intro [.blk [0, 1, 2, 3, 4, 5, 6, 7, 8, 9, 10, 11, 12, 13, 14, 15, 16, 17, 18], .one 19] (And.intro (by kernel_rfl) ?_)
    refine And.intro ⟨by omega, by simp only [List.length_cons]; omega⟩ ?_
    refine And.intro ⟨by omega, by simp only [List.length_cons]; omega⟩ ?_
    refine And.intro hb1 ?_
    refine And.intro ⟨by omega, by simp only [List.length_cons]; omega, by simp only [List.length_cons]; omega⟩ ?_
    refine Exists.intro _ (And.intro (hr) ?_)
    refine And.intro hb1 ?_
    rw [rebV, if_neg hi, hp1]
    (repeat' (first | exact trivial | exact Or.inl rfl | exact Or.inl (congrArg (fun w => AV.rd .val (a.l.set p.i.toNat w)) (val_eta _)) | exact Or.inr ⟨rfl, _, rfl⟩ | refine And.intro ?_ ?_))
theorem s_reb1 (a c : Val) (p : PStep) (r : List PStep) (g : Nat) (cs : List AV) (h0 : (partV a p).2 = 0) (ha : VN 100000000 a) (ih : PSpec Tryd.prog 80 [.agg (encVal (partV a p).1), .rd .pstep r, .fn g [.rp cs]] (.agg (encVal (rebV (partV a p).1 r c)))) : PSpec Tryd.prog 80 [.agg (encVal a), .rd .pstep (p :: r), .fn g [.rp cs]] (.agg (encVal (rebV a (p :: r) c))) :=
  pspec_of_vcL Γ_good Tryd.func80 rfl Tryd.call80 Tryd.results80 Tryd.ntmps80 (Nat.le_of_ble_eq_true rfl) (w_reb1 a c p r g cs h0 ha ih)
theorem s_reb (c : Val) (g : Nat) (cs : List AV) (hc : ∀ b, PSpec Tryd.prog g [.agg (encVal b), .rp cs] (.agg (encVal c))) : ∀ (l : List PStep) (a : Val), (ledV a l).2 = 0 → VN 100000000 a → PSpec Tryd.prog 80 [.agg (encVal a), .rd .pstep l, .fn g [.rp cs]] (.agg (encVal (rebV a l c)))
  | [], a, _, _ => by rw [rebV]; exact s_reb0 a c g cs (hc a)
  | p :: r, a, h, ha => by
    have h0 : (partV a p).2 = 0 := by
      rw [ledV] at h
      by_cases d : (partV a p).2 ≠ 0
      · rw [if_pos d] at h; exact h
      · simpa using d
    have hr : (ledV (partV a p).1 r).2 = 0 := by rw [ledV, if_neg (by simp [h0])] at h; exact h
    exact s_reb1 a c p r g cs h0 ha (s_reb c g cs hc r _ hr (vn_part ha (partV_in h0)))
theorem w_app1 (b : Val) (o : OpR) (ho : VN 100000000 o.v) : vc Tryd.prog Γ 7 [1, 2, 3] (Tryd.f81.body.getD .skip) (postK Γ [.cell 3 26] (fun v => v = .agg (encVal o.v))) ⟨argSlots 0 [.agg (encVal b), .rp (enc .op o)], []⟩ := by
  refine Or.inl (Exists.intro _ (And.intro (s_Own o.v ho) ?_))
  rfl
theorem s_app1 (b : Val) (o : OpR) (ho : VN 100000000 o.v) : PSpec Tryd.prog 81 [.agg (encVal b), .rp (enc .op o)] (.agg (encVal o.v)) :=
  pspec_of_vc Γ_good Tryd.func81 rfl Tryd.call81 Tryd.results81 Tryd.ntmps81 (Nat.le_of_ble_eq_true rfl) (w_app1 b o ho)
theorem w_app2 (b c : Val) : vc Tryd.prog Γ 5 [1, 2, 3] (Tryd.f83.body.getD .skip) (postK Γ [.cell 3 26] (fun v => v = .agg (encVal c))) ⟨argSlots 0 [.agg (encVal b), .rp (encVal c)], []⟩ := by
  rfl
theorem s_app2 (b c : Val) : PSpec Tryd.prog 83 [.agg (encVal b), .rp (encVal c)] (.agg (encVal c)) :=
  pspec_of_vc Γ_good Tryd.func83 rfl Tryd.call83 Tryd.results83 Tryd.ntmps83 (Nat.le_of_ble_eq_true rfl) (w_app2 b c)
def goodV (a : Val) : Val × Int := if faultV a ≠ 0 then (zeroV, faultV a) else (a, 0)
def goodA (a : Val) : AV := .tup [.agg (encVal (goodV a).1), .i .i64 (goodV a).2]
theorem goodA_eq {a w : Val} {e : Int} (h : goodV a = (w, e)) : goodA a = .tup [.agg (encVal w), .i .i64 e] := by unfold goodA; rw [h]
theorem w_good (hu : HasU8) (a : Val) (ha : VB a) (hn : (sizV a).2 ≤ 1000000000) : vc Tryd.prog Γ 12 [1, 2, 3, 4, 8] (Tryd.f79.body.getD .skip) (postK Γ [.cell 2 26, .tmp 3] (fun v => RL v (goodA a))) ⟨argSlots 0 [.agg (encVal a)], []⟩ := by
  have hC := s_Check hu a ha hn
  rw [chk_T] at hC
  refine Or.inl (Exists.intro _ (And.intro (hC) ?_))
  refine And.intro (fun hq => ?_) (fun hq => ?_)
  · have hq : faultV a ≠ 0 := by simpa using hq
    rw [goodA_eq (show goodV a = (zeroV, faultV a) from if_pos hq)]
    (repeat' (first | exact trivial | exact Or.inl rfl | exact Or.inr ⟨rfl, _, rfl⟩ | refine And.intro ?_ ?_))
  · have hq : ¬ faultV a ≠ 0 := by simpa using hq
    rw [goodA_eq (show goodV a = (a, 0) from if_neg hq)]
    (repeat' (first | exact trivial | exact Or.inl rfl | exact Or.inr ⟨rfl, _, rfl⟩ | refine And.intro ?_ ?_))
theorem s_good (hu : HasU8) (a : Val) (ha : VB a) (hn : (sizV a).2 ≤ 1000000000) : PSpec Tryd.prog 79 [.agg (encVal a)] (goodA a) :=
  pspec_of_vcL Γ_good Tryd.func79 rfl Tryd.call79 Tryd.results79 Tryd.ntmps79 (Nat.le_of_ble_eq_true rfl) (w_good hu a ha hn)
end
end Go.Proofs.YtdcdmojbkmedpaaDoor
end
section
namespace Go.Up
set_option linter.unusedSectionVars false
set_option linter.unusedSimpArgs false
set_option linter.unusedVariables false
open Go.SX Go.Vl Go.Ut Go.Ck
theorem own_ok {v : Val} {a : Int} (h : ownF v a = 0) : v.s.length ≤ 4000 := by
  unfold ownF at h
  by_cases c : 20 ≤ a
  · rw [if_pos c] at h; exact absurd h (by decide)
  · rw [if_neg c] at h
    by_cases d : kindBad v
    · rw [if_pos d] at h; exact absurd h (by decide)
    · rw [if_neg d] at h
      by_cases e : 4000 < v.s.length ∨ 200 < v.l.length ∨ 200 < v.e.length
      · rw [if_pos e] at h; exact absurd h (by decide)
      · omega
theorem ent_keys : ∀ (e : List Ent) (q : Option Str), entF q e = 0 → ∀ p ∈ e, p.1.length ≤ 100
  | x :: r, q, h, p, hp => by
    rw [entF] at h
    obtain ⟨h1, h2⟩ := orI_0 h
    rcases List.mem_cons.1 hp with rfl | hp
    · unfold keyF at h1
      by_cases c : 100 < p.1.length
      · rw [if_pos c] at h1; exact absurd h1 (by decide)
      · omega
    · exact ent_keys r _ h2 p hp
theorem chkL_bulk : ∀ (l : List Val) (a m m' : Int), chkL l a m = (0, m') → (∀ x ∈ l, ∀ k k' : Int, chkV x a k = (0, k') → (bkV x : Int) + 103 ≤ (k' - k) * 4110) → ((l.map bkV).sum : Int) + 103 * (l.length : Int) ≤ (m' - m) * 4110
  | [], a, m, m', h, _ => by
    rw [chkL] at h
    injection h with _ h
    subst h
    simp
  | x :: r, a, m, m', h, hh => by
    rw [chkL] at h
    cases hx : chkV x a m with
    | mk e k =>
      rw [hx] at h
      simp only at h
      by_cases c : e ≠ 0
      · rw [if_pos c] at h
        injection h with h _
        exact absurd h c
      · rw [if_neg c] at h
        have c : e = 0 := by simpa using c
        subst c
        have h1 := hh x (.head _) m k hx
        have h2 := chkL_bulk r a k m' h fun y hy => hh y (.tail _ hy)
        rw [List.map_cons, List.sum_cons, List.length_cons]
        omega
theorem chkV_bulk : ∀ (n : Nat) (v : Val), SizeOf.sizeOf v < n → ∀ a m m' : Int, chkV v a m = (0, m') → (bkV v : Int) + 103 ≤ (m' - m) * 4110 := by
  intro n
  induction n with
  | zero => intro v h; exact absurd h (Nat.not_lt_zero _)
  | succ n ih =>
    intro v hs a m m' h
    rw [chkV_eq] at h
    by_cases c : 2000 < m + 1
    · rw [if_pos c] at h
      injection h with h _
      exact absurd h (by decide)
    · rw [if_neg c] at h
      by_cases d : oneF v a ≠ 0
      · rw [if_pos d] at h
        injection h with h _
        exact absurd h d
      · rw [if_neg d] at h
        have d : oneF v a = 0 := by simpa using d
        obtain ⟨d1, d2⟩ := orI_0 d
        have h1 := chkL_bulk _ _ _ _ h fun x hx k k' hk => ih x (by have := parts_sz hx; omega) _ k k' hk
        have h2 := own_ok d1
        have h3 := ent_keys _ _ d2
        have h4 : (v.e.map bkP).sum ≤ (v.e.map (fun p => bkV p.2)).sum + 102 * v.e.length := by
          have : ∀ e : List Ent, (∀ p ∈ e, p.1.length ≤ 100) → (e.map bkP).sum ≤ (e.map (fun p => bkV p.2)).sum + 102 * e.length := by
            intro e
            induction e with
            | nil => intro _; simp
            | cons x r ih =>
              intro hh
              have h5 := ih fun p hp => hh p (.tail _ hp)
              have h6 := hh x (.head _)
              simp only [List.map_cons, List.sum_cons, List.length_cons]
              rw [bkP_eq]
              omega
          exact this v.e h3
        have h5 : ((partsOf v).map bkV).sum = (v.l.map bkV).sum + (v.e.map (fun p => bkV p.2)).sum := by
          unfold partsOf
          rw [List.map_append, List.sum_append, List.map_map]
          rfl
        have h6 : (partsOf v).length = v.l.length + v.e.length := by unfold partsOf; rw [List.length_append, List.length_map]
        rw [bkV_eq]
        omega
/-- a value that is taken -/
theorem good_bulk {v : Val} (h : faultV v = 0) : bkV v ≤ 10000000 := by
  unfold faultV at h
  rw [chkT] at h
  simp only at h
  have hle := chkV_le v 0 0 (by decide) (by decide)
  cases hc : chkV v 0 0 with
  | mk e m =>
    rw [hc] at h hle
    simp only at h hle
    by_cases c : e = 0
    · subst c
      have := chkV_bulk _ v (Nat.lt_succ_self _) 0 0 m hc
      have := hle.2.2 rfl
      omega
    · rw [if_pos c] at h; exact absurd h c
/-- updates, one after the other -/
def allF : Val → Nat → List OpR → Val × Int × Int
  | v, _, [] => (v, 0, 0)
  | v, i, o :: r => if (applyV v o).2 ≠ 0 then (zeroV, i, (applyV v o).2) else allF (applyV v o).1 (i + 1) r
def allV (v : Val) (l : List OpR) : Val × Int × Int := if faultV v ≠ 0 then (zeroV, 0, faultV v) else allF v 0 l
theorem applyV_good {v : Val} {o : OpR} (h : (applyV v o).2 = 0) : faultV (applyV v o).1 = 0 ∧ (applyV v o).1 = (upV v o.p o).1 ∧ pathF o.p = 0 := by
  unfold applyV at h ⊢
  by_cases c : faultV v ≠ 0
  · rw [if_pos c] at h; exact absurd h c
  · rw [if_neg c] at h ⊢
    by_cases d : opF o ≠ 0
    · rw [if_pos d] at h; exact absurd h d
    · rw [if_neg d] at h ⊢
      have hp : pathF o.p = 0 := by
        have d : opF o = 0 := by simpa using d
        unfold opF at d
        by_cases e : o.kind < 1 ∨ 4 < o.kind
        · rw [if_pos e] at d; exact absurd d (by decide)
        · rw [if_neg e] at d; exact (orI_0 d).1
      by_cases e : (upV v o.p o).2 ≠ 0
      · rw [if_pos e] at h; exact absurd h e
      · rw [if_neg e] at h ⊢
        by_cases f : faultV (upV v o.p o).1 ≠ 0
        · rw [if_pos f] at h; exact absurd h f
        · rw [if_neg f]
          exact ⟨by simpa using f, rfl, hp⟩
end Go.Up
end
section
namespace Go.Proofs.YtdcdmojbkmedpaaDoor
set_option linter.unusedSectionVars false
set_option linter.unusedSimpArgs false
set_option linter.unusedVariables false
open Go Go.SX Go.Ck Go.Vl Go.Ut Go.Up
set_option maxRecDepth 100000
set_option maxHeartbeats 1000000
def allA (r : Val × Int × Int) : AV := .tup [.agg (encVal r.1), .i .i64 r.2.1, .i .i64 r.2.2]
theorem mod_app {v : Val} {o : OpR} (hv : Mod v) (ho : Mod o.v) (hk : o.key.length ≤ 10000000) (h : (applyV v o).2 = 0) : Mod (applyV v o).1 := by
  obtain ⟨h1, h2, h3⟩ := applyV_good h
  exact ⟨by rw [h2]; exact (up_ok hv ho hk h3).1, good_bulk h1⟩
section
variable [G : Globs]
theorem w_updAll (a : Val) (l : List OpR) (ha : Mod a) (hl : ∀ o ∈ l, Mod o.v ∧ o.key.length ≤ 10000000) : vc Tryd.prog Γ 39 [1, 2, 4, 5, 6, 7, 8, 9, 10, 11, 15, 18, 19, 20, 21, 32] (Tryd.f24.body.getD .skip) (postK Γ [.cell 4 26, .tmp 5, .tmp 6] (fun v => RL v (allA (allV a l)))) ⟨argSlots 0 [.agg (encVal a), .rd .op l], []⟩ := by
  refine Or.inl (Exists.intro _ (And.intro (s_fault a ha.vb ha.siz) ?_))
  refine And.intro (fun hq => ?_) (fun hq => ?_)
  · have hq : faultV a ≠ 0 := by simpa using hq
    rw [show allV a l = (zeroV, 0, faultV a) from if_pos hq]
    (repeat' (first | exact trivial | exact Or.inl rfl | exact Or.inr ⟨rfl, _, rfl⟩ | refine And.intro ?_ ?_))
  have hq : ¬ faultV a ≠ 0 := by simpa using hq
  rw [show allV a l = allF a 0 l from if_neg hq]
  generalize hR : allF a 0 l = R
  intro hml
  refine Exists.intro [] (Exists.intro [] (Exists.intro [] (Exists.intro (Nat × Val) (Exists.intro (fun q => q.1 ≤ l.length ∧ Mod q.2 ∧ R = allF q.2 q.1 (l.drop q.1)) (Exists.intro (fun ⟨i, v⟩ => ⟨[(2, .pt 2 0), (4, .pt 4 0), (5, .i .i64 0), (6, .i .i64 0), (18, .rd .op l), (19, .i .i64 l.length), (20, .i .i64 i)], [(2, encVal v), (4, [.i .i64 0, .i .i64 0, .i .u64 0, .s [], .nl, .nl])]⟩) (Exists.intro (fun q => l.length - q.1) (Exists.intro (0, a) (And.intro ⟨Nat.zero_le _, ha, hR.symm⟩ (And.intro ?_ ?_)))))))))
  · (repeat' (first | exact trivial | exact Or.inl rfl | exact Or.inr (Or.inl ⟨rfl, _, rfl⟩) | exact Or.inr (Or.inr (Or.inr ⟨_, _, _, rfl, rfl⟩)) | refine And.intro ?_ ?_))
  rintro ⟨i, v⟩ ⟨hi, hv, hI⟩
  simp only at hi hv hI
  refine And.intro (fun hz => ?_) (fun hz => ?_)
  · have hi := ltD hz
    have hg := getI (τ := .op) hi
    refine And.intro ⟨by omega, by omega⟩ ?_
    rw [hg]
    have ho := hl l[i] (List.getElem_mem hi)
    have hlen := len_le hml
    rw [List.drop_eq_getElem_cons hi, allF] at hI
    refine Or.inl (Exists.intro _ (And.intro (s_updd v l[i] hv ho.1 ho.2) ?_))
    refine And.intro (fun hq => ?_) (fun hq => ?_)
    · have hq : (applyV v l[i]).2 ≠ 0 := by simpa using hq
      rw [if_pos hq] at hI
      rw [hI]
      (repeat' (first | exact trivial | exact Or.inl rfl | exact Or.inr ⟨rfl, _, rfl⟩ | refine And.intro ?_ ?_))
    · have hq : ¬ (applyV v l[i]).2 ≠ 0 := by simpa using hq
      rw [if_neg hq] at hI
      (refine And.intro (rng64 (by omega) (by omega)) ?_)
      refine Exists.intro [] (Exists.intro (i + 1, (applyV v l[i]).1) (And.intro ⟨hi, mod_app hv ho.1 ho.2 (by simpa using hq), hI⟩ (And.intro ?_ ?_)))
      · (repeat' (first | exact trivial | exact Or.inl rfl | exact Or.inr (Or.inl ⟨rfl, _, rfl⟩) | exact Or.inr (Or.inr (Or.inr ⟨_, _, _, rfl, rfl⟩)) | refine And.intro ?_ ?_))
      · (exact Nat.sub_lt_sub_left (by omega) (by omega))
  · have hi := geD hi hz
    rw [List.drop_eq_nil_of_le (by omega), allF] at hI
    rw [hI]
    (repeat' (first | exact trivial | exact Or.inl rfl | exact Or.inr ⟨rfl, _, rfl⟩ | refine And.intro ?_ ?_))
theorem s_updAll (a : Val) (l : List OpR) (ha : Mod a) (hl : ∀ o ∈ l, Mod o.v ∧ o.key.length ≤ 10000000) : PSpec Tryd.prog 24 [.agg (encVal a), .rd .op l] (allA (allV a l)) :=
  pspec_of_vcL Γ_good Tryd.func24 rfl Tryd.call24 Tryd.results24 Tryd.ntmps24 (Nat.le_of_ble_eq_true rfl) (w_updAll a l ha hl)
end
end Go.Proofs.YtdcdmojbkmedpaaDoor
end
section
namespace Go.Proofs.YtdcdmojbkmedpaaDoor
set_option linter.unusedSectionVars false
set_option linter.unusedSimpArgs false
set_option linter.unusedVariables false
open Go Go.SX Go.Ck Go.Vl Go.Ut Go.Up
set_option maxRecDepth 100000
set_option maxHeartbeats 1000000
theorem app_set {a : Val} {o : OpR} (h1 : ¬ faultV a ≠ 0) (h2 : ¬ opF o ≠ 0) (hk : o.kind = 1) : applyV a o = if (ledV a o.p).2 ≠ 0 then (zeroV, (ledV a o.p).2) else if faultV (rebV a o.p o.v) ≠ 0 then (zeroV, faultV (rebV a o.p o.v)) else (rebV a o.p o.v, 0) := by
  have hf := fine_of_fault (v := a) (by simpa using h1)
  obtain ⟨u1, u2⟩ := upd_set hk o.p a hf
  unfold applyV
  rw [if_neg h1, if_neg h2, u1]
  by_cases c : (ledV a o.p).2 ≠ 0
  · rw [if_pos c, if_pos c]
  · rw [if_neg c, if_neg c, u2 (by simpa using c)]
theorem app_last {a : Val} {o : OpR} {up : List PStep} {x : PStep} (h1 : ¬ faultV a ≠ 0) (h2 : ¬ opF o ≠ 0) (hk : o.kind ≠ 1) (hp : o.p = up ++ [x]) : applyV a o = if (ledV a up).2 ≠ 0 then (zeroV, (ledV a up).2) else if o.kind ≠ 2 ∧ (ledV a o.p).2 ≠ 0 then (zeroV, (ledV a o.p).2)
    else if (withinV (ledV a up).1 x o).2 ≠ 0 then (zeroV, (withinV (ledV a up).1 x o).2) else
      if faultV (rebV a up (withinV (ledV a up).1 x o).1) ≠ 0 then (zeroV, faultV (rebV a up (withinV (ledV a up).1 x o).1)) else (rebV a up (withinV (ledV a up).1 x o).1, 0) := by
  have hf := fine_of_fault (v := a) (by simpa using h1)
  have hop := opF_ok (o := o) (by simpa using h2)
  obtain ⟨u1, u2⟩ := upd_last hk x up a hf
  rw [← hp] at u1 u2
  have hw := within_last (v := (ledV a up).1) (p := x) (o := o) (by omega)
  unfold applyV
  rw [if_neg h1, if_neg h2, u1]
  by_cases c : (ledV a up).2 ≠ 0
  · rw [if_pos c, if_pos c, if_pos c]
  · rw [if_neg c, if_neg c]
    have c0 : (ledV a up).2 = 0 := by simpa using c
    have hl : ledV a o.p = if (partV (ledV a up).1 x).2 ≠ 0 then (zeroV, (partV (ledV a up).1 x).2) else ((partV (ledV a up).1 x).1, 0) := by rw [hp, ledV_append _ _ _ c0, ledV_one]
    have hl2 : (ledV a o.p).2 = (partV (ledV a up).1 x).2 := by
      rw [hl]
      by_cases d : (partV (ledV a up).1 x).2 ≠ 0
      · rw [if_pos d]
      · rw [if_neg d]; simp at d; exact d.symm
    rw [hl2, hw]
    by_cases d : o.kind ≠ 2 ∧ (partV (ledV a up).1 x).2 ≠ 0
    · rw [if_pos d, if_pos d, if_pos d.2]
    · rw [if_neg d, if_neg d]
      by_cases e : (withinV (ledV a up).1 x o).2 ≠ 0
      · rw [if_pos e, if_pos e]
      · rw [if_neg e, if_neg e]
        rw [u2 c0 (by rw [hw, if_neg d]; simpa using e), hw, if_neg d]
theorem stepsF_pre : ∀ {l m : List PStep}, stepsF (l ++ m) = 0 → stepsF l = 0
  | [], _, _ => rfl
  | p :: r, m, h => by
    rw [List.cons_append, stepsF] at h
    rw [stepsF]
    by_cases c : stepF p = 0
    · rw [c, orI_zero] at h ⊢
      exact stepsF_pre h
    · rw [orI_ne c] at h; exact absurd h c
theorem pathF_pre {l m : List PStep} (h : pathF (l ++ m) = 0) : pathF l = 0 := by
  unfold pathF at h ⊢
  by_cases c : 20 < (l ++ m).length
  · rw [if_pos c] at h; exact absurd h (by decide)
  · rw [if_neg c] at h
    rw [List.length_append] at c
    rw [if_neg (by omega)]
    exact stepsF_pre h
section
variable [G : Globs]
theorem w_applyS (hu : HasU8) (a : Val) (o : OpR) (ha : Mod a) (ho : Mod o.v) (hk : o.key.length ≤ 10000000) : vc Tryd.prog (Γ.kp 26) 107 [2, 3, 4, 5, 6, 7, 8, 9, 10, 11, 12, 13, 14, 15, 19, 25, 30, 39, 72, 77, 86, 97] (Tryd.f28.body.getD .skip) (postK (Γ.kp 26) [.cell 4 26, .tmp 5] (fun v => RL v (appA a o))) ⟨argSlots 0 [.agg (encVal a), .agg (enc .op o)], []⟩ := by
  have hC := s_Check hu a ha.vb ha.siz
  rw [chk_T] at hC
  refine Or.inl (Exists.intro _ (And.intro (hC) ?_))
  refine And.intro (fun hq => ?_) (fun hq => ?_)
  · have hq : faultV a ≠ 0 := by simpa using hq
    rw [appA_eq (show applyV a o = (zeroV, faultV a) from if_pos hq)]
    (repeat' (first | exact trivial | exact Or.inl rfl | exact Or.inr ⟨rfl, _, rfl⟩ | refine And.intro ?_ ?_))
  have hq : ¬ faultV a ≠ 0 := by simpa using hq
  refine Or.inl (Exists.intro _ (And.intro (s_updC hu o ho.vb ho.siz) ?_))
  refine And.intro (fun hq2 => ?_) (fun hq2 => ?_)
  · have hq2 : opF o ≠ 0 := by simpa using hq2
    rw [appA_eq (show applyV a o = (zeroV, opF o) from by unfold applyV; rw [if_neg hq, if_pos hq2])]
    (repeat' (first | exact trivial | exact Or.inl rfl | exact Or.inr ⟨rfl, _, rfl⟩ | refine And.intro ?_ ?_))
  have hq2 : ¬ opF o ≠ 0 := by simpa using hq2
  have hop := opF_ok (o := o) (by simpa using hq2)
  have hpp := pathF_ok hop.2.1
  have hup := up_ok ha ho hk hop.2.1
  have hget : ∀ l, pathF l = 0 → PSpec Tryd.prog 78 [.agg (encVal a), .rd .pstep l] (ledA a l) := fun l hl => by
    have := s_get hu a l ha.vn
    rw [show getA a l = ledA a l from by unfold getA ledA; rw [show getV a l = ledV a l from if_neg (by simp [hl])]] at this
    exact this
  refine And.intro (fun h1 => ?_) (fun h1 => ?_)
  · have h1 : o.kind = 1 := eq_of_beq h1
    have e0 := app_set hq hq2 h1
    refine Or.inl (Exists.intro _ (And.intro (hget o.p hop.2.1) ?_))
    refine And.intro (fun hq3 => ?_) (fun hq3 => ?_)
    · have hq3 : (ledV a o.p).2 ≠ 0 := by simpa using hq3
      rw [if_pos hq3] at e0
      rw [appA_eq e0]
      (repeat' (first | exact trivial | exact Or.inl rfl | exact Or.inr ⟨rfl, _, rfl⟩ | refine And.intro ?_ ?_))
    have hq3 : ¬ (ledV a o.p).2 ≠ 0 := by simpa using hq3
    rw [if_neg hq3] at e0
    refine Or.inr (Or.inr (Or.inr (Exists.intro [3] (Exists.intro _ (And.intro ((s_reb o.v 81 (enc .op o) (fun b => s_app1 b o ho.vn) o.p a (by simpa using hq3) ha.vn)) ?_)))))
    have hu2 := upd_set h1 o.p a (fine_of_fault (v := a) (by simpa using hq))
    rw [hu2.2 (by simpa using hq3)] at hup
    refine Or.inl (Exists.intro _ (And.intro (s_good hu (rebV a o.p o.v) hup.1 hup.2.1) ?_))
    rw [show appA a o = goodA (rebV a o.p o.v) from by unfold appA goodA goodV; rw [e0]]
    (repeat' (first | exact trivial | exact Or.inl rfl | exact Or.inr ⟨rfl, _, rfl⟩ | refine And.intro ?_ ?_))
  have h1 : o.kind ≠ 1 := ne_of_beq_false h1
  have hne : o.p ≠ [] := hop.2.2.resolve_left h1
  have hlen : 0 < o.p.length := List.length_pos_iff.2 hne
  have hle := hpp.1
  obtain ⟨up, x, hpx⟩ : ∃ up x, o.p = up ++ [x] := ⟨o.p.dropLast, o.p.getLast hne, (List.dropLast_concat_getLast hne).symm⟩
  have hll : o.p.length = up.length + 1 := by rw [hpx, List.length_append]; rfl
  have hup1 : (o.p.take (Int.toNat ((o.p.length : Int) - 1))).drop (Int.toNat 0) = up := by
    rw [show Int.toNat ((o.p.length : Int) - 1) = up.length by omega, hpx, List.take_left' rfl]; rfl
  have hx1 : o.p.getD (Int.toNat ((o.p.length : Int) - 1)) (dflt .pstep) = x := by
    rw [show Int.toNat ((o.p.length : Int) - 1) = up.length by omega, hpx, List.getD_eq_getElem?_getD, List.getElem?_append_right (Nat.le_refl _), Nat.sub_self]; rfl
  have hpu : pathF up = 0 := pathF_pre (by rw [← hpx]; exact hop.2.1)
  have e0 := app_last hq hq2 h1 hpx
  refine Exists.intro [.blk [0, 1, 2, 3, 4, 5, 6, 7, 8, 9, 10, 11, 12, 13, 14, 15, 16] [11], .one 17] (And.intro (by kernel_rfl) ?_)
  (refine And.intro (rng64 (by omega) (by omega)) ?_)
  (refine And.intro ⟨by omega, by omega, by omega⟩ ?_)
  (refine And.intro (rng64 (by omega) (by omega)) ?_)
  (refine And.intro ⟨by omega, by omega⟩ ?_)
  rw [hup1, hx1]
  have hk234 : o.kind = 2 ∨ o.kind = 3 ∨ o.kind = 4 := by omega
  have hvn : VN 100000000 (ledV a up).1 := ledV_keep (R := VN 100000000) (vn_zero _) (fun _ h _ hx => vn_part h hx) up a ha.vn
  have hvl : (ledV a up).1.l.length ≤ 100000000 := by cases hvn with | mk _ h _ => exact h
  have hve : (ledV a up).1.e.length ≤ 100000000 := by cases hvn with | mk _ _ h => exact h
  by_cases hc : (ledV a up).2 ≠ 0
  · rw [if_pos hc] at e0
    refine Or.inl (Exists.intro _ (And.intro (hget up hpu) ?_))
    refine And.intro (fun _ => ?_) (fun h => absurd h (by simpa using hc))
    rw [appA_eq e0]
    (repeat' (first | exact trivial | exact Or.inl rfl | exact Or.inr ⟨rfl, _, rfl⟩ | refine And.intro ?_ ?_))
  rw [if_neg hc] at e0
  have hc0 : (ledV a up).2 = 0 := by simpa using hc
  have hlp : (ledV a o.p).2 = (partV (ledV a up).1 x).2 := by
    rw [hpx, ledV_append _ _ _ hc0, ledV_one]
    by_cases d : (partV (ledV a up).1 x).2 ≠ 0
    · rw [if_pos d]
    · rw [if_neg d]; simp at d; exact d.symm
  by_cases ht : x.i < 0 ∨ o.kind = 4
  · refine Or.inl (Exists.intro _ (And.intro (hget up hpu) ?_))
    refine And.intro (fun h => absurd hc0 (by simpa using h)) (fun _ => ?_)
    by_cases hk2 : o.kind = 2
    · have hd0 : ¬ (o.kind ≠ 2 ∧ (partV (ledV a up).1 x).2 ≠ 0) := fun h => h.1 hk2
      rw [if_neg (fun h => h.1 hk2)] at e0
      refine And.intro (fun h => absurd hk2 (by simpa using h)) (fun _ => ?_)
      refine Or.inl (Exists.intro _ (And.intro (s_withinT (ledV a up).1 x o ht hk234 (fun h => absurd hk2 h) hvn ho.vn hve) ?_))
      refine And.intro (fun hw => ?_) (fun hw => ?_)
      · have hw : (withinV (ledV a up).1 x o).2 ≠ 0 := by simpa using hw
        rw [if_pos hw] at e0
        rw [appA_eq e0]
        (repeat' (first | exact trivial | exact Or.inl rfl | exact Or.inr ⟨rfl, _, rfl⟩ | refine And.intro ?_ ?_))
      have hw : ¬ (withinV (ledV a up).1 x o).2 ≠ 0 := by simpa using hw
      rw [if_neg hw] at e0
      have hlast := upd_last h1 x up a (fine_of_fault (v := a) (by simpa using hq))
      rw [← hpx, within_last hk234, if_neg hd0] at hlast
      rw [hlast.2 hc0 (by simpa using hw)] at hup
      refine Or.inr (Or.inr (Or.inr (Exists.intro [12] (Exists.intro _ (And.intro ((s_reb (withinV (ledV a up).1 x o).1 83 (encVal (withinV (ledV a up).1 x o).1) (fun b => s_app2 b _) up a hc0 ha.vn)) ?_)))))
      refine Or.inl (Exists.intro _ (And.intro (s_good hu (rebV a up (withinV (ledV a up).1 x o).1) hup.1 hup.2.1) ?_))
      rw [show appA a o = goodA (rebV a up (withinV (ledV a up).1 x o).1) from by unfold appA goodA goodV; rw [e0]]
      (repeat' (first | exact trivial | exact Or.inl rfl | exact Or.inr ⟨rfl, _, rfl⟩ | refine And.intro ?_ ?_))
    · refine And.intro (fun _ => ?_) (fun h => absurd (by simpa using h) hk2)
      refine Or.inl (Exists.intro _ (And.intro (hget o.p hop.2.1) ?_))
      refine And.intro (fun hd => ?_) (fun hd => ?_)
      · have hd : (ledV a o.p).2 ≠ 0 := by simpa using hd
        rw [if_pos ⟨hk2, hd⟩] at e0
        rw [appA_eq e0]
        (repeat' (first | exact trivial | exact Or.inl rfl | exact Or.inr ⟨rfl, _, rfl⟩ | refine And.intro ?_ ?_))
      have hd : (ledV a o.p).2 = 0 := by simpa using hd
      rw [if_neg (fun h => h.2 hd)] at e0
      have hd0 : ¬ (o.kind ≠ 2 ∧ (partV (ledV a up).1 x).2 ≠ 0) := fun h => h.2 (by rw [← hlp]; exact hd)
      refine Or.inl (Exists.intro _ (And.intro (s_withinT (ledV a up).1 x o ht hk234 (fun _ => by rw [← hlp]; exact hd) hvn ho.vn hve) ?_))
      refine And.intro (fun hw => ?_) (fun hw => ?_)
      · have hw : (withinV (ledV a up).1 x o).2 ≠ 0 := by simpa using hw
        rw [if_pos hw] at e0
        rw [appA_eq e0]
        (repeat' (first | exact trivial | exact Or.inl rfl | exact Or.inr ⟨rfl, _, rfl⟩ | refine And.intro ?_ ?_))
      have hw : ¬ (withinV (ledV a up).1 x o).2 ≠ 0 := by simpa using hw
      rw [if_neg hw] at e0
      have hlast := upd_last h1 x up a (fine_of_fault (v := a) (by simpa using hq))
      rw [← hpx, within_last hk234, if_neg hd0] at hlast
      rw [hlast.2 hc0 (by simpa using hw)] at hup
      refine Or.inr (Or.inr (Or.inr (Exists.intro [12] (Exists.intro _ (And.intro ((s_reb (withinV (ledV a up).1 x o).1 83 (encVal (withinV (ledV a up).1 x o).1) (fun b => s_app2 b _) up a hc0 ha.vn)) ?_)))))
      refine Or.inl (Exists.intro _ (And.intro (s_good hu (rebV a up (withinV (ledV a up).1 x o).1) hup.1 hup.2.1) ?_))
      rw [show appA a o = goodA (rebV a up (withinV (ledV a up).1 x o).1) from by unfold appA goodA goodV; rw [e0]]
      (repeat' (first | exact trivial | exact Or.inl rfl | exact Or.inr ⟨rfl, _, rfl⟩ | refine And.intro ?_ ?_))
  · have hs : ¬ x.i < 0 := fun h => ht (.inl h)
    have hk23 : o.kind = 2 ∨ o.kind = 3 := by omega
    refine Or.inr (Or.inl (Exists.intro [] (Exists.intro _ (Exists.intro _ (Exists.intro _ (Exists.intro _ (Exists.intro _ (Exists.intro [(1000, 100), (1001, 101)] (And.intro (s_getO hu a up ha.vn hpu hc0) ?_)))))))))
    refine (And.intro rfl (And.intro rfl (And.intro rfl (And.intro rfl ?_))))
    refine And.intro (fun h => Bool.noConfusion h) (fun _ => ?_)
    by_cases hk2 : o.kind = 2
    · have hd0 : ¬ (o.kind ≠ 2 ∧ (partV (ledV a up).1 x).2 ≠ 0) := fun h => h.1 hk2
      rw [if_neg (fun h => h.1 hk2)] at e0
      refine And.intro (fun h => absurd hk2 (by simpa using h)) (fun _ => ?_)
      refine Or.inr (Or.inl (Exists.intro [] (Exists.intro _ (Exists.intro _ (Exists.intro _ (Exists.intro _ (Exists.intro _ (Exists.intro [(1000, 100), (1001, 101)] (And.intro (s_withinL (ledV a up).1 x o hs hk23 (fun h => absurd h (by omega)) ho.vn hvl) ?_)))))))))
      refine (And.intro rfl (And.intro rfl (And.intro rfl (And.intro rfl ?_))))
      refine And.intro (fun hw => ?_) (fun hw => ?_)
      · have hw : (withinV (ledV a up).1 x o).2 ≠ 0 := by simpa using hw
        rw [if_pos hw] at e0
        rw [appA_eq e0]
        (repeat' (first | exact trivial | exact Or.inl rfl | exact Or.inr ⟨rfl, _, rfl⟩ | refine And.intro ?_ ?_))
      have hw : ¬ (withinV (ledV a up).1 x o).2 ≠ 0 := by simpa using hw
      rw [if_neg hw] at e0
      have hlast := upd_last h1 x up a (fine_of_fault (v := a) (by simpa using hq))
      rw [← hpx, within_last hk234, if_neg hd0] at hlast
      rw [hlast.2 hc0 (by simpa using hw)] at hup
      refine Or.inr (Or.inr (Or.inr (Exists.intro [12] (Exists.intro _ (And.intro ((s_reb (withinV (ledV a up).1 x o).1 83 (encVal (withinV (ledV a up).1 x o).1) (fun b => s_app2 b _) up a hc0 ha.vn)) ?_)))))
      refine Or.inl (Exists.intro _ (And.intro (s_good hu (rebV a up (withinV (ledV a up).1 x o).1) hup.1 hup.2.1) ?_))
      rw [show appA a o = goodA (rebV a up (withinV (ledV a up).1 x o).1) from by unfold appA goodA goodV; rw [e0]]
      (repeat' (first | exact trivial | exact Or.inl rfl | exact Or.inr ⟨rfl, _, rfl⟩ | refine And.intro ?_ ?_))
    · refine And.intro (fun _ => ?_) (fun h => absurd (by simpa using h) hk2)
      refine Or.inl (Exists.intro _ (And.intro (hget o.p hop.2.1) ?_))
      refine And.intro (fun hd => ?_) (fun hd => ?_)
      · have hd : (ledV a o.p).2 ≠ 0 := by simpa using hd
        rw [if_pos ⟨hk2, hd⟩] at e0
        rw [appA_eq e0]
        (repeat' (first | exact trivial | exact Or.inl rfl | exact Or.inr ⟨rfl, _, rfl⟩ | refine And.intro ?_ ?_))
      have hd : (ledV a o.p).2 = 0 := by simpa using hd
      rw [if_neg (fun h => h.2 hd)] at e0
      have hd0 : ¬ (o.kind ≠ 2 ∧ (partV (ledV a up).1 x).2 ≠ 0) := fun h => h.2 (by rw [← hlp]; exact hd)
      refine Or.inr (Or.inl (Exists.intro [] (Exists.intro _ (Exists.intro _ (Exists.intro _ (Exists.intro _ (Exists.intro _ (Exists.intro [(1000, 100), (1001, 101)] (And.intro (s_withinL (ledV a up).1 x o hs hk23 (fun _ => by rw [← hlp]; exact hd) ho.vn hvl) ?_)))))))))
      refine (And.intro rfl (And.intro rfl (And.intro rfl (And.intro rfl ?_))))
      refine And.intro (fun hw => ?_) (fun hw => ?_)
      · have hw : (withinV (ledV a up).1 x o).2 ≠ 0 := by simpa using hw
        rw [if_pos hw] at e0
        rw [appA_eq e0]
        (repeat' (first | exact trivial | exact Or.inl rfl | exact Or.inr ⟨rfl, _, rfl⟩ | refine And.intro ?_ ?_))
      have hw : ¬ (withinV (ledV a up).1 x o).2 ≠ 0 := by simpa using hw
      rw [if_neg hw] at e0
      have hlast := upd_last h1 x up a (fine_of_fault (v := a) (by simpa using hq))
      rw [← hpx, within_last hk234, if_neg hd0] at hlast
      rw [hlast.2 hc0 (by simpa using hw)] at hup
      refine Or.inr (Or.inr (Or.inr (Exists.intro [12] (Exists.intro _ (And.intro ((s_reb (withinV (ledV a up).1 x o).1 83 (encVal (withinV (ledV a up).1 x o).1) (fun b => s_app2 b _) up a hc0 ha.vn)) ?_)))))
      refine Or.inl (Exists.intro _ (And.intro (s_good hu (rebV a up (withinV (ledV a up).1 x o).1) hup.1 hup.2.1) ?_))
      rw [show appA a o = goodA (rebV a up (withinV (ledV a up).1 x o).1) from by unfold appA goodA goodV; rw [e0]]
      (repeat' (first | exact trivial | exact Or.inl rfl | exact Or.inr ⟨rfl, _, rfl⟩ | refine And.intro ?_ ?_))
theorem s_applyS (hu : HasU8) (a : Val) (o : OpR) (ha : Mod a) (ho : Mod o.v) (hk : o.key.length ≤ 10000000) : PSpec Tryd.prog 28 [.agg (encVal a), .agg (enc .op o)] (appA a o) :=
  pspec_of_vcL (Ctx.good_kp Γ_good 26) Tryd.func28 rfl Tryd.call28 Tryd.results28 Tryd.ntmps28 (Nat.le_of_ble_eq_true rfl) (w_applyS hu a o ha ho hk)
end
end Go.Proofs.YtdcdmojbkmedpaaDoor
end
section
namespace Go.Proofs.YtdcdmojbkmedpaaDoor
set_option linter.unusedSectionVars false
set_option linter.unusedSimpArgs false
set_option linter.unusedVariables false
open Go Go.SX Go.Ck Go.Vl Go.Ut Go.Up
set_option maxRecDepth 100000
set_option maxHeartbeats 1000000
section
variable [G : Globs]
theorem w_allP (hu : HasU8) (a : Val) (l : List OpR) (ha : Mod a) (hl : ∀ o ∈ l, Mod o.v ∧ o.key.length ≤ 10000000) : vc Tryd.prog Γ 39 [1, 2, 4, 5, 6, 7, 8, 9, 10, 14, 19, 20, 21, 22, 33] (Tryd.f27.body.getD .skip) (postK Γ [.cell 4 26, .tmp 5, .tmp 6] (fun v => RL v (allA (allV a l)))) ⟨argSlots 0 [.agg (encVal a), .rd .op l], []⟩ := by
  have hC := s_Check hu a ha.vb ha.siz
  rw [chk_T] at hC
  refine Or.inl (Exists.intro _ (And.intro (hC) ?_))
  refine And.intro (fun hq => ?_) (fun hq => ?_)
  · have hq : faultV a ≠ 0 := by simpa using hq
    rw [show allV a l = (zeroV, 0, faultV a) from if_pos hq]
    (repeat' (first | exact trivial | exact Or.inl rfl | exact Or.inr ⟨rfl, _, rfl⟩ | refine And.intro ?_ ?_))
  have hq : ¬ faultV a ≠ 0 := by simpa using hq
  refine Or.inl (Exists.intro _ (And.intro (s_Own a ha.vn) ?_))
  rw [show allV a l = allF a 0 l from if_neg hq]
  generalize hR : allF a 0 l = R
  intro hml
  refine Exists.intro [] (Exists.intro [] (Exists.intro [] (Exists.intro (Nat × Val) (Exists.intro (fun q => q.1 ≤ l.length ∧ Mod q.2 ∧ R = allF q.2 q.1 (l.drop q.1)) (Exists.intro (fun ⟨i, v⟩ => ⟨[(2, .pt 2 0), (4, .pt 4 0), (5, .i .i64 0), (6, .i .i64 0), (19, .rd .op l), (20, .i .i64 l.length), (21, .i .i64 i)], [(2, encVal v), (4, [.i .i64 0, .i .i64 0, .i .u64 0, .s [], .nl, .nl])]⟩) (Exists.intro (fun q => l.length - q.1) (Exists.intro (0, a) (And.intro ⟨Nat.zero_le _, ha, hR.symm⟩ (And.intro ?_ ?_)))))))))
  · (repeat' (first | exact trivial | exact Or.inl rfl | exact Or.inr (Or.inl ⟨rfl, _, rfl⟩) | exact Or.inr (Or.inr (Or.inr ⟨_, _, _, rfl, rfl⟩)) | refine And.intro ?_ ?_))
  rintro ⟨i, v⟩ ⟨hi, hv, hI⟩
  simp only at hi hv hI
  refine And.intro (fun hz => ?_) (fun hz => ?_)
  · have hi := ltD hz
    have hg := getI (τ := .op) hi
    refine And.intro ⟨by omega, by omega⟩ ?_
    rw [hg]
    have ho := hl l[i] (List.getElem_mem hi)
    have hlen := len_le hml
    rw [List.drop_eq_getElem_cons hi, allF] at hI
    refine Or.inl (Exists.intro _ (And.intro (s_applyS hu v l[i] hv ho.1 ho.2) ?_))
    refine And.intro (fun hq => ?_) (fun hq => ?_)
    · have hq : (applyV v l[i]).2 ≠ 0 := by simpa using hq
      rw [if_pos hq] at hI
      rw [hI]
      (repeat' (first | exact trivial | exact Or.inl rfl | exact Or.inr ⟨rfl, _, rfl⟩ | refine And.intro ?_ ?_))
    · have hq : ¬ (applyV v l[i]).2 ≠ 0 := by simpa using hq
      rw [if_neg hq] at hI
      (refine And.intro (rng64 (by omega) (by omega)) ?_)
      refine Exists.intro [] (Exists.intro (i + 1, (applyV v l[i]).1) (And.intro ⟨hi, mod_app hv ho.1 ho.2 (by simpa using hq), hI⟩ (And.intro ?_ ?_)))
      · (repeat' (first | exact trivial | exact Or.inl rfl | exact Or.inr (Or.inl ⟨rfl, _, rfl⟩) | exact Or.inr (Or.inr (Or.inr ⟨_, _, _, rfl, rfl⟩)) | refine And.intro ?_ ?_))
      · (exact Nat.sub_lt_sub_left (by omega) (by omega))
  · have hi := geD hi hz
    rw [List.drop_eq_nil_of_le (by omega), allF] at hI
    rw [hI]
    (repeat' (first | exact trivial | exact Or.inl rfl | exact Or.inr ⟨rfl, _, rfl⟩ | refine And.intro ?_ ?_))
theorem s_allP (hu : HasU8) (a : Val) (l : List OpR) (ha : Mod a) (hl : ∀ o ∈ l, Mod o.v ∧ o.key.length ≤ 10000000) : PSpec Tryd.prog 27 [.agg (encVal a), .rd .op l] (allA (allV a l)) :=
  pspec_of_vcL Γ_good Tryd.func27 rfl Tryd.call27 Tryd.results27 Tryd.ntmps27 (Nat.le_of_ble_eq_true rfl) (w_allP hu a l ha hl)
theorem w_clone (l : List PStep) (h : l.length ≤ 1000000) : vc Tryd.prog Γ 8 [0, 2, 4] (Tryd.f86.body.getD .skip) (postK Γ [.tmp 2] (fun v => RL v (.rd .pstep l))) ⟨argSlots 0 [.rd .pstep l], []⟩ := by
  intro x hx
  refine And.intro (fun hq => ?_) (fun hq => ?_)
  · have hq : x = true := hq
    have he : l = [] := by
      cases l with
      | nil => rfl
      | cons y r => exact absurd (hx rfl) (by rw [hq]; decide)
    subst he
    (repeat' (first | exact trivial | exact Or.inl rfl | exact Or.inr ⟨rfl, _, rfl⟩ | refine And.intro ?_ ?_))
  · refine And.intro (show (([] : List PStep).length + l.length) * 24 ≤ 140737488355328 by simp only [List.length_nil]; omega) ?_
    (repeat' (first | exact trivial | exact Or.inl rfl | exact Or.inr ⟨rfl, _, rfl⟩ | refine And.intro ?_ ?_))
theorem s_clone (l : List PStep) (h : l.length ≤ 1000000) : PSpec Tryd.prog 86 [.rd .pstep l] (.rd .pstep l) :=
  pspec_of_vcL Γ_good Tryd.func86 rfl Tryd.call86 Tryd.results86 Tryd.ntmps86 (Nat.le_of_ble_eq_true rfl) (w_clone l h)
theorem w_cloneO (l : List PStep) (hne : l ≠ []) (h : l.length ≤ 1000000) : vc Tryd.prog Γ 8 [0, 2, 4, 1000] (Tryd.f86.body.getD .skip) (postBK Γ [.tmp 2] (.vec 1000 .pstep l) []) ⟨argSlots 0 [.rd .pstep l], []⟩ := by
  intro x hx
  refine And.intro (fun hq => ?_) (fun hq => ?_)
  · have hq : x = true := hq
    cases l with
    | nil => exact absurd rfl hne
    | cons y r => exact absurd (hx rfl) (by rw [hq]; decide)
  · refine And.intro (show (([] : List PStep).length + l.length) * 24 ≤ 140737488355328 by simp only [List.length_nil]; omega) ?_
    refine Exists.intro [(7, 1000)] (And.intro rfl (by (repeat' (first | exact trivial | exact Or.inl rfl | exact Or.inr (Or.inl ⟨rfl, _, rfl⟩) | exact Or.inr (Or.inr (Or.inr ⟨_, _, _, rfl, rfl⟩)) | refine And.intro ?_ ?_))))
theorem s_cloneO (l : List PStep) (hne : l ≠ []) (h : l.length ≤ 1000000) : CSpec Tryd.prog 86 [.rd .pstep l] [] (.vec 1000 .pstep l) [] :=
  cspec_of_vc Γ_good Tryd.func86 rfl Tryd.call86 Tryd.results86 Tryd.ntmps86 (Nat.le_of_ble_eq_true rfl) (Nat.le_of_ble_eq_true rfl) (by rfl) (w_cloneO l hne h)
def undoA (a : Val) (o : OpR) : AV := .tup [.agg (enc .op (if (applyV a o).2 ≠ 0 then ⟨0, [], zeroV, []⟩ else undoV a o)), .i .i64 (applyV a o).2]
theorem undoA_bad {a : Val} {o : OpR} (h : (applyV a o).2 ≠ 0) : undoA a o = .tup [.agg (enc .op ⟨0, [], zeroV, []⟩), .i .i64 (applyV a o).2] := by unfold undoA; rw [if_pos h]
theorem undoA_good {a : Val} {o r : OpR} (h : (applyV a o).2 = 0) (hr : undoV a o = r) : undoA a o = .tup [.agg (enc .op r), .i .i64 0] := by unfold undoA; rw [if_neg (by simp [h]), hr, h]
theorem app_kind {a : Val} {o : OpR} (h : (applyV a o).2 = 0) : opF o = 0 := by
  unfold applyV at h
  by_cases c : faultV a ≠ 0
  · rw [if_pos c] at h; exact absurd h c
  · rw [if_neg c] at h
    by_cases d : opF o ≠ 0
    · rw [if_pos d] at h; exact h
    · simpa using d
theorem last_set {l : List PStep} (hne : l ≠ []) (k : Str) : l.set (l.length - 1) ⟨k, (l.getLastD default).i⟩ = l.dropLast ++ [⟨k, (l.getLastD default).i⟩] := by
  obtain ⟨m, x, rfl⟩ : ∃ m x, l = m ++ [x] := ⟨l.dropLast, l.getLast hne, (List.dropLast_concat_getLast hne).symm⟩
  rw [List.dropLast_concat, List.length_append]
  simp
theorem last_get {l : List PStep} (hne : l ≠ []) : l.getD (Int.toNat ((l.length : Int) - 1)) (dflt .pstep) = l.getLastD default := by
  obtain ⟨m, x, rfl⟩ : ∃ m x, l = m ++ [x] := ⟨l.dropLast, l.getLast hne, (List.dropLast_concat_getLast hne).symm⟩
  rw [show Int.toNat (((m ++ [x]).length : Int) - 1) = m.length by rw [List.length_append]; simp, List.getD_eq_getElem?_getD, List.getElem?_append_right (Nat.le_refl _), Nat.sub_self]
  simp
theorem w_undo (hu : HasU8) (a : Val) (o : OpR) (ha : Mod a) (ho : Mod o.v) (hk : o.key.length ≤ 10000000) : vc Tryd.prog Γ 65 [2, 3, 4, 5, 6, 7, 8, 9, 11, 12, 20, 33, 34, 39, 43] (Tryd.f30.body.getD .skip) (postK Γ [.cell 4 57, .tmp 5] (fun v => RL v (undoA a o))) ⟨argSlots 0 [.agg (encVal a), .agg (enc .op o)], []⟩ := by
  refine Or.inl (Exists.intro _ (And.intro (s_applyS hu a o ha ho hk) ?_))
  refine And.intro (fun hq => ?_) (fun hq => ?_)
  · have hq : (applyV a o).2 ≠ 0 := by simpa using hq
    rw [undoA_bad hq]
    (repeat' (first | exact trivial | exact Or.inl rfl | exact Or.inr ⟨rfl, _, rfl⟩ | refine And.intro ?_ ?_))
  have hq : (applyV a o).2 = 0 := by simpa using hq
  have hop := opF_ok (app_kind hq)
  have hpp := pathF_ok hop.2.1
  have hpl : o.p.length ≤ 1000000 := by omega
  have hget : PSpec Tryd.prog 78 [.agg (encVal a), .rd .pstep o.p] (ledA a o.p) := by
    have := s_get hu a o.p ha.vn
    rw [show getA a o.p = ledA a o.p from by unfold getA ledA; rw [show getV a o.p = ledV a o.p from if_neg (by simp [hop.2.1])]] at this
    exact this
  by_cases h4 : o.kind = 4
  · have hne : o.p ≠ [] := hop.2.2.resolve_left (by omega)
    have hlen := List.length_pos_iff.2 hne
    refine Or.inr (Or.inl (Exists.intro [] (Exists.intro _ (Exists.intro _ (Exists.intro _ (Exists.intro _ (Exists.intro _ (Exists.intro [(1000, 8)] (And.intro (s_cloneO o.p hne hpl) ?_)))))))))
    refine (And.intro rfl (And.intro rfl (And.intro rfl (And.intro rfl ?_))))
    refine Or.inr (Or.inr (Or.inl (Exists.intro _ (And.intro (PSpec.forget hget) ?_))))
    have hg := last_get hne
    have hs : o.p.set (Int.toNat ((o.p.length : Int) - 1)) ⟨o.key, (o.p.getD (Int.toNat ((o.p.length : Int) - 1)) (dflt .pstep)).i⟩ = o.p.dropLast ++ [⟨o.key, (o.p.getLastD default).i⟩] := by
      rw [hg, ← last_set hne, show Int.toNat ((o.p.length : Int) - 1) = o.p.length - 1 by omega]
    rw [undoA_good hq (show undoV a o = ⟨4, o.p.dropLast ++ [⟨o.key, (o.p.getLastD default).i⟩], zeroV, (o.p.getLastD default).key⟩ from by unfold undoV; rw [if_neg (by omega), if_neg (by omega), if_neg (by omega)])]
    (repeat' (first | (refine And.intro (fun h => ?_) (fun h => ?_) <;> (try simp [-List.getD_eq_getElem?_getD, -Int.pred_toNat] at h) <;> (try (exfalso; first | omega | contradiction))) | (refine And.intro (rng64 (by omega) (by omega)) ?_) | (refine And.intro ⟨by omega, by omega⟩ ?_) | (refine And.intro ⟨by omega, by omega, by omega⟩ ?_) | (intro _)))
    (repeat' (first | exact trivial | exact Or.inl rfl | exact Or.inl (congrArg (AV.rd .pstep) hs) | exact Or.inl (congrArg (fun q : PStep => AV.s q.key) hg) | exact Or.inr ⟨rfl, _, rfl⟩ | refine And.intro ?_ ?_))
  · refine Or.inl (Exists.intro _ (And.intro (s_clone o.p hpl) ?_))
    refine Or.inl (Exists.intro _ (And.intro (hget) ?_))
    rcases (show o.kind = 1 ∨ o.kind = 2 ∨ o.kind = 3 by omega) with h1 | h1 | h1
    · rw [undoA_good hq (show undoV a o = ⟨1, o.p, (ledV a o.p).1, []⟩ from if_pos h1)]
      (repeat' (first | (refine And.intro (fun h => ?_) (fun h => ?_) <;> (try simp [-List.getD_eq_getElem?_getD, -Int.pred_toNat] at h) <;> (try (exfalso; first | omega | contradiction))) | (refine And.intro (rng64 (by omega) (by omega)) ?_) | (refine And.intro ⟨by omega, by omega⟩ ?_) | (refine And.intro ⟨by omega, by omega, by omega⟩ ?_) | (intro _)))
      (repeat' (first | exact trivial | exact Or.inl rfl | exact Or.inr ⟨rfl, _, rfl⟩ | refine And.intro ?_ ?_))
    · rw [undoA_good hq (show undoV a o = ⟨3, o.p, zeroV, []⟩ from by unfold undoV; rw [if_neg (by omega), if_pos h1])]
      (repeat' (first | (refine And.intro (fun h => ?_) (fun h => ?_) <;> (try simp [-List.getD_eq_getElem?_getD, -Int.pred_toNat] at h) <;> (try (exfalso; first | omega | contradiction))) | (refine And.intro (rng64 (by omega) (by omega)) ?_) | (refine And.intro ⟨by omega, by omega⟩ ?_) | (refine And.intro ⟨by omega, by omega, by omega⟩ ?_) | (intro _)))
      (repeat' (first | exact trivial | exact Or.inl rfl | exact Or.inr ⟨rfl, _, rfl⟩ | refine And.intro ?_ ?_))
    · rw [undoA_good hq (show undoV a o = ⟨2, o.p, (ledV a o.p).1, []⟩ from by unfold undoV; rw [if_neg (by omega), if_neg (by omega), if_pos h1])]
      (repeat' (first | (refine And.intro (fun h => ?_) (fun h => ?_) <;> (try simp [-List.getD_eq_getElem?_getD, -Int.pred_toNat] at h) <;> (try (exfalso; first | omega | contradiction))) | (refine And.intro (rng64 (by omega) (by omega)) ?_) | (refine And.intro ⟨by omega, by omega⟩ ?_) | (refine And.intro ⟨by omega, by omega, by omega⟩ ?_) | (intro _)))
      (repeat' (first | exact trivial | exact Or.inl rfl | exact Or.inr ⟨rfl, _, rfl⟩ | refine And.intro ?_ ?_))
theorem s_undo (hu : HasU8) (a : Val) (o : OpR) (ha : Mod a) (ho : Mod o.v) (hk : o.key.length ≤ 10000000) : PSpec Tryd.prog 30 [.agg (encVal a), .agg (enc .op o)] (undoA a o) :=
  pspec_of_vcL Γ_good Tryd.func30 rfl Tryd.call30 Tryd.results30 Tryd.ntmps30 (Nat.le_of_ble_eq_true rfl) (w_undo hu a o ha ho hk)
theorem w_undone (a : Val) (o : OpR) (hq : (applyV a o).2 = 0) : vc Tryd.prog Γ 51 [2, 3, 4, 5, 6, 18, 19, 24, 28] (Tryd.f32.body.getD .skip) (postK Γ [.cell 4 57] (fun v => RL v (.agg (enc .op (undoV a o))))) ⟨argSlots 0 [.agg (encVal a), .agg (enc .op o)], []⟩ := by
  have hop := opF_ok (app_kind hq)
  have hpp := pathF_ok hop.2.1
  have hled := s_Led o.p a (fun p hp => (hpp.2 p hp).1)
  refine And.intro (show o.p.length * 24 ≤ 140737488355328 by omega) ?_
  by_cases h4 : o.kind = 4
  · have hne : o.p ≠ [] := hop.2.2.resolve_left (by omega)
    have hlen := List.length_pos_iff.2 hne
    refine Or.inr (Or.inr (Or.inl (Exists.intro _ (And.intro (PSpec.forget hled) ?_))))
    have hg := last_get hne
    have hs : o.p.set (Int.toNat ((o.p.length : Int) - 1)) ⟨o.key, (o.p.getD (Int.toNat ((o.p.length : Int) - 1)) (dflt .pstep)).i⟩ = o.p.dropLast ++ [⟨o.key, (o.p.getLastD default).i⟩] := by
      rw [hg, ← last_set hne, show Int.toNat ((o.p.length : Int) - 1) = o.p.length - 1 by omega]
    rw [show undoV a o = ⟨4, o.p.dropLast ++ [⟨o.key, (o.p.getLastD default).i⟩], zeroV, (o.p.getLastD default).key⟩ from by unfold undoV; rw [if_neg (by omega), if_neg (by omega), if_neg (by omega)]]
    have hg2 : o.p.getD (Int.toNat (((o.p.set (Int.toNat ((o.p.length : Int) - 1)) ⟨o.key, (o.p.getD (Int.toNat ((o.p.length : Int) - 1)) (dflt .pstep)).i⟩).length : Int) - 1)) (dflt .pstep) = o.p.getLastD default := by rw [List.length_set, hg]
    (repeat' (first | (refine And.intro (fun h => ?_) (fun h => ?_) <;> (try simp [-List.getD_eq_getElem?_getD, -Int.pred_toNat] at h) <;> (try (exfalso; first | omega | contradiction))) | (refine And.intro (rng64 (by omega) (by omega)) ?_) | (refine And.intro ⟨by omega, by omega⟩ ?_) | (refine And.intro ⟨by omega, by omega, by omega⟩ ?_) | (intro _)))
    refine And.intro (rng64 (by rw [List.length_set]; omega) (by rw [List.length_set]; omega)) ?_
    refine And.intro ⟨by rw [List.length_set]; omega, by rw [List.length_set]; omega⟩ ?_
    (repeat' (first | exact trivial | exact Or.inl rfl | exact Or.inl (congrArg (AV.rd .pstep) hs) | exact Or.inl (congrArg (fun q : PStep => AV.s q.key) hg2) | exact Or.inr ⟨rfl, _, rfl⟩ | refine And.intro ?_ ?_))
  · refine Or.inl (Exists.intro _ (And.intro (hled) ?_))
    rcases (show o.kind = 1 ∨ o.kind = 2 ∨ o.kind = 3 by omega) with h1 | h1 | h1
    · rw [show undoV a o = ⟨1, o.p, (ledV a o.p).1, []⟩ from if_pos h1]
      (repeat' (first | (refine And.intro (fun h => ?_) (fun h => ?_) <;> (try simp [-List.getD_eq_getElem?_getD, -Int.pred_toNat] at h) <;> (try (exfalso; first | omega | contradiction))) | (refine And.intro (rng64 (by omega) (by omega)) ?_) | (refine And.intro ⟨by omega, by omega⟩ ?_) | (refine And.intro ⟨by omega, by omega, by omega⟩ ?_) | (intro _)))
      (repeat' (first | exact trivial | exact Or.inl rfl | exact Or.inr ⟨rfl, _, rfl⟩ | refine And.intro ?_ ?_))
    · rw [show undoV a o = ⟨3, o.p, zeroV, []⟩ from by unfold undoV; rw [if_neg (by omega), if_pos h1]]
      (repeat' (first | (refine And.intro (fun h => ?_) (fun h => ?_) <;> (try simp [-List.getD_eq_getElem?_getD, -Int.pred_toNat] at h) <;> (try (exfalso; first | omega | contradiction))) | (refine And.intro (rng64 (by omega) (by omega)) ?_) | (refine And.intro ⟨by omega, by omega⟩ ?_) | (refine And.intro ⟨by omega, by omega, by omega⟩ ?_) | (intro _)))
      (repeat' (first | exact trivial | exact Or.inl rfl | exact Or.inr ⟨rfl, _, rfl⟩ | refine And.intro ?_ ?_))
    · rw [show undoV a o = ⟨2, o.p, (ledV a o.p).1, []⟩ from by unfold undoV; rw [if_neg (by omega), if_neg (by omega), if_pos h1]]
      (repeat' (first | (refine And.intro (fun h => ?_) (fun h => ?_) <;> (try simp [-List.getD_eq_getElem?_getD, -Int.pred_toNat] at h) <;> (try (exfalso; first | omega | contradiction))) | (refine And.intro (rng64 (by omega) (by omega)) ?_) | (refine And.intro ⟨by omega, by omega⟩ ?_) | (refine And.intro ⟨by omega, by omega, by omega⟩ ?_) | (intro _)))
      (repeat' (first | exact trivial | exact Or.inl rfl | exact Or.inr ⟨rfl, _, rfl⟩ | refine And.intro ?_ ?_))
theorem s_undone (a : Val) (o : OpR) (hq : (applyV a o).2 = 0) : PSpec Tryd.prog 32 [.agg (encVal a), .agg (enc .op o)] (.agg (enc .op (undoV a o))) :=
  pspec_of_vcL Γ_good Tryd.func32 rfl Tryd.call32 Tryd.results32 Tryd.ntmps32 (Nat.le_of_ble_eq_true rfl) (w_undone a o hq)
end
end Go.Proofs.YtdcdmojbkmedpaaDoor
end
section
namespace Go.Proofs.YtdcdmojbkmedpaaDoor
set_option linter.unusedSectionVars false
set_option linter.unusedSimpArgs false
set_option linter.unusedVariables false
open Go Go.SX Go.Ck Go.Vl Go.Ut Go.Up
set_option maxRecDepth 100000
set_option maxHeartbeats 1000000
section
variable [G : Globs]
theorem mod_zero : Mod zeroV := ⟨vb_zero, by decide⟩
theorem mod_appV {a : Val} {o : OpR} (ha : Mod a) (ho : Mod o.v) (hk : o.key.length ≤ 10000000) : Mod (applyV a o).1 := by
  by_cases h : (applyV a o).2 = 0
  · exact mod_app ha ho hk h
  · have e : (applyV a o).1 = zeroV := by
      unfold applyV at h ⊢
      by_cases c : faultV a ≠ 0
      · rw [if_pos c]
      · rw [if_neg c] at h ⊢
        by_cases d : opF o ≠ 0
        · rw [if_pos d]
        · rw [if_neg d] at h ⊢
          by_cases e : (upV a o.p o).2 ≠ 0
          · rw [if_pos e]
          · rw [if_neg e] at h ⊢
            by_cases f : faultV (upV a o.p o).1 ≠ 0
            · rw [if_pos f]
            · rw [if_neg f] at h; exact absurd rfl h
    rw [e]; exact mod_zero
theorem vb_undo {a : Val} {o : OpR} (ha : VB a) : VB (undoV a o).v := by
  have hl : VB (ledV a o.p).1 := ledV_keep (R := VB) vb_zero (fun v h x hx => vb_part h hx) o.p a ha
  unfold undoV
  split
  · exact hl
  · split
    · exact vb_zero
    · split
      · exact hl
      · exact vb_zero
theorem mod_allF : ∀ (l : List OpR) (a : Val) (i : Nat), Mod a → (∀ o ∈ l, Mod o.v ∧ o.key.length ≤ 10000000) → Mod (allF a i l).1
  | [], a, i, ha, _ => by rw [allF]; exact ha
  | o :: r, a, i, ha, hl => by
    rw [allF]
    have ho := hl o (List.mem_cons_self ..)
    split
    · exact mod_zero
    · rename_i h
      exact mod_allF r _ _ (mod_app ha ho.1 ho.2 (by simpa using h)) fun o ho => hl o (List.mem_cons_of_mem _ ho)
theorem mod_allV {a : Val} {l : List OpR} (ha : Mod a) (hl : ∀ o ∈ l, Mod o.v ∧ o.key.length ≤ 10000000) : Mod (allV a l).1 := by
  unfold allV
  split
  · exact mod_zero
  · exact mod_allF l a 0 ha hl
theorem s_sameV (v : Val) (h : VB v) : PSpec Tryd.prog 14 [.agg (encVal v), .agg (encVal v)] (.b true) := by
  have := s_same v v h h
  rw [cmpV_self] at this
  exact this
theorem w_tells (hu : HasU8) (a : Val) (o : OpR) (ha : Mod a) (ho : Mod o.v) (hk : o.key.length ≤ 10000000) : vc Tryd.prog Γ 53 [2, 3, 4, 5, 6, 7, 8, 9, 10, 42, 44] (Tryd.f7.body.getD .skip) (postK Γ [.tmp 4] (fun v => v = .b true)) ⟨argSlots 0 [.agg (encVal a), .agg (enc .op o)], []⟩ := by
  refine Or.inl (Exists.intro _ (And.intro (s_applyS hu a o ha ho hk) ?_))
  refine Or.inl (Exists.intro _ (And.intro (s_updd a o ha ho hk) ?_))
  refine Or.inl (Exists.intro _ (And.intro (s_undo hu a o ha ho hk) ?_))
  refine Or.inl (Exists.intro _ (And.intro (s_sameV (applyV a o).1 (mod_appV ha ho hk).vb) ?_))
  have hne : ((applyV a o).2 != (applyV a o).2) = false := by simp
  have hbad : ∀ {p : Bool}, p = true → p = ((applyV a o).2 != (applyV a o).2) → False := fun h1 h2 => by rw [h2, hne] at h1; cases h1
  refine And.intro (fun _ => ?_) (fun h => by cases h)
  refine And.intro (fun _ => ?_) (fun h => (hbad h rfl).elim)
  refine And.intro (fun h => (hbad h rfl).elim) (fun _ => ?_)
  by_cases hq : (applyV a o).2 = 0
  · refine And.intro (fun h => absurd hq (by simpa using h)) (fun _ => ?_)
    rw [if_neg (by simp [hq])]
    refine Exists.intro [.blk [0, 1, 2, 3, 4, 5]] (And.intro (by kernel_rfl) ?_)
    refine Exists.intro _ (And.intro (s_undone a o hq) ?_)
    refine Exists.intro _ (And.intro (s_sameOp (undoV a o) (vb_undo ha.vb)) ?_)
    rfl
  · refine And.intro (fun _ => ?_) (fun h => absurd (by simpa using h) hq)
    rw [if_pos hq]
    refine Or.inl (Exists.intro _ (And.intro (PSpec.arg (s_sameOp ⟨0, [], zeroV, []⟩ vb_zero) (by (repeat' (first | exact trivial | exact Or.inl rfl | exact Or.inr ⟨rfl, _, rfl⟩ | refine And.intro ?_ ?_)))) ?_))
    rfl
theorem s_tells (hu : HasU8) (a : Val) (o : OpR) (ha : Mod a) (ho : Mod o.v) (hk : o.key.length ≤ 10000000) : PSpec Tryd.prog 7 [.agg (encVal a), .agg (enc .op o)] (.b true) :=
  pspec_of_vc Γ_good Tryd.func7 rfl Tryd.call7 Tryd.results7 Tryd.ntmps7 (Nat.le_of_ble_eq_true rfl) (w_tells hu a o ha ho hk)
theorem w_law (hu : HasU8) (a : Val) (l : List OpR) (ha : Mod a) (hl : ∀ o ∈ l, Mod o.v ∧ o.key.length ≤ 10000000) : vc Tryd.prog Γ 41 [1, 2, 4, 5, 6, 7, 8, 9, 10, 13] (Tryd.f6.body.getD .skip) (postK Γ [.tmp 4] (fun v => v = .b true)) ⟨argSlots 0 [.agg (encVal a), .rd .op l], []⟩ := by
  intro _
  refine And.intro (fun _ => rfl) (fun _ => ?_)
  refine Or.inl (Exists.intro _ (And.intro (s_allP hu a l ha hl) ?_))
  refine Or.inl (Exists.intro _ (And.intro (s_updAll a l ha hl) ?_))
  refine Or.inl (Exists.intro _ (And.intro (s_sameV (allV a l).1 (mod_allV ha hl).vb) ?_))
  refine And.intro (fun _ => ?_) (fun h => by cases h)
  refine And.intro (fun _ => ?_) (fun h => absurd ((beq_self_eq_true (allV a l).2.1).symm.trans h) (by decide))
  exact congrArg AV.b (beq_self_eq_true (allV a l).2.2)
theorem s_law (hu : HasU8) (a : Val) (l : List OpR) (ha : Mod a) (hl : ∀ o ∈ l, Mod o.v ∧ o.key.length ≤ 10000000) : PSpec Tryd.prog 6 [.agg (encVal a), .rd .op l] (.b true) :=
  pspec_of_vc Γ_good Tryd.func6 rfl Tryd.call6 Tryd.results6 Tryd.ntmps6 (Nat.le_of_ble_eq_true rfl) (w_law hu a l ha hl)
end
end Go.Proofs.YtdcdmojbkmedpaaDoor
end
section
namespace Go.SX
set_option linter.unusedSectionVars false
set_option linter.unusedVariables false
set_option linter.unusedSimpArgs false
open Go.RowKit Go.WideShapes Go.ChangeShapes Go.Deep
def bkS (p : PStep) : Nat := p.key.length + 2
def bkO (o : OpR) : Nat := bkV o.v + o.key.length + (o.p.map bkS).sum + 1
/-- a number of 64 bits -/
def I64 (n : Int) : Prop := -9223372036854775808 ≤ n ∧ n ≤ 9223372036854775807
/-- what an update bears -/
def OB (o : OpR) : Prop := I64 o.kind ∧ VB o.v ∧ ∀ p ∈ o.p, I64 p.i
/-- the types that a step, an update are made of -/
structure STy (P : Program) (T : TypeId) where
  (fs : Array Field) (K S : TypeId)
  hT : P.underlying T = some (.struct fs)
  sz : fs.size = 2
  cT : P.cellsOf T = 2
  h0 : HasF fs 0 0 S
  h1 : HasF fs 1 1 K
  uK : P.underlying K = some (.int .i64)
  uS : P.underlying S = some .string
  c : P.cellsOf K = 1 ∧ P.cellsOf S = 1
structure OTy (P : Program) (T : TypeId) where
  (fs : Array Field) (K S Q V St : TypeId) (Tv : VTy P V) (S' : STy P St)
  hT : P.underlying T = some (.struct fs)
  sz : fs.size = 4
  cT : P.cellsOf T = 9
  h0 : HasF fs 0 0 K
  h1 : HasF fs 1 1 Q
  h2 : HasF fs 2 2 V
  h3 : HasF fs 3 8 S
  uK : P.underlying K = some (.int .i64)
  uS : P.underlying S = some .string
  uQ : P.underlying Q = some (.slice St)
  c : P.cellsOf K = 1 ∧ P.cellsOf S = 1 ∧ P.cellsOf Q = 1
section
variable [Globs]
variable {H : Type} {encH : TypeId × Value → H} {P : Program} {W : World} {sp : Nat → Bool} {hd : Bool} {O : Nat → Prop} {bk : DataW H → Nat}
theorem arg_stepS {T : TypeId} (hbk : BulkS bk) (S : STy P T) {fuel : Nat} {cs : List Value} {x : DataW H × List MemPlace} (h : DataW.trod encH P W 0 sp hd fuel T cs = some x) :
    ∃ y : PStep, All2 (Im O W) (enc .pstep y) cs ∧ bkS y ≤ bk x.1 ∧ I64 y.i := by
  obtain ⟨n, ds, rfl, hl, hag, hds, hf⟩ := one_fieldS S.hT h
  rw [S.cT] at hl
  rw [S.sz] at hds
  obtain ⟨c0, c1⟩ := S.c
  match cs, hl, ds, hds with
  | [u0, u1], _, [d0, d1], _ =>
    obtain ⟨y0, q0, k0⟩ := hf 0 0 _ S.h0
    obtain ⟨y1, q1, k1⟩ := hf 1 1 _ S.h1
    simp only [List.getElem?_cons_zero, List.getElem?_cons_succ, Option.some.injEq] at k0 k1
    subst k0 k1
    rw [c1] at q0
    rw [c0] at q1
    obtain ⟨s, vs, e0, i0, z0⟩ := arg_strS (O := O) hbk S.uS q0
    obtain ⟨k, e1, i1, w1⟩ := arg_int (O := O) S.uK q1
    simp at e0 e1
    subst e0 e1
    refine ⟨⟨s, k⟩, All2.cons i0 (All2.cons i1 (All2.nil _)), ?_, wf_i64 w1⟩
    have h9 := hbk.ag [y0.1, y1.1]
    have p1 := hbk.pos y1.1
    rw [hag]
    refine Nat.le_trans ?_ h9
    simp only [bkS, List.map_cons, List.map_nil, List.sum_cons, List.sum_nil]
    omega
theorem arg_opS {T : TypeId} (hbk : BulkS bk) (S : OTy P T) (hs : S.Tv.fs.size = 6) (hs2 : S.Tv.gs.size = 2) (hO : ∀ k, ¬ O k) {fuel : Nat} {cs : List Value} {x : DataW H × List MemPlace} (h : DataW.trod encH P W 0 sp hd fuel T cs = some x) :
    ∃ y : OpR, All2 (Im O W) (enc .op y) cs ∧ bkO y ≤ bk x.1 ∧ OB y := by
  obtain ⟨n, ds, rfl, hl, hag, hds, hf⟩ := one_fieldS S.hT h
  rw [S.cT] at hl
  rw [S.sz] at hds
  obtain ⟨c0, c1, c2⟩ := S.c
  match cs, hl, ds, hds with
  | [u0, u1, u2, u3, u4, u5, u6, u7, u8], _, [d0, d1, d2, d3], _ =>
    obtain ⟨y0, q0, k0⟩ := hf 0 0 _ S.h0
    obtain ⟨y1, q1, k1⟩ := hf 1 1 _ S.h1
    obtain ⟨y2, q2, k2⟩ := hf 2 2 _ S.h2
    obtain ⟨y3, q3, k3⟩ := hf 3 8 _ S.h3
    simp only [List.getElem?_cons_zero, List.getElem?_cons_succ, Option.some.injEq] at k0 k1 k2 k3
    subst k0 k1 k2 k3
    rw [c0] at q0
    rw [c2] at q1
    rw [S.Tv.cV] at q2
    rw [c1] at q3
    obtain ⟨k, e0, i0, w0⟩ := arg_int (O := O) S.uK q0
    obtain ⟨l, vl, e1, i1, z1, r1⟩ := arg_sliceS (O := O) (τ := .pstep) (m := bkS) (R := fun p => I64 p.i) hbk hO S.uQ S.S'.cT (fun n' hn cs' x' hx => arg_stepS hbk S.S' hx) q1
    obtain ⟨y, j1, hyb, hy⟩ := arg_valS (O := O) hbk S.Tv hs hs2 hO _ _ _ q2
    obtain ⟨s, vs, e3, i3, z3⟩ := arg_strS (O := O) hbk S.uS q3
    have e2 : ∃ v0 v1 v2 v3 v4 v5, [u2, u3, u4, u5, u6, u7] = [v0, v1, v2, v3, v4, v5] := ⟨_, _, _, _, _, _, rfl⟩
    simp at e0 e1 e3
    subst e0 e1 e3
    have j1 : All2 (Im O W) (encVal y) [u2, u3, u4, u5, u6, u7] := by simpa using j1
    refine ⟨⟨k, l, y, s⟩, All2.cons i0 (All2.cons i1 (j1.append (All2.cons i3 (All2.nil _)))), ?_, wf_i64 w0, hy, r1⟩
    have h9 := hbk.ag [y0.1, y1.1, y2.1, y3.1]
    have p0 := hbk.pos y0.1
    rw [hag]
    refine Nat.le_trans ?_ h9
    simp only [bkO, List.map_cons, List.map_nil, List.sum_cons, List.sum_nil]
    omega
end
end Go.SX
end
section
namespace Go.Proofs.YtdcdmojbkmedpaaDoor.updAll
set_option linter.unusedSectionVars false
set_option linter.unusedSimpArgs false
set_option linter.unusedVariables false
open Go Go.SX Go.Ck Go.Ut Go.Up
open Go.ChangeShapes Go.WideShapes Go.ChangeAt Go.RowKit
set_option maxRecDepth 100000
theorem own : ownKnob Tryd.prog.godebug = none := by kernel_rfl
theorem laidOut : laidOutB Tryd.prog = true := by kernel_rfl
theorem cell_block {w : World} {g o : Nat} {k : IntKind} {n : Int} (h : w.cell? ⟨g, o, none⟩ = some (.int k n)) : ∃ cur e fz, w.heap[g]? = some (.cells cur e fz) ∧ cur[o]? = some (.int k n) := by
  unfold World.cell? at h
  split at h
  · rename_i cur e fz hh
    exact ⟨_, _, _, hh, by simpa using h⟩
  · cases h
noncomputable def vty [G : Globs] : VTy Tryd.prog 26 where
  fs := _
  gs := _
  K := 3
  N := 2
  U := 22
  S := 9
  L := 23
  E := 24
  En := 109
  hV := Tryd.underlying26
  cV := by kernel_rfl
  h0 := ⟨_, rfl, rfl, rfl⟩
  h1 := ⟨_, rfl, rfl, rfl⟩
  h2 := ⟨_, rfl, rfl, rfl⟩
  h3 := ⟨_, rfl, rfl, rfl⟩
  h4 := ⟨_, rfl, rfl, rfl⟩
  h5 := ⟨_, rfl, rfl, rfl⟩
  uK := Tryd.underlying3
  uN := Tryd.underlying2
  uU := Tryd.underlying22
  uS := Tryd.underlying9
  uL := Tryd.underlying23
  uE := Tryd.underlying24
  c := ⟨by kernel_rfl, by kernel_rfl, by kernel_rfl, by kernel_rfl, by kernel_rfl, by kernel_rfl⟩
  hE := Tryd.underlying109
  cE := by kernel_rfl
  g0 := ⟨_, rfl, rfl, rfl⟩
  g1 := ⟨_, rfl, rfl, rfl⟩
noncomputable def sty [G : Globs] : STy Tryd.prog 137 where
  fs := _
  K := 3
  S := 9
  hT := Tryd.underlying137
  sz := rfl
  cT := by kernel_rfl
  h0 := ⟨_, rfl, rfl, rfl⟩
  h1 := ⟨_, rfl, rfl, rfl⟩
  uK := Tryd.underlying3
  uS := Tryd.underlying9
  c := ⟨by kernel_rfl, by kernel_rfl⟩
noncomputable def oty [G : Globs] : OTy Tryd.prog 57 where
  fs := _
  K := 3
  S := 9
  Q := 55
  V := 26
  St := 137
  Tv := vty
  S' := sty
  hT := Tryd.underlying57
  sz := rfl
  cT := by kernel_rfl
  h0 := ⟨_, rfl, rfl, rfl⟩
  h1 := ⟨_, rfl, rfl, rfl⟩
  h2 := ⟨_, rfl, rfl, rfl⟩
  h3 := ⟨_, rfl, rfl, rfl⟩
  uK := Tryd.underlying3
  uS := Tryd.underlying9
  uQ := Tryd.underlying55
  c := ⟨by kernel_rfl, by kernel_rfl, by kernel_rfl⟩
theorem bulk_pos {H : Type} (d : DataW H) : 1 ≤ Rows.uptoBulk d := by
  cases d with
  | lit l => cases l <;> simp [Rows.uptoBulk]
  | _ => simp [Rows.uptoBulk]
theorem bulk_sum {H : Type} : ∀ ds : List (DataW H), Rows.uptoBulkAll ds = (ds.map Rows.uptoBulk).sum
  | [] => by simp [Rows.uptoBulkAll]
  | d :: ds => by simp [Rows.uptoBulkAll, bulk_sum ds]
theorem bulk_law {H : Type} : BulkS (H := H) Rows.uptoBulk where
  sl := fun els rest => by
    have := bulk_sum els
    simp only [Rows.uptoBulk]
    omega
  ag := fun ds => by
    have := bulk_sum ds
    simp only [Rows.uptoBulk]
    omega
  st := fun b => by simp [Rows.uptoBulk]
  pos := bulk_pos
/-- an argument that is a value -/
theorem arg_vl {H : Type} {enc : TypeId × Value → H} {W : World} {v : Value} {d : DataW H} {ps : List MemPlace} {r : Reach} {b : Nat} (hval : Value.okWide Tryd.prog W r b 26 v)
    (h : DataW.Trod enc Tryd.prog W 0 (fun _ => true) true 26 v d ps) : ∃ y : Val, Im (fun _ => False) W (.agg (encVal y)) v ∧ VB y ∧ bkV y ≤ Rows.uptoBulk d := by
  obtain ⟨cs, rfl, _⟩ := okWide_struct Tryd.underlying26 hval
  obtain ⟨fuel, hf⟩ := h
  letI : Globs := ⟨[]⟩
  obtain ⟨y, h1, h3, h2⟩ := arg_valS (O := fun _ => False) bulk_law vty rfl rfl (fun _ h => h) fuel _ _ hf
  have h1 : All2 (Im (fun _ => False) W) (encVal y) cs.toList := h1
  obtain ⟨l⟩ := cs
  refine ⟨y, .agg _ l h1.1 (fun v hv => ?_) h1.2, h2, h3⟩
  obtain ⟨j, hj, rfl⟩ := List.getElem_of_mem hv
  have hj' : j < (encVal y).length := by rw [h1.1]; exact hj
  exact plain_one (h1.2 j _ _ (List.getElem?_eq_getElem hj') (List.getElem?_eq_getElem hj)) (enc_plain .val y _ (List.getElem_mem hj'))
/-- an argument that is a list -/
theorem arg_ops {H : Type} {enc : TypeId × Value → H} {W : World} {v : Value} {d : DataW H} {ps : List MemPlace} {r : Reach} {b : Nat} (hval : Value.okWide Tryd.prog W r b 45 v)
    (h : DataW.Trod enc Tryd.prog W 0 (fun _ => true) true 45 v d ps) : ∃ l : List (den .op), Im (fun _ => False) W (.rd .op l) v ∧ (l.map bkO).sum + 1 ≤ Rows.uptoBulk d ∧ ∀ x ∈ l, (OB) x := by
  obtain ⟨a, n, c, rfl⟩ := okWide_slice Tryd.underlying45 hval
  obtain ⟨fuel, hf⟩ := h
  letI : Globs := ⟨[]⟩
  obtain ⟨l, v', h1, h2, h3, h4⟩ := arg_sliceS (O := fun _ => False) (τ := .op) (m := bkO) (R := OB) bulk_law (fun _ h => h) Tryd.underlying45 (by kernel_rfl) (fun n' hn cs' x' hx => arg_opS bulk_law oty rfl rfl (fun _ h => h) hx) hf
  have : [Value.slice a n c] = [v'] := by simpa [Value.cells] using h1
  injection this with h5
  subst h5
  exact ⟨l, h2, h3, h4⟩
theorem contract (H : Type) (enc : TypeId × Value → H) (W : World) (base : Nat) (args : Array Value) (ds gs : List (DataW H)) (before : List MemPlace)
    (hval : ∀ (j : Nat) t v, Tryd.f6.params[j]? = some t → args[j]? = some v → Value.okWide Tryd.prog W .any base t v)
    (hW : DataW.Whole enc Tryd.prog Tryd.f6.params.toList Rows.updAllSpec.vars false W args.toList ds gs before) (hk : Rows.uptoSmall H (ds ++ gs) = true) (hL : laidMetH Tryd.prog Rows.updAllUptoRow.laid W) :
    Calls Tryd.prog 6 args W fun e W' => ∃ v, e = .returned v ∧ Rows.updAllSpec.post enc Tryd.prog Tryd.f6 false true false false W args v W' := by
  have hW' := hW
  obtain ⟨p, q, hA0, hV, rfl, hfz, hnd⟩ := hW
  have hA : DataW.TrodAll enc Tryd.prog W 0 (fun _ => true) true Tryd.f6.params.toList args.toList ds p := hA0
  rw [Tryd.params6] at hA hval
  obtain ⟨v0, vs0, d0, ds0, p0, q0, hargs0, rfl, rfl, h0, r0⟩ := trodAll_cons hA
  obtain ⟨v1, vs1, d1, ds1, p1, q1, hargs1, rfl, rfl, h1, r1⟩ := trodAll_cons r0
  obtain ⟨rfl, rfl, rfl⟩ := trodAll_nil r1
  obtain rfl : args = #[v0, v1] := by cases args; simp_all
  obtain ⟨rfl, rfl⟩ := trodVars_none hV
  obtain ⟨a0, i0, b0, bn0⟩ := arg_vl (hval 0 26 v0 rfl rfl) h0
  obtain ⟨l1, i1, bl1, b1⟩ := arg_ops (hval 1 45 v1 rfl rfl) h1
  have hW'' := hW'
  have bk : Rows.uptoBulkAll _ ≤ 1048576 := of_decide_eq_true hk
  simp only [List.append_nil, List.cons_append, List.nil_append, Rows.uptoBulkAll, Rows.uptoBulk, Array.length_toList] at bk
  have hL' : laidMet Tryd.prog Rows.updAllUptoRow.laid W := hL
  have hU : Lib.Utf8Tabs 1 2 W := utf8Tabs_of_reads (ρ := Tryd.lays260_ren) Tryd.lays260 ⟨by kernel_rfl, by kernel_rfl, by kernel_rfl, by kernel_rfl, by kernel_rfl, by kernel_rfl, by kernel_rfl⟩ (by have := Lib.laidMet.reads hL' (.tail _ (.head _)); rw [show Rows.laid_unicode_utf8_first = Lib.firstData from Pinned.utf8First_eq] at this; exact this) (by have := Lib.laidMet.reads hL' (.head _); rw [show Rows.laid_unicode_utf8_acceptRanges = Lib.acceptData by kernel_rfl] at this; exact this)
  obtain ⟨cur0, e0, fz0, hh0, _⟩ := cell_block (hU.1 0 (by decide))
  obtain ⟨cur1, e1, fz1, hh1, _⟩ := cell_block (hU.2 0 (by decide)).1
  let G : Globs := ⟨[(1, .cells cur0 e0 fz0), (2, .cells cur1 e1 fz1)]⟩
  have hu : @HasU8 G := ⟨_, _, .head _, .tail _ (.head _), fun w k0 k1 => by
    have c0 : ∀ o, w.cell? ⟨1, o, none⟩ = W.cell? ⟨1, o, none⟩ := fun o => World.cell?_of_block (k0.trans hh0.symm)
    have c1 : ∀ o, w.cell? ⟨2, o, none⟩ = W.cell? ⟨2, o, none⟩ := fun o => World.cell?_of_block (k1.trans hh1.symm)
    exact ⟨fun c hc => (c0 c).trans (hU.1 c hc), fun i hi => ⟨(c1 _).trans (hU.2 i hi).1, (c1 _).trans (hU.2 i hi).2⟩⟩⟩
  have hG : @GlobOK G (fun _ => False) W := fun p hp => by
    rcases List.mem_cons.1 hp with rfl | hp
    · exact ⟨fun h => h, hh0⟩
    · cases List.mem_singleton.1 hp
      exact ⟨fun h => h, hh1⟩
  refine ((s_law (G := G) hu a0 l1 ⟨b0, by omega⟩ (fun o ho => ⟨⟨(b1 o ho).2.1, by have := sum_mem (m := bkO) ho; unfold bkO at this bl1; omega⟩, by have := sum_mem (m := bkO) ho; unfold bkO at this bl1; omega⟩)).2 (fun _ => False) W [v0, v1] (fun _ h => h.elim) hG (All2.cons i0 (All2.cons i1 (All2.nil _)))).mono fun e W' ⟨v, he, hst, hv⟩ => ?_
  subst he
  cases hv
  have hb := hst.below
  have hlt : ∀ x : MemPlace, x ∈ (p0 ++ (p1 ++ [])) ++ [] → x.block < W.heap.size := fun x hx => hW''.lt x hx
  have hargs' : ∀ sp : Nat → Bool, (∀ x : MemPlace, x ∈ (p0 ++ (p1 ++ [])) ++ [] → sp x.block = true) → DataW.TrodAll enc Tryd.prog W' 0 sp true [26, 45] [v0, v1] [d0, d1] (p0 ++ (p1 ++ [])) := fun sp hsp =>
    trodAll_cons_mk (WideElems.Trod_stays laidOut (by kernel_rfl) (of_decide_eq_true (by kernel_rfl)) h0 (fun x hx => hb.same (hlt x (by simp [hx]))) (fun x hx => hsp x (by simp [hx]))) (trodAll_cons_mk (WideElems.Trod_stays laidOut (by kernel_rfl) (of_decide_eq_true (by kernel_rfl)) h1 (fun x hx => hb.same (hlt x (by simp [hx]))) (fun x hx => hsp x (by simp [hx]))) (trodAll_mk0))
  exact ⟨_, rfl, post_of_below (pa := p0 ++ (p1 ++ [])) (pv := []) hW'' (fun _ _ _ => (trodAll_cons_mk (shut_bool Tryd.underlying4 _) trodAll_mk0)) (fun sp hsp => hargs' sp hsp) (fun _ _ => rfl) rfl
    hb (ok_one (by kernel_rfl) rfl (okWide_bool_mk Tryd.underlying4 _))⟩
/-- a world for the witness: the tables as their initialisers lay them -/
def layB (cs : List Value) : Obj → Obj
  | .cells _ t frozen => .cells cs.toArray t frozen
  | o => o
noncomputable def laidWorld (os : Os) : World :=
  { World.holding Tryd.prog os ⟨#[], #[], []⟩ with
    heap := ((World.holding Tryd.prog os ⟨#[], #[], []⟩).heap.modify 1 (layB (Pinned.utf8FirstZ.map fun (n : Nat) => Value.int .u8 (n : Int)))).modify 2
      (layB ([128, 191, 160, 191, 128, 159, 144, 191, 128, 143, 0, 0, 0, 0, 0, 0, 0, 0, 0, 0, 0, 0, 0, 0, 0, 0, 0, 0, 0, 0, 0, 0].map fun n => Value.int .u8 n)) }
theorem laid_met (os : Os) : laidMet Tryd.prog Rows.updAllUptoRow.laid ((laidWorld os).forCall (fun _ _ => 0) ⟨#[], #[.agg #[.int .i64 0, .int .i64 0, .int .u64 0, .string .empty, .slice none 0 0, .slice none 0 0], .slice none 0 0], []⟩).memory :=
  laidMet_of_run' 8 (by kernel_rfl) (by kernel_rfl)
theorem reads (os : Os) {H : Type} (enc : TypeId × Value → H) : ∃ places, DataW.whole enc Tryd.prog ((laidWorld os).forCall (fun _ _ => 0) ⟨#[], #[.agg #[.int .i64 0, .int .i64 0, .int .u64 0, .string .empty, .slice none 0 0, .slice none 0 0], .slice none 0 0], []⟩).memory Tryd.f6.params.toList Rows.updAllSpec.vars false #[.agg #[.int .i64 0, .int .i64 0, .int .u64 0, .string .empty, .slice none 0 0, .slice none 0 0], .slice none 0 0].toList 8 = some ([.agg [.lit (.int .i64 0), .lit (.int .i64 0), .lit (.int .u64 0), .lit (.string []), .nil, .nil], .nil], [], places) :=
  ⟨[], by kernel_rfl⟩
set_option maxRecDepth 100000 in
theorem lifted (os : Os) (started : os.Started) (H : Type) (enc : TypeId × Value → H) (F : Stop.Interp) :
    ReturnsInHanded {} Tryd.checked os 6 .any ((Rows.OpenSpec.upto Rows.updAllSpec).preRow enc Tryd.prog Tryd.f6 Rows.updAllUptoRow.domain false Rows.updAllUptoRow.laid) (((Rows.OpenSpec.upto Rows.updAllSpec).at F).post enc Tryd.prog Tryd.f6 false true false false) := by
  obtain ⟨places, hx⟩ := reads os enc
  refine returnsInHanded_of_row (C := Tryd.checked) (s := Rows.OpenSpec.upto Rows.updAllSpec) own started (by kernel_rfl) Tryd.func6
    (witness_row_at (enc := enc) (C := Tryd.checked) false (laidWorld os) #[.agg #[.int .i64 0, .int .i64 0, .int .u64 0, .string .empty, .slice none 0 0, .slice none 0 0], .slice none 0 0] rfl (by kernel_rfl) (by kernel_rfl) (by kernel_rfl)
      (OpenSpec.preRow_of_cond 8 hx (by kernel_rfl) (fun k hk => by cases hk; kernel_rfl) (by kernel_rfl) (laid_met os))) ?_
  intro W base args ds gs before hval hW _ hcond _ hL _ _
  exact contract H enc W base args ds gs before hval hW (hcond _ rfl) hL
theorem said : Rows.UpdAllUptoSaid :=
  OpenClaim.holds_of_cond 6 Tryd.f6 rfl rfl rfl rfl rfl rfl rfl ⟨rfl, rfl, rfl, rfl, rfl⟩ rfl rfl rfl rfl rfl (by kernel_rfl) Tryd.func6 (by kernel_rfl)
    (of_decide_eq_true (by kernel_rfl)) (by unfold Func.isWrapper; first | (rw [if_pos (by decide +kernel)]; kernel_rfl) | (rw [if_neg (by decide +kernel)]; exact ⟨rfl, rfl⟩))
    (fun os started H enc _ F => by rw [OpenClaim.pre_eq_preRow]; exact lifted os started H enc F)
theorem plain (f : FuncId) (fn : Func) (hf : Tryd.pinned.checked.prog.funcNamed "typecase/typecaselaw.UpdAll" = some f) (hfn : Tryd.pinned.checked.prog.funcs[f]? = some fn) :
    false = Tryd.pinned.checked.prog.looks [] ∧ ∀ (j : Nat) t, fn.params[j]? = some t → Tryd.pinned.checked.prog.wantsStandIn t = false := by
  obtain rfl : f = 6 := Option.some.inj ((show Tryd.prog.funcNamed "typecase/typecaselaw.UpdAll" = some 6 by kernel_rfl).symm.trans hf) |>.symm
  obtain rfl : fn = Tryd.f6 := (Option.some.inj (Tryd.func6.symm.trans hfn)).symm
  refine ⟨by kernel_rfl, fun j t ht => ?_⟩
  rw [Tryd.params6] at ht
  have hm := Array.mem_of_getElem? ht
  simp only [List.mem_toArray, List.mem_cons, List.not_mem_nil, or_false] at hm
  rcases hm with rfl | rfl
  · exact (show Tryd.prog.wantsStandIn 26 = false by kernel_rfl)
  · exact (show Tryd.prog.wantsStandIn 45 = false by kernel_rfl)
theorem proved : Rows.UpdAllUptoCardSaid :=
  Claim7.holds_tied_plain_at .later [] _ _ _ _ said (fun _ h => by cases h) (by kernel_rfl) (fun _ h => by cases h) updAllUpto_row_tie rfl ⟨rfl, rfl⟩ (by kernel_rfl) rfl plain (by kernel_rfl)

end Go.Proofs.YtdcdmojbkmedpaaDoor.updAll
end
