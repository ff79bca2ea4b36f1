/-
  A part of a proof: plain laws and walks, one after the other. No conditions.
-/
import Derived.Test.YtfeniggadfkakaaDoorDf4
import Derived.Laws.Bits64
import Derived.Laws.Bits64b
import Derived.Laws.IdiomCopy
import Derived.Lib.Overlaps
import Derived.Lib.AppendZerosOnto
import Derived.WalkKit
import Derived.Shelf.Spec.SlicesInsert
import Derived.Deep.RegionLaw
set_option linter.constructorNameAsVariable false
set_option linter.unusedVariables false
set_option linter.unusedSimpArgs false
set_option linter.unusedSectionVars false
section
namespace Go.Proofs.YtfeniggadfkakaaDoor
open Go Go.SX Go.Ck Go.Vl Go.Ut
set_option maxRecDepth 100000
set_option maxHeartbeats 1000000
theorem and_mask {f:Int} (k:Nat) (hk:k≤63) (h0:0≤f) (h1:f≤18446744073709551615):bits .and .u64 f ((2 ^ k - 1:Nat):Int) = f % ((2 ^ k:Nat):Int):=by
 obtain ⟨n,rfl⟩:∃ n:Nat,f = n:=⟨f.toNat,by omega⟩
 have h2:2 ^ k≤2 ^ 63:=Nat.pow_le_pow_right (by decide) hk
 rw [bits_and_u64_nat _ _ (by omega) (by omega),Nat.and_two_pow_sub_one_eq_mod]
 rfl
theorem shr52 {f:Int}:f.fdiv (2 ^ min (Int.toNat 52) IntKind.u64.bits) = f / 4503599627370496:=by
 rw [show (2:Int) ^ min (Int.toNat 52) IntKind.u64.bits = 4503599627370496 from rfl,Int.fdiv_eq_ediv_of_nonneg _ (by decide)]
theorem expo {f:Int} (h0:0≤f) (h1:f≤18446744073709551615):bits .and .u64 (f.fdiv (2 ^ min (Int.toNat 52) IntKind.u64.bits)) 2047 = (f / 4503599627370496) % 2048:=by
 rw [shr52]
 exact and_mask 11 (by decide) (by omega) (by omega)
theorem frac {f:Int} (h0:0≤f) (h1:f≤18446744073709551615):bits .and .u64 f 4503599627370495 = f % 4503599627370496:=and_mask 52 (by decide) h0 h1
section
variable [G:Globs]
abbrev ownS (a:Val) (t:Bool):St:=⟨[(2,.pt 2 0),(4,.i .i64 0),(5,.b (decide (a.kind = 1∨a.kind = 2))),(6,.i .u64 ((a.f / 4503599627370496) % 2048)),(7,.i .u64 (a.f % 4503599627370496)),(25,.b t)],[(2,encVal a)]⟩
theorem w_ownP (a:Val) (above:Int) (hu:HasU8) (h0:0≤a.f) (h1:a.f≤18446744073709551615):VCs Tryd.prog Γ 121 [1,2,4,5,6,7,9,25,99,116] (Tryd.f72.body.getD .skip) (postK Γ [.tmp 4] (fun v=>v = .i .i64 (ownF a above))) ⟨argSlots 0 [.agg (encVal a),.i .i64 above],[]⟩:=by
 refine VCs.seq (by first | exact Γ_good | exact Ctx.good_kp Γ_good _) ?_
 refine VCs.cut (by first | exact Γ_good | exact Ctx.good_kp Γ_good _) Unit (fun _=>¬ 20≤above) (fun _=>⟨[(2,.pt 2 0),(4,.i .i64 0)],[(2,encVal a)]⟩) ?_ ?_
 ·(repeat' (first | (refine aN (fun h=>?_) (fun h=>?_)<;>(try simp [-List.getD_eq_getElem?_getD,-Int.pred_toNat] at h)<;>(try (exfalso; first | omega | contradiction))) | refine bX ?_ | intro _))
  all_goals first | (refine eX () (aN (by omega) ?_); exact wK) | (refine congrArg (AV.i .i64) ?_; rw [ownF,if_pos (by omega)])
 intro _ k1
 refine VCs.cut (by first | exact Γ_good | exact Ctx.good_kp Γ_good _) Unit (fun _=>True) (fun _=>⟨[(2,.pt 2 0),(4,.i .i64 0),(5,.b (decide (a.kind = 1∨a.kind = 2)))],[(2,encVal a)]⟩) ?_ ?_
 ·(repeat' (first | (refine aN (fun h=>?_) (fun h=>?_)<;>(try simp [-List.getD_eq_getElem?_getD,-Int.pred_toNat] at h)<;>(try (exfalso; first | omega | contradiction))) | refine bX ?_ | intro _))
  all_goals refine eX () (aN trivial ?_)
  all_goals (repeat' (first | exact wA | exact Or.inl ((congrArg AV.b (by (rw [Bool.eq_iff_iff]; (try simp only [beq_iff_eq,bne_iff_ne,beq_eq_false_iff_ne,bne_eq_false_iff_eq,decide_eq_true_eq,decide_eq_false_iff_not,Bool.not_eq_true',Bool.not_eq_false',Bool.not_true,Bool.not_false,ne_eq,Decidable.not_not,gt_iff_lt,ge_iff_le,Int.not_lt,Int.not_le,Bool.cond_true,Bool.cond_false,cond_true,cond_false,Int.reduceBNe,Int.reduceBEq,Int.reduceLT,Int.reduceLE,Int.reduceEq,Int.reduceNe,not_true_eq_false,not_false_eq_true,Bool.false_eq_true,Bool.true_eq_false,reduceCtorEq,Bool.and_eq_true,Bool.or_eq_true,Bool.and_eq_false_iff,Bool.or_eq_false_iff,Bool.true_and,Bool.and_true,Bool.false_and,Bool.and_false,Bool.or_false,Bool.false_or,Bool.or_true,Bool.true_or,bne_iff_ne,List.length_pos_iff,Int.natCast_pos,Int.ofNat_lt,Int.ofNat_le] at *); first | done | omega | grind)))) | refine aN ?_ ?_))
 intro _ _
 refine VCs.cut (by first | exact Γ_good | exact Ctx.good_kp Γ_good _) Unit (fun _=>True) (fun _=>⟨[(2,.pt 2 0),(4,.i .i64 0),(5,.b (decide (a.kind = 1∨a.kind = 2))),(6,.i .u64 ((a.f / 4503599627370496) % 2048)),(7,.i .u64 (a.f % 4503599627370496))],[(2,encVal a)]⟩) ?_ ?_
 ·refine eX [.blk [0,1,2,3,4,5,6,7,8]] (aN (by kernel_rfl) ?_)
  refine aN (by decide) ?_
  refine eX () (aN trivial ?_)
  rw [expo h0 h1,frac h0 h1]
  exact wK
 intro _ _
 refine VCs.seqS ?_
 refine VCs.block ?_
 refine VCs.cutS Unit (fun _=>True) (fun _=>ownS a (decide (kindBad a))) ?_ ?_
 ·refine VCs.cut (by first | exact Γ_good | exact Ctx.good_kp Γ_good _) Unit (fun _=>True) (fun _=>ownS a (decide (a.kind < 0∨6 < a.kind))) ?_ ?_
  ·(repeat' (first | (refine aN (fun h=>?_) (fun h=>?_)<;>(try simp [-List.getD_eq_getElem?_getD,-Int.pred_toNat] at h)<;>(try (exfalso; first | omega | contradiction))) | refine bX ?_ | intro _))
   all_goals refine eX () (aN trivial ?_)
   all_goals (repeat' (first | exact wA | exact Or.inl ((congrArg AV.b (by (try unfold oddF at *); (rw [Bool.eq_iff_iff]; (try simp only [beq_iff_eq,bne_iff_ne,beq_eq_false_iff_ne,bne_eq_false_iff_eq,decide_eq_true_eq,decide_eq_false_iff_not,Bool.not_eq_true',Bool.not_eq_false',Bool.not_true,Bool.not_false,ne_eq,Decidable.not_not,gt_iff_lt,ge_iff_le,Int.not_lt,Int.not_le,Bool.cond_true,Bool.cond_false,cond_true,cond_false,Int.reduceBNe,Int.reduceBEq,Int.reduceLT,Int.reduceLE,Int.reduceEq,Int.reduceNe,not_true_eq_false,not_false_eq_true,Bool.false_eq_true,Bool.true_eq_false,reduceCtorEq,Bool.and_eq_true,Bool.or_eq_true,Bool.and_eq_false_iff,Bool.or_eq_false_iff,Bool.true_and,Bool.and_true,Bool.false_and,Bool.and_false,Bool.or_false,Bool.false_or,Bool.or_true,Bool.true_or,bne_iff_ne,List.length_pos_iff,Int.natCast_pos,Int.ofNat_lt,Int.ofNat_le] at *); first | done | omega | grind)))) | refine aN ?_ ?_))
  intro _ _
  refine VCs.cond rfl (fun h=>?_) (fun h=>?_)
  ·refine VCs.of_vc (by first | exact Γ_good | exact Ctx.good_kp Γ_good _) ?_
   refine eX () (aN trivial ?_)
   (repeat' (first | exact wA | exact Or.inl ((congrArg AV.b (by (try unfold kindBad at *); (try unfold oddF at *); (rw [Bool.eq_iff_iff]; (try simp only [beq_iff_eq,bne_iff_ne,beq_eq_false_iff_ne,bne_eq_false_iff_eq,decide_eq_true_eq,decide_eq_false_iff_not,Bool.not_eq_true',Bool.not_eq_false',Bool.not_true,Bool.not_false,ne_eq,Decidable.not_not,gt_iff_lt,ge_iff_le,Int.not_lt,Int.not_le,Bool.cond_true,Bool.cond_false,cond_true,cond_false,Int.reduceBNe,Int.reduceBEq,Int.reduceLT,Int.reduceLE,Int.reduceEq,Int.reduceNe,not_true_eq_false,not_false_eq_true,Bool.false_eq_true,Bool.true_eq_false,reduceCtorEq,Bool.and_eq_true,Bool.or_eq_true,Bool.and_eq_false_iff,Bool.or_eq_false_iff,Bool.true_and,Bool.and_true,Bool.false_and,Bool.and_false,Bool.or_false,Bool.false_or,Bool.or_true,Bool.true_or,bne_iff_ne,List.length_pos_iff,Int.natCast_pos,Int.ofNat_lt,Int.ofNat_le] at *); first | done | omega | grind)))) | refine aN ?_ ?_))
  replace h:=of_decide_eq_false h
  refine VCs.cut (by first | exact Γ_good | exact Ctx.good_kp Γ_good _) Unit (fun _=>True) (fun _=>ownS a (decide (a.kind≠1∧a.kind≠2∧a.n≠0))) ?_ ?_
  ·(repeat' (first | (refine aN (fun h=>?_) (fun h=>?_)<;>(try simp [-List.getD_eq_getElem?_getD,-Int.pred_toNat] at h)<;>(try (exfalso; first | omega | contradiction))) | refine bX ?_ | intro _))
   all_goals refine eX () (aN trivial ?_)
   all_goals (repeat' (first | exact wA | exact Or.inl ((congrArg AV.b (by (try unfold oddF at *); (rw [Bool.eq_iff_iff]; (try simp only [beq_iff_eq,bne_iff_ne,beq_eq_false_iff_ne,bne_eq_false_iff_eq,decide_eq_true_eq,decide_eq_false_iff_not,Bool.not_eq_true',Bool.not_eq_false',Bool.not_true,Bool.not_false,ne_eq,Decidable.not_not,gt_iff_lt,ge_iff_le,Int.not_lt,Int.not_le,Bool.cond_true,Bool.cond_false,cond_true,cond_false,Int.reduceBNe,Int.reduceBEq,Int.reduceLT,Int.reduceLE,Int.reduceEq,Int.reduceNe,not_true_eq_false,not_false_eq_true,Bool.false_eq_true,Bool.true_eq_false,reduceCtorEq,Bool.and_eq_true,Bool.or_eq_true,Bool.and_eq_false_iff,Bool.or_eq_false_iff,Bool.true_and,Bool.and_true,Bool.false_and,Bool.and_false,Bool.or_false,Bool.false_or,Bool.or_true,Bool.true_or,bne_iff_ne,List.length_pos_iff,Int.natCast_pos,Int.ofNat_lt,Int.ofNat_le] at *); first | done | omega | grind)))) | refine aN ?_ ?_))
  intro _ _
  refine VCs.cond rfl (fun h=>?_) (fun h=>?_)
  ·refine VCs.of_vc (by first | exact Γ_good | exact Ctx.good_kp Γ_good _) ?_
   refine eX () (aN trivial ?_)
   (repeat' (first | exact wA | exact Or.inl ((congrArg AV.b (by (try unfold kindBad at *); (try unfold oddF at *); (rw [Bool.eq_iff_iff]; (try simp only [beq_iff_eq,bne_iff_ne,beq_eq_false_iff_ne,bne_eq_false_iff_eq,decide_eq_true_eq,decide_eq_false_iff_not,Bool.not_eq_true',Bool.not_eq_false',Bool.not_true,Bool.not_false,ne_eq,Decidable.not_not,gt_iff_lt,ge_iff_le,Int.not_lt,Int.not_le,Bool.cond_true,Bool.cond_false,cond_true,cond_false,Int.reduceBNe,Int.reduceBEq,Int.reduceLT,Int.reduceLE,Int.reduceEq,Int.reduceNe,not_true_eq_false,not_false_eq_true,Bool.false_eq_true,Bool.true_eq_false,reduceCtorEq,Bool.and_eq_true,Bool.or_eq_true,Bool.and_eq_false_iff,Bool.or_eq_false_iff,Bool.true_and,Bool.and_true,Bool.false_and,Bool.and_false,Bool.or_false,Bool.false_or,Bool.or_true,Bool.true_or,bne_iff_ne,List.length_pos_iff,Int.natCast_pos,Int.ofNat_lt,Int.ofNat_le] at *); first | done | omega | grind)))) | refine aN ?_ ?_))
  replace h:=of_decide_eq_false h
  refine VCs.cut (by first | exact Γ_good | exact Ctx.good_kp Γ_good _) Unit (fun _=>True) (fun _=>ownS a (decide (a.kind = 1∧a.n≠0∧a.n≠1))) ?_ ?_
  ·(repeat' (first | (refine aN (fun h=>?_) (fun h=>?_)<;>(try simp [-List.getD_eq_getElem?_getD,-Int.pred_toNat] at h)<;>(try (exfalso; first | omega | contradiction))) | refine bX ?_ | intro _))
   all_goals refine eX () (aN trivial ?_)
   all_goals (repeat' (first | exact wA | exact Or.inl ((congrArg AV.b (by (try unfold oddF at *); (rw [Bool.eq_iff_iff]; (try simp only [beq_iff_eq,bne_iff_ne,beq_eq_false_iff_ne,bne_eq_false_iff_eq,decide_eq_true_eq,decide_eq_false_iff_not,Bool.not_eq_true',Bool.not_eq_false',Bool.not_true,Bool.not_false,ne_eq,Decidable.not_not,gt_iff_lt,ge_iff_le,Int.not_lt,Int.not_le,Bool.cond_true,Bool.cond_false,cond_true,cond_false,Int.reduceBNe,Int.reduceBEq,Int.reduceLT,Int.reduceLE,Int.reduceEq,Int.reduceNe,not_true_eq_false,not_false_eq_true,Bool.false_eq_true,Bool.true_eq_false,reduceCtorEq,Bool.and_eq_true,Bool.or_eq_true,Bool.and_eq_false_iff,Bool.or_eq_false_iff,Bool.true_and,Bool.and_true,Bool.false_and,Bool.and_false,Bool.or_false,Bool.false_or,Bool.or_true,Bool.true_or,bne_iff_ne,List.length_pos_iff,Int.natCast_pos,Int.ofNat_lt,Int.ofNat_le] at *); first | done | omega | grind)))) | refine aN ?_ ?_))
  intro _ _
  refine VCs.cond rfl (fun h=>?_) (fun h=>?_)
  ·refine VCs.of_vc (by first | exact Γ_good | exact Ctx.good_kp Γ_good _) ?_
   refine eX () (aN trivial ?_)
   (repeat' (first | exact wA | exact Or.inl ((congrArg AV.b (by (try unfold kindBad at *); (try unfold oddF at *); (rw [Bool.eq_iff_iff]; (try simp only [beq_iff_eq,bne_iff_ne,beq_eq_false_iff_ne,bne_eq_false_iff_eq,decide_eq_true_eq,decide_eq_false_iff_not,Bool.not_eq_true',Bool.not_eq_false',Bool.not_true,Bool.not_false,ne_eq,Decidable.not_not,gt_iff_lt,ge_iff_le,Int.not_lt,Int.not_le,Bool.cond_true,Bool.cond_false,cond_true,cond_false,Int.reduceBNe,Int.reduceBEq,Int.reduceLT,Int.reduceLE,Int.reduceEq,Int.reduceNe,not_true_eq_false,not_false_eq_true,Bool.false_eq_true,Bool.true_eq_false,reduceCtorEq,Bool.and_eq_true,Bool.or_eq_true,Bool.and_eq_false_iff,Bool.or_eq_false_iff,Bool.true_and,Bool.and_true,Bool.false_and,Bool.and_false,Bool.or_false,Bool.false_or,Bool.or_true,Bool.true_or,bne_iff_ne,List.length_pos_iff,Int.natCast_pos,Int.ofNat_lt,Int.ofNat_le] at *); first | done | omega | grind)))) | refine aN ?_ ?_))
  replace h:=of_decide_eq_false h
  refine VCs.cut (by first | exact Γ_good | exact Ctx.good_kp Γ_good _) Unit (fun _=>True) (fun _=>ownS a (decide (a.kind≠3∧a.f≠0))) ?_ ?_
  ·(repeat' (first | (refine aN (fun h=>?_) (fun h=>?_)<;>(try simp [-List.getD_eq_getElem?_getD,-Int.pred_toNat] at h)<;>(try (exfalso; first | omega | contradiction))) | refine bX ?_ | intro _))
   all_goals refine eX () (aN trivial ?_)
   all_goals (repeat' (first | exact wA | exact Or.inl ((congrArg AV.b (by (try unfold oddF at *); (rw [Bool.eq_iff_iff]; (try simp only [beq_iff_eq,bne_iff_ne,beq_eq_false_iff_ne,bne_eq_false_iff_eq,decide_eq_true_eq,decide_eq_false_iff_not,Bool.not_eq_true',Bool.not_eq_false',Bool.not_true,Bool.not_false,ne_eq,Decidable.not_not,gt_iff_lt,ge_iff_le,Int.not_lt,Int.not_le,Bool.cond_true,Bool.cond_false,cond_true,cond_false,Int.reduceBNe,Int.reduceBEq,Int.reduceLT,Int.reduceLE,Int.reduceEq,Int.reduceNe,not_true_eq_false,not_false_eq_true,Bool.false_eq_true,Bool.true_eq_false,reduceCtorEq,Bool.and_eq_true,Bool.or_eq_true,Bool.and_eq_false_iff,Bool.or_eq_false_iff,Bool.true_and,Bool.and_true,Bool.false_and,Bool.and_false,Bool.or_false,Bool.false_or,Bool.or_true,Bool.true_or,bne_iff_ne,List.length_pos_iff,Int.natCast_pos,Int.ofNat_lt,Int.ofNat_le] at *); first | done | omega | grind)))) | refine aN ?_ ?_))
  intro _ _
  refine VCs.cond rfl (fun h=>?_) (fun h=>?_)
  ·refine VCs.of_vc (by first | exact Γ_good | exact Ctx.good_kp Γ_good _) ?_
   refine eX () (aN trivial ?_)
   (repeat' (first | exact wA | exact Or.inl ((congrArg AV.b (by (try unfold kindBad at *); (try unfold oddF at *); (rw [Bool.eq_iff_iff]; (try simp only [beq_iff_eq,bne_iff_ne,beq_eq_false_iff_ne,bne_eq_false_iff_eq,decide_eq_true_eq,decide_eq_false_iff_not,Bool.not_eq_true',Bool.not_eq_false',Bool.not_true,Bool.not_false,ne_eq,Decidable.not_not,gt_iff_lt,ge_iff_le,Int.not_lt,Int.not_le,Bool.cond_true,Bool.cond_false,cond_true,cond_false,Int.reduceBNe,Int.reduceBEq,Int.reduceLT,Int.reduceLE,Int.reduceEq,Int.reduceNe,not_true_eq_false,not_false_eq_true,Bool.false_eq_true,Bool.true_eq_false,reduceCtorEq,Bool.and_eq_true,Bool.or_eq_true,Bool.and_eq_false_iff,Bool.or_eq_false_iff,Bool.true_and,Bool.and_true,Bool.false_and,Bool.and_false,Bool.or_false,Bool.false_or,Bool.or_true,Bool.true_or,bne_iff_ne,List.length_pos_iff,Int.natCast_pos,Int.ofNat_lt,Int.ofNat_le] at *); first | done | omega | grind)))) | refine aN ?_ ?_))
  replace h:=of_decide_eq_false h
  refine VCs.cut (by first | exact Γ_good | exact Ctx.good_kp Γ_good _) Unit (fun _=>True) (fun _=>ownS a (decide (oddF a.f))) ?_ ?_
  ·(repeat' (first | (refine aN (fun h=>?_) (fun h=>?_)<;>(try simp [-List.getD_eq_getElem?_getD,-Int.pred_toNat] at h)<;>(try (exfalso; first | omega | contradiction))) | refine bX ?_ | intro _))
   all_goals refine eX () (aN trivial ?_)
   all_goals (repeat' (first | exact wA | exact Or.inl ((congrArg AV.b (by (try unfold oddF at *); (rw [Bool.eq_iff_iff]; (try simp only [beq_iff_eq,bne_iff_ne,beq_eq_false_iff_ne,bne_eq_false_iff_eq,decide_eq_true_eq,decide_eq_false_iff_not,Bool.not_eq_true',Bool.not_eq_false',Bool.not_true,Bool.not_false,ne_eq,Decidable.not_not,gt_iff_lt,ge_iff_le,Int.not_lt,Int.not_le,Bool.cond_true,Bool.cond_false,cond_true,cond_false,Int.reduceBNe,Int.reduceBEq,Int.reduceLT,Int.reduceLE,Int.reduceEq,Int.reduceNe,not_true_eq_false,not_false_eq_true,Bool.false_eq_true,Bool.true_eq_false,reduceCtorEq,Bool.and_eq_true,Bool.or_eq_true,Bool.and_eq_false_iff,Bool.or_eq_false_iff,Bool.true_and,Bool.and_true,Bool.false_and,Bool.and_false,Bool.or_false,Bool.false_or,Bool.or_true,Bool.true_or,bne_iff_ne,List.length_pos_iff,Int.natCast_pos,Int.ofNat_lt,Int.ofNat_le] at *); first | done | omega | grind)))) | refine aN ?_ ?_))
  intro _ _
  refine VCs.cond rfl (fun h=>?_) (fun h=>?_)
  ·refine VCs.of_vc (by first | exact Γ_good | exact Ctx.good_kp Γ_good _) ?_
   refine eX () (aN trivial ?_)
   (repeat' (first | exact wA | exact Or.inl ((congrArg AV.b (by (try unfold kindBad at *); (try unfold oddF at *); (rw [Bool.eq_iff_iff]; (try simp only [beq_iff_eq,bne_iff_ne,beq_eq_false_iff_ne,bne_eq_false_iff_eq,decide_eq_true_eq,decide_eq_false_iff_not,Bool.not_eq_true',Bool.not_eq_false',Bool.not_true,Bool.not_false,ne_eq,Decidable.not_not,gt_iff_lt,ge_iff_le,Int.not_lt,Int.not_le,Bool.cond_true,Bool.cond_false,cond_true,cond_false,Int.reduceBNe,Int.reduceBEq,Int.reduceLT,Int.reduceLE,Int.reduceEq,Int.reduceNe,not_true_eq_false,not_false_eq_true,Bool.false_eq_true,Bool.true_eq_false,reduceCtorEq,Bool.and_eq_true,Bool.or_eq_true,Bool.and_eq_false_iff,Bool.or_eq_false_iff,Bool.true_and,Bool.and_true,Bool.false_and,Bool.and_false,Bool.or_false,Bool.false_or,Bool.or_true,Bool.true_or,bne_iff_ne,List.length_pos_iff,Int.natCast_pos,Int.ofNat_lt,Int.ofNat_le] at *); first | done | omega | grind)))) | refine aN ?_ ?_))
  replace h:=of_decide_eq_false h
  refine VCs.cut (by first | exact Γ_good | exact Ctx.good_kp Γ_good _) Unit (fun _=>True) (fun _=>ownS a (decide (a.kind≠4∧a.s≠[]))) ?_ ?_
  ·(repeat' (first | (refine aN (fun h=>?_) (fun h=>?_)<;>(try simp [-List.getD_eq_getElem?_getD,-Int.pred_toNat] at h)<;>(try (exfalso; first | omega | contradiction))) | refine bX ?_ | intro _))
   all_goals refine eX () (aN trivial ?_)
   all_goals (repeat' (first | exact wA | exact Or.inl ((congrArg AV.b (by (try unfold oddF at *); (rw [Bool.eq_iff_iff]; (try simp only [beq_iff_eq,bne_iff_ne,beq_eq_false_iff_ne,bne_eq_false_iff_eq,decide_eq_true_eq,decide_eq_false_iff_not,Bool.not_eq_true',Bool.not_eq_false',Bool.not_true,Bool.not_false,ne_eq,Decidable.not_not,gt_iff_lt,ge_iff_le,Int.not_lt,Int.not_le,Bool.cond_true,Bool.cond_false,cond_true,cond_false,Int.reduceBNe,Int.reduceBEq,Int.reduceLT,Int.reduceLE,Int.reduceEq,Int.reduceNe,not_true_eq_false,not_false_eq_true,Bool.false_eq_true,Bool.true_eq_false,reduceCtorEq,Bool.and_eq_true,Bool.or_eq_true,Bool.and_eq_false_iff,Bool.or_eq_false_iff,Bool.true_and,Bool.and_true,Bool.false_and,Bool.and_false,Bool.or_false,Bool.false_or,Bool.or_true,Bool.true_or,bne_iff_ne,List.length_pos_iff,Int.natCast_pos,Int.ofNat_lt,Int.ofNat_le] at *); first | done | omega | grind)))) | refine aN ?_ ?_))
  intro _ _
  refine VCs.cond rfl (fun h=>?_) (fun h=>?_)
  ·refine VCs.of_vc (by first | exact Γ_good | exact Ctx.good_kp Γ_good _) ?_
   refine eX () (aN trivial ?_)
   (repeat' (first | exact wA | exact Or.inl ((congrArg AV.b (by (try unfold kindBad at *); (try unfold oddF at *); (rw [Bool.eq_iff_iff]; (try simp only [beq_iff_eq,bne_iff_ne,beq_eq_false_iff_ne,bne_eq_false_iff_eq,decide_eq_true_eq,decide_eq_false_iff_not,Bool.not_eq_true',Bool.not_eq_false',Bool.not_true,Bool.not_false,ne_eq,Decidable.not_not,gt_iff_lt,ge_iff_le,Int.not_lt,Int.not_le,Bool.cond_true,Bool.cond_false,cond_true,cond_false,Int.reduceBNe,Int.reduceBEq,Int.reduceLT,Int.reduceLE,Int.reduceEq,Int.reduceNe,not_true_eq_false,not_false_eq_true,Bool.false_eq_true,Bool.true_eq_false,reduceCtorEq,Bool.and_eq_true,Bool.or_eq_true,Bool.and_eq_false_iff,Bool.or_eq_false_iff,Bool.true_and,Bool.and_true,Bool.false_and,Bool.and_false,Bool.or_false,Bool.false_or,Bool.or_true,Bool.true_or,bne_iff_ne,List.length_pos_iff,Int.natCast_pos,Int.ofNat_lt,Int.ofNat_le] at *); first | done | omega | grind)))) | refine aN ?_ ?_))
  replace h:=of_decide_eq_false h
  refine VCs.cut (by first | exact Γ_good | exact Ctx.good_kp Γ_good _) Unit (fun _=>True) (fun _=>ownS a (decide (a.kind≠5∧0 < a.l.length))) ?_ ?_
  ·(repeat' (first | (refine aN (fun h=>?_) (fun h=>?_)<;>(try simp [-List.getD_eq_getElem?_getD,-Int.pred_toNat] at h)<;>(try (exfalso; first | omega | contradiction))) | refine bX ?_ | intro _))
   all_goals refine eX () (aN trivial ?_)
   all_goals (repeat' (first | exact wA | exact Or.inl ((congrArg AV.b (by (try unfold oddF at *); (rw [Bool.eq_iff_iff]; (try simp only [beq_iff_eq,bne_iff_ne,beq_eq_false_iff_ne,bne_eq_false_iff_eq,decide_eq_true_eq,decide_eq_false_iff_not,Bool.not_eq_true',Bool.not_eq_false',Bool.not_true,Bool.not_false,ne_eq,Decidable.not_not,gt_iff_lt,ge_iff_le,Int.not_lt,Int.not_le,Bool.cond_true,Bool.cond_false,cond_true,cond_false,Int.reduceBNe,Int.reduceBEq,Int.reduceLT,Int.reduceLE,Int.reduceEq,Int.reduceNe,not_true_eq_false,not_false_eq_true,Bool.false_eq_true,Bool.true_eq_false,reduceCtorEq,Bool.and_eq_true,Bool.or_eq_true,Bool.and_eq_false_iff,Bool.or_eq_false_iff,Bool.true_and,Bool.and_true,Bool.false_and,Bool.and_false,Bool.or_false,Bool.false_or,Bool.or_true,Bool.true_or,bne_iff_ne,List.length_pos_iff,Int.natCast_pos,Int.ofNat_lt,Int.ofNat_le] at *); first | done | omega | grind)))) | refine aN ?_ ?_))
  intro _ _
  refine VCs.cond rfl (fun h=>?_) (fun h=>?_)
  ·refine VCs.of_vc (by first | exact Γ_good | exact Ctx.good_kp Γ_good _) ?_
   refine eX () (aN trivial ?_)
   (repeat' (first | exact wA | exact Or.inl ((congrArg AV.b (by (try unfold kindBad at *); (try unfold oddF at *); (rw [Bool.eq_iff_iff]; (try simp only [beq_iff_eq,bne_iff_ne,beq_eq_false_iff_ne,bne_eq_false_iff_eq,decide_eq_true_eq,decide_eq_false_iff_not,Bool.not_eq_true',Bool.not_eq_false',Bool.not_true,Bool.not_false,ne_eq,Decidable.not_not,gt_iff_lt,ge_iff_le,Int.not_lt,Int.not_le,Bool.cond_true,Bool.cond_false,cond_true,cond_false,Int.reduceBNe,Int.reduceBEq,Int.reduceLT,Int.reduceLE,Int.reduceEq,Int.reduceNe,not_true_eq_false,not_false_eq_true,Bool.false_eq_true,Bool.true_eq_false,reduceCtorEq,Bool.and_eq_true,Bool.or_eq_true,Bool.and_eq_false_iff,Bool.or_eq_false_iff,Bool.true_and,Bool.and_true,Bool.false_and,Bool.and_false,Bool.or_false,Bool.false_or,Bool.or_true,Bool.true_or,bne_iff_ne,List.length_pos_iff,Int.natCast_pos,Int.ofNat_lt,Int.ofNat_le] at *); first | done | omega | grind)))) | refine aN ?_ ?_))
  replace h:=of_decide_eq_false h
  refine VCs.of_vc (by first | exact Γ_good | exact Ctx.good_kp Γ_good _) ?_
  (repeat' (first | (refine aN (fun h=>?_) (fun h=>?_)<;>(try simp [-List.getD_eq_getElem?_getD,-Int.pred_toNat] at h)<;>(try (exfalso; first | omega | contradiction))) | refine bX ?_ | intro _))
  all_goals refine eX () (aN trivial ?_)
  all_goals (repeat' (first | exact wA | exact Or.inl ((congrArg AV.b (by (try unfold kindBad at *); (try unfold oddF at *); (rw [Bool.eq_iff_iff]; (try simp only [beq_iff_eq,bne_iff_ne,beq_eq_false_iff_ne,bne_eq_false_iff_eq,decide_eq_true_eq,decide_eq_false_iff_not,Bool.not_eq_true',Bool.not_eq_false',Bool.not_true,Bool.not_false,ne_eq,Decidable.not_not,gt_iff_lt,ge_iff_le,Int.not_lt,Int.not_le,Bool.cond_true,Bool.cond_false,cond_true,cond_false,Int.reduceBNe,Int.reduceBEq,Int.reduceLT,Int.reduceLE,Int.reduceEq,Int.reduceNe,not_true_eq_false,not_false_eq_true,Bool.false_eq_true,Bool.true_eq_false,reduceCtorEq,Bool.and_eq_true,Bool.or_eq_true,Bool.and_eq_false_iff,Bool.or_eq_false_iff,Bool.true_and,Bool.and_true,Bool.false_and,Bool.and_false,Bool.or_false,Bool.false_or,Bool.or_true,Bool.true_or,bne_iff_ne,List.length_pos_iff,Int.natCast_pos,Int.ofNat_lt,Int.ofNat_le] at *); first | done | omega | grind)))) | refine aN ?_ ?_))
 intro _ _
 refine VCs.cond rfl (fun h=>?_) (fun h=>?_)
 ·have hk:kindBad a:=of_decide_eq_true h
  refine VCs.of_vc (by first | exact Γ_good | exact Ctx.good_kp Γ_good _) ?_
  refine congrArg (AV.i .i64) ?_
  rw [ownF,if_neg k1,if_pos hk]
 have hk:¬ kindBad a:=of_decide_eq_false h
 refine VCs.cut (by first | exact Γ_good | exact Ctx.good_kp Γ_good _) Unit (fun _=>True) (fun _=>⟨[(2,.pt 2 0),(99,.b (decide (4000 < a.s.length∨200 < a.l.length∨200 < a.e.length)))],[(2,encVal a)]⟩) ?_ ?_
 ·(repeat' (first | (refine aN (fun h=>?_) (fun h=>?_)<;>(try simp [-List.getD_eq_getElem?_getD,-Int.pred_toNat] at h)<;>(try (exfalso; first | omega | contradiction))) | refine bX ?_ | intro _))
  all_goals refine eX () (aN trivial ?_)
  all_goals (repeat' (first | exact wA | exact Or.inl ((congrArg AV.b (by (rw [Bool.eq_iff_iff]; (try simp only [beq_iff_eq,bne_iff_ne,beq_eq_false_iff_ne,bne_eq_false_iff_eq,decide_eq_true_eq,decide_eq_false_iff_not,Bool.not_eq_true',Bool.not_eq_false',Bool.not_true,Bool.not_false,ne_eq,Decidable.not_not,gt_iff_lt,ge_iff_le,Int.not_lt,Int.not_le,Bool.cond_true,Bool.cond_false,cond_true,cond_false,Int.reduceBNe,Int.reduceBEq,Int.reduceLT,Int.reduceLE,Int.reduceEq,Int.reduceNe,not_true_eq_false,not_false_eq_true,Bool.false_eq_true,Bool.true_eq_false,reduceCtorEq,Bool.and_eq_true,Bool.or_eq_true,Bool.and_eq_false_iff,Bool.or_eq_false_iff,Bool.true_and,Bool.and_true,Bool.false_and,Bool.and_false,Bool.or_false,Bool.false_or,Bool.or_true,Bool.true_or,bne_iff_ne,List.length_pos_iff,Int.natCast_pos,Int.ofNat_lt,Int.ofNat_le] at *); first | done | omega | grind)))) | refine aN ?_ ?_))
 intro _ _
 refine VCs.cond rfl (fun h=>?_) (fun h=>?_)
 ·refine VCs.of_vc (by first | exact Γ_good | exact Ctx.good_kp Γ_good _) ?_
  refine congrArg (AV.i .i64) ?_
  rw [ownF,if_neg k1,if_neg hk,if_pos (of_decide_eq_true h)]
 have hk2:=of_decide_eq_false h
 refine VCs.of_vc (by first | exact Γ_good | exact Ctx.good_kp Γ_good _) ?_
 refine Or.inl (eX _ (aN (s_Bad hu a.s) ?_))
 refine aN (fun hq=>?_) (fun hq=>?_)
 ·refine congrArg (AV.i .i64) ?_
  rw [ownF,if_neg k1,if_neg hk,if_neg hk2,if_pos (of_decide_eq_true hq)]
 ·refine VCs.of_vc (by first | exact Γ_good | exact Ctx.good_kp Γ_good _) ?_
  refine congrArg (AV.i .i64) ?_
  rw [ownF,if_neg k1,if_neg hk,if_neg hk2,if_neg (of_decide_eq_false hq)]
theorem s_ownP (a:Val) (above:Int) (hu:HasU8) (h0:0≤a.f) (h1:a.f≤18446744073709551615):PSpec Tryd.prog 72 [.agg (encVal a),.i .i64 above] (.i .i64 (ownF a above)) :=
 pspec_of_VCs Γ_good Tryd.func72 rfl Tryd.call72 Tryd.results72 Tryd.ntmps72 (Nat.le_of_ble_eq_true rfl) (w_ownP a above hu h0 h1) Γ_good
end
end Go.Proofs.YtfeniggadfkakaaDoor
end
section
namespace Go.Proofs.YtfeniggadfkakaaDoor
open Go Go.SX Go.Ck Go.Vl Go.Ut
set_option maxRecDepth 100000
set_option maxHeartbeats 1000000
section
variable [G:Globs]
theorem check_step (hu : HasU8) (y : Val) (above m : Int) (hy : VB y) (hn : (sizV y).2 ≤ 1000000000) (h0 : 0 ≤ above) (h1 : above ≤ 20) (hm0 : 0 ≤ m) (hm1 : m ≤ 2000)
  (hc:¬ 20≤above→∀ x ∈ partsOf y,∀ k,0≤k→k≤2000→CSpec Tryd.prog 48 [.agg (encVal x),.i .i64 (above + 1),.pt 1000 0] [(1000,[.i .i64 k])] (.i .i64 (chkV x (above + 1) k).1) [(1000,[.i .i64 (chkV x (above + 1) k).2])]) :
  CSpec Tryd.prog 48 [.agg (encVal y),.i .i64 above,.pt 1000 0] [(1000,[.i .i64 m])] (.i .i64 (chkV y above m).1) [(1000,[.i .i64 (chkV y above m).2])]:=by
 have hlen:=siz_len y
 have hfb:0≤y.f∧y.f≤18446744073709551615:=by cases hy with | mk _ _ _ h3=>exact h3
 refine cspec_of_VCf (L:=[3,4,5,6,7,8,9,10,11,20,25,28,29,30,31,35,40,45,62,63,70,1000,1003,1004,1005,1006]) (N:=72) Γ_good Tryd.func48 rfl Tryd.call48 Tryd.ntmps48 (Nat.le_of_ble_eq_true rfl) rfl ?_
 have hcv:=chkV_eq y above m
 generalize chkV y above m = R at hcv
 refine VCf.seq Γ_good (by decide) ?_
 refine VCf.seq Γ_good (by decide) ?_
 (refine rNG ?_)
 refine aN (fun hq=>?_) (fun hq=>?_)
 ·rw [if_pos (of_decide_eq_true hq)] at hcv
  subst hcv
  exact eX [] (aN rfl wK)
 rw [if_neg (of_decide_eq_false hq)] at hcv
 have hm2:¬ 2000 < m + 1:=of_decide_eq_false hq
 have hone:oneF y above = orI (ownF y above) (entF none y.e):=rfl
 refine VCf.seq Γ_good (by decide) ?_
 refine Or.inl (eX _ (aN (s_ownP y above hu hfb.1 hfb.2) ?_))
 refine aN (fun hq=>?_) (fun hq=>?_)
 ·have hq:ownF y above≠0:=by simpa using hq
  rw [orI_ne hq] at hone
  rw [hone,if_pos hq] at hcv
  subst hcv
  exact eX [] (aN rfl wK)
 have hq:ownF y above = 0:=by simpa using hq
 rw [hq,orI_zero] at hone
 have ha20:¬ 20≤above:=fun h=>by rw [ownF,if_pos h] at hq; cases hq
 refine VCf.seq Γ_good (by decide) ?_
 intro hl
 refine eX [] (eX [] (eX [] (eX Nat (eX (fun i=>i≤y.e.length∧entF none y.e = entF (keyAt y.e i) (y.e.drop i)) (eX (fun i=>⟨[(3,.pt 3 0),(4,.pt 4 0),(5,.pt 5 0),(6,.pt 6 0),(28,.rd .ent y.e),(29,.i .i64 y.e.length),(30,.i .i64 i)],[(1000,[.i .i64 (m + 1)]),(3,encVal y),(4,[.i .i64 above]),(5,[.pt 1000 0]),(6,[.i .i64 0])]⟩) (eX (fun i=>y.e.length - i) (eX 0 (aN ⟨Nat.zero_le _,rfl⟩ (aN ?_ ?_)))))))))
 ·exact wK
 ·rintro i ⟨hi,he⟩
  refine aN (fun hz=>?_) (fun hz=>?_)
  ·have hi:=ltD hz
   have hg:=getI (τ:=.ent) hi
   refine bN2 ?_
   rw [hg]
   intro _
   refine aN (fun hq=>?_) (fun hq=>?_)
   ·have hk:=keyF_large (p:=keyAt y.e i) (k:=y.e[i].1) (by have:=of_decide_eq_true hq; omega)
    rw [entF_stop hi (by rw [hk]; decide),hk] at he
    rw [hone,he,if_pos (by decide)] at hcv
    subst hcv
    exact eX [] (aN rfl wK)
   have n1:¬ 100 < y.e[i].1.length:=by have:=of_decide_eq_false hq; omega
   refine Or.inl (eX _ (aN (s_Bad hu y.e[i].1) ?_))
   refine aN (fun hq=>?_) (fun hq=>?_)
   ·have hk:=keyF_text (p:=keyAt y.e i) (k:=y.e[i].1) n1 (of_decide_eq_true hq)
    rw [entF_stop hi (by rw [hk]; decide),hk] at he
    rw [hone,he,if_pos (by decide)] at hcv
    subst hcv
    exact eX [] (aN rfl wK)
   have n2:¬ 0≤bad y.e[i].1:=of_decide_eq_false hq
   have hlen2:=len_le hl
   refine eX [.blk [0,1,2,3,4,5,6,7,8,9,10,11,12,13,14]] (aN (by kernel_rfl) ?_)
   refine aN (fun hq=>?_) (fun hq=>?_)
   ·have hi0:0 < i:=by have:=of_decide_eq_true hq; omega
    have hL:(y.e.getD (Int.toNat ((i:Int) - 1)) (dflt .ent)).1 = lastK y.e i:=by
     rw [show Int.toNat ((i:Int) - 1) = i - 1 from by omega,lastK,if_pos hi0]
    (refine rNG ?_)
    refine bN2 ?_
    generalize y.e.getD (Int.toNat ((i:Int) - 1)) (dflt .ent) = p at hL ⊢
    refine aN (fun hq=>?_) (fun hq=>?_)
    ·have hk:=keyF_order (e:=y.e) n1 n2 hi0 (by rw [← hL]; simpa using (show (!Op.bytesLess p.1 y.e[i].1) = true from hq))
     rw [entF_stop hi (by rw [hk]; decide),hk] at he
     rw [hone,he,if_pos (by decide)] at hcv
     subst hcv
     exact eX [] (aN rfl wK)
    ·have hk:=keyF_ok (e:=y.e) n1 n2 (fun _=>by rw [← hL]; simpa using (show (!Op.bytesLess p.1 y.e[i].1) = false from hq))
     rw [entF_go hi hk] at he
     (refine rNG ?_)
     refine eX [] (eX (i + 1) (aN ⟨hi,he⟩ (aN ?_ ?_)))
     ·exact wK
     ·show y.e.length - (i + 1) < y.e.length - i
      omega
   ·have hi0:¬ 0 < i:=by have:=of_decide_eq_false hq; omega
    refine aN (fun hq=>Bool.noConfusion hq) (fun _=>?_)
    have hk:=keyF_ok (e:=y.e) n1 n2 (fun h=>absurd h hi0)
    rw [entF_go hi hk] at he
    (refine rNG ?_)
    refine eX [] (eX (i + 1) (aN ⟨hi,he⟩ (aN ?_ ?_)))
    ·exact wK
    ·show y.e.length - (i + 1) < y.e.length - i
     omega
  ·have hi:=geD hi hz
   rw [entF_end _ (by omega)] at he
   rw [hone,he,if_neg (by decide)] at hcv
   have hcc:=hc ha20
   clear hc
   refine VCf.renB 3 1003 rfl rfl ?_
   refine VCf.renB 4 1004 rfl rfl ?_
   refine VCf.renB 5 1005 rfl rfl ?_
   refine VCf.renB 6 1006 rfl rfl ?_
   refine VCf.range (σ:=Int × Int) Γ_good (by decide) [(3,.pt 1003 0),(4,.pt 1004 0),(5,.pt 1005 0),(6,.pt 1006 0),(62,.fn 67 [.rp (encVal y)])] (fun pre=>[(1000,[.i .i64 (chkL pre (above + 1) (m + 1)).2]),(1003,encVal y),(1004,[.i .i64 above]),(1005,[.pt 1000 0]),(1006,[.i .i64 0])]) (fun q=>R = q∧q.1≠0) (fun q=>[(1000,[.i .i64 q.2]),(1003,encVal y),(1004,[.i .i64 above]),(1005,[.pt 1000 0]),(1006,[.i .i64 q.1])]) [1000,1003,1004,1005,1006] (parts_it y (by omega) (by omega)) ?_ rfl rfl rfl rfl (fun _=>rfl) (fun _=>rfl) rfl rfl rfl (fun pre=>(chkL pre (above + 1) (m + 1)).1 = 0) rfl ?_ ?_ ?_
   ·refine Or.inl (eX _ (aN (s_parts y) ?_))
    refine eX [] ?_
    exact wK
   ·intro pre x post hx hj
    have hm:x ∈ partsOf y:=by rw [hx]; simp
    have hb:=chkL_le pre (above + 1) (m + 1) (by omega) (by omega)
    generalize hk:(chkL pre (above + 1) (m + 1)).2 = k at hb
    have hpre:chkL pre (above + 1) (m + 1) = (0,k):=by rw [← hj,← hk]
    have hs:=hcc x hm k (by omega) (hb.2.2 hj)
    (refine rNG ?_)
    refine Or.inr (Or.inl (eX [] (eX _ (eX _ (eX _ (eX _ (eX _ (eX [(1000,1000)] (aN (hs) ?_)))))))))
    refine (aN rfl (aN rfl (aN rfl (aN rfl (aN rfl ?_)))))
    refine aN (fun hq=>?_) (fun hq=>?_)
    ·have hq:(chkV x (above + 1) k).1≠0:=by simpa using hq
     refine eX [] (eX (chkV x (above + 1) k) (aN ⟨?_,hq⟩ ?_))
     ·rw [hcv,hx]
      exact chkL_stop hpre rfl hq post
     ·exact wK
    ·have hq:(chkV x (above + 1) k).1 = 0:=by simpa using hq
     have hs2:=chkL_snoc hpre x
     rw [hs2]
     refine aN hq (eX [] ?_)
     exact wK
   ·rintro ⟨e,k⟩ ⟨h1,h2⟩
    subst h1
    exact eX [] (aN rfl wK)
   ·intro hj
    have h2:R = (0,(chkL (partsOf y) (above + 1) (m + 1)).2):=by
     rw [hcv,← hj]
    rw [h2]
    exact eX [] (aN rfl wK)
end
end Go.Proofs.YtfeniggadfkakaaDoor
end
section
namespace Go.Proofs.YtfeniggadfkakaaDoor
open Go Go.SX Go.Ck Go.Vl Go.Ut
set_option maxRecDepth 100000
set_option maxHeartbeats 1000000
section
variable [G:Globs]
theorem vb_part {y x:Val} (hy:VB y) (hx:x ∈ partsOf y):VB x:=by
 cases hy with
 | mk _ _ _ _ h4 h5 =>
  rcases List.mem_append.1 hx with hx | hx
  ·exact h4 x hx
  ·obtain ⟨z,hz,rfl⟩:=List.mem_map.1 hx
   exact h5 z hz
theorem s_check (hu : HasU8) : ∀ (n : Nat) (y : Val) (above m : Int), SizeOf.sizeOf y < n → VB y → (sizV y).2 ≤ 1000000000 → 0 ≤ above → above ≤ 20 → 0 ≤ m → m ≤ 2000 →
  CSpec Tryd.prog 48 [.agg (encVal y),.i .i64 above,.pt 1000 0] [(1000,[.i .i64 m])] (.i .i64 (chkV y above m).1) [(1000,[.i .i64 (chkV y above m).2])]:=by
 intro n
 induction n with
 | zero=>intro y _ _ h; exact absurd h (Nat.not_lt_zero _)
 | succ n ih =>
  intro y above m h hy hn h0 h1 hm0 hm1
  exact check_step hu y above m hy hn h0 h1 hm0 hm1 fun ha x hx k hk0 hk1=>ih x (above + 1) k (by have:=parts_sz hx; omega) (vb_part hy hx) (by have:=(siz_parts y).2 x hx; omega) (by omega) (by omega) hk0 hk1
theorem w_Check (hu:HasU8) (a:Val) (ha:VB a) (hn:(sizV a).2≤1000000000):vc Tryd.prog Γ 6 [1,2,3] (Tryd.f26.body.getD .skip) (postK Γ [.tmp 2] (fun v=>v = .i .i64 (chkV a 0 0).1)) ⟨argSlots 0 [.agg (encVal a)],[]⟩:=by
 refine Or.inr (Or.inl (eX [] (eX _ (eX _ (eX _ (eX _ (eX _ (eX [(1000,3)] (aN (s_check hu _ a 0 0 (Nat.lt_succ_self _) ha hn (by decide) (by decide) (by decide) (by decide)) ?_)))))))))
 refine (aN rfl (aN rfl (aN rfl (aN rfl (aN rfl ?_)))))
 rfl
theorem s_Check (hu:HasU8) (a:Val) (ha:VB a) (hn:(sizV a).2≤1000000000):PSpec Tryd.prog 26 [.agg (encVal a)] (.i .i64 (chkV a 0 0).1) :=
 pspec_of_vc Γ_good Tryd.func26 rfl Tryd.call26 Tryd.results26 Tryd.ntmps26 (Nat.le_of_ble_eq_true rfl) (w_Check hu a ha hn)
theorem chk_T (a:Val):(chkV a 0 0).1 = chkT [⟨a,0⟩] 0:=by
 rw [chkT]
 simp only
 cases chkV a 0 0 with
 | mk e m =>
  simp only [chkT]
  by_cases h:e = 0
  ·simp [h]
  ·simp [h]
end
end Go.Proofs.YtfeniggadfkakaaDoor
end
section
namespace Go.Proofs.YtfeniggadfkakaaDoor
open Go Go.SX Go.Ck Go.Vl Go.Ut Go.Up
set_option maxRecDepth 100000
set_option maxHeartbeats 1000000
theorem opF_else {o:OpR} (c:¬ (o.kind < 1∨4 < o.kind)):opF o = orI (pathF o.p) (orI (if o.kind≤2 then chkT [⟨o.v,0⟩] 0 else 0) (if o.kind = 4∧100 < o.key.length then 2 else if o.kind = 4∧0≤bad o.key then 3 else if 1 < o.kind∧o.p = [] then 1 else 0)):=by
 unfold opF; rw [if_neg c]
section
variable [G:Globs]
theorem w_opFault (o:OpR) (hv:VB o.v) (hn:(sizV o.v).2≤1000000000):vc Tryd.prog Γ 48 [1,2,3,4,12,17,21,26,30,34,38,47] (Tryd.f32.body.getD .skip) (postK Γ [.tmp 2] (fun v=>v = .i .i64 (opF o))) ⟨argSlots 0 [.agg (enc .op o)],[]⟩:=by
 by_cases c:o.kind < 1∨4 < o.kind
 ·rw [show opF o = 1 from by unfold opF; rw [if_pos c]]
  rcases c with c | c
  all_goals (repeat' (first | (refine aN (fun h=>?_) (fun h=>?_)<;>(try simp [-List.getD_eq_getElem?_getD,-Int.pred_toNat] at h)<;>(try (exfalso; first | omega | contradiction))) | refine bX ?_ | intro _))
  all_goals rfl
 rw [opF_else c]
 have c:1≤o.kind∧o.kind≤4:=by omega
 (repeat' (first | (refine aN (fun h=>?_) (fun h=>?_)<;>(try simp [-List.getD_eq_getElem?_getD,-Int.pred_toNat] at h)<;>(try (exfalso; first | omega | contradiction))) | refine bX ?_ | intro _))
 refine Or.inl (eX _ (aN (s_pathR o.p) ?_))
 refine aN (fun hq=>?_) (fun hq=>?_)
 ·have hq:pathF o.p≠0:=by simpa using hq
  rw [orI_ne hq]
  rfl
 have hq:pathF o.p = 0:=by simpa using hq
 rw [hq,orI_zero]
 by_cases d:o.kind≤2
 ·rw [if_pos d]
  (repeat' (first | (refine aN (fun h=>?_) (fun h=>?_)<;>(try simp [-List.getD_eq_getElem?_getD,-Int.pred_toNat] at h)<;>(try (exfalso; first | omega | contradiction))) | refine bX ?_ | intro _))
  refine Or.inl (eX _ (aN (s_fault o.v hv hn) ?_))
  refine aN (fun hq=>?_) (fun hq=>?_)
  ·have hq:chkT [⟨o.v,0⟩] 0≠0:=by simpa using hq
   rw [orI_ne hq]
   rfl
  have hq:chkT [⟨o.v,0⟩] 0 = 0:=by simpa using hq
  rw [hq,orI_zero,if_neg (by omega),if_neg (by omega)]
  (repeat' (first | (refine aN (fun h=>?_) (fun h=>?_)<;>(try simp [-List.getD_eq_getElem?_getD,-Int.pred_toNat] at h)<;>(try (exfalso; first | omega | contradiction))) | refine bX ?_ | intro _))
  all_goals (refine congrArg (AV.i .i64) ?_; first | rfl | grind)
 ·rw [if_neg d,orI_zero]
  by_cases f:o.kind = 4
  ·by_cases g:100 < o.key.length
   ·rw [if_pos ⟨f,g⟩]
    (repeat' (first | (refine aN (fun h=>?_) (fun h=>?_)<;>(try simp [-List.getD_eq_getElem?_getD,-Int.pred_toNat] at h)<;>(try (exfalso; first | omega | contradiction))) | refine bX ?_ | intro _))
    all_goals (refine congrArg (AV.i .i64) ?_; first | rfl | grind)
   ·(repeat' (first | (refine aN (fun h=>?_) (fun h=>?_)<;>(try simp [-List.getD_eq_getElem?_getD,-Int.pred_toNat] at h)<;>(try (exfalso; first | omega | contradiction))) | refine bX ?_ | intro _))
    refine Or.inl (eX _ (aN (s_BadPlace o.key) ?_))
    (repeat' (first | (refine aN (fun h=>?_) (fun h=>?_)<;>(try simp [-List.getD_eq_getElem?_getD,-Int.pred_toNat] at h)<;>(try (exfalso; first | omega | contradiction))) | refine bX ?_ | intro _))
    all_goals (refine congrArg (AV.i .i64) ?_; first | rfl | grind)
  ·(repeat' (first | (refine aN (fun h=>?_) (fun h=>?_)<;>(try simp [-List.getD_eq_getElem?_getD,-Int.pred_toNat] at h)<;>(try (exfalso; first | omega | contradiction))) | refine bX ?_ | intro _))
   all_goals (refine congrArg (AV.i .i64) ?_; first | rfl | grind)
theorem s_opFault (o:OpR) (hv:VB o.v) (hn:(sizV o.v).2≤1000000000):PSpec Tryd.prog 32 [.agg (enc .op o)] (.i .i64 (opF o)) :=
 pspec_of_vc Γ_good Tryd.func32 rfl Tryd.call32 Tryd.results32 Tryd.ntmps32 (Nat.le_of_ble_eq_true rfl) (w_opFault o hv hn)
theorem w_updC (hu:HasU8) (o:OpR) (hv:VB o.v) (hn:(sizV o.v).2≤1000000000):vc Tryd.prog Γ 63 [1,2,3,4,12,17,26,31,33,43,53] (Tryd.f42.body.getD .skip) (postK Γ [.tmp 2] (fun v=>v = .i .i64 (opF o))) ⟨argSlots 0 [.agg (enc .op o)],[]⟩:=by
 by_cases c:o.kind < 1∨4 < o.kind
 ·rw [show opF o = 1 from by unfold opF; rw [if_pos c]]
  rcases c with c | c
  all_goals (repeat' (first | (refine aN (fun h=>?_) (fun h=>?_)<;>(try simp [-List.getD_eq_getElem?_getD,-Int.pred_toNat] at h)<;>(try (exfalso; first | omega | contradiction))) | refine bX ?_ | intro _))
  all_goals rfl
 rw [opF_else c]
 have c:1≤o.kind∧o.kind≤4:=by omega
 (repeat' (first | (refine aN (fun h=>?_) (fun h=>?_)<;>(try simp [-List.getD_eq_getElem?_getD,-Int.pred_toNat] at h)<;>(try (exfalso; first | omega | contradiction))) | refine bX ?_ | intro _))
 refine Or.inl (eX _ (aN (s_pathC hu o.p) ?_))
 refine aN (fun hq=>?_) (fun hq=>?_)
 ·have hq:pathF o.p≠0:=by simpa using hq
  rw [orI_ne hq]
  rfl
 have hq:pathF o.p = 0:=by simpa using hq
 rw [hq,orI_zero]
 by_cases d:o.kind≤2
 ·rw [if_pos d]
  rcases (show o.kind = 1∨o.kind = 2 by omega) with d2 | d2
  ·(repeat' (first | (refine aN (fun h=>?_) (fun h=>?_)<;>(try simp [-List.getD_eq_getElem?_getD,-Int.pred_toNat] at h)<;>(try (exfalso; first | omega | contradiction))) | refine bX ?_ | intro _))
   refine Or.inl (eX _ (aN (s_Check hu o.v hv hn) ?_))
   rw [chk_T]
   refine aN (fun hq=>?_) (fun hq=>?_)
   ·have hq:chkT [⟨o.v,0⟩] 0≠0:=by simpa using hq
    rw [orI_ne hq]
    rfl
   have hq:chkT [⟨o.v,0⟩] 0 = 0:=by simpa using hq
   rw [hq,orI_zero,if_neg (by omega),if_neg (by omega)]
   (repeat' (first | (refine aN (fun h=>?_) (fun h=>?_)<;>(try simp [-List.getD_eq_getElem?_getD,-Int.pred_toNat] at h)<;>(try (exfalso; first | omega | contradiction))) | refine bX ?_ | intro _))
   all_goals (refine congrArg (AV.i .i64) ?_; first | rfl | grind)
  ·(repeat' (first | (refine aN (fun h=>?_) (fun h=>?_)<;>(try simp [-List.getD_eq_getElem?_getD,-Int.pred_toNat] at h)<;>(try (exfalso; first | omega | contradiction))) | refine bX ?_ | intro _))
   refine Or.inl (eX _ (aN (s_Check hu o.v hv hn) ?_))
   rw [chk_T]
   refine aN (fun hq=>?_) (fun hq=>?_)
   ·have hq:chkT [⟨o.v,0⟩] 0≠0:=by simpa using hq
    rw [orI_ne hq]
    rfl
   have hq:chkT [⟨o.v,0⟩] 0 = 0:=by simpa using hq
   rw [hq,orI_zero,if_neg (by omega),if_neg (by omega)]
   (repeat' (first | (refine aN (fun h=>?_) (fun h=>?_)<;>(try simp [-List.getD_eq_getElem?_getD,-Int.pred_toNat] at h)<;>(try (exfalso; first | omega | contradiction))) | refine bX ?_ | intro _))
   all_goals (refine congrArg (AV.i .i64) ?_; first | rfl | grind)
 ·rw [if_neg d,orI_zero]
  by_cases f:o.kind = 4
  ·by_cases g:100 < o.key.length
   ·rw [if_pos ⟨f,g⟩]
    (repeat' (first | (refine aN (fun h=>?_) (fun h=>?_)<;>(try simp [-List.getD_eq_getElem?_getD,-Int.pred_toNat] at h)<;>(try (exfalso; first | omega | contradiction))) | refine bX ?_ | intro _))
    all_goals (refine congrArg (AV.i .i64) ?_; first | rfl | grind)
   ·(repeat' (first | (refine aN (fun h=>?_) (fun h=>?_)<;>(try simp [-List.getD_eq_getElem?_getD,-Int.pred_toNat] at h)<;>(try (exfalso; first | omega | contradiction))) | refine bX ?_ | intro _))
    refine Or.inl (eX _ (aN (s_Bad hu o.key) ?_))
    (repeat' (first | (refine aN (fun h=>?_) (fun h=>?_)<;>(try simp [-List.getD_eq_getElem?_getD,-Int.pred_toNat] at h)<;>(try (exfalso; first | omega | contradiction))) | refine bX ?_ | intro _))
    all_goals (refine congrArg (AV.i .i64) ?_; first | rfl | grind)
  ·(repeat' (first | (refine aN (fun h=>?_) (fun h=>?_)<;>(try simp [-List.getD_eq_getElem?_getD,-Int.pred_toNat] at h)<;>(try (exfalso; first | omega | contradiction))) | refine bX ?_ | intro _))
   all_goals (refine congrArg (AV.i .i64) ?_; first | rfl | grind)
theorem s_updC (hu:HasU8) (o:OpR) (hv:VB o.v) (hn:(sizV o.v).2≤1000000000):PSpec Tryd.prog 42 [.agg (enc .op o)] (.i .i64 (opF o)) :=
 pspec_of_vc Γ_good Tryd.func42 rfl Tryd.call42 Tryd.results42 Tryd.ntmps42 (Nat.le_of_ble_eq_true rfl) (w_updC hu o hv hn)
end
end Go.Proofs.YtfeniggadfkakaaDoor
end
section
namespace Go.Proofs.YtfeniggadfkakaaDoor
open Go Go.SX Go.Vl
set_option maxRecDepth 100000
set_option maxHeartbeats 0
section
variable [G:Globs]
theorem w_with (l:List Ent) (k:Str) (a:Val) (hl1:l.length≤100000000):VCs Tryd.prog Γ 39 [0,1,5,6,7,23] (Tryd.f62.body.getD .skip) (postK Γ [.tmp 6] (fun v=>v = .rd .ent (putE l k a))) ⟨argSlots 0 [.rd .ent l,.s k,.agg (encVal a)],[]⟩:=by
 refine VCs.seq (by first | exact Γ_good | exact Ctx.good_kp Γ_good _) ?_
 refine VCs.seq (by first | exact Γ_good | exact Ctx.good_kp Γ_good _) ?_
 refine Or.inl (eX _ (aN (s_wout l k hl1) ?_))
 have hml:(withoutE l k).length≤l.length:=List.length_filter_le _ _
 unfold putE
 generalize withoutE l k = m at hml
 refine VCs.seq (by first | exact Γ_good | exact Ctx.good_kp Γ_good _) ?_
 refine VCs.cut (by first | exact Γ_good | exact Ctx.good_kp Γ_good _) Unit (fun _=>True) (fun _=>⟨[(0,.rd .ent m),(1,.s k),(5,.pt 5 0),(7,.i .i64 (m.findIdx (keyGt k):Nat))],[(5,encVal a)]⟩) ?_ ?_
 ·refine eX [] (eX [] (eX [] (eX Nat (eX (fun i=>i≤m.length∧i≤m.findIdx (keyGt k)) (eX (fun i=>⟨[(0,.rd .ent m),(1,.s k),(5,.pt 5 0),(7,.i .i64 i)],[(5,encVal a)]⟩) (eX (fun i=>m.length - i) (eX 0 (aN ⟨Nat.zero_le _,Nat.zero_le _⟩ (aN ?_ ?_)))))))))
  ·exact wK
  ·rintro i ⟨hi,hf⟩
   intro _
   refine aN (fun hz=>?_) (fun hz=>?_)
   · have hi : i < m.length := by have : (i : Int) < (m.length : Int) := of_decide_eq_true hz
                                  omega
     have hg:m.getD (Int.toNat (i:Int)) (dflt .ent) = m[i]:=by rw [Int.toNat_natCast,List.getD_eq_getElem?_getD,List.getElem?_eq_getElem hi]; rfl
     refine bN2 ?_
     refine aN (fun hq=>?_) (fun hq=>?_)
     ·have hq : keyGt k m[i] = false := by
       rw [hg] at hq
       have hq:(Op.bytesLess m[i].1 k || m[i].1 == k) = true:=hq
       rw [keyGt,hq]; rfl
      (refine rNG ?_)
      refine eX [] (eX (i + 1) (aN ⟨hi,ix_miss hi hf hq⟩ (aN ?_ ?_)))
      ·exact wK
      ·show m.length - (i + 1) < m.length - i
       omega
     ·have hq : keyGt k m[i] = true := by
       rw [hg] at hq
       have hq:(Op.bytesLess m[i].1 k || m[i].1 == k) = false:=hq
       rw [keyGt,hq]; rfl
      have e:i = m.findIdx (keyGt k):=by
       have:=List.not_of_lt_findIdx (p:=keyGt k) (xs:=m) (i:=i)
       rcases Nat.lt_or_ge i (m.findIdx (keyGt k)) with h1 | h1
       ·have:=this h1
        rw [hq] at this
        cases this
       ·omega
      refine eX () (aN trivial ?_)
      (repeat' (first | exact wA | exact Or.inl ((congrArg (fun n:Nat=>AV.i .i64 n) e)) | refine aN ?_ ?_))
   · have hi : i = m.length := by have : ¬ (i : Int) < (m.length : Int) := of_decide_eq_false hz
                                  omega
     have e:i = m.findIdx (keyGt k):=by
      have:=List.findIdx_le_length (p:=keyGt k) (xs:=m)
      omega
     refine aN (fun h9=>Bool.noConfusion h9) (fun _=>?_)
     refine eX () (aN trivial ?_)
     (repeat' (first | exact wA | exact Or.inl ((congrArg (fun n:Nat=>AV.i .i64 n) e)) | refine aN ?_ ?_))
 rintro _ _
 have hle:=List.findIdx_le_length (p:=keyGt k) (xs:=m)
 generalize m.findIdx (keyGt k) = j at hle
 refine VCs.of_vc (by first | exact Γ_good | exact Ctx.good_kp Γ_good _) ?_
 refine eX [.take 0,.take 1,.take 2,.take 4,.take 9,.take 10,.take 11,.tree 4 [3,5,6,7] (.opt 3 (.opt 5 (.opt 6 (.opt 7 .fin .non) .non) .non) (.opt 5 (.opt 3 (.opt 6 (.opt 7 .fin .non) .non) (.opt 6 (.opt 3 (.opt 7 .fin .non) (.opt 7 (.opt 3 .fin .non) .non)) .non)) .non)),.one 8,.one 12,.take 13] (aN (by kernel_rfl) ?_)
 refine aN ⟨by omega,by omega,by omega⟩ ?_
 refine bN2 ?_
 have hob:(List.drop (Int.toNat 0) (m.take (Int.toNat (j:Int)))).length * 104≤140737488355328:=by
  rw [List.length_drop,List.length_take]
  omega
 refine eX ⟨[(29,.vec 29 .ent (m.take j)),(33,.vec 33 .ent [(k,⟨a.kind,a.n,a.f,a.s,a.l,a.e⟩)]),(37,.rd .ent ((m.take m.length).drop j))],[]⟩ (aN ?_ ?_)
 ·repeat' (first | exact trivial | exact hob | exact Or.inl rfl | refine aN ?_ ?_)
 rw [List.take_length]
 refine aN (show ((m.take j).length + 1) * 104≤140737488355328 by rw [List.length_take]; omega) ?_
 refine aN (show ((m.take j++[(k,(⟨a.kind,a.n,a.f,a.s,a.l,a.e⟩:Val))]).length + (m.drop j).length) * 104≤140737488355328 by rw [List.length_append,List.length_take,List.length_drop,List.length_singleton]; omega) ?_
 have e:m.take j++[(k,(⟨a.kind,a.n,a.f,a.s,a.l,a.e⟩:Val))]++m.drop j = m.take j++(k,a)::m.drop j:=by rw [val_eta,List.append_assoc]; rfl
 exact congrArg (AV.rd .ent) e
theorem s_with (l:List Ent) (k:Str) (a:Val) (hl1:l.length≤100000000):PSpec Tryd.prog 62 [.rd .ent l,.s k,.agg (encVal a)] (.rd .ent (putE l k a)) :=
 pspec_of_VCs Γ_good Tryd.func62 rfl Tryd.call62 Tryd.results62 Tryd.ntmps62 (Nat.le_of_ble_eq_true rfl) (w_with l k a hl1) Γ_good
end
end Go.Proofs.YtfeniggadfkakaaDoor
end
section
namespace Go.Up
open Go.SX Go.Vl Go.Ut Go.Ck
theorem less_trans:∀ {a b c:Str},Op.bytesLess a b = true→Op.bytesLess b c = true→Op.bytesLess a c = true
 | _,[],[],_,h=>by simp [Op.bytesLess] at h
 | [],[],_::_,h,_=>by simp [Op.bytesLess] at h
 | _::_,[],_::_,h,_=>by simp [Op.bytesLess] at h
 | _,_::_,[],_,h=>by simp [Op.bytesLess] at h
 | [],_::_,_::_,_,_=>by simp [Op.bytesLess]
 | x::a,y::b,z::c,h1,h2=>by
  have ih:=@less_trans a b c
  simp only [Op.bytesLess,Bool.or_eq_true,decide_eq_true_eq,Bool.and_eq_true,beq_iff_eq] at h1 h2 ⊢
  rcases h1 with h1 | ⟨rfl,h1⟩
  ·rcases h2 with h2 | ⟨rfl,h2⟩
   ·exact .inl (UInt8.lt_trans h1 h2)
   ·exact .inl h1
  ·rcases h2 with h2 | ⟨rfl,h2⟩
   ·exact .inl h2
   ·exact .inr ⟨rfl,ih h1 h2⟩
def Rise (e:List Ent):Prop:=e.Pairwise fun p q=>Op.bytesLess p.1 q.1 = true
theorem orI_0 {a b:Int} (h:orI a b = 0):a = 0∧b = 0:=by
 by_cases c:a = 0
 ·subst c; rw [orI_zero] at h; exact ⟨rfl,h⟩
 ·rw [orI_ne c] at h; exact absurd h c
theorem ent_rise:∀ (e:List Ent) (q:Option Str),entF q e = 0→Rise e∧∀ k,q = some k→∀ p ∈ e,Op.bytesLess k p.1 = true
 | [],_,_=>⟨List.Pairwise.nil,fun _ _ p hp=>nomatch hp⟩
 | x::r,q,h=>by
  rw [entF] at h
  obtain ⟨h1,h2⟩:=orI_0 h
  obtain ⟨h3,h4⟩:=ent_rise r (some x.1) h2
  refine ⟨List.Pairwise.cons (fun p hp=>h4 x.1 rfl p hp) h3,fun k hk=>?_⟩
  subst hk
  have hx:Op.bytesLess k x.1 = true:=by
   unfold keyF at h1
   by_cases c:100 < x.1.length
   ·rw [if_pos c] at h1; exact absurd h1 (by decide)
   ·rw [if_neg c] at h1
    by_cases d:0≤bad x.1
    ·rw [if_pos d] at h1; exact absurd h1 (by decide)
    ·rw [if_neg d] at h1
     simp only at h1
     by_cases b:Op.bytesLess k x.1 = true
     ·exact b
     ·rw [if_neg b] at h1; exact absurd h1 (by decide)
  intro p hp
  rcases List.mem_cons.1 hp with rfl | hp
  ·exact hx
  ·exact less_trans hx (h4 x.1 rfl p hp)
theorem less_ne' {a b:Str} (h:Op.bytesLess a b = true):a≠b:=fun e=>by rw [e,less_irrefl] at h; cases h
theorem putE_set {e:List Ent} (hr:Rise e) {k:Str} {w:Val} {i:Nat} (hi:i < e.length) (hk:e[i].1 = k):putE e k w = e.set i (k,w):=by
 have hA:∀ p ∈ e.take i,Op.bytesLess p.1 k = true:=fun p hp=>by
  obtain ⟨j,hj,rfl⟩:=List.getElem_of_mem hp
  rw [List.length_take] at hj
  rw [List.getElem_take,← hk]
  exact List.pairwise_iff_getElem.1 hr j i (by omega) hi (by omega)
 have hB:∀ p ∈ e.drop (i + 1),Op.bytesLess k p.1 = true:=fun p hp=>by
  obtain ⟨j,hj,rfl⟩:=List.getElem_of_mem hp
  rw [List.length_drop] at hj
  rw [List.getElem_drop,← hk]
  exact List.pairwise_iff_getElem.1 hr i (i + 1 + j) hi (by omega) (by omega)
 have hw:withoutE e k = e.take i++e.drop (i + 1):=by
  have he:e = e.take i++e[i]::e.drop (i + 1):=by rw [← List.drop_eq_getElem_cons hi,List.take_append_drop]
  unfold withoutE
  conv=>lhs; rw [he]
  rw [List.filter_append,List.filter_cons]
  have h1:(e.take i).filter (fun p=>!keyIs k p) = e.take i:=List.filter_eq_self.2 fun p hp=>by
   simp only [keyIs,Bool.not_eq_true',beq_eq_false_iff_ne]
   exact less_ne' (hA p hp)
  have h2:(e.drop (i + 1)).filter (fun p=>!keyIs k p) = e.drop (i + 1):=List.filter_eq_self.2 fun p hp=>by
   simp only [keyIs,Bool.not_eq_true',beq_eq_false_iff_ne]
   exact (less_ne' (hB p hp)).symm
  have h3:(!keyIs k e[i]) = false:=by simp [keyIs,hk]
  rw [h1,h2,h3]
  rfl
 have hlen:(e.take i).length = i:=by rw [List.length_take]; omega
 have hf:(withoutE e k).findIdx (keyGt k) = i:=by
  rw [hw,List.findIdx_append]
  have h1:(e.take i).findIdx (keyGt k) = (e.take i).length:=List.findIdx_eq_length.2 fun p hp=>by
   simp [keyGt,hA p hp]
  rw [h1,hlen,if_neg (by omega)]
  cases hd:e.drop (i + 1) with
  | nil=>simp
  | cons q r =>
   have hq:=hB q (by rw [hd]; exact .head _)
   have hn:Op.bytesLess q.1 k = false:=by
    cases hh:Op.bytesLess q.1 k with
    | false=>rfl
    | true=>exact absurd (less_trans hq hh) (by rw [less_irrefl]; decide)
   have hne:(q.1 == k) = false:=beq_eq_false_iff_ne.2 (less_ne' hq).symm
   rw [List.findIdx_cons]
   simp [keyGt,hn,hne]
 unfold putE
 rw [hf,hw,List.take_append_of_le_length (by omega),List.take_of_length_le (by omega),List.drop_append_of_le_length (by omega),List.drop_of_length_le (by omega),List.nil_append,List.set_eq_take_append_cons_drop,if_pos hi]
def Fine (v:Val):Prop:=∃ a m,(chkV v a m).1 = 0
theorem chkL_fine:∀ (l:List Val) (a m:Int),(chkL l a m).1 = 0→∀ x ∈ l,Fine x
 | x::r,a,m,h,y,hy=>by
  rw [chkL] at h
  cases hx:chkV x a m with
  | mk e m' =>
   rw [hx] at h
   simp only at h
   by_cases c:e≠0
   ·rw [if_pos c] at h; exact absurd h c
   ·rw [if_neg c] at h
    rcases List.mem_cons.1 hy with rfl | hy
    ·exact ⟨a,m,by rw [hx]; simpa using c⟩
    ·exact chkL_fine r a m' h y hy
theorem fine_parts {v:Val} (h:Fine v):Rise v.e∧∀ x ∈ partsOf v,Fine x:=by
 obtain ⟨a,m,h⟩:=h
 rw [chkV_eq] at h
 split at h
 ·exact absurd (show (2:Int) = 0 from h) (by decide)
 ·split at h
  ·rename_i c; exact absurd h c
  ·rename_i c
   have c:oneF v a = 0:=by simpa using c
   exact ⟨(ent_rise v.e none (orI_0 c).2).1,chkL_fine _ _ _ h⟩
theorem fine_of_fault {v:Val} (h:faultV v = 0):Fine v:=by
 refine ⟨0,0,?_⟩
 unfold faultV at h
 rw [chkT] at h
 simp only at h
 cases hc:chkV v 0 0 with
 | mk e m =>
  rw [hc] at h
  simp only at h ⊢
  by_cases c:e = 0
  ·exact c
  ·rw [if_pos c] at h; exact absurd h c
end Go.Up
end
section
namespace Go.Up
open Go.SX Go.Vl Go.Ut Go.Ck
def rebV:Val→List PStep→Val→Val
 | _,[],c=>c
 | v,p::r,c =>
  if p.i < 0 then { v with e:=v.e.set (ixI v.e (keyIs p.key)).toNat ((v.e.getD (ixI v.e (keyIs p.key)).toNat ([],default)).1,rebV (partV v p).1 r c) }
  else { v with l:=v.l.set p.i.toNat (rebV (partV v p).1 r c) }
theorem ix_key {l:List Ent} {k:Str} (h:¬ ixI l (keyIs k) < 0):(l.getD (ixI l (keyIs k)).toNat ([],default)).1 = k:=by
 have hb:=ix_bound h
 rw [List.getD_eq_getElem?_getD,List.getElem?_eq_getElem hb.2.1]
 have e:(ixI l (keyIs k)).toNat = l.findIdx (keyIs k):=by
  unfold ixI at h ⊢
  split
  ·rfl
  ·rename_i c; rw [if_neg c] at h; omega
 have hlt:l.findIdx (keyIs k) < l.length:=by rw [← e]; exact hb.2.1
 have:=List.findIdx_getElem (w:=hlt) (xs:=l) (p:=keyIs k)
 simp only [e,Option.getD_some]
 exact eq_of_beq this
theorem partV_in {v:Val} {p:PStep} (h:(partV v p).2 = 0):(partV v p).1 ∈ partsOf v:=by
 unfold partV at h ⊢
 split
 ·rename_i c
  rw [if_pos c] at h
  split
  ·rename_i d; rw [if_pos d] at h; exact absurd h (by decide)
  ·rename_i d
   rw [if_neg d] at h
   split
   ·rename_i e; rw [if_pos e] at h; exact absurd h (by decide)
   ·rename_i e
    have hb:=(ix_bound e).2.1
    refine List.mem_append_right _ (List.mem_map.2 ⟨v.e[(ixI v.e (keyIs p.key)).toNat],List.getElem_mem hb,?_⟩)
    simp only
    rw [List.getD_eq_getElem?_getD,List.getElem?_eq_getElem hb]
    rfl
 ·rename_i c
  rw [if_neg c] at h
  split
  ·rename_i d; rw [if_pos d] at h; exact absurd h (by decide)
  ·rename_i d
   rw [if_neg d] at h
   split
   ·rename_i e; rw [if_pos e] at h; exact absurd h (by decide)
   ·rename_i e
    have hb:p.i.toNat < v.l.length:=by omega
    refine List.mem_append_left _ ?_
    simp only
    rw [List.getD_eq_getElem?_getD,List.getElem?_eq_getElem hb]
    exact List.getElem_mem hb
theorem part_ix {v:Val} {p:PStep} (h:(partV v p).2 = 0) (hp:p.i < 0):¬ ixI v.e (keyIs p.key) < 0:=by
 unfold partV at h
 rw [if_pos hp] at h
 by_cases c:v.kind≠6
 ·rw [if_pos c] at h; exact absurd h (by decide)
 ·rw [if_neg c] at h
  intro d
  rw [if_pos d] at h
  exact absurd h (by decide)
theorem set_reb {v:Val} (hf:Fine v) {p:PStep} (h:(partV v p).2 = 0) (r:List PStep) (c:Val):setAt v p (rebV (partV v p).1 r c) = rebV v (p::r) c:=by
 rw [rebV]
 unfold setAt
 by_cases hp:p.i < 0
 ·rw [if_pos hp,if_pos hp]
  have hx:=part_ix h hp
  have hb:=ix_bound hx
  have hk:=ix_key hx
  have hk2:v.e[(ixI v.e (keyIs p.key)).toNat].1 = p.key:=by
   rw [List.getD_eq_getElem?_getD,List.getElem?_eq_getElem hb.2.1] at hk
   exact hk
  rw [putE_set (fine_parts hf).1 hb.2.1 hk2,hk]
 ·rw [if_neg hp,if_neg hp]
theorem upd_set {o:OpR} (ho:o.kind = 1):∀ (p:List PStep) (v:Val),Fine v→(upV v p o).2 = (ledV v p).2∧((ledV v p).2 = 0→(upV v p o).1 = rebV v p o.v)
 | [],v,_=>by rw [upV,ledV,rebV]; exact ⟨rfl,fun _=>rfl⟩
 | x::r,v,hf=>by
  rw [upV,ledV,if_pos (.inl ho)]
  by_cases c:(partV v x).2≠0
  ·rw [if_pos c,if_pos c]
   exact ⟨rfl,fun h=>absurd h c⟩
  ·rw [if_neg c,if_neg c]
   have c:(partV v x).2 = 0:=by simpa using c
   obtain ⟨h1,h2⟩:=upd_set ho r (partV v x).1 ((fine_parts hf).2 _ (partV_in c))
   rw [h1]
   by_cases d:(ledV (partV v x).1 r).2≠0
   ·rw [if_pos d]
    exact ⟨rfl,fun h=>absurd h d⟩
   ·rw [if_neg d]
    have d:(ledV (partV v x).1 r).2 = 0:=by simpa using d
    refine ⟨d.symm,fun _=>?_⟩
    simp only
    rw [h2 d,set_reb hf c]
theorem upd_last {o : OpR} (ho : o.kind ≠ 1) (x : PStep) : ∀ (p : List PStep) (v : Val), Fine v →
  (upV v (p++[x]) o).2 = (if (ledV v p).2≠0 then (ledV v p).2 else (lastU (ledV v p).1 x o).2)∧((ledV v p).2 = 0→(lastU (ledV v p).1 x o).2 = 0→(upV v (p++[x]) o).1 = rebV v p (lastU (ledV v p).1 x o).1)
 | [],v,_=>by
  rw [List.nil_append,upV,ledV,rebV,if_neg (by simp [ho])]
  exact ⟨by simp,fun _ _=>rfl⟩
 | y::r,v,hf=>by
  rw [List.cons_append,upV,ledV,if_pos (.inr (by simp))]
  by_cases c:(partV v y).2≠0
  ·rw [if_pos c,if_pos c]
   exact ⟨by rw [if_pos c],fun h=>absurd h c⟩
  ·rw [if_neg c,if_neg c]
   have c:(partV v y).2 = 0:=by simpa using c
   obtain ⟨h1,h2⟩:=upd_last ho x r (partV v y).1 ((fine_parts hf).2 _ (partV_in c))
   by_cases d:(upV (partV v y).1 (r++[x]) o).2≠0
   ·rw [if_pos d]
    refine ⟨h1,fun e1 e2=>?_⟩
    rw [h1,e1,e2] at d
    exact absurd rfl d
   ·rw [if_neg d]
    have d:(upV (partV v y).1 (r++[x]) o).2 = 0:=by simpa using d
    refine ⟨by rw [← h1,d],fun e1 e2=>?_⟩
    simp only
    rw [h2 e1 e2,set_reb hf c]
def withinV (v:Val) (p:PStep) (o:OpR):Val × Int :=
 if (p.i < 0∧v.kind≠6)∨(¬ p.i < 0∧v.kind≠5)∨(¬ p.i < 0∧o.kind = 4) then (v,10)
 else if o.kind = 2∧p.i < 0∧0≤ixI v.e (keyIs p.key) then (v,9)
 else if o.kind = 2∧¬ p.i < 0∧(v.l.length:Int) < p.i then (v,8)
 else if o.kind = 4∧o.key≠p.key∧0≤ixI v.e (keyIs o.key) then (v,9)
 else if o.kind = 2 then (if p.i < 0 then ({ v with e:=putE v.e p.key o.v },0) else ({ v with l:=v.l.take p.i.toNat++o.v::v.l.drop p.i.toNat },0))
 else if o.kind = 3 then (if p.i < 0 then ({ v with e:=withoutE v.e p.key },0) else ({ v with l:=v.l.take p.i.toNat++v.l.drop (p.i.toNat + 1) },0))
 else ({ v with e:=putE (withoutE v.e p.key) o.key (v.e.getD (ixI v.e (keyIs p.key)).toNat ([],default)).2 },0)
theorem within_last {v:Val} {p:PStep} {o:OpR} (hk:o.kind = 2∨o.kind = 3∨o.kind = 4):lastU v p o = if o.kind≠2∧(partV v p).2≠0 then (v,(partV v p).2) else withinV v p o:=by
 unfold lastU withinV partV
 rcases hk with hk | hk | hk
 all_goals by_cases c:p.i < 0
 all_goals simp only [hk,c,if_true,if_false]
 all_goals by_cases d:v.kind = 6
 all_goals by_cases e:v.kind = 5
 all_goals by_cases f:ixI v.e (keyIs p.key) < 0
 all_goals by_cases g:(v.l.length:Int)≤p.i
 all_goals by_cases h:(v.l.length:Int) < p.i
 all_goals first | omega | simp [d,e,f,g,h]
end Go.Up
end
section
namespace Go.Proofs.YtfeniggadfkakaaDoor
open Go Go.SX Go.Ck Go.Vl Go.Ut Go.Up
set_option maxRecDepth 100000
set_option maxHeartbeats 1000000
def updA (a:Val) (l:List PStep) (o:OpR):AV:=.tup [.agg (encVal (upV a l o).1),.i .i64 (upV a l o).2]
theorem updA_eq {a w:Val} {l:List PStep} {o:OpR} {e:Int} (h:upV a l o = (w,e)):updA a l o = .tup [.agg (encVal w),.i .i64 e]:=by unfold updA; rw [h]
theorem part_lx {v:Val} {p:PStep} (h:(partV v p).2 = 0) (hp:¬ p.i < 0):p.i.toNat < v.l.length∧p.i < (v.l.length:Int):=by
 unfold partV at h
 rw [if_neg hp] at h
 by_cases c:v.kind≠5
 ·rw [if_pos c] at h; exact absurd h (by decide)
 ·rw [if_neg c] at h
  by_cases d:(v.l.length:Int)≤p.i
  ·rw [if_pos d] at h; exact absurd h (by decide)
  ·omega
section
variable [G:Globs]
theorem w_upd0 (a:Val) (o:OpR):vc Tryd.prog Γ 195 [1,3,5,6,7,8,9,10,11,12,13,14,15,18,31,39,51,56,82,83,86,91,93,109,130,133,138,163,168,182] (Tryd.f33.body.getD .skip) (postK Γ [.cell 6 26,.tmp 7] (fun v=>RL v (updA a [] o))) ⟨argSlots 0 [.agg (encVal a),.rd .pstep [],.agg (enc .op o)],[]⟩:=by
 intro _
 refine aN (fun _=>?_) (fun hq=>Bool.noConfusion hq)
 exact rL
theorem s_upd0 (a:Val) (o:OpR):PSpec Tryd.prog 33 [.agg (encVal a),.rd .pstep [],.agg (enc .op o)] (updA a [] o) :=
 pspec_of_vcL Γ_good Tryd.func33 rfl Tryd.call33 Tryd.results33 Tryd.ntmps33 (Nat.le_of_ble_eq_true rfl) (w_upd0 a o)
theorem w_upd1 (a:Val) (p:PStep) (r:List PStep) (o:OpR) (hp : -1≤p.i) (hn:VN 100000000 a) (ih:∀ w,VN 100000000 w→PSpec Tryd.prog 33 [.agg (encVal w),.rd .pstep r,.agg (enc .op o)] (updA w r o)):VCs Tryd.prog Γ 195 [1,3,5,6,7,8,9,10,11,12,13,14,15,18,31,39,51,56,82,83,86,91,93,109,130,133,138,163,168,182] (Tryd.f33.body.getD .skip) (postK Γ [.cell 6 26,.tmp 7] (fun v=>RL v (updA a (p::r) o))) ⟨argSlots 0 [.agg (encVal a),.rd .pstep (p::r),.agg (enc .op o)],[]⟩:=by
 have hnl:a.l.length≤100000000∧a.e.length≤100000000:=by cases hn with | mk _ h1 h2=>exact ⟨h1,h2⟩
 refine VCs.seq (by first | exact Γ_good | exact Ctx.good_kp Γ_good _) ?_
 refine VCs.seq (by first | exact Γ_good | exact Ctx.good_kp Γ_good _) ?_
 intro _
 refine aN (fun hq=>?_) (fun _=>?_)
 ·have:=eq_of_beq hq
  simp only [List.length_cons] at this
  omega
 refine VCs.seq (by first | exact Γ_good | exact Ctx.good_kp Γ_good _) ?_
 refine aN ⟨by omega,by simp only [List.length_cons]; omega⟩ ?_
 refine VCs.seqS ?_
 refine VCs.cut (by first | exact Γ_good | exact Ctx.good_kp Γ_good _) Unit (fun _=>True) (fun _=>⟨[(1,.rd .pstep (p::r)),(3,.pt 3 0),(5,.pt 5 0),(6,.pt 6 0),(7,.i .i64 0),(8,.pt 8 0),(31,.b (decide (o.kind = 1∨r≠[])))],[(3,encVal a),(5,enc .op o),(6,[.i .i64 0,.i .i64 0,.i .u64 0,.s [],.nl,.nl]),(8,enc .pstep p)]⟩) ?_ ?_
 ·have hr : (1 < (((p :: r).length : Nat) : Int)) ↔ r ≠ [] := by
   cases r with
   | nil=>simp
   | cons _ _=>simp only [List.length_cons]; constructor<;>intro<;>first | omega | simp
  (repeat' (first | (refine aN (fun h=>?_) (fun h=>?_)<;>(try simp [-List.getD_eq_getElem?_getD,-Int.pred_toNat] at h)<;>(try (exfalso; first | omega | contradiction))) | refine bX ?_ | intro _))
  all_goals refine eX () (aN trivial ?_)
  all_goals (repeat' (first | exact wA | exact Or.inl ((congrArg AV.b (by (rw [Bool.eq_iff_iff]; (try simp only [beq_iff_eq,bne_iff_ne,beq_eq_false_iff_ne,bne_eq_false_iff_eq,decide_eq_true_eq,decide_eq_false_iff_not,Bool.not_eq_true',Bool.not_eq_false',Bool.not_true,Bool.not_false,ne_eq,Decidable.not_not,gt_iff_lt,ge_iff_le,Int.not_lt,Int.not_le,Bool.cond_true,Bool.cond_false,cond_true,cond_false,Int.reduceBNe,Int.reduceBEq,Int.reduceLT,Int.reduceLE,Int.reduceEq,Int.reduceNe,not_true_eq_false,not_false_eq_true,Bool.false_eq_true,Bool.true_eq_false,reduceCtorEq,Bool.and_eq_true,Bool.or_eq_true,Bool.and_eq_false_iff,Bool.or_eq_false_iff,Bool.true_and,Bool.and_true,Bool.false_and,Bool.and_false,Bool.or_false,Bool.false_or,Bool.or_true,Bool.true_or,bne_iff_ne,List.length_pos_iff,Int.natCast_pos,Int.ofNat_lt,Int.ofNat_le] at *); first | done | omega | grind)))) | refine aN ?_ ?_))
 intro _ _
 refine VCs.cond rfl (fun h=>?_) (fun h=>?_)
 ·have hA:o.kind = 1∨r≠[]:=of_decide_eq_true h
  have hu:upV a (p::r) o = if (partV a p).2≠0 then (a,(partV a p).2) else if (upV (partV a p).1 r o).2≠0 then (a,(upV (partV a p).1 r o).2) else (setAt a p (upV (partV a p).1 r o).1,0):=by rw [upV,if_pos hA]
  refine VCs.of_vc (by first | exact Γ_good | exact Ctx.good_kp Γ_good _) ?_
  refine Or.inl (eX _ (aN (s_partOf a p hp) ?_))
  refine aN (fun hq=>?_) (fun hq=>?_)
  ·have hq:(partV a p).2≠0:=by simpa using hq
   rw [if_pos hq] at hu
   rw [updA_eq hu]
   exact rL
  have hq:¬ (partV a p).2≠0:=by simpa using hq
  rw [if_neg hq] at hu
  have hw:VN 100000000 (partV a p).1:=vn_part hn (partV_in (by simpa using hq))
  have hr:PSpec Tryd.prog 33 [.agg (encVal (partV a p).1),.rd .pstep (((p::r).take (Int.toNat ((p::r).length:Int))).drop (Int.toNat 1)),.agg (enc .op o)] (updA (partV a p).1 r o):=by
   rw [tail_eq]; exact ih _ hw
  refine eX [.blk [0,1,2,3,4,5],.take 6,.take 7,.one 8,.take 9] (aN (by kernel_rfl) ?_)
  refine aN ⟨by omega,by simp only [List.length_cons]; omega,by simp only [List.length_cons]; omega⟩ ?_
  refine eX _ (aN (hr) ?_)
  refine aN (fun hq2=>?_) (fun hq2=>?_)
  ·have hq2:(upV (partV a p).1 r o).2≠0:=by simpa using hq2
   rw [if_pos hq2] at hu
   rw [updA_eq hu]
   exact rL
  have hq2:¬ (upV (partV a p).1 r o).2≠0:=by simpa using hq2
  rw [if_neg hq2] at hu
  rw [updA_eq hu]
  refine aN (fun hi=>?_) (fun hi=>?_)
  ·have hi:p.i < 0:=by have:=eq_of_beq hi; omega
   refine Or.inl (eX _ (aN (s_with a.e p.key (upV (partV a p).1 r o).1 hnl.2) ?_))
   rw [setAt,if_pos hi]
   exact rL
  ·have hi:¬ p.i < 0:=by have:=ne_of_beq_false hi; omega
   have hx:=part_lx (by simpa using hq) hi
   rw [setAt,if_neg hi]
   refine aN (show a.l.length * 88≤140737488355328 by omega) ?_
   refine bN2 ?_
   (repeat' (first | exact wA | exact Or.inl (congrArg (fun w=>AV.rd .val (a.l.set p.i.toNat w)) (val_eta _)) | exact Or.inr ⟨rfl,_,rfl⟩ | refine aN ?_ ?_))
 ·have hA:¬ (o.kind = 1∨r≠[]):=of_decide_eq_false h
  have hr0:r = []:=by
   cases r with
   | nil=>rfl
   | cons _ _=>exact absurd (.inr (by simp)) hA
  subst hr0
  have hu:upV a [p] o = lastU a p o:=by rw [upV,if_neg hA]
  rw [show updA a [p] o = .tup [.agg (encVal (lastU a p o).1),.i .i64 (lastU a p o).2] from updA_eq hu]
  refine VCs.of_vc (by first | exact Γ_good | exact Ctx.good_kp Γ_good _) ?_
  refine VCs.of_vc (by first | exact Γ_good | exact Ctx.good_kp Γ_good _) ?_
  refine Or.inl (eX _ (aN (s_partOf a p hp) ?_))
  refine aN (fun hk=>?_) (fun hk=>?_)
  ·have hk:o.kind = 2:=eq_of_beq hk
   unfold lastU
   rw [if_pos hk]
   refine aN (fun hq=>?_) (fun hq=>?_)
   ·have hq:(partV a p).2 = 10:=eq_of_beq hq
    rw [if_pos hq,hq]
    exact rL
   have hq:¬ (partV a p).2 = 10:=ne_of_beq_false hq
   rw [if_neg hq]
   refine aN (fun hi=>?_) (fun hi=>?_)
   ·have hi:p.i < 0:=by have:=eq_of_beq hi; omega
    rw [if_pos hi]
    refine aN (fun hz=>?_) (fun hz=>?_)
    ·rw [if_pos (eq_of_beq hz)]
     exact rL
    rw [if_neg (ne_of_beq_false hz)]
    refine Or.inl (eX _ (aN (s_with a.e p.key o.v hnl.2) ?_))
    exact rL
   have hi:¬ p.i < 0:=by have:=ne_of_beq_false hi; omega
   rw [if_neg hi]
   intro _
   refine aN (fun hz=>?_) (fun hz=>?_)
   ·rw [if_pos (of_decide_eq_true hz)]
    exact rL
   have hz:¬ (a.l.length:Int) < p.i:=of_decide_eq_false hz
   rw [if_neg hz]
   refine aN ⟨by omega,by omega,by omega⟩ ?_
   have hlt:((a.l.take p.i.toNat).drop (Int.toNat 0)).length≤a.l.length:=by rw [List.length_drop,List.length_take]; omega
   refine aN (show ((a.l.take p.i.toNat).drop (Int.toNat 0)).length * 88≤140737488355328 by omega) ?_
   refine eX [.take 0,.take 1,.take 5,.take 7,.tree 6 [2,3,4,6,8,9] (.opt 2 (.opt 3 (.opt 4 (.opt 6 (.opt 8 (.opt 9 .fin .non) .non) (.opt 8 (.opt 6 (.opt 9 .fin .non) .non) .non)) (.opt 6 (.opt 4 (.opt 8 (.opt 9 .fin .non) .non) (.opt 8 (.opt 4 (.opt 9 .fin .non) (.opt 9 (.opt 4 .fin .non) .non)) .non)) (.opt 8 (.opt 4 (.opt 6 (.opt 9 .fin .non) .non) (.opt 6 (.opt 4 (.opt 9 .fin .non) (.opt 9 (.opt 4 .fin .non) .non)) .non)) .non))) (.opt 6 (.opt 3 (.opt 4 (.opt 8 (.opt 9 .fin .non) .non) (.opt 8 (.opt 4 (.opt 9 .fin .non) (.opt 9 (.opt 4 .fin .non) .non)) .non)) (.opt 8 (.opt 3 (.opt 4 (.opt 9 .fin .non) (.opt 9 (.opt 4 .fin .non) .non)) (.opt 9 (.opt 3 (.opt 4 .fin .non) .non) .non)) .non)) (.opt 8 (.opt 3 (.opt 4 (.opt 6 (.opt 9 .fin .non) .non) (.opt 6 (.opt 4 (.opt 9 .fin .non) (.opt 9 (.opt 4 .fin .non) .non)) .non)) (.opt 6 (.opt 3 (.opt 4 (.opt 9 .fin .non) (.opt 9 (.opt 4 .fin .non) .non)) (.opt 9 (.opt 3 (.opt 4 .fin .non) .non) .non)) .non)) .non))) (.opt 6 (.opt 2 (.opt 3 (.opt 4 (.opt 8 (.opt 9 .fin .non) .non) (.opt 8 (.opt 4 (.opt 9 .fin .non) (.opt 9 (.opt 4 .fin .non) .non)) .non)) (.opt 8 (.opt 3 (.opt 4 (.opt 9 .fin .non) (.opt 9 (.opt 4 .fin .non) .non)) (.opt 9 (.opt 3 (.opt 4 .fin .non) .non) .non)) .non)) (.opt 8 (.opt 2 (.opt 3 (.opt 4 (.opt 9 .fin .non) (.opt 9 (.opt 4 .fin .non) .non)) (.opt 9 (.opt 3 (.opt 4 .fin .non) .non) .non)) (.opt 9 (.opt 2 (.opt 3 (.opt 4 .fin .non) .non) .non) .non)) .non)) (.opt 8 (.opt 2 (.opt 3 (.opt 4 (.opt 6 (.opt 9 .fin .non) .non) (.opt 6 (.opt 4 (.opt 9 .fin .non) (.opt 9 (.opt 4 .fin .non) .non)) .non)) (.opt 6 (.opt 3 (.opt 4 (.opt 9 .fin .non) (.opt 9 (.opt 4 .fin .non) .non)) (.opt 9 (.opt 3 (.opt 4 .fin .non) .non) .non)) .non)) (.opt 6 (.opt 2 (.opt 3 (.opt 4 (.opt 9 .fin .non) (.opt 9 (.opt 4 .fin .non) .non)) (.opt 9 (.opt 3 (.opt 4 .fin .non) .non) .non)) (.opt 9 (.opt 2 (.opt 3 (.opt 4 .fin .non) .non) .non) .non)) .non)) .non))),.one 10,.take 11,.one 12] (aN (by kernel_rfl) ?_)
   have o1:(((a.l.take p.i.toNat).drop (Int.toNat 0)).length + 1) * 88≤140737488355328:=by omega
   have o2:(0:Int)≤p.i∧p.i≤(a.l.length:Int)∧(a.l.length:Int)≤(a.l.length:Int):=⟨by omega,by omega,by omega⟩
   refine eX ⟨[(3,.pt 3 0),(6,.pt 6 0),(7,.i .i64 0),(121,.vec 121 .val ((a.l.take p.i.toNat).drop (Int.toNat 0)++[(⟨o.v.kind,o.v.n,o.v.f,o.v.s,o.v.l,o.v.e⟩:Val)])),(126,.rd .val ((a.l.take (Int.toNat (a.l.length:Int))).drop p.i.toNat))],[(3,encVal a),(6,[.i .i64 0,.i .i64 0,.i .u64 0,.s [],.nl,.nl])]⟩ (aN ?_ ?_)
   ·repeat' (first | exact trivial | exact Or.inl rfl | exact o1 | exact o2 | refine aN ?_ ?_)
   have ed:(a.l.take (Int.toNat (a.l.length:Int))).drop p.i.toNat = a.l.drop p.i.toNat:=by rw [Int.toNat_natCast,List.take_length]
   have el:(a.l.take p.i.toNat).drop (Int.toNat 0) = a.l.take p.i.toNat:=rfl
   rw [ed,el,val_eta]
   refine aN (show ((a.l.take p.i.toNat++[o.v]).length + (a.l.drop p.i.toNat).length) * 88≤140737488355328 by rw [List.length_append,List.length_take,List.length_drop]; simp only [List.length_cons,List.length_nil]; omega) ?_
   have ec:a.l.take p.i.toNat++[o.v]++a.l.drop p.i.toNat = a.l.take p.i.toNat++o.v::a.l.drop p.i.toNat:=by rw [List.append_assoc]; rfl
   (repeat' (first | exact wA | exact Or.inl (congrArg (AV.rd .val) ec) | exact Or.inr ⟨rfl,_,rfl⟩ | refine aN ?_ ?_))
  ·have hk:¬ o.kind = 2:=ne_of_beq_false hk
   unfold lastU
   rw [if_neg hk]
   refine aN (fun h3=>?_) (fun h3=>?_)
   ·have h3:o.kind = 3:=eq_of_beq h3
    refine aN (fun hq=>?_) (fun hq=>?_)
    ·have hq:(partV a p).2≠0:=by simpa using hq
     rw [if_pos hq]
     exact rL
    have hq:¬ (partV a p).2≠0:=by simpa using hq
    rw [if_neg hq,if_pos h3]
    refine aN (fun hi=>?_) (fun hi=>?_)
    ·have hi:p.i < 0:=by have:=eq_of_beq hi; omega
     rw [if_pos hi]
     refine Or.inl (eX _ (aN (s_wout a.e p.key hnl.2) ?_))
     exact rL
    have hi:¬ p.i < 0:=by have:=ne_of_beq_false hi; omega
    rw [if_neg hi]
    have hx:=part_lx (by simpa using hq) hi
    refine aN ⟨by omega,by omega,by omega⟩ ?_
    have hlt:((a.l.take p.i.toNat).drop (Int.toNat 0)).length≤a.l.length:=by rw [List.length_drop,List.length_take]; omega
    refine aN (show ((a.l.take p.i.toNat).drop (Int.toNat 0)).length * 88≤140737488355328 by omega) ?_
    (refine rNG ?_)
    refine aN ⟨by omega,by omega,by omega⟩ ?_
    have ed:(a.l.take (Int.toNat (a.l.length:Int))).drop (Int.toNat (p.i + 1)) = a.l.drop (p.i.toNat + 1):=by rw [Int.toNat_natCast,List.take_length,show Int.toNat (p.i + 1) = p.i.toNat + 1 from by omega]
    have el:(a.l.take p.i.toNat).drop (Int.toNat 0) = a.l.take p.i.toNat:=rfl
    rw [ed,el]
    refine aN (show ((a.l.take p.i.toNat).length + (a.l.drop (p.i.toNat + 1)).length) * 88≤140737488355328 by rw [List.length_take,List.length_drop]; omega) ?_
    exact rL
   ·have h3:¬ o.kind = 3:=ne_of_beq_false h3
    refine aN (fun hq=>?_) (fun hq=>?_)
    ·have hq:(partV a p).2≠0:=by simpa using hq
     rw [if_pos hq]
     exact rL
    have hq:¬ (partV a p).2≠0:=by simpa using hq
    rw [if_neg hq,if_neg h3]
    refine aN (fun hi=>?_) (fun hi=>?_)
    · have hi : ¬ p.i < 0 := by have : p.i ≠ -1 := by simpa using hi
                                omega
      rw [if_pos hi]
      exact rL
    have hi : ¬ ¬ p.i < 0 := by have : p.i = -1 := by simpa using hi
                                omega
    rw [if_neg hi]
    have hdr:(withoutE a.e p.key).length≤100000000:=Nat.le_trans (List.length_filter_le _ _) hnl.2
    have fin:∀ Q:Prop,Q→Q:=fun _ h=>h
    refine aN (fun hz=>?_) (fun hz=>?_)
    ·have hz:o.key≠p.key:=by simpa using hz
     refine Or.inl (eX _ (aN (s_entAt a.e o.key) ?_))
     refine aN (fun hy=>?_) (fun hy=>?_)
     ·rw [if_pos ⟨hz,of_decide_eq_true hy⟩]
      exact rL
     ·rw [if_neg (fun h=>absurd h.2 (of_decide_eq_false hy))]
      refine eX [.blk [0,1,2,3,4,5,6,7,8,9],.one 10] (aN (by kernel_rfl) ?_)
      refine eX _ (aN (s_wout a.e p.key hnl.2) ?_)
      refine eX _ (aN (s_with (withoutE a.e p.key) o.key (partV a p).1 hdr) ?_)
      exact rL
    ·have hz:¬ o.key≠p.key:=by simpa using hz
     refine aN (fun hy=>Bool.noConfusion hy) (fun _=>?_)
     rw [if_neg (fun h=>absurd h.1 hz)]
     refine eX [.blk [0,1,2,3,4,5,6,7,8,9],.one 10] (aN (by kernel_rfl) ?_)
     refine eX _ (aN (s_wout a.e p.key hnl.2) ?_)
     refine eX _ (aN (s_with (withoutE a.e p.key) o.key (partV a p).1 hdr) ?_)
     exact rL
theorem s_upd1 (a:Val) (p:PStep) (r:List PStep) (o:OpR) (hp : -1≤p.i) (hn:VN 100000000 a) (ih:∀ w,VN 100000000 w→PSpec Tryd.prog 33 [.agg (encVal w),.rd .pstep r,.agg (enc .op o)] (updA w r o)):PSpec Tryd.prog 33 [.agg (encVal a),.rd .pstep (p::r),.agg (enc .op o)] (updA a (p::r) o) :=
 pspec_of_VCsL Γ_good Tryd.func33 rfl Tryd.call33 Tryd.results33 Tryd.ntmps33 (Nat.le_of_ble_eq_true rfl) (w_upd1 a p r o hp hn ih) Γ_good
theorem s_upd:∀ (l:List PStep) (a:Val) (o:OpR),(∀ p ∈ l,-1≤p.i)→VN 100000000 a→PSpec Tryd.prog 33 [.agg (encVal a),.rd .pstep l,.agg (enc .op o)] (updA a l o)
 | [],a,o,_,_=>s_upd0 a o
 | p::r,a,o,h,hn=>s_upd1 a p r o (h p (.head _)) hn fun w hw=>s_upd r w o (fun q hq=>h q (.tail _ hq)) hw
end
end Go.Proofs.YtfeniggadfkakaaDoor
end
section
namespace Go.SX
open Go.RowKit Go.WideShapes Go.ChangeShapes Go.Deep
structure BulkS {H:Type} (bk:DataW H→Nat):Prop where
 sl:∀ els rest,(els.map bk).sum + 1≤bk (.slice els rest)
 ag:∀ ds,(ds.map bk).sum + 1≤bk (.agg ds)
 st:∀ b,b.length + 1≤bk (.lit (.string b))
 pos:∀ d,1≤bk d
/-! the bulk of a value -/
mutual
def bkV:Val→Nat
 | ⟨_,_,_,s,l,e⟩=>s.length + bkL l + bkE e + 7
def bkL:List Val→Nat
 | []=>0
 | x::xs=>bkV x + bkL xs
def bkE:List (Str × Val)→Nat
 | []=>0
 | x::xs=>bkP x + bkE xs
def bkP:Str × Val→Nat
 | (k,x)=>k.length + bkV x + 2
end
theorem bkL_sum (l:List Val):bkL l = (l.map bkV).sum:=by
 induction l with
 | nil=>rfl
 | cons x r ih=>rw [bkL,List.map_cons,List.sum_cons,ih]
theorem bkE_sum (l:List (Str × Val)):bkE l = (l.map bkP).sum:=by
 induction l with
 | nil=>rfl
 | cons x r ih=>rw [bkE,List.map_cons,List.sum_cons,ih]
theorem bkV_eq (v:Val):bkV v = v.s.length + (v.l.map bkV).sum + (v.e.map bkP).sum + 7:=by
 cases v
 rw [bkV,bkL_sum,bkE_sum]
theorem bkP_eq (p:Str × Val):bkP p = p.1.length + bkV p.2 + 2:=by
 cases p
 rw [bkP]
theorem sum_mem {α:Type} {m:α→Nat}:∀ {l:List α} {x:α},x ∈ l→m x≤(l.map m).sum
 | y::r,x,h=>by
  rw [List.map_cons,List.sum_cons]
  rcases List.mem_cons.1 h with rfl | h
  ·omega
  ·have:=sum_mem (m:=m) h
   omega
theorem sum_len {α:Type} {m:α→Nat} (h1:∀ x,1≤m x):∀ l:List α,l.length≤(l.map m).sum
 | []=>Nat.zero_le _
 | x::r=>by
  have:=sum_len h1 r
  have:=h1 x
  rw [List.map_cons,List.sum_cons,List.length_cons]
  omega
theorem sum_le2 {α β:Type} {m:α→Nat} {k:β→Nat}:∀ {l:List α} {r:List β},l.length = r.length→(∀ (i:Nat) x y,l[i]? = some x→r[i]? = some y→m x≤k y)→(l.map m).sum≤(r.map k).sum
 | [],_,_,_=>Nat.zero_le _
 | x::l,[],h,_=>nomatch h
 | x::l,y::r,h,hh=>by
  have h1:=hh 0 x y rfl rfl
  have h2:=sum_le2 (m:=m) (k:=k) (l:=l) (r:=r) (by simpa using h) (fun i a b ha hb=>hh (i + 1) a b (by simpa using ha) (by simpa using hb))
  rw [List.map_cons,List.sum_cons,List.map_cons,List.sum_cons]
  omega
theorem bkV_pos (v:Val):1≤bkV v:=by rw [bkV_eq]; omega
theorem bkP_pos (p:Str × Val):1≤bkP p:=by rw [bkP_eq]; omega
theorem bkV_mem {v x:Val} (h:x ∈ v.l):bkV x < bkV v:=by
 have:=sum_mem (m:=bkV) h
 rw [bkV_eq v]
 omega
theorem bkV_ent {v:Val} {p:Str × Val} (h:p ∈ v.e):bkV p.2 + p.1.length < bkV v:=by
 have:=sum_mem (m:=bkP) h
 rw [bkP_eq] at this
 rw [bkV_eq v]
 omega
theorem bkV_len (v:Val):v.s.length + v.l.length + v.e.length < bkV v:=by
 have h1:=sum_len (m:=bkV) bkV_pos v.l
 have h2:=sum_len (m:=bkP) bkP_pos v.e
 rw [bkV_eq v]
 omega
section
variable [Globs]
variable {H:Type} {encH:TypeId × Value→H} {P:Program} {W:World} {sp:Nat→Bool} {hd:Bool} {O:Nat→Prop} {bk:DataW H→Nat}
theorem arg_sliceS {t e : TypeId} {τ : Ty} {m : den τ → Nat} {R : den τ → Prop} (hbk : BulkS bk) (hO : ∀ k, ¬ O k) (ht : P.underlying t = some (.slice e)) (hc : P.cellsOf e = esz τ) {fuel : Nat}
  (hel:∀ n,n < fuel→∀ (cs:List Value) (x:DataW H × List MemPlace),DataW.trod encH P W 0 sp hd n e cs = some x→∃ y:den τ,All2 (Im O W) (enc τ y) cs∧m y≤bk x.1∧R y)
  {cs:List Value} {x:DataW H × List MemPlace} (h:DataW.trod encH P W 0 sp hd fuel t cs = some x):∃ (l:List (den τ)) (v:Value),cs = [v]∧Im O W (.rd τ l) v∧(l.map m).sum + 1≤bk x.1∧∀ y ∈ l,R y:=by
 rcases DataW.trod_slice ht h with ⟨rfl,rfl⟩ | ⟨a,len,cap,elems,rest,n,rfl,rfl,rfl,hb,hlc,hcm,hlen,hall,_,_⟩
 ·exact ⟨[],_,rfl,.rd0 τ none 0 (Nat.zero_le _),by simpa using hbk.pos _,fun y hy=>nomatch hy⟩
 by_cases h0:len = 0
 ·subst h0; exact ⟨[],_,rfl,.rd0 τ _ _ hcm,by simpa using hbk.pos _,fun y hy=>nomatch hy⟩
 have hall:∀ i,i < len→∃ (us:List Value) (y:DataW H × List MemPlace),W.cells? 0 (a.add (i * P.cellsOf e)) (P.cellsOf e) = some us∧DataW.trod encH P W 0 sp hd n e us = some y∧elems[i]? = some y:=fun i hi=>by
  have:=hall i hi
  rw [List.getElem?_eq_getElem (by omega)] at this
  obtain ⟨us,h1,h2⟩:=Option.bind_eq_some_iff.1 this
  exact ⟨us,_,h1,h2,List.getElem?_eq_getElem _⟩
 have hch:∀ i,i < len→∃ (y:den τ) (us:List Value),(All2 (Im O W) (enc τ y) us∧(∀ d,elems[i]? = some d→m y≤bk d.1)∧R y)∧us.length = esz τ∧∀ (j:Nat) v,us[j]? = some v→W.cell? ⟨a.block,a.off + (i * esz τ + j),none⟩ = some v:=by
  intro i hi
  obtain ⟨us,yy,h1,h2,hm⟩:=hall i hi
  obtain ⟨y,hy⟩:=hel n (Nat.lt_succ_self n) _ _ h2
  rw [hc] at h1
  obtain ⟨h3,h4⟩:=cells_get h1
  refine ⟨y,us,⟨hy.1,fun d hd=>?_,hy.2.2⟩,h3,fun j v hv=>?_⟩
  ·rw [hm] at hd
   injection hd with hd
   subst hd
   exact hy.2.1
  have h5:=h4 j v hv
  have hs:∀ j v,us[j]? = some v→((a.add (i * esz τ)).add j).spot = none:=fun j v hv=>World.cell?_spot (h4 j v hv)
  have hpos:=esz_pos τ
  have h00:(a.add (i * esz τ)).spot = none:=by
   have:=hs 0 (us[0]'(by omega)) (List.getElem?_eq_getElem _)
   simpa [Addr.add] using this
  have e1:=add_of h00
  rw [e1] at h5
  rw [add_none] at h5
  rw [← h5,Nat.add_assoc]
 have ys:∃ l:List (den τ),l.length = len∧∀ (i:Nat) y,l[i]? = some y→∃ us:List Value,(All2 (Im O W) (enc τ y) us∧(∀ d,elems[i]? = some d→m y≤bk d.1)∧R y)∧∀ (j:Nat) v,us[j]? = some v→W.cell? ⟨a.block,a.off + (i * esz τ + j),none⟩ = some v:=by
  have hch':=fun (i:Fin len)=>hch i.1 i.2
  refine ⟨List.ofFn fun i:Fin len=>Classical.choose (hch' i),by simp,fun i y hy=>?_⟩
  have hi:i < len:=by have:=(List.getElem?_eq_some_iff.1 hy).1; simpa using this
  rw [List.getElem?_ofFn,dif_pos hi] at hy
  injection hy with hy
  subst hy
  obtain ⟨us,h1,_,h2⟩:=Classical.choose_spec (hch' ⟨i,hi⟩)
  exact ⟨us,h1,h2⟩
 obtain ⟨l,hll,hl⟩:=ys
 refine ⟨l,_,rfl,?_,?_,fun y hy=>?_⟩
 rotate_left
 ·have h1:=hbk.sl (elems.map (·.1)) (rest.map (·.1))
  have h2:(l.map m).sum≤((elems.map (·.1)).map bk).sum:=sum_le2 (by rw [List.length_map]; omega) fun i y d hy hd=>by
   obtain ⟨us,h3,_⟩:=hl i y hy
   rw [List.getElem?_map,Option.map_eq_some_iff] at hd
   obtain ⟨d',hd',rfl⟩:=hd
   exact h3.2.1 d' hd'
  exact Nat.le_trans (Nat.succ_le_succ h2) h1
 ·obtain ⟨i,hi,rfl⟩:=List.getElem_of_mem hy
  obtain ⟨us,h1,_⟩:=hl i _ (List.getElem?_eq_getElem hi)
  exact h1.2.2
 have hane:a = ⟨a.block,a.off,none⟩:=by
  obtain ⟨us',yy,h1,h2,_⟩:=hall 0 (by omega)
  have hpos:=esz_pos τ
  rw [hc] at h1
  obtain ⟨h5,h6⟩:=cells_get h1
  have:=World.cell?_spot (h6 0 (us'[0]'(by omega)) (List.getElem?_eq_getElem _))
  simp [Addr.add] at this
  obtain ⟨b,o,s⟩:=a
  simp only at this
  subst this
  rfl
 rw [hane,← hll]
 refine .rd τ l a.block a.off cap (fun i j=>(W.cell? ⟨a.block,a.off + (i * esz τ + j),none⟩).getD undef) (hO _) (by omega) hcm (fun e=>h0 (by rw [← hll,e]; rfl)) (fun i y j av hy hav=>?_) (fun i y j av hy hav=>?_)
 ·obtain ⟨us,h1,h2⟩:=hl i y hy
  have hj:j < us.length:=by rw [← h1.1.1]; exact (List.getElem?_eq_some_iff.1 hav).1
  rw [h2 j _ (List.getElem?_eq_getElem hj)]; rfl
 ·obtain ⟨us,h1,h2⟩:=hl i y hy
  have hj:j < us.length:=by rw [← h1.1.1]; exact (List.getElem?_eq_some_iff.1 hav).1
  rw [h2 j _ (List.getElem?_eq_getElem hj)]
  exact h1.1.2 j av _ hav (List.getElem?_eq_getElem hj)
theorem one_fieldS {t : TypeId} {fs : Array Field} {fuel : Nat} {cs : List Value} {x : DataW H × List MemPlace} (ht : P.underlying t = some (.struct fs)) (h : DataW.trod encH P W 0 sp hd fuel t cs = some x) :
  ∃ (n:Nat) (ds:List (DataW H)),fuel = n + 1∧cs.length = P.cellsOf t∧x.1 = .agg ds∧ds.length = fs.size∧∀ (i off:Nat) (t':TypeId),HasF fs i off t'→∃ y,DataW.trod encH P W 0 sp hd n t' ((cs.drop off).take (P.cellsOf t')) = some y∧ds[i]? = some y.1:=by
 obtain ⟨xs,n,hn,rfl,h1,h2,h3⟩:=DataW.trod_struct ht h
 refine ⟨n,xs.map (·.1),hn,h1,rfl,by rw [List.length_map]; exact h2,fun i off t' hf=>?_⟩
 obtain ⟨f,hf,rfl,rfl⟩:=hf
 have hi:i < xs.length:=by rw [h2]; exact (Array.getElem?_eq_some_iff.1 hf).1
 rw [h3 i f hf,List.getElem?_eq_getElem hi]
 exact ⟨_,rfl,by rw [List.getElem?_map,List.getElem?_eq_getElem hi]; rfl⟩
theorem arg_strS (hbk:BulkS bk) {t:TypeId} {fuel:Nat} {cs:List Value} {x:DataW H × List MemPlace} (ht:P.underlying t = some .string) (h:DataW.trod encH P W 0 sp hd fuel t cs = some x):∃ (l:Str) (v:Value),cs = [v]∧Im O W (.s l) v∧l.length + 1≤bk x.1:=by
 obtain ⟨s,h1,h3,h2⟩:=DataW.trod_string ht h
 refine ⟨s.data.toList,.string s,h1,?_,?_⟩
 ·have:=Im.s (O:=O) (w:=W) s.data.toList (by rw [Array.length_toList]; exact h2)
  simpa using this
 ·rw [h3]; exact hbk.st _
theorem arg_valS {V:TypeId} (hbk:BulkS bk) (T:VTy P V) (hs:T.fs.size = 6) (hs2:T.gs.size = 2) (hO:∀ k,¬ O k):∀ (fuel:Nat) (cs:List Value) (x:DataW H × List MemPlace),DataW.trod encH P W 0 sp hd fuel V cs = some x→∃ y:Val,All2 (Im O W) (encVal y) cs∧bkV y≤bk x.1∧VB y:=by
 intro fuel
 induction fuel using Nat.strongRecOn with
 | _ fuel ih =>
 intro cs x h
 obtain ⟨n,ds,rfl,hl,hag,hds,hf⟩:=one_fieldS T.hV h
 rw [T.cV] at hl
 rw [hs] at hds
 obtain ⟨c0,c1,c2,c3,c4,c5⟩:=T.c
 match cs,hl,ds,hds with
 | [u0,u1,u2,u3,u4,u5],_,[d0,d1,d2,d3,d4,d5],_ =>
  obtain ⟨y0,q0,k0⟩:=hf 0 0 _ T.h0
  obtain ⟨y1,q1,k1⟩:=hf 1 1 _ T.h1
  obtain ⟨y2,q2,k2⟩:=hf 2 2 _ T.h2
  obtain ⟨y3,q3,k3⟩:=hf 3 3 _ T.h3
  obtain ⟨y4,q4,k4⟩:=hf 4 4 _ T.h4
  obtain ⟨y5,q5,k5⟩:=hf 5 5 _ T.h5
  simp only [List.getElem?_cons_zero,List.getElem?_cons_succ,Option.some.injEq] at k0 k1 k2 k3 k4 k5
  subst k0 k1 k2 k3 k4 k5
  rw [c0] at q0
  rw [c1] at q1
  rw [c2] at q2
  rw [c3] at q3
  rw [c4] at q4
  rw [c5] at q5
  obtain ⟨k,e0,i0,w0⟩:=arg_int (O:=O) T.uK q0
  obtain ⟨m,e1,i1,w1⟩:=arg_int (O:=O) T.uN q1
  obtain ⟨f,e2,i2,w2⟩:=arg_int (O:=O) T.uU q2
  obtain ⟨s,vs,e3,i3,z3⟩:=arg_strS (O:=O) hbk T.uS q3
  obtain ⟨l,vl,e4,i4,z4,r4⟩:=arg_sliceS (O:=O) (τ:=.val) (m:=bkV) (R:=VB) hbk hO T.uL T.cV (fun n' hn cs' x' hx=>ih n' (by omega) cs' x' hx) q4
  obtain ⟨es,ve,e5,i5,z5,r5⟩:=arg_sliceS (O:=O) (τ:=.ent) (m:=bkP) (R:=fun p=>VB p.2) hbk hO T.uE T.cE (fun n' hn cs' x' hx=>by
   obtain ⟨n2,ds2,rfl,hl2,hag2,hds2,hf2⟩:=one_fieldS T.hE hx
   rw [T.cE] at hl2
   rw [hs2] at hds2
   match cs',hl2,ds2,hds2 with
   | [z0,z1,z2,z3,z4,z5,z6],_,[g0,g1],_ =>
    obtain ⟨_,p0,m0⟩:=hf2 0 0 _ T.g0
    obtain ⟨_,p1,m1⟩:=hf2 1 1 _ T.g1
    simp only [List.getElem?_cons_zero,List.getElem?_cons_succ,Option.some.injEq] at m0 m1
    subst m0 m1
    rw [c3] at p0
    rw [T.cV] at p1
    obtain ⟨ks,kv,d0,j0,lk⟩:=arg_strS (O:=O) hbk T.uS p0
    obtain ⟨y,j1,hyb,hy⟩:=ih n2 (by omega) _ _ p1
    simp at d0
    subst d0
    refine ⟨(ks,y),All2.cons j0 (by simpa using j1),?_,hy⟩
    rw [hag2]
    refine Nat.le_trans ?_ (hbk.ag _)
    rw [bkP_eq]
    simp only [List.map_cons,List.map_nil,List.sum_cons,List.sum_nil]
    omega) q5
  simp at e0 e1 e2 e3 e4 e5
  subst e0 e1 e2 e3 e4 e5
  refine ⟨⟨k,m,f,s,l,es⟩,All2.cons i0 (All2.cons i1 (All2.cons i2 (All2.cons i3 (All2.cons i4 (All2.cons i5 (All2.nil _)))))),?_,.mk _ (wf_i64 w0) (wf_i64 w1) (wf_u64 w2) r4 r5⟩
  have h9:=hbk.ag [y0.1,y1.1,y2.1,y3.1,y4.1,y5.1]
  have p0:=hbk.pos y0.1
  have p1:=hbk.pos y1.1
  have p2:=hbk.pos y2.1
  rw [hag]
  refine Nat.le_trans ?_ h9
  rw [bkV_eq]
  simp only [List.map_cons,List.map_nil,List.sum_cons,List.sum_nil]
  omega
end
end Go.SX
end
section
namespace Go.Up
open Go.SX Go.Vl Go.Ut Go.Ck
theorem putE_in {l:List Ent} {k:Str} {a:Val} {p:Ent} (h:p ∈ putE l k a):p = (k,a)∨p ∈ l:=by
 unfold putE at h
 have hw:∀ q ∈ withoutE l k,q ∈ l:=fun q hq=>(List.mem_filter.1 hq).1
 rcases List.mem_append.1 h with h | h
 ·exact .inr (hw _ (List.mem_of_mem_take h))
 ·rcases List.mem_cons.1 h with h | h
  ·exact .inl h
  ·exact .inr (hw _ (List.mem_of_mem_drop h))
structure Clo (R:Nat→Val→Prop):Prop where
 parts:∀ n v,R n v→∀ x ∈ partsOf v,R n x
 mono:∀ n m v,n≤m→R n v→R m v
 mak:∀ n v l e,R n v→l.length≤n→e.length≤n→(∀ x ∈ l,R n x)→(∀ p ∈ e,R n p.2)→R n { v with l:=l,e:=e }
 len:∀ n v,R n v→v.l.length≤n∧v.e.length≤n
theorem put_len {l:List Ent} {k:Str} {a:Val}:(putE l k a).length≤l.length + 1:=by
 have h:=List.length_filter_le (fun p=>!keyIs k p) l
 unfold putE
 rw [List.length_append,List.length_cons,List.length_take,List.length_drop]
 have:(withoutE l k).length≤l.length:=h
 omega
theorem Clo.l_of {R:Nat→Val→Prop} (hR:Clo R) {n:Nat} {v:Val} (h:R n v):∀ x ∈ v.l,R n x:=fun x hx=>hR.parts n v h x (List.mem_append_left _ hx)
theorem Clo.e_of {R:Nat→Val→Prop} (hR:Clo R) {n:Nat} {v:Val} (h:R n v):∀ p ∈ v.e,R n p.2:=fun p hp=>hR.parts n v h p.2 (List.mem_append_right _ (List.mem_map.2 ⟨p,hp,rfl⟩))
theorem Clo.setE {R:Nat→Val→Prop} (hR:Clo R) {n:Nat} {v:Val} (h:R n v) {e:List Ent} (hl:e.length≤n + 1) (he:∀ p ∈ e,R (n + 1) p.2):R (n + 1) { v with e:=e } :=
 hR.mak (n + 1) v v.l e (hR.mono _ _ _ (Nat.le_succ n) h) (Nat.le_succ_of_le (hR.len n v h).1) hl (fun x hx=>hR.mono _ _ _ (Nat.le_succ n) (hR.l_of h x hx)) he
theorem Clo.setL {R:Nat→Val→Prop} (hR:Clo R) {n:Nat} {v:Val} (h:R n v) {l:List Val} (hl:l.length≤n + 1) (he:∀ x ∈ l,R (n + 1) x):R (n + 1) { v with l:=l } :=
 hR.mak (n + 1) v l v.e (hR.mono _ _ _ (Nat.le_succ n) h) hl (Nat.le_succ_of_le (hR.len n v h).2) he (fun p hp=>hR.mono _ _ _ (Nat.le_succ n) (hR.e_of h p hp))
theorem Clo.setAt {R:Nat→Val→Prop} (hR:Clo R) {n:Nat} {v w:Val} {p:PStep} (h:R n v) (hw:R (n + 1) w):R (n + 1) (setAt v p w):=by
 have hl:=hR.len n v h
 unfold Up.setAt
 split
 ·refine hR.setE h (by have:=put_len (l:=v.e) (k:=p.key) (a:=w); omega) fun q hq=>?_
  rcases putE_in hq with rfl | hq
  ·exact hw
  ·exact hR.mono _ _ _ (Nat.le_succ n) (hR.e_of h q hq)
 ·refine hR.setL h (by rw [List.length_set]; omega) fun x hx=>?_
  rcases List.mem_or_eq_of_mem_set hx with hx | rfl
  ·exact hR.mono _ _ _ (Nat.le_succ n) (hR.l_of h x hx)
  ·exact hw
theorem Clo.last {R:Nat→Val→Prop} (hR:Clo R) {n:Nat} {v:Val} {p:PStep} {o:OpR} (h:R n v) (ho:R (n + 1) o.v):R (n + 1) (lastU v p o).1:=by
 have hl:=hR.len n v h
 have hv:R (n + 1) v:=hR.mono _ _ _ (Nat.le_succ n) h
 have he:=fun q hq=>hR.mono _ _ _ (Nat.le_succ n) (hR.e_of h q hq)
 have hll:=fun q hq=>hR.mono _ _ _ (Nat.le_succ n) (hR.l_of h q hq)
 have hwl:(withoutE v.e p.key).length≤v.e.length:=List.length_filter_le _ _
 have hwm:∀ q ∈ withoutE v.e p.key,q ∈ v.e:=fun q hq=>(List.mem_filter.1 hq).1
 unfold lastU
 split
 ·split
  ·exact hv
  ·split
   ·split
    ·exact hv
    ·refine hR.setE h (by have:=put_len (l:=v.e) (k:=p.key) (a:=o.v); omega) fun q hq=>?_
     rcases putE_in hq with rfl | hq
     ·exact ho
     ·exact he q hq
   ·split
    ·exact hv
    ·refine hR.setL h (by rw [List.length_append,List.length_cons,List.length_take,List.length_drop]; omega) fun x hx=>?_
     rcases List.mem_append.1 hx with hx | hx
     ·exact hll x (List.mem_of_mem_take hx)
     ·rcases List.mem_cons.1 hx with rfl | hx
      ·exact ho
      ·exact hll x (List.mem_of_mem_drop hx)
 ·split
  ·exact hv
  ·rename_i hq
   split
   ·split
    ·exact hR.setE h (by omega) fun q hq=>he q (hwm q hq)
    ·refine hR.setL h (by rw [List.length_append,List.length_take,List.length_drop]; omega) fun x hx=>?_
     rcases List.mem_append.1 hx with hx | hx
     ·exact hll x (List.mem_of_mem_take hx)
     ·exact hll x (List.mem_of_mem_drop hx)
   ·split
    ·exact hv
    ·split
     ·exact hv
     ·refine hR.setE h (by have:=put_len (l:=withoutE v.e p.key) (k:=o.key) (a:=(partV v p).1); omega) fun q hq2=>?_
      rcases putE_in hq2 with rfl | hq2
      ·exact hR.mono _ _ _ (Nat.le_succ n) (hR.parts n v h _ (partV_in (by simpa using hq)))
      ·exact he q (hwm q hq2)
theorem Clo.upV {R:Nat→Val→Prop} (hR:Clo R) {n:Nat} {o:OpR} (ho:R (n + 1) o.v):∀ (p:List PStep) (v:Val),R n v→R (n + 1) (upV v p o).1
 | [],v,_=>by rw [Up.upV]; exact ho
 | x::r,v,h=>by
  have hv:R (n + 1) v:=hR.mono _ _ _ (Nat.le_succ n) h
  rw [Up.upV]
  split
  ·split
   ·exact hv
   ·rename_i hq
    split
    ·exact hv
    ·exact hR.setAt h (Clo.upV hR ho r _ (hR.parts n v h _ (partV_in (by simpa using hq))))
  ·exact hR.last h ho
end Go.Up
namespace Go.Up
open Go.SX Go.Vl Go.Ut Go.Ck
inductive VW (n:Nat):Val→Prop
 | mk (v:Val):(-9223372036854775808≤v.kind∧v.kind≤9223372036854775807)→(-9223372036854775808≤v.n∧v.n≤9223372036854775807)→(0≤v.f∧v.f≤18446744073709551615)→v.l.length≤n→v.e.length≤n→(∀ x ∈ v.l,VW n x)→(∀ p ∈ v.e,VW n p.2)→VW n v
theorem VW.mono {n m:Nat} (h:n≤m) {v:Val} (hv:VW n v):VW m v:=by
 induction hv with
 | mk v a b c h1 h2 _ _ i1 i2=>exact .mk v a b c (Nat.le_trans h1 h) (Nat.le_trans h2 h) i1 i2
theorem VW.vb {n:Nat} {v:Val} (hv:VW n v):VB v:=by
 induction hv with
 | mk v a b c h1 h2 _ _ i1 i2=>exact .mk v a b c i1 i2
theorem VW.part {n:Nat} {v x:Val} (hv:VW n v) (hx:x ∈ partsOf v):VW n x:=by
 cases hv with
 | mk _ _ _ _ _ _ h4 h5 =>
  rcases List.mem_append.1 hx with hx | hx
  ·exact h4 x hx
  ·obtain ⟨z,hz,rfl⟩:=List.mem_map.1 hx
   exact h5 z hz
theorem clo_vw:Clo VW:=⟨fun _ _ h x hx=>h.part hx,fun _ _ _ hle h=>h.mono hle,fun n v l e h h1 h2 h3 h4=>by cases h with | mk _ a b c=>exact .mk _ a b c h1 h2 h3 h4,fun _ _ h=>by cases h with | mk _ _ _ _ h1 h2=>exact ⟨h1,h2⟩⟩
theorem vw_of_vb {v:Val} (hv:VB v):VW (bkV v) v:=by
 induction hv with
 | mk v a b c _ _ i1 i2 =>
  have:=bkV_len v
  exact .mk v a b c (by omega) (by omega) (fun x hx=>(i1 x hx).mono (by have:=bkV_mem hx; omega)) (fun p hp=>(i2 p hp).mono (by have:=bkV_ent hp; omega))
/-! how much an update makes -/
theorem sum_filter {m:Ent→Nat} (q:Ent→Bool):∀ l:List Ent,((l.filter q).map m).sum≤(l.map m).sum
 | []=>Nat.le_refl _
 | x::r=>by
  have:=sum_filter (m:=m) q r
  rw [List.filter_cons,List.map_cons,List.sum_cons]
  split
  ·rw [List.map_cons,List.sum_cons]; omega
  ·omega
theorem sum_split {α:Type} {m:α→Nat} (l:List α) (i:Nat):((l.take i).map m).sum + ((l.drop i).map m).sum = (l.map m).sum:=by
 conv=>rhs; rw [← List.take_append_drop i l]
 rw [List.map_append,List.sum_append]
theorem put_bulk {l:List Ent} {k:Str} {a:Val}:((putE l k a).map bkP).sum≤(l.map bkP).sum + bkP (k,a):=by
 have h1:=sum_filter (m:=bkP) (fun p=>!keyIs k p) l
 have h2:=sum_split (m:=bkP) (withoutE l k) ((withoutE l k).findIdx (keyGt k))
 unfold putE
 rw [List.map_append,List.sum_append,List.map_cons,List.sum_cons]
 have h3:((withoutE l k).map bkP).sum≤(l.map bkP).sum:=h1
 omega
theorem bk_e (v:Val) (e:List Ent):bkV { v with e:=e } + (v.e.map bkP).sum = bkV v + (e.map bkP).sum:=by rw [bkV_eq,bkV_eq]; simp only; omega
theorem bk_l (v:Val) (l:List Val):bkV { v with l:=l } + (v.l.map bkV).sum = bkV v + (l.map bkV).sum:=by rw [bkV_eq,bkV_eq]; simp only; omega
theorem set_bulk {l:List Val} {i:Nat} {w:Val}:((l.set i w).map bkV).sum≤(l.map bkV).sum + bkV w:=by
 induction l generalizing i with
 | nil=>simp
 | cons x r ih =>
  cases i with
  | zero=>simp only [List.set_cons_zero,List.map_cons,List.sum_cons]; omega
  | succ i =>
   have:=ih (i:=i)
   simp only [List.set_cons_succ,List.map_cons,List.sum_cons]
   omega
theorem setAt_bulk {v w:Val} {p:PStep}:bkV (setAt v p w)≤bkV v + bkV w + p.key.length + 2:=by
 unfold Up.setAt
 split
 ·have h1:=bk_e v (putE v.e p.key w)
  have h2:=put_bulk (l:=v.e) (k:=p.key) (a:=w)
  rw [bkP_eq] at h2
  simp only at h2
  omega
 ·have h1:=bk_l v (v.l.set p.i.toNat w)
  have h2:=set_bulk (l:=v.l) (i:=p.i.toNat) (w:=w)
  omega
end Go.Up
namespace Go.Up
open Go.SX Go.Vl Go.Ut Go.Ck
theorem parts_bulk {v x:Val} (h:x ∈ partsOf v):bkV x < bkV v:=by
 rcases List.mem_append.1 h with h | h
 ·exact bkV_mem h
 ·obtain ⟨p,hp,rfl⟩:=List.mem_map.1 h
  have:=bkV_ent hp
  omega
theorem last_bulk {v:Val} {p:PStep} {o:OpR}:bkV (lastU v p o).1≤2 * bkV v + bkV o.v + p.key.length + o.key.length + 4:=by
 unfold lastU
 split
 ·split
  ·simp only; omega
  ·split
   ·split
    ·simp only; omega
    ·have h1:=bk_e v (putE v.e p.key o.v)
     have h2:=put_bulk (l:=v.e) (k:=p.key) (a:=o.v)
     rw [bkP_eq] at h2
     simp only at h2 ⊢
     omega
   ·split
    ·simp only; omega
    ·have h1:=bk_l v (v.l.take p.i.toNat++o.v::v.l.drop p.i.toNat)
     have h2:=sum_split (m:=bkV) v.l p.i.toNat
     rw [List.map_append,List.sum_append,List.map_cons,List.sum_cons] at h1
     simp only
     omega
 ·split
  ·simp only; omega
  ·rename_i hq
   split
   ·split
    ·have h1:=bk_e v (withoutE v.e p.key)
     have h2:((withoutE v.e p.key).map bkP).sum≤(v.e.map bkP).sum:=sum_filter _ _
     simp only
     omega
    ·have h1:=bk_l v (v.l.take p.i.toNat++v.l.drop (p.i.toNat + 1))
     have h2:=sum_split (m:=bkV) v.l p.i.toNat
     have h3:=sum_split (m:=bkV) (v.l.drop p.i.toNat) 1
     rw [List.drop_drop] at h3
     rw [List.map_append,List.sum_append] at h1
     simp only
     omega
   ·split
    ·simp only; omega
    ·split
     ·simp only; omega
     ·have h1:=bk_e v (putE (withoutE v.e p.key) o.key (partV v p).1)
      have h2:=put_bulk (l:=withoutE v.e p.key) (k:=o.key) (a:=(partV v p).1)
      have h3:((withoutE v.e p.key).map bkP).sum≤(v.e.map bkP).sum:=sum_filter _ _
      have h4:=parts_bulk (partV_in (v:=v) (p:=p) (by simpa using hq))
      rw [bkP_eq] at h2
      simp only at h2 ⊢
      omega
theorem up_bulk {o:OpR} {K B:Nat} (hk:o.key.length≤K):∀ (p:List PStep) (v:Val),(∀ q ∈ p,q.key.length≤100)→bkV v≤B→bkV (upV v p o).1≤(p.length + 1) * (2 * B + 110) + bkV o.v + K
 | [],v,_,_=>by rw [upV]; simp only [List.length_nil,Nat.zero_add,Nat.one_mul]; omega
 | x::r,v,h,hB=>by
  have hx:=h x (.head _)
  have e:((x::r).length + 1) * (2 * B + 110) = (r.length + 1) * (2 * B + 110) + (2 * B + 110):=by
   rw [List.length_cons,Nat.add_mul (r.length + 1) 1,Nat.one_mul]
  have ih0:=fun (w:Val) (hw:bkV w≤B)=>up_bulk hk r w (fun q hq=>h q (.tail _ hq)) hw
  rw [e]
  generalize (r.length + 1) * (2 * B + 110) = M at ih0 ⊢
  rw [upV]
  split
  ·split
   ·simp only; omega
   ·rename_i hq
    split
    ·simp only; omega
    ·have hp:=parts_bulk (partV_in (v:=v) (p:=x) (by simpa using hq))
     have ih:=ih0 (partV v x).1 (by omega)
     have h1:=setAt_bulk (v:=v) (w:=(upV (partV v x).1 r o).1) (p:=x)
     simp only
     omega
  ·have h1:=last_bulk (v:=v) (p:=x) (o:=o)
   omega
end Go.Up
end
section
namespace Go.Ck
open Go.SX Go.Vl
theorem sum_bulk:∀ l:List Val,(∀ x ∈ l,(sizV x).2≤(bkV x:Int))→sumT (l.map fun v=>(⟨v,0⟩:VPlace))≤((l.map bkV).sum:Nat)
 | [],_=>by simp [sumT]
 | x::r,h=>by
  have h1:=h x (.head _)
  have h2:=sum_bulk r fun y hy=>h y (.tail _ hy)
  rw [List.map_cons,sumT,List.map_cons,List.sum_cons]
  show (sizV x).2 + _≤_
  omega
theorem siz_bulk_n:∀ (n:Nat) (v:Val),SizeOf.sizeOf v < n→(sizV v).2≤(bkV v:Int):=by
 intro n
 induction n with
 | zero=>intro v h; exact absurd h (Nat.not_lt_zero _)
 | succ n ih =>
  intro v h
  have h1:=sum_bulk (partsOf v) fun x hx=>ih x (by have:=parts_sz hx; omega)
  have h2:=fold_sum (partsOf v) (0,1) 0
  have h3:((partsOf v).map bkV).sum≤(v.l.map bkV).sum + (v.e.map bkP).sum:=by
   unfold partsOf
   rw [List.map_append,List.sum_append,List.map_map]
   have:(v.e.map (bkV ∘ (·.2))).sum≤(v.e.map bkP).sum:=by
    generalize v.e = e
    induction e with
    | nil=>exact Nat.le_refl _
    | cons p r ih =>
     rw [List.map_cons,List.sum_cons,List.map_cons,List.sum_cons,bkP_eq]
     simp only [Function.comp]
     omega
   omega
  rw [sizV_eq,bkV_eq]
  simp only at h2 ⊢
  omega
theorem siz_bulk (v:Val):(sizV v).2≤(bkV v:Int):=siz_bulk_n _ v (Nat.lt_succ_self _)
end Go.Ck
end
section
namespace Go.Proofs.YtfeniggadfkakaaDoor
open Go Go.SX Go.Ck Go.Vl Go.Ut Go.Up
set_option maxRecDepth 100000
set_option maxHeartbeats 1000000
theorem stepF_ok {p:PStep} (h:stepF p = 0) : -1≤p.i∧p.key.length≤100:=by
 unfold stepF at h
 by_cases c:p.i < -1∨(0≤p.i∧p.key≠[])
 ·rw [if_pos c] at h; exact absurd h (by decide)
 ·rw [if_neg c] at h
  by_cases d:100 < p.key.length
  ·rw [if_pos d] at h; exact absurd h (by decide)
  ·omega
theorem pathF_ok {l:List PStep} (h:pathF l = 0):l.length≤20∧∀ p ∈ l,-1≤p.i∧p.key.length≤100:=by
 unfold pathF at h
 by_cases c:20 < l.length
 ·rw [if_pos c] at h; exact absurd h (by decide)
 ·rw [if_neg c] at h
  exact ⟨by omega,fun p hp=>stepF_ok (stepsF_mem h p hp)⟩
theorem opF_ok {o:OpR} (h:opF o = 0):(1≤o.kind∧o.kind≤4)∧pathF o.p = 0∧(o.kind = 1∨o.p≠[]):=by
 unfold opF at h
 by_cases c:o.kind < 1∨4 < o.kind
 ·rw [if_pos c] at h; exact absurd h (by decide)
 ·rw [if_neg c] at h
  obtain ⟨h1,h2⟩:=orI_0 h
  obtain ⟨_,h3⟩:=orI_0 h2
  refine ⟨by omega,h1,?_⟩
  by_cases d:o.kind = 1
  ·exact .inl d
  ·refine .inr fun e=>?_
   by_cases f:o.kind = 4∧100 < o.key.length
   ·rw [if_pos f] at h3; exact absurd h3 (by decide)
   ·rw [if_neg f] at h3
    by_cases g:o.kind = 4∧0≤bad o.key
    ·rw [if_pos g] at h3; exact absurd h3 (by decide)
    ·rw [if_neg g,if_pos ⟨by omega,e⟩] at h3; exact absurd h3 (by decide)
theorem vn_of_vw {n m:Nat} (h:n≤m) {v:Val} (hv:VW n v):VN m v:=by
 induction hv with
 | mk v _ _ _ h1 h2 _ _ i1 i2=>exact .mk v (Nat.le_trans h1 h) (Nat.le_trans h2 h) i1 i2
structure Mod (v:Val):Prop where
 vb:VB v
 bk:bkV v≤10000000
theorem Mod.siz {v:Val} (h:Mod v):(sizV v).2≤1000000000:=by have:=siz_bulk v; have:=h.bk; omega
theorem Mod.vw {v:Val} (h:Mod v):VW 10000000 v:=(vw_of_vb h.vb).mono h.bk
theorem Mod.vn {v:Val} (h:Mod v):VN 100000000 v:=vn_of_vw (by decide) h.vw
theorem up_ok {v:Val} {o:OpR} (hv:Mod v) (ho:Mod o.v) (hk:o.key.length≤10000000) (hp:pathF o.p = 0):VB (upV v o.p o).1∧(sizV (upV v o.p o).1).2≤1000000000∧VN 100000000 (upV v o.p o).1:=by
 obtain ⟨h1,h2⟩:=pathF_ok hp
 have h3:=clo_vw.upV (n:=10000000) (ho.vw.mono (Nat.le_succ _)) o.p v hv.vw
 have h4:=up_bulk (o:=o) (B:=10000000) hk o.p v (fun q hq=>(h2 q hq).2) hv.bk
 have h5:=siz_bulk (upV v o.p o).1
 have h6:(o.p.length + 1) * (2 * 10000000 + 110)≤21 * (2 * 10000000 + 110):=Nat.mul_le_mul_right _ (by omega)
 have:=ho.bk
 exact ⟨h3.vb,by omega,vn_of_vw (by decide) h3⟩
def appA (a:Val) (o:OpR):AV:=.tup [.agg (encVal (applyV a o).1),.i .i64 (applyV a o).2]
theorem appA_eq {a w:Val} {o:OpR} {e:Int} (h:applyV a o = (w,e)):appA a o = .tup [.agg (encVal w),.i .i64 e]:=by unfold appA; rw [h]
section
variable [G:Globs]
theorem w_updd (a:Val) (o:OpR) (ha:Mod a) (ho:Mod o.v) (hk:o.key.length≤10000000):vc Tryd.prog Γ 39 [2,3,4,5,6,7,8,9,13,19,31,35] (Tryd.f17.body.getD .skip) (postK Γ [.cell 4 26,.tmp 5] (fun v=>RL v (appA a o))) ⟨argSlots 0 [.agg (encVal a),.agg (enc .op o)],[]⟩:=by
 refine Or.inl (eX _ (aN (s_fault a ha.vb ha.siz) ?_))
 refine aN (fun hq=>?_) (fun hq=>?_)
 ·have hq:faultV a≠0:=by simpa using hq
  rw [appA_eq (show applyV a o = (zeroV,faultV a) from if_pos hq)]
  exact rL
 have hq:¬ faultV a≠0:=by simpa using hq
 refine Or.inl (eX _ (aN (s_opFault o ho.vb ho.siz) ?_))
 refine aN (fun hq2=>?_) (fun hq2=>?_)
 ·have hq2:opF o≠0:=by simpa using hq2
  rw [appA_eq (show applyV a o = (zeroV,opF o) from by unfold applyV; rw [if_neg hq,if_pos hq2])]
  exact rL
 have hq2:¬ opF o≠0:=by simpa using hq2
 have hop:=opF_ok (o:=o) (by simpa using hq2)
 have hpp:=pathF_ok hop.2.1
 have hup:=up_ok ha ho hk hop.2.1
 have e0:applyV a o = if (upV a o.p o).2≠0 then (zeroV,(upV a o.p o).2) else if faultV (upV a o.p o).1≠0 then (zeroV,faultV (upV a o.p o).1) else ((upV a o.p o).1,0):=by unfold applyV; rw [if_neg hq,if_neg hq2]
 refine Or.inl (eX _ (aN (s_upd o.p a o (fun p hp=>(hpp.2 p hp).1) ha.vn) ?_))
 refine aN (fun hq3=>?_) (fun hq3=>?_)
 ·have hq3:(upV a o.p o).2 = 0:=eq_of_beq hq3
  rw [if_neg (by simp [hq3])] at e0
  refine Or.inl (eX _ (aN (s_fault (upV a o.p o).1 hup.1 hup.2.1) ?_))
  refine aN (fun hq4=>?_) (fun hq4=>?_)
  ·have hq4:faultV (upV a o.p o).1≠0:=by simpa using hq4
   rw [if_pos hq4] at e0
   rw [appA_eq e0]
   exact rL
  ·have hq4:¬ faultV (upV a o.p o).1≠0:=by simpa using hq4
   rw [if_neg hq4] at e0
   rw [appA_eq e0]
   exact rL
 ·have hq3:(upV a o.p o).2≠0:=ne_of_beq_false hq3
  rw [if_pos hq3] at e0
  refine aN (fun _=>?_) (fun h=>absurd h (by simpa using hq3))
  rw [appA_eq e0]
  exact rL
theorem s_updd (a:Val) (o:OpR) (ha:Mod a) (ho:Mod o.v) (hk:o.key.length≤10000000):PSpec Tryd.prog 17 [.agg (encVal a),.agg (enc .op o)] (appA a o) :=
 pspec_of_vcL Γ_good Tryd.func17 rfl Tryd.call17 Tryd.results17 Tryd.ntmps17 (Nat.le_of_ble_eq_true rfl) (w_updd a o ha ho hk)
end
end Go.Proofs.YtfeniggadfkakaaDoor
end
section
namespace Go.Up
open Go.SX Go.Vl Go.Ut Go.Ck
theorem own_ok {v:Val} {a:Int} (h:ownF v a = 0):v.s.length≤4000:=by
 unfold ownF at h
 by_cases c:20≤a
 ·rw [if_pos c] at h; exact absurd h (by decide)
 ·rw [if_neg c] at h
  by_cases d:kindBad v
  ·rw [if_pos d] at h; exact absurd h (by decide)
  ·rw [if_neg d] at h
   by_cases e:4000 < v.s.length∨200 < v.l.length∨200 < v.e.length
   ·rw [if_pos e] at h; exact absurd h (by decide)
   ·omega
theorem ent_keys:∀ (e:List Ent) (q:Option Str),entF q e = 0→∀ p ∈ e,p.1.length≤100
 | x::r,q,h,p,hp=>by
  rw [entF] at h
  obtain ⟨h1,h2⟩:=orI_0 h
  rcases List.mem_cons.1 hp with rfl | hp
  ·unfold keyF at h1
   by_cases c:100 < p.1.length
   ·rw [if_pos c] at h1; exact absurd h1 (by decide)
   ·omega
  ·exact ent_keys r _ h2 p hp
theorem chkL_bulk:∀ (l:List Val) (a m m':Int),chkL l a m = (0,m')→(∀ x ∈ l,∀ k k':Int,chkV x a k = (0,k')→(bkV x:Int) + 103≤(k' - k) * 4110)→((l.map bkV).sum:Int) + 103 * (l.length:Int)≤(m' - m) * 4110
 | [],a,m,m',h,_=>by
  rw [chkL] at h
  injection h with _ h
  subst h
  simp
 | x::r,a,m,m',h,hh=>by
  rw [chkL] at h
  cases hx:chkV x a m with
  | mk e k =>
   rw [hx] at h
   simp only at h
   by_cases c:e≠0
   ·rw [if_pos c] at h
    injection h with h _
    exact absurd h c
   ·rw [if_neg c] at h
    have c:e = 0:=by simpa using c
    subst c
    have h1:=hh x (.head _) m k hx
    have h2:=chkL_bulk r a k m' h fun y hy=>hh y (.tail _ hy)
    rw [List.map_cons,List.sum_cons,List.length_cons]
    omega
theorem chkV_bulk:∀ (n:Nat) (v:Val),SizeOf.sizeOf v < n→∀ a m m':Int,chkV v a m = (0,m')→(bkV v:Int) + 103≤(m' - m) * 4110:=by
 intro n
 induction n with
 | zero=>intro v h; exact absurd h (Nat.not_lt_zero _)
 | succ n ih =>
  intro v hs a m m' h
  rw [chkV_eq] at h
  by_cases c:2000 < m + 1
  ·rw [if_pos c] at h
   injection h with h _
   exact absurd h (by decide)
  ·rw [if_neg c] at h
   by_cases d:oneF v a≠0
   ·rw [if_pos d] at h
    injection h with h _
    exact absurd h d
   ·rw [if_neg d] at h
    have d:oneF v a = 0:=by simpa using d
    obtain ⟨d1,d2⟩:=orI_0 d
    have h1:=chkL_bulk _ _ _ _ h fun x hx k k' hk=>ih x (by have:=parts_sz hx; omega) _ k k' hk
    have h2:=own_ok d1
    have h3:=ent_keys _ _ d2
    have h4:(v.e.map bkP).sum≤(v.e.map (fun p=>bkV p.2)).sum + 102 * v.e.length:=by
     have:∀ e:List Ent,(∀ p ∈ e,p.1.length≤100)→(e.map bkP).sum≤(e.map (fun p=>bkV p.2)).sum + 102 * e.length:=by
      intro e
      induction e with
      | nil=>intro _; simp
      | cons x r ih =>
       intro hh
       have h5:=ih fun p hp=>hh p (.tail _ hp)
       have h6:=hh x (.head _)
       simp only [List.map_cons,List.sum_cons,List.length_cons]
       rw [bkP_eq]
       omega
     exact this v.e h3
    have h5:((partsOf v).map bkV).sum = (v.l.map bkV).sum + (v.e.map (fun p=>bkV p.2)).sum:=by
     unfold partsOf
     rw [List.map_append,List.sum_append,List.map_map]
     rfl
    have h6:(partsOf v).length = v.l.length + v.e.length:=by unfold partsOf; rw [List.length_append,List.length_map]
    rw [bkV_eq]
    omega
theorem good_bulk {v:Val} (h:faultV v = 0):bkV v≤10000000:=by
 unfold faultV at h
 rw [chkT] at h
 simp only at h
 have hle:=chkV_le v 0 0 (by decide) (by decide)
 cases hc:chkV v 0 0 with
 | mk e m =>
  rw [hc] at h hle
  simp only at h hle
  by_cases c:e = 0
  ·subst c
   have:=chkV_bulk _ v (Nat.lt_succ_self _) 0 0 m hc
   have:=hle.2.2 rfl
   omega
  ·rw [if_pos c] at h; exact absurd h c
def allF:Val→Nat→List OpR→Val × Int × Int
 | v,_,[]=>(v,0,0)
 | v,i,o::r=>if (applyV v o).2≠0 then (zeroV,i,(applyV v o).2) else allF (applyV v o).1 (i + 1) r
def allV (v:Val) (l:List OpR):Val × Int × Int:=if faultV v≠0 then (zeroV,0,faultV v) else allF v 0 l
theorem applyV_good {v:Val} {o:OpR} (h:(applyV v o).2 = 0):faultV (applyV v o).1 = 0∧(applyV v o).1 = (upV v o.p o).1∧pathF o.p = 0:=by
 unfold applyV at h ⊢
 by_cases c:faultV v≠0
 ·rw [if_pos c] at h; exact absurd h c
 ·rw [if_neg c] at h ⊢
  by_cases d:opF o≠0
  ·rw [if_pos d] at h; exact absurd h d
  ·rw [if_neg d] at h ⊢
   have hp:pathF o.p = 0:=by
    have d:opF o = 0:=by simpa using d
    unfold opF at d
    by_cases e:o.kind < 1∨4 < o.kind
    ·rw [if_pos e] at d; exact absurd d (by decide)
    ·rw [if_neg e] at d; exact (orI_0 d).1
   by_cases e:(upV v o.p o).2≠0
   ·rw [if_pos e] at h; exact absurd h e
   ·rw [if_neg e] at h ⊢
    by_cases f:faultV (upV v o.p o).1≠0
    ·rw [if_pos f] at h; exact absurd h f
    ·rw [if_neg f]
     exact ⟨by simpa using f,rfl,hp⟩
end Go.Up
end
section
namespace Go.Proofs.YtfeniggadfkakaaDoor
open Go Go.SX Go.Ck Go.Vl Go.Ut Go.Up
set_option maxRecDepth 100000
set_option maxHeartbeats 1000000
def allA (r:Val × Int × Int):AV:=.tup [.agg (encVal r.1),.i .i64 r.2.1,.i .i64 r.2.2]
theorem mod_app {v:Val} {o:OpR} (hv:Mod v) (ho:Mod o.v) (hk:o.key.length≤10000000) (h:(applyV v o).2 = 0):Mod (applyV v o).1:=by
 obtain ⟨h1,h2,h3⟩:=applyV_good h
 exact ⟨by rw [h2]; exact (up_ok hv ho hk h3).1,good_bulk h1⟩
section
variable [G:Globs]
theorem w_updAll (a:Val) (l:List OpR) (ha:Mod a) (hl:∀ o ∈ l,Mod o.v∧o.key.length≤10000000):vc Tryd.prog Γ 39 [1,2,4,5,6,7,8,9,10,11,15,18,19,20,21,32] (Tryd.f7.body.getD .skip) (postK Γ [.cell 4 26,.tmp 5,.tmp 6] (fun v=>RL v (allA (allV a l)))) ⟨argSlots 0 [.agg (encVal a),.rd .op l],[]⟩:=by
 refine Or.inl (eX _ (aN (s_fault a ha.vb ha.siz) ?_))
 refine aN (fun hq=>?_) (fun hq=>?_)
 ·have hq:faultV a≠0:=by simpa using hq
  rw [show allV a l = (zeroV,0,faultV a) from if_pos hq]
  exact rL
 have hq:¬ faultV a≠0:=by simpa using hq
 rw [show allV a l = allF a 0 l from if_neg hq]
 generalize hR:allF a 0 l = R
 intro hml
 refine eX [] (eX [] (eX [] (eX (Nat × Val) (eX (fun q=>q.1≤l.length∧Mod q.2∧R = allF q.2 q.1 (l.drop q.1)) (eX (fun ⟨i,v⟩=>⟨[(2,.pt 2 0),(4,.pt 4 0),(5,.i .i64 0),(6,.i .i64 0),(18,.rd .op l),(19,.i .i64 l.length),(20,.i .i64 i)],[(2,encVal v),(4,[.i .i64 0,.i .i64 0,.i .u64 0,.s [],.nl,.nl])]⟩) (eX (fun q=>l.length - q.1) (eX (0,a) (aN ⟨Nat.zero_le _,ha,hR.symm⟩ (aN ?_ ?_)))))))))
 ·exact wK
 rintro ⟨i,v⟩ ⟨hi,hv,hI⟩
 simp only at hi hv hI
 refine aN (fun hz=>?_) (fun hz=>?_)
 ·have hi:=ltD hz
  have hg:=getI (τ:=.op) hi
  refine bN2 ?_
  rw [hg]
  have ho:=hl l[i] (List.getElem_mem hi)
  have hlen:=len_le hml
  rw [List.drop_eq_getElem_cons hi,allF] at hI
  refine Or.inl (eX _ (aN (s_updd v l[i] hv ho.1 ho.2) ?_))
  refine aN (fun hq=>?_) (fun hq=>?_)
  ·have hq:(applyV v l[i]).2≠0:=by simpa using hq
   rw [if_pos hq] at hI
   rw [hI]
   exact rL
  ·have hq:¬ (applyV v l[i]).2≠0:=by simpa using hq
   rw [if_neg hq] at hI
   (refine rNG ?_)
   refine eX [] (eX (i + 1,(applyV v l[i]).1) (aN ⟨hi,mod_app hv ho.1 ho.2 (by simpa using hq),hI⟩ (aN ?_ ?_)))
   ·exact wK
   ·(exact Nat.sub_lt_sub_left (by omega) (by omega))
 ·have hi:=geD hi hz
  rw [List.drop_eq_nil_of_le (by omega),allF] at hI
  rw [hI]
  exact rL
theorem s_updAll (a:Val) (l:List OpR) (ha:Mod a) (hl:∀ o ∈ l,Mod o.v∧o.key.length≤10000000):PSpec Tryd.prog 7 [.agg (encVal a),.rd .op l] (allA (allV a l)) :=
 pspec_of_vcL Γ_good Tryd.func7 rfl Tryd.call7 Tryd.results7 Tryd.ntmps7 (Nat.le_of_ble_eq_true rfl) (w_updAll a l ha hl)
end
end Go.Proofs.YtfeniggadfkakaaDoor
end
section
namespace Go.Proofs.YtfeniggadfkakaaDoor
open Go Go.SX Go.Vl Go.Ck Go.Ut Go.Up Go.Df
set_option maxRecDepth 100000
set_option maxHeartbeats 4000000
def pairF (a b:Val):Int:=if faultV a≠0 then faultV a else if faultV b≠0 then faultV b else if 200 < nd a + nd b then 2 else 0
theorem pairF_ok {a b:Val} (h:pairF a b = 0):faultV a = 0∧faultV b = 0∧nd a + nd b≤200:=by
 unfold pairF at h
 split at h
 ·exact absurd h (by assumption)
 split at h
 ·exact absurd h (by assumption)
 split at h
 ·exact absurd h (by decide)
 ·rename_i h1 h2 h3
  exact ⟨by simpa using h1,by simpa using h2,by omega⟩
theorem fault_okv {a:Val} (h:faultV a = 0):OKV 0 a:=chk_okv (by letI:Globs:=⟨[]⟩; rw [chk_T]; exact h)
noncomputable def farR (a b:Val):Int × Int:=if pairF a b≠0 then (0,pairF a b) else (farF (SizeOf.sizeOf a + 1) a b,0)
noncomputable def farA (a b:Val):AV:=.tup [.i .i64 (farR a b).1,.i .i64 (farR a b).2]
def costO (v:Val) (o:OpR):Int:=if o.kind = 1 then nd (ledV v o.p).1 + nd o.v else if o.kind = 2 then nd o.v else if o.kind = 3 then nd (ledV v o.p).1 else if o.kind = 4 then nd (ledV v o.p).1 + nd (ledV v o.p).1 else 0
def cosF:Val→Int→List OpR→Int × Val
 | v,sum,[]=>(sum,v)
 | v,sum,o::r=>if (applyV v o).2≠0 then (0,v) else cosF (applyV v o).1 (sum + costO v o) r
theorem nd_zero:nd zeroV = 1:=by rw [nd_eq]; rfl
theorem nd_led (v:Val) (p:List PStep):nd (ledV v p).1≤nd v:=by
 have h:=ledV_keep (R:=fun x=>nd x≤nd v) (by have:=nd_pos v; show nd zeroV≤nd v; rw [nd_zero]; omega) (fun y h x hx=>by have:=(siz_parts y).2 x hx; show nd x≤nd v; have h:nd y≤nd v:=h; unfold nd at *; omega) p v (Int.le_refl _)
 exact h
theorem cost_b {v:Val} {o:OpR} (h1:nd v≤1000000000) (h2:nd o.v≤1000000000):0≤costO v o∧costO v o≤4000000000:=by
 have:=nd_led v o.p
 have:=nd_pos (ledV v o.p).1
 have:=nd_pos o.v
 unfold costO
 split
 ·omega
 split
 ·omega
 split
 ·omega
 split<;>omega
section
variable [G:Globs]
theorem w_pair (a b:Val) (ha:Mod a) (hb:Mod b):vc Tryd.prog Γ 35 [2,3,4,5,6,8,10,14,19,34] (Tryd.f6.body.getD .skip) (postK Γ [.tmp 4] (fun v=>v = .i .i64 (pairF a b))) ⟨argSlots 0 [.agg (encVal a),.agg (encVal b)],[]⟩:=by
 have hNa:=s_SizeD _ a (Nat.lt_succ_self _) ha.siz
 have hNb:=s_SizeD _ b (Nat.lt_succ_self _) hb.siz
 have h1:=ha.siz
 have h2:=hb.siz
 have p1:1≤(sizV a).2:=nd_pos a
 have p2:1≤(sizV b).2:=nd_pos b
 refine Or.inl (eX _ (aN (s_fault a ha.vb ha.siz) ?_))
 refine aN (fun hq=>?_) (fun hq=>?_)
 ·have hq:faultV a≠0:=by simpa using hq
  exact congrArg (AV.i .i64) (show faultV a = pairF a b from (if_pos hq).symm)
 have hq:¬ faultV a≠0:=by simpa using hq
 refine Or.inl (eX _ (aN (s_fault b hb.vb hb.siz) ?_))
 refine aN (fun hr=>?_) (fun hr=>?_)
 ·have hr:faultV b≠0:=by simpa using hr
  exact congrArg (AV.i .i64) (show faultV b = pairF a b by unfold pairF; rw [if_neg hq,if_pos hr])
 have hr:¬ faultV b≠0:=by simpa using hr
 refine Or.inl (eX _ (aN (hNa) ?_))
 refine Or.inl (eX _ (aN (hNb) ?_))
 (refine rNG ?_)
 refine aN (fun hs=>?_) (fun hs=>?_)
 ·have hs:200 < nd a + nd b:=of_decide_eq_true hs
  exact congrArg (AV.i .i64) (show (2:Int) = pairF a b by unfold pairF; rw [if_neg hq,if_neg hr,if_pos hs])
 ·have hs:¬ 200 < nd a + nd b:=of_decide_eq_false hs
  exact congrArg (AV.i .i64) (show (0:Int) = pairF a b by unfold pairF; rw [if_neg hq,if_neg hr,if_neg hs])
theorem s_pair (a b:Val) (ha:Mod a) (hb:Mod b):PSpec Tryd.prog 6 [.agg (encVal a),.agg (encVal b)] (.i .i64 (pairF a b)) :=
 pspec_of_vc Γ_good Tryd.func6 rfl Tryd.call6 Tryd.results6 Tryd.ntmps6 (Nat.le_of_ble_eq_true rfl) (w_pair a b ha hb)
theorem w_pcheck (hu:HasU8) (a b:Val) (ha:Mod a) (hb:Mod b):vc Tryd.prog Γ 23 [2,3,4,5,6,10,15,22] (Tryd.f13.body.getD .skip) (postK Γ [.tmp 4] (fun v=>v = .i .i64 (pairF a b))) ⟨argSlots 0 [.agg (encVal a),.agg (encVal b)],[]⟩:=by
 have hNa:=s_Nodes _ a (Nat.lt_succ_self _) ha.siz
 have hNb:=s_Nodes _ b (Nat.lt_succ_self _) hb.siz
 have hCa:=s_Check hu a ha.vb ha.siz
 have hCb:=s_Check hu b hb.vb hb.siz
 rw [chk_T] at hCa hCb
 have h1:=ha.siz
 have h2:=hb.siz
 have p1:1≤(sizV a).2:=nd_pos a
 have p2:1≤(sizV b).2:=nd_pos b
 refine Or.inl (eX _ (aN (hCa) ?_))
 refine aN (fun hq=>?_) (fun hq=>?_)
 ·have hq:faultV a≠0:=by simpa using hq
  exact congrArg (AV.i .i64) (show faultV a = pairF a b from (if_pos hq).symm)
 have hq:¬ faultV a≠0:=by simpa using hq
 refine Or.inl (eX _ (aN (hCb) ?_))
 refine aN (fun hr=>?_) (fun hr=>?_)
 ·have hr:faultV b≠0:=by simpa using hr
  exact congrArg (AV.i .i64) (show faultV b = pairF a b by unfold pairF; rw [if_neg hq,if_pos hr])
 have hr:¬ faultV b≠0:=by simpa using hr
 refine eX [.blk [0,1,2,3,4,5]] (aN (by kernel_rfl) ?_)
 refine eX _ (aN (hNa) ?_)
 refine eX _ (aN (hNb) ?_)
 (refine rNG ?_)
 refine aN (fun hs=>?_) (fun hs=>?_)
 ·have hs:200 < nd a + nd b:=of_decide_eq_true hs
  exact congrArg (AV.i .i64) (show (2:Int) = pairF a b by unfold pairF; rw [if_neg hq,if_neg hr,if_pos hs])
 ·have hs:¬ 200 < nd a + nd b:=of_decide_eq_false hs
  exact congrArg (AV.i .i64) (show (0:Int) = pairF a b by unfold pairF; rw [if_neg hq,if_neg hr,if_neg hs])
theorem s_pcheck (hu:HasU8) (a b:Val) (ha:Mod a) (hb:Mod b):PSpec Tryd.prog 13 [.agg (encVal a),.agg (encVal b)] (.i .i64 (pairF a b)) :=
 pspec_of_vc Γ_good Tryd.func13 rfl Tryd.call13 Tryd.results13 Tryd.ntmps13 (Nat.le_of_ble_eq_true rfl) (w_pcheck hu a b ha hb)
theorem w_Far (hu:HasU8) (a b:Val) (ha:Mod a) (hb:Mod b):vc Tryd.prog Γ 16 [2,3,4,5,6,11] (Tryd.f11.body.getD .skip) (postK Γ [.tmp 4,.tmp 5] (fun v=>v = farA a b)) ⟨argSlots 0 [.agg (encVal a),.agg (encVal b)],[]⟩:=by
 refine Or.inl (eX _ (aN (s_pcheck hu a b ha hb) ?_))
 refine aN (fun hq=>?_) (fun hq=>?_)
 ·have hq:pairF a b≠0:=by simpa using hq
  unfold farA farR
  rw [if_pos hq]
  exact rfl
 ·have hq:¬ pairF a b≠0:=by simpa using hq
  obtain ⟨h1,h2,h3⟩:=pairF_ok (by simpa using hq)
  have p1:=nd_pos a
  have p2:=nd_pos b
  have hF:=s_far _ a b (Nat.lt_succ_self (SizeOf.sizeOf a)) ha.vb hb.vb (by omega) (by omega)
  unfold farA farR
  rw [if_neg hq]
  refine Or.inl (eX _ (aN (hF) ?_))
  exact rfl
theorem s_Far (hu:HasU8) (a b:Val) (ha:Mod a) (hb:Mod b):PSpec Tryd.prog 11 [.agg (encVal a),.agg (encVal b)] (farA a b) :=
 pspec_of_vc Γ_good Tryd.func11 rfl Tryd.call11 Tryd.results11 Tryd.ntmps11 (Nat.le_of_ble_eq_true rfl) (w_Far hu a b ha hb)
theorem w_costs (a:Val) (l:List OpR) (ha:Mod a) (hl:∀ o ∈ l,Mod o.v∧o.key.length≤10000000) (hn:l.length≤1000):vc Tryd.prog Γ 80 [1,2,4,5,6,8,9,10,11,14,16,17,18,19,20,30,51,52,59,64,69] (Tryd.f8.body.getD .skip) (postK Γ [.tmp 4,.cell 5 26] (fun v=>RL v (.tup [.i .i64 (cosF a 0 l).1,.agg (encVal (cosF a 0 l).2)]))) ⟨argSlots 0 [.agg (encVal a),.rd .op l],[]⟩:=by
 generalize hR:cosF a 0 l = R
 intro hml
 refine eX [] (eX [] (eX [] (eX (Nat × Val × Int) (eX (fun q=>q.1≤l.length∧Mod q.2.1∧R = cosF q.2.1 q.2.2 (l.drop q.1)∧0≤q.2.2∧q.2.2≤4000000000 * q.1) (eX (fun ⟨i,v,z⟩=>⟨[(2,.pt 2 0),(5,.pt 5 0),(6,.i .i64 z),(17,.rd .op l),(18,.i .i64 l.length),(19,.i .i64 i)],[(2,encVal v),(5,[.i .i64 0,.i .i64 0,.i .u64 0,.s [],.nl,.nl])]⟩) (eX (fun q=>l.length - q.1) (eX (0,a,0) (aN ⟨Nat.zero_le _,ha,hR.symm,Int.le_refl _,Int.le_refl _⟩ (aN ?_ ?_)))))))))
 ·exact wK
 rintro ⟨i,v,z⟩ ⟨hi,hv,hI,hz0,hz1⟩
 simp only at hi hv hI hz0 hz1
 refine aN (fun hz=>?_) (fun hz=>?_)
 ·have hi:=ltD hz
  have hg:=getI (τ:=.op) hi
  refine bN2 ?_
  rw [hg]
  have ho:=hl l[i] (List.getElem_mem hi)
  rw [List.drop_eq_getElem_cons hi,cosF] at hI
  refine Or.inl (eX _ (aN (s_updd v l[i] hv ho.1 ho.2) ?_))
  refine aN (fun hq=>?_) (fun hq=>?_)
  ·have hq:(applyV v l[i]).2≠0:=by simpa using hq
   rw [if_pos hq] at hI
   rw [hI]
   refine eX [.blk [0,1],.one 2] (aN (by kernel_rfl) ?_)
   exact rL
  ·have hq:¬ (applyV v l[i]).2≠0:=by simpa using hq
   rw [if_neg hq] at hI
   have hq0:(applyV v l[i]).2 = 0:=by simpa using hq
   obtain ⟨g1,g2,g3⟩:=applyV_good hq0
   have hm:=mod_app hv ho.1 ho.2 hq0
   have hL:=s_Led l[i].p v (fun p hp=>((pathF_ok g3).2 p hp).1)
   have n1:(sizV v).2≤1000000000:=hv.siz
   have n2:(sizV l[i].v).2≤1000000000:=ho.1.siz
   have n3:(sizV (ledV v l[i].p).1).2≤1000000000:=Int.le_trans (nd_led v l[i].p) n1
   have p2:1≤(sizV l[i].v).2:=nd_pos l[i].v
   have p3:1≤(sizV (ledV v l[i].p).1).2:=nd_pos (ledV v l[i].p).1
   have cb:=cost_b (o:=l[i]) (v:=v) n1 n2
   have hi0:(i:Int)≤1000:=by omega
   refine Or.inl (eX _ (aN (hL) ?_))
   refine Or.inl (eX _ (aN (s_SizeD _ (ledV v l[i].p).1 (Nat.lt_succ_self _) n3) ?_))
   refine Or.inl (eX _ (aN (s_SizeD _ l[i].v (Nat.lt_succ_self _) n2) ?_))
   by_cases c1:l[i].kind = 1
   ·have e:costO v l[i] = (sizV (ledV v l[i].p).1).2 + (sizV l[i].v).2:=if_pos c1
    rw [e] at hI cb
    (repeat' (first | (refine aN (fun h=>?_) (fun h=>?_)<;>(try simp [-List.getD_eq_getElem?_getD,-Int.pred_toNat] at h)<;>(try (exfalso; first | omega | contradiction))) | refine bX ?_ | intro _))
    refine eX [] (eX (i + 1,(applyV v l[i]).1,z + ((sizV (ledV v l[i].p).1).2 + (sizV l[i].v).2)) (aN ⟨hi,hm,hI,(by show 0≤z + _; omega),(by show z + _≤4000000000 * ((i + 1:Nat):Int); omega)⟩ (aN ?_ ?_)))
    ·exact wK
    ·(exact Nat.sub_lt_sub_left (by omega) (by omega))
   by_cases c2:l[i].kind = 2
   ·have e:costO v l[i] = (sizV l[i].v).2:=by unfold costO; rw [if_neg c1,if_pos c2]; rfl
    rw [e] at hI cb
    (repeat' (first | (refine aN (fun h=>?_) (fun h=>?_)<;>(try simp [-List.getD_eq_getElem?_getD,-Int.pred_toNat] at h)<;>(try (exfalso; first | omega | contradiction))) | refine bX ?_ | intro _))
    refine eX [] (eX (i + 1,(applyV v l[i]).1,z + ((sizV l[i].v).2)) (aN ⟨hi,hm,hI,(by show 0≤z + _; omega),(by show z + _≤4000000000 * ((i + 1:Nat):Int); omega)⟩ (aN ?_ ?_)))
    ·exact wK
    ·(exact Nat.sub_lt_sub_left (by omega) (by omega))
   by_cases c3:l[i].kind = 3
   ·have e:costO v l[i] = (sizV (ledV v l[i].p).1).2:=by unfold costO; rw [if_neg c1,if_neg c2,if_pos c3]; rfl
    rw [e] at hI cb
    (repeat' (first | (refine aN (fun h=>?_) (fun h=>?_)<;>(try simp [-List.getD_eq_getElem?_getD,-Int.pred_toNat] at h)<;>(try (exfalso; first | omega | contradiction))) | refine bX ?_ | intro _))
    refine eX [] (eX (i + 1,(applyV v l[i]).1,z + ((sizV (ledV v l[i].p).1).2)) (aN ⟨hi,hm,hI,(by show 0≤z + _; omega),(by show z + _≤4000000000 * ((i + 1:Nat):Int); omega)⟩ (aN ?_ ?_)))
    ·exact wK
    ·(exact Nat.sub_lt_sub_left (by omega) (by omega))
   by_cases c4:l[i].kind = 4
   ·have e:costO v l[i] = (sizV (ledV v l[i].p).1).2 + (sizV (ledV v l[i].p).1).2:=by unfold costO; rw [if_neg c1,if_neg c2,if_neg c3,if_pos c4]; rfl
    rw [e] at hI cb
    (repeat' (first | (refine aN (fun h=>?_) (fun h=>?_)<;>(try simp [-List.getD_eq_getElem?_getD,-Int.pred_toNat] at h)<;>(try (exfalso; first | omega | contradiction))) | refine bX ?_ | intro _))
    refine eX [] (eX (i + 1,(applyV v l[i]).1,z + ((sizV (ledV v l[i].p).1).2 + (sizV (ledV v l[i].p).1).2)) (aN ⟨hi,hm,hI,(by show 0≤z + _; omega),(by show z + _≤4000000000 * ((i + 1:Nat):Int); omega)⟩ (aN ?_ ?_)))
    ·exact wK
    ·(exact Nat.sub_lt_sub_left (by omega) (by omega))
   ·have e:costO v l[i] = 0:=by unfold costO; rw [if_neg c1,if_neg c2,if_neg c3,if_neg c4]
    rw [e,Int.add_zero] at hI
    (repeat' (first | (refine aN (fun h=>?_) (fun h=>?_)<;>(try simp [-List.getD_eq_getElem?_getD,-Int.pred_toNat] at h)<;>(try (exfalso; first | omega | contradiction))) | refine bX ?_ | intro _))
    refine eX [] (eX (i + 1,(applyV v l[i]).1,z) (aN ⟨hi,hm,hI,hz0,(by show z≤4000000000 * ((i + 1:Nat):Int); omega)⟩ (aN ?_ ?_)))
    ·exact wK
    ·(exact Nat.sub_lt_sub_left (by omega) (by omega))
 ·have hi:=geD hi hz
  rw [List.drop_eq_nil_of_le (by omega),cosF] at hI
  rw [hI]
  refine eX [.blk [0,1,2],.one 3] (aN (by kernel_rfl) ?_)
  exact rL
theorem s_costs (a:Val) (l:List OpR) (ha:Mod a) (hl:∀ o ∈ l,Mod o.v∧o.key.length≤10000000) (hn:l.length≤1000):PSpec Tryd.prog 8 [.agg (encVal a),.rd .op l] (.tup [.i .i64 (cosF a 0 l).1,.agg (encVal (cosF a 0 l).2)]) :=
 pspec_of_vcL Γ_good Tryd.func8 rfl Tryd.call8 Tryd.results8 Tryd.ntmps8 (Nat.le_of_ble_eq_true rfl) (w_costs a l ha hl hn)
end
end Go.Proofs.YtfeniggadfkakaaDoor
end
section
namespace Go.Proofs.YtfeniggadfkakaaDoor
open Go Go.SX Go.Vl
set_option maxRecDepth 100000
set_option maxHeartbeats 0
def ownA (a:Val) (m n:Nat):AV:=.ag 0 [.i .i64 a.kind,.i .i64 a.n,.i .u64 a.f,.s a.s,.vec m .val a.l,.vec n .ent a.e]
section
variable [G:Globs]
theorem w_ownO (a:Val) (hl:a.l.length≤100000000) (he:a.e.length≤100000000) (hc:∀ x ∈ a.l,PSpec Tryd.prog 38 [.agg (encVal x)] (.agg (encVal x))) (hp:∀ x ∈ a.e,PSpec Tryd.prog 38 [.agg (encVal x.2)] (.agg (encVal x.2))):vc Tryd.prog (Γ.kp 26) 48 [1,2,3,4,6,8,15,16,17,18,29,30,31,32,1000,1001] (Tryd.f38.body.getD .skip) (postBK (Γ.kp 26) [.cell 2 26] (.ag 0 [.i .i64 a.kind,.i .i64 a.n,.i .u64 a.f,.s a.s,.vec 1000 .val a.l,.vec 1001 .ent a.e]) []) ⟨argSlots 0 [.agg (encVal a)],[]⟩:=by
 refine eX [.blk [0,1,2,3,4,5]] (aN (by kernel_rfl) ?_)
 intro hml
 refine eX [] (eX [(1,4,47,.val)] (eX [] (eX Nat (eX (fun i=>i≤a.l.length) (eX (fun i=>⟨[(1,.pt 1 0),(2,.pt 2 0),(4,.rd .ent a.e),(15,.rd .val a.l),(16,.i .i64 a.l.length),(17,.i .i64 i)],[(1,[.i .i64 a.kind,.i .i64 a.n,.i .u64 a.f,.s a.s,.vec 47 .val (a.l.take i),.nl]),(2,[.i .i64 0,.i .i64 0,.i .u64 0,.s [],.nl,.nl])]⟩) (eX (fun i=>a.l.length - i) (eX 0 (aN (Nat.zero_le _) (aN ?_ ?_)))))))))
 ·exact wK
 ·rintro i hi
  refine aN (fun hz=>?_) (fun hz=>?_)
  · have hi : i < a.l.length := by have : (i : Int) < (a.l.length : Int) := of_decide_eq_true hz
                                   omega
    have hg:a.l.getD (Int.toNat (i:Int)) (dflt .val) = a.l[i]:=by rw [Int.toNat_natCast,List.getD_eq_getElem?_getD,List.getElem?_eq_getElem hi]; rfl
    refine bN2 ?_
    have hs:=hc a.l[i] (List.getElem_mem hi)
    rw [← hg] at hs
    refine eX [.blk [0,1,2,3,4] [25],.one 5,.take 6,.one 7] (aN (by kernel_rfl) ?_)
    refine eX _ (aN (hs) ?_)
    rw [hg]
    refine aN (show ((a.l.take i).length + 1) * 88≤140737488355328 by rw [List.length_take]; omega) ?_
    (refine rNG ?_)
    have e:a.l.take i++[(⟨a.l[i].kind,a.l[i].n,a.l[i].f,a.l[i].s,a.l[i].l,a.l[i].e⟩:Val)] = a.l.take (i + 1):=by rw [val_eta,List.take_add_one,List.getElem?_eq_getElem hi]; rfl
    refine eX [(26,47)] (eX (i + 1) (aN hi (aN ?_ ?_)))
    ·(repeat' (first | exact wA | exact Or.inl ((congrArg (AV.vec 47 .val) e)) | refine aN ?_ ?_))
    ·show a.l.length - (i + 1) < a.l.length - i
     omega
  · have hi : i = a.l.length := by have : ¬ (i : Int) < (a.l.length : Int) := of_decide_eq_false hz
                                   omega
    subst hi
    rw [List.take_length]
    intro hme
    refine eX [] (eX [(1,5,46,.ent)] (eX [] (eX Nat (eX (fun i=>i≤a.e.length) (eX (fun i=>⟨[(1,.pt 1 0),(2,.pt 2 0),(29,.rd .ent a.e),(30,.i .i64 a.e.length),(31,.i .i64 i)],[(1,[.i .i64 a.kind,.i .i64 a.n,.i .u64 a.f,.s a.s,.vec 47 .val a.l,.vec 46 .ent (a.e.take i)]),(2,[.i .i64 0,.i .i64 0,.i .u64 0,.s [],.nl,.nl])]⟩) (eX (fun i=>a.e.length - i) (eX 0 (aN (Nat.zero_le _) (aN ?_ ?_)))))))))
    ·exact wK
    ·rintro i hi
     refine aN (fun hz=>?_) (fun hz=>?_)
     · have hi : i < a.e.length := by have : (i : Int) < (a.e.length : Int) := of_decide_eq_true hz
                                      omega
       have hg:a.e.getD (Int.toNat (i:Int)) (dflt .ent) = a.e[i]:=by rw [Int.toNat_natCast,List.getD_eq_getElem?_getD,List.getElem?_eq_getElem hi]; rfl
       refine bN2 ?_
       have hs:=hp a.e[i] (List.getElem_mem hi)
       rw [← hg] at hs
       refine eX [.blk [0,1,2,3,4,5,6,7,8] [43],.one 9,.take 10,.one 11] (aN (by kernel_rfl) ?_)
       refine eX _ (aN (hs) ?_)
       rw [hg]
       refine aN (show ((a.e.take i).length + 1) * 104≤140737488355328 by rw [List.length_take]; omega) ?_
       (refine rNG ?_)
       have e:a.e.take i++[(a.e[i].1,(⟨a.e[i].2.kind,a.e[i].2.n,a.e[i].2.f,a.e[i].2.s,a.e[i].2.l,a.e[i].2.e⟩:Val))] = a.e.take (i + 1):=by rw [val_eta,List.take_add_one,List.getElem?_eq_getElem hi]; rfl
       refine eX [(44,46)] (eX (i + 1) (aN hi (aN ?_ ?_)))
       ·(repeat' (first | exact wA | exact Or.inl ((congrArg (AV.vec 46 .ent) e)) | refine aN ?_ ?_))
       ·show a.e.length - (i + 1) < a.e.length - i
        omega
     · have hi : i = a.e.length := by have : ¬ (i : Int) < (a.e.length : Int) := of_decide_eq_false hz
                                      omega
       subst hi
       rw [List.take_length]
       refine eX [(47,1000),(46,1001)] (aN rfl wK)
theorem s_ownO (a:Val) (hl:a.l.length≤100000000) (he:a.e.length≤100000000) (hc:∀ x ∈ a.l,PSpec Tryd.prog 38 [.agg (encVal x)] (.agg (encVal x))) (hp:∀ x ∈ a.e,PSpec Tryd.prog 38 [.agg (encVal x.2)] (.agg (encVal x.2))):CSpec Tryd.prog 38 [.agg (encVal a)] [] (.ag 0 [.i .i64 a.kind,.i .i64 a.n,.i .u64 a.f,.s a.s,.vec 1000 .val a.l,.vec 1001 .ent a.e]) [] :=
 cspec_of_vc (Ctx.good_kp Γ_good 26) Tryd.func38 rfl Tryd.call38 Tryd.results38 Tryd.ntmps38 (Nat.le_of_ble_eq_true rfl) (Nat.le_of_ble_eq_true rfl) (by rfl) (w_ownO a hl he hc hp)
theorem s_OwnO (a:Val) (ha:VN 100000000 a):CSpec Tryd.prog 38 [.agg (encVal a)] [] (ownA a 1000 1001) []:=by
 cases ha with
 | mk _ a1 a2 a3 a4=>exact s_ownO a a1 a2 (fun x hx=>s_Own x (a3 x hx)) (fun x hx=>s_Own x.2 (a4 x hx))
end
end Go.Proofs.YtfeniggadfkakaaDoor
end
section
namespace Go.Proofs.YtfeniggadfkakaaDoor
open Go Go.SX Go.Ck Go.Vl Go.Ut Go.Up
set_option maxRecDepth 100000
set_option maxHeartbeats 1000000
section
variable [G:Globs]
theorem w_getO (hu:HasU8) (a:Val) (l:List PStep) (ha:VN 100000000 a) (hp:pathF l = 0) (h0:(ledV a l).2 = 0):vc Tryd.prog (Γ.kp 26) 35 [1,2,4,5,6,8,9,13,16,17,18,19,29,1000,1001] (Tryd.f23.body.getD .skip) (postBK (Γ.kp 26) [.cell 4 26,.tmp 5] (.ag 6 [.i .i64 (ledV a l).1.kind,.i .i64 (ledV a l).1.n,.i .u64 (ledV a l).1.f,.s (ledV a l).1.s,.vec 1000 .val (ledV a l).1.l,.vec 1001 .ent (ledV a l).1.e,.i .i64 0]) []) ⟨argSlots 0 [.agg (encVal a),.rd .pstep l],[]⟩:=by
 refine Or.inl (eX _ (aN (s_pathC hu l) ?_))
 refine aN (fun hq=>?_) (fun hq=>?_)
 ·have hq:pathF l≠0:=by simpa using hq
  exact absurd hp hq
 have hq:¬ pathF l≠0:=by simpa using hq
 intro hl
 refine eX [] (eX [] (eX [] (eX Nat (eX (fun i=>i≤(l).length∧((ledV a (l.take i)).2 = 0)) (eX (fun i=>⟨[(2,.pt 2 0),(4,.pt 4 0),(5,.i .i64 0),(16,.rd .pstep l),(17,.i .i64 l.length),(18,.i .i64 i)],[(2,encVal (ledV a (l.take i)).1),(4,[.i .i64 0,.i .i64 0,.i .u64 0,.s [],.nl,.nl])]⟩) (eX (fun i=>(l).length - i) (eX 0 (aN ⟨Nat.zero_le _,rfl⟩ (aN ?_ ?_)))))))))
 ·exact wK
 rintro i ⟨hi,hI⟩
 refine aN (fun hz=>?_) (fun hz=>?_)
 ·have hi:=ltD hz
  have hg:=getI (τ:=.pstep) hi
  refine bN2 ?_
  rw [hg]
  have hs:=s_part (ledV a (l.take i)).1 l[i]
  have hap:=ledV_append (l.take i) [l[i]] a hI
  rw [← take_snoc hi,ledV_one] at hap
  have hap2:=ledV_append (l.take i) (l.drop i) a hI
  rw [List.take_append_drop,List.drop_eq_getElem_cons hi,ledV] at hap2
  have:=len_le hl
  refine Or.inl (eX _ (aN (hs) ?_))
  refine aN (fun hq=>?_) (fun hq=>?_)
  ·have hq:(partV (ledV a (l.take i)).1 l[i]).2≠0:=by simpa using hq
   rw [if_pos hq] at hap2
   exact absurd (by rw [hap2] at h0; exact h0) hq
  ·have hq:¬ (partV (ledV a (l.take i)).1 l[i]).2≠0:=by simpa using hq
   rw [if_neg hq] at hap
   have e1:(ledV a (l.take (i + 1))).1 = (partV (ledV a (l.take i)).1 l[i]).1:=by rw [hap]
   (refine rNG ?_)
   refine eX [] (eX (_ + 1) (aN ⟨hi,(by rw [hap])⟩ (aN ?_ ?_)))
   ·(repeat' (first | exact wA | exact Or.inl ((congrArg (fun v:Val=>AV.i .i64 v.kind) e1.symm)) | exact Or.inl ((congrArg (fun v:Val=>AV.i .i64 v.n) e1.symm)) | exact Or.inl ((congrArg (fun v:Val=>AV.i .u64 v.f) e1.symm)) | exact Or.inl ((congrArg (fun v:Val=>AV.s v.s) e1.symm)) | exact Or.inl ((congrArg (fun v:Val=>AV.rd .val v.l) e1.symm)) | exact Or.inl ((congrArg (fun v:Val=>AV.rd .ent v.e) e1.symm)) | refine aN ?_ ?_))
   ·(exact Nat.sub_lt_sub_left (by omega) (by omega))
 ·(have hi:=geD hi hz)
  subst hi
  rw [List.take_length] at hI ⊢
  refine Or.inr (Or.inl (eX [] (eX _ (eX _ (eX _ (eX _ (eX _ (eX [(1000,7),(1001,8)] (aN (s_OwnO (ledV a l).1 (ledV_keep (R:=VN 100000000) (vn_zero _) (fun _ h _ hx=>vn_part h hx) l a ha)) ?_)))))))))
  refine (aN rfl (aN rfl (aN rfl (aN rfl ?_))))
  refine eX [(7,1000),(8,1001)] (aN rfl wK)
theorem s_getO (hu:HasU8) (a:Val) (l:List PStep) (ha:VN 100000000 a) (hp:pathF l = 0) (h0:(ledV a l).2 = 0):CSpec Tryd.prog 23 [.agg (encVal a),.rd .pstep l] [] (.ag 6 [.i .i64 (ledV a l).1.kind,.i .i64 (ledV a l).1.n,.i .u64 (ledV a l).1.f,.s (ledV a l).1.s,.vec 1000 .val (ledV a l).1.l,.vec 1001 .ent (ledV a l).1.e,.i .i64 0]) [] :=
 cspec_of_vc (Ctx.good_kp Γ_good 26) Tryd.func23 rfl Tryd.call23 Tryd.results23 Tryd.ntmps23 (Nat.le_of_ble_eq_true rfl) (Nat.le_of_ble_eq_true rfl) (by rfl) (w_getO hu a l ha hp h0)
end
end Go.Proofs.YtfeniggadfkakaaDoor
end
section
namespace Go.Proofs.YtfeniggadfkakaaDoor
open Go Go.SX Go.Vl
set_option maxRecDepth 100000
set_option maxHeartbeats 0
section
variable [G:Globs]
end
end Go.Proofs.YtfeniggadfkakaaDoor
end
section
namespace Go.SX
variable {P:Program}
def spl (cur:Array Value) (o:Nat) (cs:List Value):Array Value:=(cur.toList.take o++cs++cur.toList.drop (o + cs.length)).toArray
theorem spl_size {cur:Array Value} {o:Nat} {cs:List Value} (h:o + cs.length≤cur.size):(spl cur o cs).size = cur.size:=by
 have:cur.toList.length = cur.size:=Array.length_toList
 simp only [spl,List.size_toArray,List.length_append,List.length_take,List.length_drop,this]
 omega
theorem spl_at {cur:Array Value} {o:Nat} {cs:List Value} (h:o + cs.length≤cur.size) (k:Nat):(spl cur o cs)[k]? = if k < o then cur[k]? else if k < o + cs.length then cs[k - o]? else cur[k]?:=by
 have hl:cur.toList.length = cur.size:=Array.length_toList
 rw [spl,List.getElem?_toArray,List.append_assoc]
 have ht:(cur.toList.take o).length = o:=by rw [List.length_take,hl]; omega
 by_cases h1:k < o
 ·rw [if_pos h1,List.getElem?_append_left (by omega),List.getElem?_take,if_pos h1,Array.getElem?_toList]
 ·rw [if_neg h1,List.getElem?_append_right (by omega),ht]
  by_cases h2:k < o + cs.length
  ·rw [if_pos h2,List.getElem?_append_left (by omega)]
  ·rw [if_neg h2,List.getElem?_append_right (by omega),List.getElem?_drop,Array.getElem?_toList]
   congr 1
   omega
theorem run_copyR (w : World) (dT sT ty elem : TypeId) (z g o dLen dCap : Nat) (a : Addr) (sLen sCap : Nat) (cs : List Value) (cur : Array Value) (e : TypeId)
  (hu:P.underlying dT = some (.slice elem)) (hs:∀ w,(Go.sizeOf elem).run P w = .ok z w) (hn:cs.length = Nat.min sLen dLen * z)
  (hsrc:∀ j v,cs[j]? = some v→w.cell? (a.add j) = some v) (hh:w.heap[g]? = some (.cells cur e (0,0))) (hfit:o + cs.length≤cur.size) (h1:∀ v ∈ cs,v.oneCell' = true) :
  (Builtin.copy_ #[dT,sT] ty #[.slice (some ⟨g,o,none⟩) dLen dCap,.slice (some a) sLen sCap]).run P w = .ok (goInt (Nat.min sLen dLen)) (w.setRow g (spl cur o cs)):=by
 have hl:=run_loadCells_list (P:=P) w a cs hsrc
 have hst:=run_storeCells_at P g o e cs 0 cur w hh (by simpa using hfit) h1
 simp only [Nat.add_zero] at hst
 simp [Builtin.copy_,run_underlying hu,Builtin.lenOf,Builtin.firstCells,hs,← hn,hl,hst,spl]
section
variable [Globs]
theorem All2.take {α γ:Type} {R:α→γ→Prop} {a:List α} {b:List γ} (h:All2 R a b) (n:Nat):All2 R (a.take n) (b.take n):=by
 refine ⟨by rw [List.length_take,List.length_take,h.1],fun j x y hx hy=>?_⟩
 rw [List.getElem?_take] at hx hy
 split at hx
 ·rename_i hj
  rw [if_pos hj] at hy
  exact h.2 j x y hx hy
 ·cases hx
theorem All2.drop {α γ:Type} {R:α→γ→Prop} {a:List α} {b:List γ} (h:All2 R a b) (n:Nat):All2 R (a.drop n) (b.drop n):=by
 refine ⟨by rw [List.length_drop,List.length_drop,h.1],fun j x y hx hy=>?_⟩
 rw [List.getElem?_drop] at hx hy
 exact h.2 _ x y hx hy
theorem flat_take (τ:Ty) (l:List (den τ)) (i:Nat) (hi:i≤l.length):flat τ (l.take i) = (flat τ l).take (i * esz τ):=by
 have h:=flat_append τ (l.take i) (l.drop i)
 rw [List.take_append_drop] at h
 rw [h,List.take_left' (by rw [flat_length,List.length_take,Nat.min_eq_left hi])]
theorem flat_drop (τ:Ty) (l:List (den τ)) (i:Nat) (hi:i≤l.length):flat τ (l.drop i) = (flat τ l).drop (i * esz τ):=by
 have h:=flat_append τ (l.take i) (l.drop i)
 rw [List.take_append_drop] at h
 rw [h,List.drop_left' (by rw [flat_length,List.length_take,Nat.min_eq_left hi])]
theorem ins_cells {O : Nat → Prop} {w : World} {τ : Ty} {l : List (den τ)} {x : den τ} {us vs : List Value} (h : All2 (Im O w) (flat τ l) us) (h2 : All2 (Im O w) (flat τ [x]) vs) (i : Nat) (hi : i ≤ l.length) :
  All2 (Im O w) (flat τ (l.take i++x::l.drop i)) (us.take (i * esz τ)++(vs++us.drop (i * esz τ))):=by
 rw [flat_append,show x::l.drop i = [x]++l.drop i from rfl,flat_append,flat_take τ l i hi,flat_drop τ l i hi]
 exact (h.take _).append (h2.append (h.drop _))
theorem row_pre {row : Array Value} {A B C : List Value} (h1 : ∀ j, j < A.length → row[j]? = A[j]?) (h2 : ∀ j, j < B.length → row[A.length + j]? = B[j]?) (h3 : ∀ j, j < C.length → row[A.length + B.length + j]? = C[j]?) :
  ∀ (j:Nat) u,(A++(B++C))[j]? = some u→row[j]? = some u:=by
 intro j u hj
 by_cases c1:j < A.length
 ·rw [List.getElem?_append_left c1] at hj
  rw [h1 j c1,hj]
 ·rw [List.getElem?_append_right (by omega)] at hj
  by_cases c2:j - A.length < B.length
  ·rw [List.getElem?_append_left c2] at hj
   have:=h2 _ c2
   rw [show A.length + (j - A.length) = j by omega] at this
   rw [this,hj]
  ·rw [List.getElem?_append_right (by omega)] at hj
   have c3:j - A.length - B.length < C.length:=(List.getElem?_eq_some_iff.1 hj).1
   have:=h3 _ c3
   rw [show A.length + B.length + (j - A.length - B.length) = j by omega] at this
   rw [this,hj]
theorem vec_end {F : Fr} {X : Nat → Prop} {N : Nat} {s : St} {β : Nat → Option Nat} {a : Act} {w w' : World} (hN : 1 ≤ N) (hI : InvB w F X N s β a w) {id g c : Nat} {τ : Ty} {L : List (den τ)} {cur : Array Value} {e : TypeId} {us : List Value}
  (hstp:Stp (fun k=>k = g) w w') (hg:(Nm s id∧β id = some g)∨w.heap.size≤g) (hh:w'.heap[g]? = some (.cells cur e (0,0))) (hlc:L.length≤c) (hc:c≤maxLen) (hsz:cur.size = c * esz τ)
  (hus:All2 (Im (Own X s β) w) (flat τ L) us) (hpre:∀ (j:Nat) u,us[j]? = some u→cur[j]? = some u) (ha:a.defers = []:=by rfl) :
  InvB w F X 1 ⟨[(0,.vec id τ L)],[]⟩ (fun n=>if n = id then some g else none) ⟨#[.slice (some ⟨g,0,none⟩) L.length c],[]⟩ w':=by
 have hNm:∀ n,Nm ⟨[(0,.vec id τ L)],[]⟩ n→n = id:=by
  rintro n (⟨cs,h⟩ | ⟨m,h⟩ | ⟨b,cs,h,_⟩)
  ·cases h
  ·simp only [look] at h
   cases hb:Nat.beq 0 m with
   | true=>rw [hb] at h; simpa [ids,ids0] using h
   | false=>rw [hb] at h; simp [ids,ids0] at h
  ·cases h
 have hO:∀ k,Own X ⟨[(0,.vec id τ L)],[]⟩ (fun n=>if n = id then some g else none) k→X k∨k = g:=by
  rintro k (h | ⟨n,h1,h2⟩)
  ·exact .inl h
  ·have:=hNm n h1
   subst this
   simp only [if_true] at h2
   injection h2 with h2
   exact .inr h2.symm
 have hgo:∀ k,k < w.heap.size→k = g→Own X s β k:=by
  rintro k hk rfl
  rcases hg with ⟨h1,h2⟩ | h1
  ·exact .inr ⟨id,h1,h2⟩
  ·omega
 have hlt:g < w'.heap.size:=(Array.getElem?_eq_some_iff.1 hh).1
 have hown:w.heap.size≤g∨F.own g:=by
  rcases hg with ⟨h1,h2⟩ | h1
  ·exact (hI.own id g h1 h2).2
  ·exact .inl h1
 refine ⟨hstp.mono (fun k hk e=>?_),fun n=>?_,rfl,fun n cs h=>(by cases h),fun n m k hn hm _ _=>(hNm n hn).trans (hNm m hm).symm,fun n k hn hk=>?_,ha.symm.trans hI.defers,hI.ext2,fun n cs k h=>(by cases h),fun n hn=>hI.pinN n (by omega),hI.gl⟩
 ·rcases hown with h | h
  ·omega
  ·rw [e]; exact h
 ·show Rel _ _ _ (look [(0,.vec id τ L)] n) _
  simp only [look]
  cases hb:Nat.beq 0 n with
  | true =>
   have:=Nat.eq_of_beq_eq_true hb
   subst this
   refine vec_of (β:=fun n=>if n = id then some g else none) (d:=id) (g:=g) (if_pos rfl) hh hlc hc hsz (hus.mono fun _ _ _ _ him=>him.step hstp hgo fun k hk ho=>?_) hpre
   rcases hO k ho with h | h
   ·exact .inl h
   ·exact hgo k hk h
  | false=>exact Rel.x
 ·have:=hNm n hn
  subst this
  simp only [if_true] at hk
  injection hk with hk
  subst hk
  exact ⟨hlt,hown⟩
theorem vec_one {O:Nat→Prop} {w:World} {τ:Ty} {l:List (den τ)} {cur:Array Value} (h:All2 (Im O w) (flat τ l) (cur.toList.take (l.length * esz τ))):∀ v ∈ cur.toList.take (l.length * esz τ),v.oneCell' = true:=by
 intro v hv
 obtain ⟨j,hj,rfl⟩:=List.getElem_of_mem hv
 have hj':j < (flat τ l).length:=by rw [h.1]; exact hj
 exact plain_one (h.2 j _ _ (List.getElem?_eq_getElem hj') (List.getElem?_eq_getElem hj)) (flat_plain (List.getElem_mem hj'))
end
end Go.SX
end
section
namespace Go.Proofs.YtfeniggadfkakaaDoor
open Go Go.SX Go.RowKit Go.Lib
set_option maxRecDepth 100000
set_option maxHeartbeats 4000000
theorem ins_szE (w:World):(Go.sizeOf 55).run Tryd.prog w = .ok 7 w:=letI:Globs:=⟨[]⟩; elem_sz ti55_ok (τ:=.ent) rfl w
theorem ins_ovE (w : World) (g vb o m vc lb cb : Nat) (cur cur2 : Array Value) (e e2 : TypeId) (hvb : vb ≠ g) (hg : w.heap[g]? = some (.cells cur e (0, 0))) (hv : w.heap[vb]? = some (.cells cur2 e2 (0, 0))) (hk : cur.size ≠ 0) :
  (callFunc 85 #[.slice (some ⟨vb,0,none⟩) m vc,.slice (some ⟨g,o,none⟩) lb cb]).run Tryd.prog w = .ok (.value (.bool false)) w:=by
 rw [run_callFunc_extern Tryd.func85 (by kernel_rfl) (by kernel_rfl) (by kernel_rfl) (e := Extern.SlicesOverlaps.overlaps #[24, 24] #[4]) (by kernel_rfl),
     Lib.run_overlaps_apart w 24 4 55 Tryd.underlying24 7 ins_szE ⟨vb,0,none⟩ ⟨g,o,none⟩ m vc lb cb hvb e2 e cur2.size cur.size (by simp [World.shape?,hv]) (by simp [World.shape?,hg]) hk (by simp [World.frozen?,hv]) (by simp [World.frozen?,hv])]
 rfl
theorem ins_shiftE (g n c i vb m vc : Nat) (cur cur2 : Array Value) (e e2 : TypeId) (w : World) (hi : i < n) (hm : 0 < m) (hroom : n + m ≤ c) (hc63 : c ≤ 9223372036854775807) (hvb : vb ≠ g)
  (hg:w.heap[g]? = some (.cells cur e (0,0))) (hcs:cur.size = c * 7) (hv:w.heap[vb]? = some (.cells cur2 e2 (0,0))) (hcs2:cur2.size = vc * 7) (hvc:m≤vc)
  (h1c:∀ v ∈ cur.toList.take (n * 7),v.oneCell' = true) (h1v:∀ v ∈ cur2.toList.take (m * 7),v.oneCell' = true) :
  Calls Tryd.prog 80 #[.slice (some ⟨g,0,none⟩) n c,.int .i64 i,.slice (some ⟨vb,0,none⟩) m vc] w fun e w' =>
   e = .returned (.slice (some ⟨g,0,none⟩) (n + m) c)∧w' = (w.drew.setRow g (spl cur ((i + m) * 7) ((cur.toList.take (n * 7)).drop (i * 7)))).setRow g (spl (spl cur ((i + m) * 7) ((cur.toList.take (n * 7)).drop (i * 7))) (i * 7) (cur2.toList.take (m * 7))):=by
 have mixed:Tryd.prog.follows .mixedOrders = true:=by kernel_rfl
 have hz1:¬ ((m:Int) = 0):=by omega
 have hz2:¬ ((i:Int) = (n:Int)):=by omega
 have hw1:IntKind.i64.wrap ((i:Int) + (m:Int)) = (i:Int) + (m:Int):=by rw [IntKind.wrap_i64]; omega
 have hb1:(0:Int)≤(i:Int) + (m:Int):=by omega
 have hin:i≤n:=by omega
 have htn:((i:Int) + (m:Int)).toNat = i + m:=by omega
 have hb2:¬ (c = i + m):=by omega
 have hb3:(i:Int)≤(n:Int) + (m:Int):=by omega
 have hb4:¬ (c = i):=by omega
 have hov:∀ lb cb,(callFunc 85 #[.slice (some ⟨vb,0,none⟩) m vc,.slice (some ⟨g,(i + m) * 7,none⟩) lb cb]).run Tryd.prog w = .ok (.value (.bool false)) w:=fun lb cb =>
  ins_ovE w g vb _ m vc lb cb cur cur2 e e2 hvb hg hv (by omega)
 have hl:cur.toList.length = cur.size:=Array.length_toList
 have hl2:cur2.toList.length = cur2.size:=Array.length_toList
 have hdl:((cur.toList.take (n * 7)).drop (i * 7)).length = (n - i) * 7:=by rw [List.length_drop,List.length_take,hl]; omega
 have htl:(cur2.toList.take (m * 7)).length = m * 7:=by rw [List.length_take,hl2]; omega
 obtain ⟨r1,hr1⟩:∃ r1,r1 = spl cur ((i + m) * 7) ((cur.toList.take (n * 7)).drop (i * 7)):=⟨_,rfl⟩
 have hfit:(i + m) * 7 + ((cur.toList.take (n * 7)).drop (i * 7)).length≤cur.size:=by rw [hdl]; omega
 have hr1s:r1.size = cur.size:=by rw [hr1]; exact spl_size hfit
 have hcp1:∀ ty dc sc,(Builtin.copy_ #[24,24] ty #[.slice (some ⟨g,(i + m) * 7,none⟩) (n + m - (i + m)) dc,.slice (some ⟨g,i * 7,none⟩) (n + m - i) sc]).run Tryd.prog w.drew = .ok (goInt ((n - i:Nat):Int)) (w.drew.setRow g r1):=fun ty dc sc=>by
  have hmin:Nat.min (n + m - i) (n + m - (i + m)) = n - i:=by show min _ _ = _; omega
  have:=run_copyR w.drew 24 24 ty 55 7 g ((i + m) * 7) (n + m - (i + m)) dc ⟨g,i * 7,none⟩ (n + m - i) sc ((cur.toList.take (n * 7)).drop (i * 7)) cur e Tryd.underlying24 ins_szE (by rw [hdl,hmin])
   (fun j v hj=>by
    rw [Addr.add_lit,cell_of_row w.drew g _ cur e (0,0) hg]
    rw [List.getElem?_drop,List.getElem?_take] at hj
    split at hj
    ·simpa using hj
    ·cases hj) hg hfit (fun v hv=>h1c v (List.mem_of_mem_drop hv))
  rw [hmin,← hr1] at this
  exact this
 have hcp2:∀ (W:World),(∀ k:Nat,W.heap[k]? = (w.drew.setRow g r1).heap[k]?)→∀ ty dc,(Builtin.copy_ #[24,24] ty #[.slice (some ⟨g,i * 7,none⟩) (n + m - i) dc,.slice (some ⟨vb,0,none⟩) m vc]).run Tryd.prog W = .ok (goInt ((m:Nat):Int)) (W.setRow g (spl r1 (i * 7) (cur2.toList.take (m * 7)))):=fun W hW ty dc=>by
  have hmin:Nat.min m (n + m - i) = m:=by show min _ _ = _; omega
  have hvW:W.heap[vb]? = some (.cells cur2 e2 (0,0)):=by rw [hW,setRow_other _ _ _ _ hvb]; exact hv
  have hgW:W.heap[g]? = some (.cells r1 e (0,0)):=by rw [hW]; exact setRow_heap w.drew g cur r1 e (0,0) hg
  have:=run_copyR W 24 24 ty 55 7 g (i * 7) (n + m - i) dc ⟨vb,0,none⟩ m vc (cur2.toList.take (m * 7)) r1 e Tryd.underlying24 ins_szE (by rw [htl,hmin])
   (fun j v hj=>by
    rw [Addr.add_lit,cell_of_row W vb _ cur2 e2 (0,0) hvW,Nat.zero_add]
    rw [List.getElem?_take] at hj
    split at hj
    ·simpa using hj
    ·cases hj) hgW (by rw [htl,hr1s]; omega) h1v
  rw [hmin] at this
  exact this
 rw [← hr1]
 clear hr1 hr1s h1c h1v hcs hcs2 hg hv hfit hl hl2 hdl htl
 go_enter Tryd.func80,Tryd.ntmps80
 go_wp2_with (simp only [hov])
 go_region_law_o (refine step_copy_runI rfl _ _ 24 24 rfl _ _ (by simp [Act.eval,Act.put]) (by simp [Act.eval,Act.put]) (hcp1 _ _ _) ?_)
 go_wp2_with (at_builtin; refine wpList_copy_runI _ rfl _ _ 24 24 rfl _ _ rfl rfl (hcp2 _ (fun _=>rfl) _ _) ?_)
 go_ret
 first | exact ⟨rfl,rfl⟩ | exact ⟨trivial,rfl⟩
theorem ins_end_roomE (g n c vb m vc : Nat) (cur cur2 : Array Value) (e e2 : TypeId) (w : World) (hm : 0 < m) (hroom : n + m ≤ c) (hc63 : c ≤ 9223372036854775807) (hvb : vb ≠ g)
  (hg:w.heap[g]? = some (.cells cur e (0,0))) (hcs:cur.size = c * 7) (hv:w.heap[vb]? = some (.cells cur2 e2 (0,0))) (hcs2:cur2.size = vc * 7) (hvc:m≤vc)
  (h1c:∀ v ∈ cur.toList.take (n * 7),v.oneCell' = true) (h1v:∀ v ∈ cur2.toList.take (m * 7),v.oneCell' = true) (hbig:(n + m) * 104≤140737488355328) :
  Calls Tryd.prog 80 #[.slice (some ⟨g,0,none⟩) n c,.int .i64 n,.slice (some ⟨vb,0,none⟩) m vc] w fun e w' =>
   e = .returned (.slice (some ⟨g,0,none⟩) (n + m) c)∧w' = w.setRow g (spl cur (n * 7) (cur2.toList.take (m * 7))):=by
 letI:Globs:=⟨[]⟩
 have mixed:Tryd.prog.follows .mixedOrders = true:=by kernel_rfl
 have hz1:¬ ((m:Int) = 0):=by omega
 have hl:cur.toList.length = cur.size:=Array.length_toList
 have hl2:cur2.toList.length = cur2.size:=Array.length_toList
 have htl:(cur2.toList.take (m * 7)).length = m * 7:=by rw [List.length_take,hl2]; omega
 have hrun:∀ ty,(Builtin.append_ #[24,24] ty #[.slice (some ⟨g,0,none⟩) n c,.slice (some ⟨vb,0,none⟩) m vc]).run Tryd.prog w = .ok (.slice (some ⟨g,0,none⟩) (n + m) c) (w.setRow g (spl cur (n * 7) (cur2.toList.take (m * 7)))):=fun ty=>by
  have hst:=run_storeCells_at Tryd.prog g (n * 7) e (cur2.toList.take (m * 7)) 0 cur w hg (by rw [htl]; omega) h1v
  simp only [Nat.add_zero] at hst
  refine (run_append_gen (w:=w) Tryd.underlying24 Tryd.underlying24 ti55_ok (τ:=.ent) rfl ty (A:=some ⟨g,0,none⟩) (A2:=some ⟨vb,0,none⟩) (n:=n) (cap:=c) (m:=m) (c:=vc) (olds:=cur.toList.take (n * 7)) (news:=cur2.toList.take (m * 7)) (fun w' hw=>?_) (fun w' hw=>?_) hbig (by unfold maxLen; omega)).1 hroom _ ?_
  ·exact run_firstCells_some w' 7 n ⟨g, 0, none⟩ n c _ (by rw [List.length_take, hl]; omega) (fun j v hj => by
    rw [Addr.add_lit,cell_of_row w' g _ cur e (0,0) (by rw [hw]; exact hg),Nat.zero_add]
    rw [List.getElem?_take] at hj
    split at hj
    ·simpa using hj
    ·cases hj)
  ·exact run_firstCells_some w' 7 m ⟨vb, 0, none⟩ m vc _ htl (fun j v hj => by
    rw [Addr.add_lit,cell_of_row w' vb _ cur2 e2 (0,0) (by rw [hw]; exact hv),Nat.zero_add]
    rw [List.getElem?_take] at hj
    split at hj
    ·simpa using hj
    ·cases hj)
  ·show (storeCells ((⟨g,0,none⟩:Addr).add (n * 7)) _).run _ _ = _
   rw [Addr.add_lit,Nat.zero_add]
   exact hst
 clear h1c h1v hg hv hcs hcs2 hl hl2 htl
 go_enter Tryd.func80,Tryd.ntmps80
 go_wp2_with (at_builtin; refine Lib.wpList_append_run _ rfl _ _ _ _ rfl _ _ rfl rfl _ _ (hrun _) ?_)
 go_ret
 exact ⟨rfl,rfl⟩
theorem ins_end_growE (base : Option Addr) (n c vb m vc : Nat) (cs : List Value) (cur2 : Array Value) (e2 : TypeId) (w : World) (hm : 0 < m) (hnc : n ≤ c) (hroom : c < n + m)
  (hcl:cs.length = n * 7) (hcs:∀ w':World,w'.heap = w.heap→(Builtin.firstCells 7 n (.slice base n c)).run Tryd.prog w' = .ok cs.toArray w') (hv:w.heap[vb]? = some (.cells cur2 e2 (0,0))) (hcs2:cur2.size = vc * 7) (hvc:m≤vc)
  (h1v:∀ v ∈ cur2.toList.take (m * 7),v.oneCell' = true) (hnil:base = none→n = 0∧c = 0) (hbig:(n + m) * 104≤140737488355328) :
  Calls Tryd.prog 80 #[.slice base n c,.int .i64 n,.slice (some ⟨vb,0,none⟩) m vc] w fun e w' =>
   ∃ z:Value,z.cells = ti55.zero.toArray∧e = .returned (.slice (some ⟨w.heap.size,0,none⟩) (n + m) (grownCap w (n + m) c 55)) ∧
   w' = w.drew.alloc (.cells (cs.toArray++(cur2.toList.take (m * 7)).toArray++Builtin.zeroCells z.cells (grownCap w (n + m) c 55 - (n + m))) 55):=by
 letI:Globs:=⟨[]⟩
 have mixed:Tryd.prog.follows .mixedOrders = true:=by kernel_rfl
 have hz1:¬ ((m:Int) = 0):=by omega
 have hl2:cur2.toList.length = cur2.size:=Array.length_toList
 have htl:(cur2.toList.take (m * 7)).length = m * 7:=by rw [List.length_take,hl2]; omega
 have hrun : ∃ z : Value, z.cells = ti55.zero.toArray ∧ ∀ ty, (Builtin.append_ #[24, 24] ty #[.slice base n c, .slice (some ⟨vb, 0, none⟩) m vc]).run Tryd.prog w =
   .ok (.slice (some ⟨w.heap.size,0,none⟩) (n + m) (grownCap w (n + m) c 55)) (w.drew.alloc (.cells (cs.toArray++(cur2.toList.take (m * 7)).toArray++Builtin.zeroCells z.cells (grownCap w (n + m) c 55 - (n + m))) 55)):=by
  have h := fun ty => (run_append_gen (w := w) Tryd.underlying24 Tryd.underlying24 ti55_ok (τ := .ent) rfl ty (A := base) (A2 := some ⟨vb, 0, none⟩) (n := n) (cap := c) (m := m) (c := vc) (olds := cs) (news := cur2.toList.take (m * 7)) (fun w' hw => hcs w' hw) (fun w' hw => run_firstCells_some w' 7 m ⟨vb, 0, none⟩ m vc _ htl (fun j v hj => by
    rw [Addr.add_lit,cell_of_row w' vb _ cur2 e2 (0,0) (by rw [hw]; exact hv),Nat.zero_add]
    rw [List.getElem?_take] at hj
    split at hj
    ·simpa using hj
    ·cases hj)) hbig (by unfold maxLen; omega)).2 hroom
  obtain ⟨z,hz,_⟩:=h 24
  refine ⟨z,hz,fun ty=>?_⟩
  obtain ⟨z',hz',h'⟩:=h ty
  rw [hz,← hz']
  exact h'
 obtain ⟨z,hz,hrun⟩:=hrun
 obtain ⟨G,hG⟩:∃ G,G = grownCap w (n + m) c 55:=⟨_,rfl⟩
 rw [← hG] at hrun ⊢
 obtain ⟨W1,hW1⟩:∃ W1,W1 = w.drew.alloc (.cells (cs.toArray++(cur2.toList.take (m * 7)).toArray++Builtin.zeroCells z.cells (G - (n + m))) 55):=⟨_,rfl⟩
 rw [← hW1] at hrun
 refine Calls.mono (R:=fun e w'=>e = .returned (.slice (some ⟨w.heap.size,0,none⟩) (n + m) G)∧w' = W1) ?_ (fun e w' h=>⟨z,hz,h.1,h.2.trans hW1⟩)
 clear h1v hv hcs2 hl2 htl hcs hW1 hG hz
 cases base with
 | none =>
  obtain ⟨h0,h0'⟩:=hnil rfl
  subst h0 h0'
  go_enter Tryd.func80,Tryd.ntmps80
  go_wp2_with (at_builtin; refine Lib.wpList_append_run _ rfl _ _ _ _ rfl _ _ rfl rfl _ _ (hrun _) ?_)
  go_ret
  exact ⟨rfl,rfl⟩
 | some a =>
  obtain ⟨ab,ao,asp⟩:=a
  go_enter Tryd.func80,Tryd.ntmps80
  go_wp2_with (at_builtin; refine Lib.wpList_append_run _ rfl _ _ _ _ rfl _ _ rfl rfl _ _ (hrun _) ?_)
  all_goals (go_ret; exact ⟨rfl,rfl⟩)
theorem ins_growE (g n c i vb m vc : Nat) (cur cur2 : Array Value) (e e2 : TypeId) (w : World) (hi : i < n) (hm : 0 < m) (hnc : n ≤ c) (hroom : c < n + m)
  (hg:w.heap[g]? = some (.cells cur e (0,0))) (hcs:cur.size = c * 7) (hv:w.heap[vb]? = some (.cells cur2 e2 (0,0))) (hcs2:cur2.size = vc * 7) (hvc:m≤vc)
  (h1c:∀ v ∈ cur.toList.take (n * 7),v.oneCell' = true) (h1v:∀ v ∈ cur2.toList.take (m * 7),v.oneCell' = true) (hbig:(n + m) * 104≤140737488355328) :
  Calls Tryd.prog 80 #[.slice (some ⟨g,0,none⟩) n c,.int .i64 i,.slice (some ⟨vb,0,none⟩) m vc] w fun e' w' =>
   ∃ (row:Array Value) (W:World),row.size = grownCap w (n + m) c 55 * 7∧(∀ j,j < i * 7→row[j]? = cur[j]?) ∧
   e' = .returned (.slice (some ⟨w.heap.size,0,none⟩) (n + m) (grownCap w (n + m) c 55))∧W.heap = (w.drew.alloc (.cells row 55)).heap∧W.os = w.os∧W.tape = w.tape∧W.output = w.output ∧
   w' = (W.setRow w.heap.size (spl row (i * 7) (cur2.toList.take (m * 7)))).drew.setRow w.heap.size (spl (spl row (i * 7) (cur2.toList.take (m * 7))) ((i + m) * 7) ((cur.toList.take (n * 7)).drop (i * 7))):=by
 letI:Globs:=⟨[]⟩
 have mixed:Tryd.prog.follows .mixedOrders = true:=by kernel_rfl
 have hz1:¬ ((m:Int) = 0):=by omega
 have hz2:¬ ((i:Int) = (n:Int)):=by omega
 have hz3:(c:Int) < (n:Int) + (m:Int):=by omega
 have hbw:g < w.heap.size:=(Array.getElem?_eq_some_iff.1 hg).1
 have hvw:vb < w.heap.size:=(Array.getElem?_eq_some_iff.1 hv).1
 have hkk:(n:Int) + (m:Int) - (i:Int) = ((n + m - i:Nat):Int):=by omega
 have hik:i + (n + m - i) = n + m:=by omega
 have hl:cur.toList.length = cur.size:=Array.length_toList
 have hl2:cur2.toList.length = cur2.size:=Array.length_toList
 have hdl:((cur.toList.take (n * 7)).drop (i * 7)).length = (n - i) * 7:=by rw [List.length_drop,List.length_take,hl]; omega
 have htl:(cur2.toList.take (m * 7)).length = m * 7:=by rw [List.length_take,hl2]; omega
 obtain ⟨i0,z,hi0,hi1,hi2,hi3,hi4⟩:=ti55_ok.info
 have hzl:z.cells.size = 7:=by rw [hi4]; rfl
 have hold:(Builtin.firstCells i0.size i (.slice (some ⟨g,0,none⟩) i c)).run Tryd.prog w.drew = .ok (cur.toList.take (i * 7)).toArray w.drew:=by
  rw [hi1]
  exact run_firstCells_some w.drew 7 i ⟨g, 0, none⟩ i c _ (by rw [List.length_take, hl]; omega) (fun j v hj => by
    rw [Addr.add_lit,cell_of_row w.drew g _ cur e (0,0) hg,Nat.zero_add]
    rw [List.getElem?_take] at hj
    split at hj
    ·simpa using hj
    ·cases hj)
 have hib:i0.bytes = 104:=hi2
 have his:i0.size = 7:=hi1
 have hrz : ∀ ty, (Builtin.append_ #[24, 3] ty #[.slice (some ⟨g, 0, none⟩) i c, .int .i64 ((n : Int) + (m : Int) - (i : Int))]).run Tryd.prog w =
   .ok (.slice (some ⟨w.heap.size,0,none⟩) (n + m) (grownCap w (n + m) c 55)) (w.drew.alloc (.cells ((cur.toList.take (i * 7)).toArray++Builtin.zeroCells z.cells (n + m - i)++Builtin.zeroCells z.cells (grownCap w (n + m) c 55 - (n + m))) 55)):=fun ty=>by
  have h:=Lib.run_append_grow_zeros w 24 3 ty 55 i0 z .i64 .i64 Tryd.underlying24 Tryd.underlying3 hi0 hi3 (some ⟨g,0,none⟩) i c _ hold (n + m - i) (by omega) (by omega) (by omega) (by omega) (by rw [hib]; omega) (by rw [hib,hik]; exact growslice_fits hroom hbig)
  rw [hik] at h
  rw [hkk]
  exact h
 obtain ⟨G,hG⟩:∃ G,G = grownCap w (n + m) c 55:=⟨_,rfl⟩
 obtain ⟨ROW,hROW⟩:∃ ROW:Array Value,ROW = (cur.toList.take (i * 7)).toArray++Builtin.zeroCells z.cells (n + m - i)++Builtin.zeroCells z.cells (G - (n + m)):=⟨_,rfl⟩
 rw [← hG] at hrz ⊢
 rw [← hROW] at hrz
 have hGn:n + m≤G:=by rw [hG]; exact grownCap_ge w _ _ _
 have hG63:G≤9223372036854775807:=by
  have:=grownCap_le_maxLen w (n + m) c 55 (by unfold maxLen; omega)
  rw [← hG] at this
  unfold maxLen at this
  omega
 have hRs:ROW.size = G * 7:=by
  rw [hROW]
  simp only [Array.size_append,List.size_toArray,size_zeroCells,hzl,List.length_take,hl]
  omega
 have hRa:∀ j,j < i * 7→ROW[j]? = cur[j]?:=fun j hj=>by
  rw [hROW,Array.append_assoc,Array.getElem?_append_left (by simp only [List.size_toArray,List.length_take,hl]; omega),List.getElem?_toArray,List.getElem?_take,if_pos hj,Array.getElem?_toList]
 obtain ⟨W1,hW1⟩:∃ W1,W1 = w.drew.alloc (.cells ROW 55):=⟨_,rfl⟩
 have hWN:W1.heap[w.heap.size]? = some (.cells ROW 55 (0,0)):=by rw [hW1]; exact heap_alloc_new w.drew _
 have hWo:∀ k,k < w.heap.size→W1.heap[k]? = w.heap[k]?:=fun k hk=>by rw [hW1]; exact (Stp.alloc w.drew _).block k hk (fun h=>h)
 rw [← hW1] at hrz
 have hcpA:∀ (W:World),(∀ k:Nat,W.heap[k]? = W1.heap[k]?)→∀ ty dc,(Builtin.copy_ #[24,24] ty #[.slice (some ⟨w.heap.size,i * 7,none⟩) (n + m - i) dc,.slice (some ⟨vb,0,none⟩) m vc]).run Tryd.prog W = .ok (goInt ((m:Nat):Int)) (W.setRow w.heap.size (spl ROW (i * 7) (cur2.toList.take (m * 7)))):=fun W hW ty dc=>by
  have hmin:Nat.min m (n + m - i) = m:=by show min _ _ = _; omega
  have hvW:W.heap[vb]? = some (.cells cur2 e2 (0,0)):=by rw [hW,hWo _ hvw]; exact hv
  have:=run_copyR W 24 24 ty 55 7 w.heap.size (i * 7) (n + m - i) dc ⟨vb,0,none⟩ m vc (cur2.toList.take (m * 7)) ROW 55 Tryd.underlying24 ins_szE (by rw [htl,hmin])
   (fun j v hj=>by
    rw [Addr.add_lit,cell_of_row W vb _ cur2 e2 (0,0) hvW,Nat.zero_add]
    rw [List.getElem?_take] at hj
    split at hj
    ·simpa using hj
    ·cases hj) (by rw [hW]; exact hWN) (by rw [htl,hRs]; omega) h1v
  rw [hmin] at this
  exact this
 have hRs2:(spl ROW (i * 7) (cur2.toList.take (m * 7))).size = G * 7:=by rw [spl_size (by rw [htl,hRs]; omega),hRs]
 have hcpB:∀ (W:World),(∀ k:Nat,W.heap[k]? = (W1.setRow w.heap.size (spl ROW (i * 7) (cur2.toList.take (m * 7)))).heap[k]?)→∀ ty dc sc,(Builtin.copy_ #[24,24] ty #[.slice (some ⟨w.heap.size,(i + m) * 7,none⟩) (n + m - (i + m)) dc,.slice (some ⟨g,i * 7,none⟩) (n - i) sc]).run Tryd.prog W = .ok (goInt ((n - i:Nat):Int)) (W.setRow w.heap.size (spl (spl ROW (i * 7) (cur2.toList.take (m * 7))) ((i + m) * 7) ((cur.toList.take (n * 7)).drop (i * 7)))):=fun W hW ty dc sc=>by
  have hmin:Nat.min (n - i) (n + m - (i + m)) = n - i:=by show min _ _ = _; omega
  have hgW:W.heap[g]? = some (.cells cur e (0,0)):=by rw [hW,setRow_other _ _ _ _ (by omega),hWo _ hbw]; exact hg
  have:=run_copyR W 24 24 ty 55 7 w.heap.size ((i + m) * 7) (n + m - (i + m)) dc ⟨g,i * 7,none⟩ (n - i) sc ((cur.toList.take (n * 7)).drop (i * 7)) _ 55 Tryd.underlying24 ins_szE (by rw [hdl,hmin])
   (fun j v hj=>by
    rw [Addr.add_lit,cell_of_row W g _ cur e (0,0) hgW]
    rw [List.getElem?_drop,List.getElem?_take] at hj
    split at hj
    ·simpa using hj
    ·cases hj) (by rw [hW]; exact setRow_heap W1 _ ROW _ 55 (0,0) hWN) (by rw [hdl,hRs2]; omega) (fun v hv=>h1c v (List.mem_of_mem_drop hv))
  rw [hmin] at this
  exact this
 have hGi:¬ (G = i):=by omega
 have hGim:¬ (G = i + m):=by omega
 have hci:¬ (c = i):=by omega
 refine Calls.mono (R:=fun e' w'=>e' = .returned (.slice (some ⟨w.heap.size,0,none⟩) (n + m) G)∧w' = ((w.drew.alloc (.cells ROW 55)).setRow w.heap.size (spl ROW (i * 7) (cur2.toList.take (m * 7)))).drew.setRow w.heap.size (spl (spl ROW (i * 7) (cur2.toList.take (m * 7))) ((i + m) * 7) ((cur.toList.take (n * 7)).drop (i * 7)))) ?_ (fun e' w' h=>⟨ROW,w.drew.alloc (.cells ROW 55),hRs,hRa,h.1,rfl,rfl,rfl,rfl,h.2⟩)
 subst hW1
 have hE:∀ k:Nat,((w.alloc (.cells ROW 55)).drew).heap[k]? = (w.drew.alloc (.cells ROW 55)).heap[k]?:=fun k=>rfl
 have hF:∀ k:Nat,(((w.alloc (.cells ROW 55)).drew.setRow w.heap.size (spl ROW (i * 7) (cur2.toList.take (m * 7)))).drew).heap[k]? = ((w.drew.alloc (.cells ROW 55)).setRow w.heap.size (spl ROW (i * 7) (cur2.toList.take (m * 7)))).heap[k]?:=fun k=>rfl
 have hw1:IntKind.i64.wrap ((i:Int) + (m:Int)) = (i:Int) + (m:Int):=by rw [IntKind.wrap_i64]; omega
 have hb1:(0:Int)≤(i:Int) + (m:Int):=by omega
 have hin:i≤n:=by omega
 have htn:((i:Int) + (m:Int)).toNat = i + m:=by omega
 have hb3:(i:Int)≤(n:Int):=by omega
 clear hkk hik hold hROW hG hRs hRs2 hRa hg hv hcs hcs2 hi0 hi1 hi2 hi3 hi4 hib his hzl h1c h1v hWN hWo hl hl2 hdl htl
 go_enter Tryd.func80,Tryd.ntmps80
 go_wp2_with (first
  | (at_builtin; refine Lib.wpList_append_run _ rfl _ _ _ _ rfl _ _ rfl rfl _ _ (hrz _) ?_)
  | (at_builtin; refine wpList_copy_runI _ rfl _ _ 24 24 rfl _ _ rfl rfl (hcpA _ hE _ _) ?_)
  | (at_builtin; refine wpList_copy_runI _ rfl _ _ 24 24 rfl _ _ rfl rfl (hcpB _ (fun _=>rfl) _ _ _) ?_))
 go_region_law_o (refine step_copy_runI rfl _ _ 24 24 rfl (.slice (some ⟨w.heap.size,(i + m) * 7,none⟩) (n + m - (i + m)) (G - (i + m))) (.slice (some ⟨g,i * 7,none⟩) (n - i) (c - i)) (by simp [Act.eval,Act.put]) (by simp [Act.eval,Act.put]) (hcpB _ hF 3 (G - (i + m)) (c - i)) ?_)
 go_wp2
 go_ret
 exact ⟨rfl,rfl⟩
theorem s_insE [Globs] (l : List (den .ent)) (x : den .ent) (i : Nat) (hi : i ≤ l.length) (hbig : (l.length + 1) * 104 ≤ 140737488355328) :
  CSpec Tryd.prog 80 [.vec 1000 .ent l,.i .i64 i,.vec 1001 .ent [x]] [] (.vec 1000 .ent (l.take i++x::l.drop i)) []:=by
 refine ⟨fun vs w=>Tryd.call80 vs w,fun F X β w vs hvs hpin hI=>?_⟩
 match vs,hvs with
 | [v0,v1,v2],_ =>
  have h0:VecAt β (SX.Own X ⟨argSlots 0 [.vec 1000 .ent l,.i .i64 i,.vec 1001 .ent [x]],[]⟩ β) w 1000 .ent l v0:=hI.slots 0
  have h1:SX.Im (SX.Own X ⟨argSlots 0 [.vec 1000 .ent l,.i .i64 i,.vec 1001 .ent [x]],[]⟩ β) w (.i .i64 i) v1:=hI.slots 1
  have h2:VecAt β (SX.Own X ⟨argSlots 0 [.vec 1000 .ent l,.i .i64 i,.vec 1001 .ent [x]],[]⟩ β) w 1001 .ent [x] v2:=hI.slots 2
  have N0:Nm ⟨argSlots 0 [.vec 1000 .ent l,.i .i64 i,.vec 1001 .ent [x]],[]⟩ 1000:=.inr (.inl ⟨0,List.mem_singleton.2 rfl⟩)
  have N1:Nm ⟨argSlots 0 [.vec 1000 .ent l,.i .i64 i,.vec 1001 .ent [x]],[]⟩ 1001:=.inr (.inl ⟨2,List.mem_singleton.2 rfl⟩)
  cases h1
  have hL:(l.take i++x::l.drop i).length = l.length + 1:=by rw [List.length_append,List.length_cons,List.length_take,List.length_drop]; omega
  rcases h2 with ⟨h2,_⟩ | ⟨vb,vc,cur2,e2,b1,rfl,b3,b4,b5,b6,b7⟩
  ·cases h2
  have hx:All2 (SX.Im (SX.Own X ⟨argSlots 0 [.vec 1000 .ent l,.i .i64 i,.vec 1001 .ent [x]],[]⟩ β) w) (flat .ent [x]) (cur2.toList.take (1 * 7)):=vec_cells b6 b4 b7
  have h1v:=vec_one (l:=[x]) hx
  have hb4:1≤vc:=b4
  have hb6:cur2.size = vc * 7:=b6
  have hxl:(cur2.toList.take (1 * 7)).length = 7:=by rw [← hx.1]; rfl
  have hmx:l.length + 1≤maxLen:=by unfold maxLen; omega
  have hge:=fun c=>grownCap_ge w (l.length + 1) c 55
  have hcm:=fun c=>grownCap_le_maxLen w (l.length + 1) c 55 hmx
  rcases h0 with ⟨rfl,rfl,h0⟩ | ⟨g,c,cur,e,p1,rfl,p3,p4,p5,p6,p7⟩
  ·have hi0:i = 0:=by simpa using hi
   subst hi0
   refine (ins_end_growE none 0 0 vb 1 vc [] cur2 e2 w (by omega) (by omega) (by omega) rfl (fun w' _=>run_firstCells_none w' 7 0 0 0) b3 hb6 hb4 h1v (fun _=>⟨rfl,rfl⟩) (by omega)).mono ?_
   rintro e' w' ⟨z,hz,rfl,rfl⟩
   have hzl:z.cells.size = 7:=by rw [hz]; rfl
   refine ⟨_,_,rfl,vec_end (us:=cur2.toList.take (1 * 7)) (show 1≤3 by omega) hI (((Stp.drew w).trans (Stp.alloc w.drew _) (fun _ _ h=>h)).mono (fun _ _ h=>h.elim)) (.inr (Nat.le_refl _)) (heap_alloc_new w.drew _) (hge 0) (hcm 0) ?_ hx ?_⟩
   ·simp only [Array.size_append,List.size_toArray,size_zeroCells,hzl,hxl,List.length_nil]
    have:=hge 0
    simp only [List.length_nil] at this
    show _ = _ * 7
    omega
   ·intro j u hj
    have hj':j < (cur2.toList.take (1 * 7)).length:=(List.getElem?_eq_some_iff.1 hj).1
    rw [Array.getElem?_append_left (by simpa using hj')]
    simpa using hj
  have hne:vb≠g:=fun h=>by have:=hI.inj 1001 1000 g N1 N0 (h ▸ b1) p1; omega
  have hc:=vec_cells p6 p4 p7
  have h1c:=vec_one hc
  have hp6:cur.size = c * 7:=p6
  have hcl:cur.toList.length = cur.size:=Array.length_toList
  have hall:All2 (SX.Im (SX.Own X ⟨argSlots 0 [.vec 1000 .ent l,.i .i64 i,.vec 1001 .ent [x]],[]⟩ β) w) (flat .ent (l.take i++x::l.drop i)) ((cur.toList.take (l.length * 7)).take (i * 7)++(cur2.toList.take (1 * 7)++(cur.toList.take (l.length * 7)).drop (i * 7))):=ins_cells hc hx i hi
  have h5:c≤9223372036854775807:=by unfold maxLen at p5; omega
  have hA:((cur.toList.take (l.length * 7)).take (i * 7)).length = i * 7:=by rw [List.length_take,List.length_take,hcl]; omega
  have hC:((cur.toList.take (l.length * 7)).drop (i * 7)).length = (l.length - i) * 7:=by rw [List.length_drop,List.length_take,hcl]; omega
  have hAt:∀ j,j < i * 7→((cur.toList.take (l.length * 7)).take (i * 7))[j]? = cur[j]?:=fun j hj=>by rw [List.getElem?_take,if_pos hj,List.getElem?_take,if_pos (by omega),Array.getElem?_toList]
  by_cases hin:i = l.length
  ·subst hin
   have hd:(cur.toList.take (l.length * 7)).drop (l.length * 7) = []:=List.drop_eq_nil_of_le (by rw [List.length_take]; omega)
   have hu:(cur.toList.take (l.length * 7)).take (l.length * 7)++(cur2.toList.take (1 * 7)++(cur.toList.take (l.length * 7)).drop (l.length * 7)) = cur.toList.take (l.length * 7)++cur2.toList.take (1 * 7):=by
    rw [hd,List.append_nil,List.take_of_length_le (by rw [List.length_take]; omega)]
   have hTl:(cur.toList.take (l.length * 7)).length = l.length * 7:=by rw [List.length_take,hcl]; omega
   have hall:All2 (SX.Im (SX.Own X ⟨argSlots 0 [.vec 1000 .ent l,.i .i64 l.length,.vec 1001 .ent [x]],[]⟩ β) w) (flat .ent (l.take l.length++x::l.drop l.length)) (cur.toList.take (l.length * 7)++cur2.toList.take (1 * 7)):=hu ▸ hall
   by_cases hroom:l.length + 1≤c
   ·have hfit:l.length * 7 + (cur2.toList.take (1 * 7)).length≤cur.size:=by rw [hxl]; omega
    refine (ins_end_roomE g l.length c vb 1 vc cur cur2 e e2 w (by omega) hroom h5 hne p3 hp6 b3 hb6 hb4 h1c h1v hbig).mono ?_
    rintro e' w' ⟨rfl,rfl⟩
    rw [← hL]
    refine ⟨_,_,rfl,vec_end (show 1≤3 by omega) hI (Stp.setRow w g _) (.inl ⟨N0,p1⟩) (setRow_heap w g cur _ e _ p3) (by rw [hL]; exact hroom) p5 (by rw [spl_size hfit]; exact p6) hall ?_⟩
    intro j u hj
    rw [spl_at hfit,hxl]
    by_cases c1:j < l.length * 7
    ·rw [List.getElem?_append_left (by omega),List.getElem?_take,if_pos c1] at hj
     rw [if_pos (by omega)]
     simpa using hj
    ·rw [List.getElem?_append_right (by omega),hTl] at hj
     have:=(List.getElem?_eq_some_iff.1 hj).1
     rw [if_neg (by omega),if_pos (by omega)]
     exact hj
   ·refine (ins_end_growE (some ⟨g, 0, none⟩) l.length c vb 1 vc (cur.toList.take (l.length * 7)) cur2 e2 w (by omega) p4 (by omega) hTl (fun w' hw => run_firstCells_some w' 7 _ ⟨g, 0, none⟩ _ c _ hTl (fun j v hj => by
     rw [Addr.add_lit,cell_of_row w' g _ cur e (0,0) (by rw [hw]; exact p3),Nat.zero_add]
     rw [List.getElem?_take] at hj
     split at hj
     ·simpa using hj
     ·cases hj)) b3 hb6 hb4 h1v (fun h=>by cases h) hbig).mono ?_
    rintro e' w' ⟨z,hz,rfl,rfl⟩
    have hzl:z.cells.size = 7:=by rw [hz]; rfl
    have hgc:=hge c
    have hcc:=hcm c
    generalize grownCap w (l.length + 1) c 55 = G at hgc hcc
    rw [← hL]
    refine ⟨_,_,rfl,vec_end (show 1≤3 by omega) hI (((Stp.drew w).trans (Stp.alloc w.drew _) (fun _ _ h=>h)).mono (fun _ _ h=>h.elim)) (.inr (Nat.le_refl _)) (heap_alloc_new w.drew _) (by rw [hL]; exact hgc) hcc ?_ hall ?_⟩
    ·simp only [Array.size_append,List.size_toArray,size_zeroCells,hzl,hxl,hTl,hL]
     show _ = _ * 7
     omega
    ·intro j u hj
     have hj':j < (cur.toList.take (l.length * 7)++cur2.toList.take (1 * 7)).length:=(List.getElem?_eq_some_iff.1 hj).1
     rw [Array.getElem?_append_left (by simpa using hj')]
     simpa using hj
  ·by_cases hroom:l.length + 1≤c
   ·refine (ins_shiftE g l.length c i vb 1 vc cur cur2 e e2 w (by omega) (by omega) hroom h5 hne p3 hp6 b3 hb6 hb4 h1c h1v).mono ?_
    rintro e' w' ⟨rfl,rfl⟩
    have hf1:(i + 1) * 7 + ((cur.toList.take (l.length * 7)).drop (i * 7)).length≤cur.size:=by rw [hC]; omega
    have hs1:=spl_size hf1
    have hf2:i * 7 + (cur2.toList.take (1 * 7)).length≤(spl cur ((i + 1) * 7) ((cur.toList.take (l.length * 7)).drop (i * 7))).size:=by rw [hs1,hxl]; omega
    rw [← hL]
    refine ⟨_,_,rfl,vec_end (show 1≤3 by omega) hI (((Stp.drew w).mono (fun _ _ h=>h.elim)).trans ((Stp.setRow _ g _).trans (Stp.setRow _ g _) (fun _ _ h=>h)) (fun _ _ h=>h)) (.inl ⟨N0,p1⟩) (setRow_heap _ g _ _ e _ (setRow_heap w.drew g cur _ e _ p3)) (by rw [hL]; exact hroom) p5 (by rw [spl_size hf2,hs1]; exact p6) hall (row_pre (fun j hj=>?_) (fun j hj=>?_) (fun j hj=>?_))⟩
    ·rw [hA] at hj
     rw [hAt j hj,spl_at hf2,if_pos hj,spl_at hf1,if_pos (by omega)]
    ·rw [hA,spl_at hf2,if_neg (by omega),if_pos (by omega)]
     congr 1
     omega
    ·rw [hA,hxl,spl_at hf2,hxl,if_neg (by omega),if_neg (by omega),spl_at hf1,if_neg (by omega),if_pos (by omega)]
     congr 1
     omega
   ·refine (ins_growE g l.length c i vb 1 vc cur cur2 e e2 w (by omega) (by omega) p4 (by omega) p3 hp6 b3 hb6 hb4 h1c h1v hbig).mono ?_
    rintro e' w' ⟨row,W,hrs,hra,rfl,hWh,hWo,hWt,hWp,rfl⟩
    have hgc:=hge c
    have hcc:=hcm c
    generalize grownCap w (l.length + 1) c 55 = G at hrs hgc hcc
    have hf1:i * 7 + (cur2.toList.take (1 * 7)).length≤row.size:=by rw [hxl]; omega
    have hs1:=spl_size hf1
    have hf2:(i + 1) * 7 + ((cur.toList.take (l.length * 7)).drop (i * 7)).length≤(spl row (i * 7) (cur2.toList.take (1 * 7))).size:=by rw [hs1,hC]; omega
    have hst:Stp (fun _=>False) w W:=⟨hWo,hWt,hWp,by rw [hWh]; simp,fun k hk _=>by rw [hWh]; exact (Stp.alloc w.drew _).block k hk (fun h=>h)⟩
    rw [← hL]
    refine ⟨_,_,rfl,vec_end (show 1≤3 by omega) hI ((hst.mono (fun _ _ h=>h.elim)).trans ((Stp.setRow _ w.heap.size _).trans (((Stp.drew _).mono (fun _ _ h=>h.elim)).trans (Stp.setRow _ w.heap.size _) (fun _ _ h=>h)) (fun _ _ h=>h)) (fun _ _ h=>h)) (.inr (Nat.le_refl _)) (setRow_heap _ _ _ _ 55 _ (setRow_heap W _ row _ 55 _ (by rw [hWh]; exact heap_alloc_new w.drew _))) (by rw [hL]; exact hgc) hcc (by rw [spl_size hf2,hs1]; exact hrs) hall (row_pre (fun j hj=>?_) (fun j hj=>?_) (fun j hj=>?_))⟩
    ·rw [hA] at hj
     rw [hAt j hj,spl_at hf2,if_pos (by omega),spl_at hf1,if_pos hj,hra j hj]
    ·rw [hA,spl_at hf2,if_pos (by omega),spl_at hf1,if_neg (by omega),if_pos (by omega)]
     congr 1
     omega
    ·rw [hA,hxl,spl_at hf2,if_neg (by omega),if_pos (by omega)]
     congr 1
     omega
end Go.Proofs.YtfeniggadfkakaaDoor
end
section
namespace Go.Proofs.YtfeniggadfkakaaDoor
open Go Go.SX Go.Vl
set_option maxRecDepth 100000
set_option maxHeartbeats 0
section
variable [G:Globs]
theorem w_dropV (l:List Ent) (k:Str) (hl1:l.length≤100000000) (hn:∀ p ∈ l,VN 100000000 p.2):vc Tryd.prog Γ 29 [0,1,4,5,7,8,9,10,11,17,1000] (Tryd.f70.body.getD .skip) (postBK Γ [.tmp 4] (.vec 1000 .ent (withoutE l k)) []) ⟨argSlots 0 [.rd .ent l,.s k],[]⟩:=by
 intro hl
 refine eX [(5,5,.ent)] (eX [] (eX [] (eX Nat (eX (fun i=>i≤l.length) (eX (fun i=>⟨[(1,.s k),(5,.vec 5 .ent (withoutE (l.take i) k)),(8,.rd .ent l),(9,.i .i64 l.length),(10,.i .i64 i)],[]⟩) (eX (fun i=>l.length - i) (eX 0 (aN (Nat.zero_le _) (aN ?_ ?_)))))))))
 ·exact wK
 ·rintro i hi
  refine aN (fun he=>?_) (fun he=>?_)
  · have hi : i < l.length := by have : (i : Int) < (l.length : Int) := of_decide_eq_true he
                                 omega
    have hg:l.getD (Int.toNat (i:Int)) (dflt .ent) = l[i]:=by rw [Int.toNat_natCast,List.getD_eq_getElem?_getD,List.getElem?_eq_getElem hi]; rfl
    refine bN2 ?_
    refine aN (fun hz=>?_) (fun hz=>?_)
    ·have hz:keyIs k l[i] = false:=by rw [← hg]; simpa [keyIs] using hz
     have hs:=s_Own l[i].2 (hn _ (List.getElem_mem hi))
     rw [← hg] at hs
     refine eX [.blk [0,1,2,3,4,5,6,7] [25],.one 8,.take 9] (aN (by kernel_rfl) ?_)
     refine eX _ (aN (hs) ?_)
     rw [hg]
     have hfl:=filter_len (l:=l) (k:=k) (i:=i)
     refine aN (show ((withoutE (l.take i) k).length + 1) * 104≤140737488355328 by omega) ?_
     (refine rNG ?_)
     refine eX [(26,5)] (eX (i + 1) (aN hi (aN ?_ ?_)))
     ·have e:withoutE (l.take i) k++[(l[i].1,(⟨l[i].2.kind,l[i].2.n,l[i].2.f,l[i].2.s,l[i].2.l,l[i].2.e⟩:Val))] = withoutE (l.take (i + 1)) k:=by rw [val_eta]; exact (filter_next hi hz).symm
      (repeat' (first | exact wA | exact Or.inl ((congrArg (AV.vec 5 .ent) e)) | refine aN ?_ ?_))
     ·show l.length - (i + 1) < l.length - i
      omega
    ·have hz:keyIs k l[i] = true:=by rw [← hg]; simpa [keyIs] using hz
     (refine rNG ?_)
     refine eX [] (eX (i + 1) (aN hi (aN ?_ ?_)))
     ·(repeat' (first | exact wA | exact Or.inl ((congrArg (AV.vec 5 .ent) (filter_skip hi hz).symm)) | refine aN ?_ ?_))
     ·show l.length - (i + 1) < l.length - i
      omega
  · have hi : i = l.length := by have : ¬ (i : Int) < (l.length : Int) := of_decide_eq_false he
                                 omega
    subst hi
    rw [List.take_length]
    refine eX [(5,1000)] (aN rfl wK)
theorem s_dropV (l:List Ent) (k:Str) (hl1:l.length≤100000000) (hn:∀ p ∈ l,VN 100000000 p.2):CSpec Tryd.prog 70 [.rd .ent l,.s k] [] (.vec 1000 .ent (withoutE l k)) [] :=
 cspec_of_vc Γ_good Tryd.func70 rfl Tryd.call70 Tryd.results70 Tryd.ntmps70 (Nat.le_of_ble_eq_true rfl) (Nat.le_of_ble_eq_true rfl) (by rfl) (w_dropV l k hl1 hn)
theorem w_put (l:List Ent) (k:Str) (a:Val) (hl1:l.length≤100000000) (hn:∀ p ∈ l,VN 100000000 p.2) (ha:VN 100000000 a):VCs Tryd.prog Γ 27 [0,4,5,6,7,8,16] (Tryd.f68.body.getD .skip) (postK Γ [.tmp 6] (fun v=>v = .rd .ent (putE l k a))) ⟨argSlots 0 [.rd .ent l,.s k,.agg (encVal a)],[]⟩:=by
 refine VCs.seq (by first | exact Γ_good | exact Ctx.good_kp Γ_good _) ?_
 refine VCs.seq (by first | exact Γ_good | exact Ctx.good_kp Γ_good _) ?_
 refine Or.inr (Or.inl (eX [] (eX _ (eX _ (eX _ (eX _ (eX _ (eX [(1000,7)] (aN (s_dropV l k hl1 hn) ?_)))))))))
 refine (aN rfl (aN rfl (aN rfl (aN rfl ?_))))
 have hml:(withoutE l k).length≤l.length:=List.length_filter_le _ _
 unfold putE
 generalize withoutE l k = m at hml
 refine VCs.seq (by first | exact Γ_good | exact Ctx.good_kp Γ_good _) ?_
 refine Or.inr (Or.inr (Or.inl (eX _ (aN (s_ixE m k (keyGt k) 79 (fun x _=>s_put1 x k)) ?_))))
 refine VCs.cut (by first | exact Γ_good | exact Ctx.good_kp Γ_good _) Unit (fun _=>True) (fun _=>⟨[(7,.vec 7 .ent m),(4,.pt 4 0),(5,.pt 5 0),(8,.i .i64 (m.findIdx (keyGt k):Nat))],[(4,[.s k]),(5,encVal a)]⟩) ?_ ?_
 ·have hle:=List.findIdx_le_length (p:=keyGt k) (xs:=m)
  refine aN (fun hz=>?_) (fun hz=>?_)
  ·have hz:ixI m (keyGt k) < 0:=of_decide_eq_true hz
   have e:m.length = m.findIdx (keyGt k):=by
    unfold ixI at hz
    split at hz
    ·omega
    ·omega
   intro _
   refine eX () (aN trivial ?_)
   (repeat' (first | exact wA | exact Or.inl ((congrArg (fun n:Nat=>AV.i .i64 n) e)) | refine aN ?_ ?_))
  ·have hz:¬ ixI m (keyGt k) < 0:=of_decide_eq_false hz
   have e:ixI m (keyGt k) = (m.findIdx (keyGt k):Nat):=by
    unfold ixI at hz ⊢
    split at hz
    ·rename_i h; rw [if_pos h]
    ·omega
   refine eX () (aN trivial ?_)
   (repeat' (first | exact wA | exact Or.inl ((congrArg (fun n:Int=>AV.i .i64 n) e)) | refine aN ?_ ?_))
 rintro _ _
 have hle:=List.findIdx_le_length (p:=keyGt k) (xs:=m)
 generalize m.findIdx (keyGt k) = j at hle
 refine VCs.of_vc (by first | exact Γ_good | exact Ctx.good_kp Γ_good _) ?_
 refine eX [.take 0,.take 1,.blk [2,3,4,5],.one 6,.one 7,.take 8] (aN (by kernel_rfl) ?_)
 refine eX _ (aN (s_Own a ha) ?_)
 refine Or.inr (Or.inl (eX [] (eX _ (eX _ (eX _ (eX _ (eX _ (eX [(1000,7),(1001,25)] (aN (s_insE m (k,(⟨a.kind,a.n,a.f,a.s,a.l,a.e⟩:Val)) j hle (by omega)) ?_)))))))))
 refine (aN rfl (aN rfl (aN rfl (aN rfl ?_))))
 have e:m.take j++(k,(⟨a.kind,a.n,a.f,a.s,a.l,a.e⟩:Val))::m.drop j = m.take j++(k,a)::m.drop j:=by rw [val_eta]
 exact congrArg (AV.rd .ent) e
theorem s_put (l:List Ent) (k:Str) (a:Val) (hl1:l.length≤100000000) (hn:∀ p ∈ l,VN 100000000 p.2) (ha:VN 100000000 a):PSpec Tryd.prog 68 [.rd .ent l,.s k,.agg (encVal a)] (.rd .ent (putE l k a)) :=
 pspec_of_VCs Γ_good Tryd.func68 rfl Tryd.call68 Tryd.results68 Tryd.ntmps68 (Nat.le_of_ble_eq_true rfl) (w_put l k a hl1 hn ha) Γ_good
end
end Go.Proofs.YtfeniggadfkakaaDoor
end
section
namespace Go.Proofs.YtfeniggadfkakaaDoor
open Go Go.SX Go.RowKit Go.Lib
set_option maxRecDepth 100000
set_option maxHeartbeats 4000000
theorem ins_szV (w:World):(Go.sizeOf 26).run Tryd.prog w = .ok 6 w:=letI:Globs:=⟨[]⟩; elem_sz ti26_ok (τ:=.val) rfl w
theorem ins_ovV (w : World) (g vb o m vc lb cb : Nat) (cur cur2 : Array Value) (e e2 : TypeId) (hvb : vb ≠ g) (hg : w.heap[g]? = some (.cells cur e (0, 0))) (hv : w.heap[vb]? = some (.cells cur2 e2 (0, 0))) (hk : cur.size ≠ 0) :
  (callFunc 81 #[.slice (some ⟨vb,0,none⟩) m vc,.slice (some ⟨g,o,none⟩) lb cb]).run Tryd.prog w = .ok (.value (.bool false)) w:=by
 rw [run_callFunc_extern Tryd.func81 (by kernel_rfl) (by kernel_rfl) (by kernel_rfl) (e := Extern.SlicesOverlaps.overlaps #[23, 23] #[4]) (by kernel_rfl),
     Lib.run_overlaps_apart w 23 4 26 Tryd.underlying23 6 ins_szV ⟨vb,0,none⟩ ⟨g,o,none⟩ m vc lb cb hvb e2 e cur2.size cur.size (by simp [World.shape?,hv]) (by simp [World.shape?,hg]) hk (by simp [World.frozen?,hv]) (by simp [World.frozen?,hv])]
 rfl
theorem ins_shiftV (g n c i vb m vc : Nat) (cur cur2 : Array Value) (e e2 : TypeId) (w : World) (hi : i < n) (hm : 0 < m) (hroom : n + m ≤ c) (hc63 : c ≤ 9223372036854775807) (hvb : vb ≠ g)
  (hg:w.heap[g]? = some (.cells cur e (0,0))) (hcs:cur.size = c * 6) (hv:w.heap[vb]? = some (.cells cur2 e2 (0,0))) (hcs2:cur2.size = vc * 6) (hvc:m≤vc)
  (h1c:∀ v ∈ cur.toList.take (n * 6),v.oneCell' = true) (h1v:∀ v ∈ cur2.toList.take (m * 6),v.oneCell' = true) :
  Calls Tryd.prog 69 #[.slice (some ⟨g,0,none⟩) n c,.int .i64 i,.slice (some ⟨vb,0,none⟩) m vc] w fun e w' =>
   e = .returned (.slice (some ⟨g,0,none⟩) (n + m) c)∧w' = (w.drew.setRow g (spl cur ((i + m) * 6) ((cur.toList.take (n * 6)).drop (i * 6)))).setRow g (spl (spl cur ((i + m) * 6) ((cur.toList.take (n * 6)).drop (i * 6))) (i * 6) (cur2.toList.take (m * 6))):=by
 have mixed:Tryd.prog.follows .mixedOrders = true:=by kernel_rfl
 have hz1:¬ ((m:Int) = 0):=by omega
 have hz2:¬ ((i:Int) = (n:Int)):=by omega
 have hw1:IntKind.i64.wrap ((i:Int) + (m:Int)) = (i:Int) + (m:Int):=by rw [IntKind.wrap_i64]; omega
 have hb1:(0:Int)≤(i:Int) + (m:Int):=by omega
 have hin:i≤n:=by omega
 have htn:((i:Int) + (m:Int)).toNat = i + m:=by omega
 have hb2:¬ (c = i + m):=by omega
 have hb3:(i:Int)≤(n:Int) + (m:Int):=by omega
 have hb4:¬ (c = i):=by omega
 have hov:∀ lb cb,(callFunc 81 #[.slice (some ⟨vb,0,none⟩) m vc,.slice (some ⟨g,(i + m) * 6,none⟩) lb cb]).run Tryd.prog w = .ok (.value (.bool false)) w:=fun lb cb =>
  ins_ovV w g vb _ m vc lb cb cur cur2 e e2 hvb hg hv (by omega)
 have hl:cur.toList.length = cur.size:=Array.length_toList
 have hl2:cur2.toList.length = cur2.size:=Array.length_toList
 have hdl:((cur.toList.take (n * 6)).drop (i * 6)).length = (n - i) * 6:=by rw [List.length_drop,List.length_take,hl]; omega
 have htl:(cur2.toList.take (m * 6)).length = m * 6:=by rw [List.length_take,hl2]; omega
 obtain ⟨r1,hr1⟩:∃ r1,r1 = spl cur ((i + m) * 6) ((cur.toList.take (n * 6)).drop (i * 6)):=⟨_,rfl⟩
 have hfit:(i + m) * 6 + ((cur.toList.take (n * 6)).drop (i * 6)).length≤cur.size:=by rw [hdl]; omega
 have hr1s:r1.size = cur.size:=by rw [hr1]; exact spl_size hfit
 have hcp1:∀ ty dc sc,(Builtin.copy_ #[23,23] ty #[.slice (some ⟨g,(i + m) * 6,none⟩) (n + m - (i + m)) dc,.slice (some ⟨g,i * 6,none⟩) (n + m - i) sc]).run Tryd.prog w.drew = .ok (goInt ((n - i:Nat):Int)) (w.drew.setRow g r1):=fun ty dc sc=>by
  have hmin:Nat.min (n + m - i) (n + m - (i + m)) = n - i:=by show min _ _ = _; omega
  have:=run_copyR w.drew 23 23 ty 26 6 g ((i + m) * 6) (n + m - (i + m)) dc ⟨g,i * 6,none⟩ (n + m - i) sc ((cur.toList.take (n * 6)).drop (i * 6)) cur e Tryd.underlying23 ins_szV (by rw [hdl,hmin])
   (fun j v hj=>by
    rw [Addr.add_lit,cell_of_row w.drew g _ cur e (0,0) hg]
    rw [List.getElem?_drop,List.getElem?_take] at hj
    split at hj
    ·simpa using hj
    ·cases hj) hg hfit (fun v hv=>h1c v (List.mem_of_mem_drop hv))
  rw [hmin,← hr1] at this
  exact this
 have hcp2:∀ (W:World),(∀ k:Nat,W.heap[k]? = (w.drew.setRow g r1).heap[k]?)→∀ ty dc,(Builtin.copy_ #[23,23] ty #[.slice (some ⟨g,i * 6,none⟩) (n + m - i) dc,.slice (some ⟨vb,0,none⟩) m vc]).run Tryd.prog W = .ok (goInt ((m:Nat):Int)) (W.setRow g (spl r1 (i * 6) (cur2.toList.take (m * 6)))):=fun W hW ty dc=>by
  have hmin:Nat.min m (n + m - i) = m:=by show min _ _ = _; omega
  have hvW:W.heap[vb]? = some (.cells cur2 e2 (0,0)):=by rw [hW,setRow_other _ _ _ _ hvb]; exact hv
  have hgW:W.heap[g]? = some (.cells r1 e (0,0)):=by rw [hW]; exact setRow_heap w.drew g cur r1 e (0,0) hg
  have:=run_copyR W 23 23 ty 26 6 g (i * 6) (n + m - i) dc ⟨vb,0,none⟩ m vc (cur2.toList.take (m * 6)) r1 e Tryd.underlying23 ins_szV (by rw [htl,hmin])
   (fun j v hj=>by
    rw [Addr.add_lit,cell_of_row W vb _ cur2 e2 (0,0) hvW,Nat.zero_add]
    rw [List.getElem?_take] at hj
    split at hj
    ·simpa using hj
    ·cases hj) hgW (by rw [htl,hr1s]; omega) h1v
  rw [hmin] at this
  exact this
 rw [← hr1]
 clear hr1 hr1s h1c h1v hcs hcs2 hg hv hfit hl hl2 hdl htl
 go_enter Tryd.func69,Tryd.ntmps69
 go_wp2_with (simp only [hov])
 go_region_law_o (refine step_copy_runI rfl _ _ 23 23 rfl _ _ (by simp [Act.eval,Act.put]) (by simp [Act.eval,Act.put]) (hcp1 _ _ _) ?_)
 go_wp2_with (at_builtin; refine wpList_copy_runI _ rfl _ _ 23 23 rfl _ _ rfl rfl (hcp2 _ (fun _=>rfl) _ _) ?_)
 go_ret
 first | exact ⟨rfl,rfl⟩ | exact ⟨trivial,rfl⟩
theorem ins_end_roomV (g n c vb m vc : Nat) (cur cur2 : Array Value) (e e2 : TypeId) (w : World) (hm : 0 < m) (hroom : n + m ≤ c) (hc63 : c ≤ 9223372036854775807) (hvb : vb ≠ g)
  (hg:w.heap[g]? = some (.cells cur e (0,0))) (hcs:cur.size = c * 6) (hv:w.heap[vb]? = some (.cells cur2 e2 (0,0))) (hcs2:cur2.size = vc * 6) (hvc:m≤vc)
  (h1c:∀ v ∈ cur.toList.take (n * 6),v.oneCell' = true) (h1v:∀ v ∈ cur2.toList.take (m * 6),v.oneCell' = true) (hbig:(n + m) * 88≤140737488355328) :
  Calls Tryd.prog 69 #[.slice (some ⟨g,0,none⟩) n c,.int .i64 n,.slice (some ⟨vb,0,none⟩) m vc] w fun e w' =>
   e = .returned (.slice (some ⟨g,0,none⟩) (n + m) c)∧w' = w.setRow g (spl cur (n * 6) (cur2.toList.take (m * 6))):=by
 letI:Globs:=⟨[]⟩
 have mixed:Tryd.prog.follows .mixedOrders = true:=by kernel_rfl
 have hz1:¬ ((m:Int) = 0):=by omega
 have hl:cur.toList.length = cur.size:=Array.length_toList
 have hl2:cur2.toList.length = cur2.size:=Array.length_toList
 have htl:(cur2.toList.take (m * 6)).length = m * 6:=by rw [List.length_take,hl2]; omega
 have hrun:∀ ty,(Builtin.append_ #[23,23] ty #[.slice (some ⟨g,0,none⟩) n c,.slice (some ⟨vb,0,none⟩) m vc]).run Tryd.prog w = .ok (.slice (some ⟨g,0,none⟩) (n + m) c) (w.setRow g (spl cur (n * 6) (cur2.toList.take (m * 6)))):=fun ty=>by
  have hst:=run_storeCells_at Tryd.prog g (n * 6) e (cur2.toList.take (m * 6)) 0 cur w hg (by rw [htl]; omega) h1v
  simp only [Nat.add_zero] at hst
  refine (run_append_gen (w:=w) Tryd.underlying23 Tryd.underlying23 ti26_ok (τ:=.val) rfl ty (A:=some ⟨g,0,none⟩) (A2:=some ⟨vb,0,none⟩) (n:=n) (cap:=c) (m:=m) (c:=vc) (olds:=cur.toList.take (n * 6)) (news:=cur2.toList.take (m * 6)) (fun w' hw=>?_) (fun w' hw=>?_) hbig (by unfold maxLen; omega)).1 hroom _ ?_
  ·exact run_firstCells_some w' 6 n ⟨g, 0, none⟩ n c _ (by rw [List.length_take, hl]; omega) (fun j v hj => by
    rw [Addr.add_lit,cell_of_row w' g _ cur e (0,0) (by rw [hw]; exact hg),Nat.zero_add]
    rw [List.getElem?_take] at hj
    split at hj
    ·simpa using hj
    ·cases hj)
  ·exact run_firstCells_some w' 6 m ⟨vb, 0, none⟩ m vc _ htl (fun j v hj => by
    rw [Addr.add_lit,cell_of_row w' vb _ cur2 e2 (0,0) (by rw [hw]; exact hv),Nat.zero_add]
    rw [List.getElem?_take] at hj
    split at hj
    ·simpa using hj
    ·cases hj)
  ·show (storeCells ((⟨g,0,none⟩:Addr).add (n * 6)) _).run _ _ = _
   rw [Addr.add_lit,Nat.zero_add]
   exact hst
 clear h1c h1v hg hv hcs hcs2 hl hl2 htl
 go_enter Tryd.func69,Tryd.ntmps69
 go_wp2_with (at_builtin; refine Lib.wpList_append_run _ rfl _ _ _ _ rfl _ _ rfl rfl _ _ (hrun _) ?_)
 go_ret
 exact ⟨rfl,rfl⟩
theorem ins_end_growV (base : Option Addr) (n c vb m vc : Nat) (cs : List Value) (cur2 : Array Value) (e2 : TypeId) (w : World) (hm : 0 < m) (hnc : n ≤ c) (hroom : c < n + m)
  (hcl:cs.length = n * 6) (hcs:∀ w':World,w'.heap = w.heap→(Builtin.firstCells 6 n (.slice base n c)).run Tryd.prog w' = .ok cs.toArray w') (hv:w.heap[vb]? = some (.cells cur2 e2 (0,0))) (hcs2:cur2.size = vc * 6) (hvc:m≤vc)
  (h1v:∀ v ∈ cur2.toList.take (m * 6),v.oneCell' = true) (hnil:base = none→n = 0∧c = 0) (hbig:(n + m) * 88≤140737488355328) :
  Calls Tryd.prog 69 #[.slice base n c,.int .i64 n,.slice (some ⟨vb,0,none⟩) m vc] w fun e w' =>
   ∃ z:Value,z.cells = ti26.zero.toArray∧e = .returned (.slice (some ⟨w.heap.size,0,none⟩) (n + m) (grownCap w (n + m) c 26)) ∧
   w' = w.drew.alloc (.cells (cs.toArray++(cur2.toList.take (m * 6)).toArray++Builtin.zeroCells z.cells (grownCap w (n + m) c 26 - (n + m))) 26):=by
 letI:Globs:=⟨[]⟩
 have mixed:Tryd.prog.follows .mixedOrders = true:=by kernel_rfl
 have hz1:¬ ((m:Int) = 0):=by omega
 have hl2:cur2.toList.length = cur2.size:=Array.length_toList
 have htl:(cur2.toList.take (m * 6)).length = m * 6:=by rw [List.length_take,hl2]; omega
 have hrun : ∃ z : Value, z.cells = ti26.zero.toArray ∧ ∀ ty, (Builtin.append_ #[23, 23] ty #[.slice base n c, .slice (some ⟨vb, 0, none⟩) m vc]).run Tryd.prog w =
   .ok (.slice (some ⟨w.heap.size,0,none⟩) (n + m) (grownCap w (n + m) c 26)) (w.drew.alloc (.cells (cs.toArray++(cur2.toList.take (m * 6)).toArray++Builtin.zeroCells z.cells (grownCap w (n + m) c 26 - (n + m))) 26)):=by
  have h := fun ty => (run_append_gen (w := w) Tryd.underlying23 Tryd.underlying23 ti26_ok (τ := .val) rfl ty (A := base) (A2 := some ⟨vb, 0, none⟩) (n := n) (cap := c) (m := m) (c := vc) (olds := cs) (news := cur2.toList.take (m * 6)) (fun w' hw => hcs w' hw) (fun w' hw => run_firstCells_some w' 6 m ⟨vb, 0, none⟩ m vc _ htl (fun j v hj => by
    rw [Addr.add_lit,cell_of_row w' vb _ cur2 e2 (0,0) (by rw [hw]; exact hv),Nat.zero_add]
    rw [List.getElem?_take] at hj
    split at hj
    ·simpa using hj
    ·cases hj)) hbig (by unfold maxLen; omega)).2 hroom
  obtain ⟨z,hz,_⟩:=h 23
  refine ⟨z,hz,fun ty=>?_⟩
  obtain ⟨z',hz',h'⟩:=h ty
  rw [hz,← hz']
  exact h'
 obtain ⟨z,hz,hrun⟩:=hrun
 obtain ⟨G,hG⟩:∃ G,G = grownCap w (n + m) c 26:=⟨_,rfl⟩
 rw [← hG] at hrun ⊢
 obtain ⟨W1,hW1⟩:∃ W1,W1 = w.drew.alloc (.cells (cs.toArray++(cur2.toList.take (m * 6)).toArray++Builtin.zeroCells z.cells (G - (n + m))) 26):=⟨_,rfl⟩
 rw [← hW1] at hrun
 refine Calls.mono (R:=fun e w'=>e = .returned (.slice (some ⟨w.heap.size,0,none⟩) (n + m) G)∧w' = W1) ?_ (fun e w' h=>⟨z,hz,h.1,h.2.trans hW1⟩)
 clear h1v hv hcs2 hl2 htl hcs hW1 hG hz
 cases base with
 | none =>
  obtain ⟨h0,h0'⟩:=hnil rfl
  subst h0 h0'
  go_enter Tryd.func69,Tryd.ntmps69
  go_wp2_with (at_builtin; refine Lib.wpList_append_run _ rfl _ _ _ _ rfl _ _ rfl rfl _ _ (hrun _) ?_)
  go_ret
  exact ⟨rfl,rfl⟩
 | some a =>
  obtain ⟨ab,ao,asp⟩:=a
  go_enter Tryd.func69,Tryd.ntmps69
  go_wp2_with (at_builtin; refine Lib.wpList_append_run _ rfl _ _ _ _ rfl _ _ rfl rfl _ _ (hrun _) ?_)
  all_goals (go_ret; exact ⟨rfl,rfl⟩)
theorem ins_growV (g n c i vb m vc : Nat) (cur cur2 : Array Value) (e e2 : TypeId) (w : World) (hi : i < n) (hm : 0 < m) (hnc : n ≤ c) (hroom : c < n + m)
  (hg:w.heap[g]? = some (.cells cur e (0,0))) (hcs:cur.size = c * 6) (hv:w.heap[vb]? = some (.cells cur2 e2 (0,0))) (hcs2:cur2.size = vc * 6) (hvc:m≤vc)
  (h1c:∀ v ∈ cur.toList.take (n * 6),v.oneCell' = true) (h1v:∀ v ∈ cur2.toList.take (m * 6),v.oneCell' = true) (hbig:(n + m) * 88≤140737488355328) :
  Calls Tryd.prog 69 #[.slice (some ⟨g,0,none⟩) n c,.int .i64 i,.slice (some ⟨vb,0,none⟩) m vc] w fun e' w' =>
   ∃ (row:Array Value) (W:World),row.size = grownCap w (n + m) c 26 * 6∧(∀ j,j < i * 6→row[j]? = cur[j]?) ∧
   e' = .returned (.slice (some ⟨w.heap.size,0,none⟩) (n + m) (grownCap w (n + m) c 26))∧W.heap = (w.drew.alloc (.cells row 26)).heap∧W.os = w.os∧W.tape = w.tape∧W.output = w.output ∧
   w' = (W.setRow w.heap.size (spl row (i * 6) (cur2.toList.take (m * 6)))).drew.setRow w.heap.size (spl (spl row (i * 6) (cur2.toList.take (m * 6))) ((i + m) * 6) ((cur.toList.take (n * 6)).drop (i * 6))):=by
 letI:Globs:=⟨[]⟩
 have mixed:Tryd.prog.follows .mixedOrders = true:=by kernel_rfl
 have hz1:¬ ((m:Int) = 0):=by omega
 have hz2:¬ ((i:Int) = (n:Int)):=by omega
 have hz3:(c:Int) < (n:Int) + (m:Int):=by omega
 have hbw:g < w.heap.size:=(Array.getElem?_eq_some_iff.1 hg).1
 have hvw:vb < w.heap.size:=(Array.getElem?_eq_some_iff.1 hv).1
 have hkk:(n:Int) + (m:Int) - (i:Int) = ((n + m - i:Nat):Int):=by omega
 have hik:i + (n + m - i) = n + m:=by omega
 have hl:cur.toList.length = cur.size:=Array.length_toList
 have hl2:cur2.toList.length = cur2.size:=Array.length_toList
 have hdl:((cur.toList.take (n * 6)).drop (i * 6)).length = (n - i) * 6:=by rw [List.length_drop,List.length_take,hl]; omega
 have htl:(cur2.toList.take (m * 6)).length = m * 6:=by rw [List.length_take,hl2]; omega
 obtain ⟨i0,z,hi0,hi1,hi2,hi3,hi4⟩:=ti26_ok.info
 have hzl:z.cells.size = 6:=by rw [hi4]; rfl
 have hold:(Builtin.firstCells i0.size i (.slice (some ⟨g,0,none⟩) i c)).run Tryd.prog w.drew = .ok (cur.toList.take (i * 6)).toArray w.drew:=by
  rw [hi1]
  exact run_firstCells_some w.drew 6 i ⟨g, 0, none⟩ i c _ (by rw [List.length_take, hl]; omega) (fun j v hj => by
    rw [Addr.add_lit,cell_of_row w.drew g _ cur e (0,0) hg,Nat.zero_add]
    rw [List.getElem?_take] at hj
    split at hj
    ·simpa using hj
    ·cases hj)
 have hib:i0.bytes = 88:=hi2
 have his:i0.size = 6:=hi1
 have hrz : ∀ ty, (Builtin.append_ #[23, 3] ty #[.slice (some ⟨g, 0, none⟩) i c, .int .i64 ((n : Int) + (m : Int) - (i : Int))]).run Tryd.prog w =
   .ok (.slice (some ⟨w.heap.size,0,none⟩) (n + m) (grownCap w (n + m) c 26)) (w.drew.alloc (.cells ((cur.toList.take (i * 6)).toArray++Builtin.zeroCells z.cells (n + m - i)++Builtin.zeroCells z.cells (grownCap w (n + m) c 26 - (n + m))) 26)):=fun ty=>by
  have h:=Lib.run_append_grow_zeros w 23 3 ty 26 i0 z .i64 .i64 Tryd.underlying23 Tryd.underlying3 hi0 hi3 (some ⟨g,0,none⟩) i c _ hold (n + m - i) (by omega) (by omega) (by omega) (by omega) (by rw [hib]; omega) (by rw [hib,hik]; exact growslice_fits hroom hbig)
  rw [hik] at h
  rw [hkk]
  exact h
 obtain ⟨G,hG⟩:∃ G,G = grownCap w (n + m) c 26:=⟨_,rfl⟩
 obtain ⟨ROW,hROW⟩:∃ ROW:Array Value,ROW = (cur.toList.take (i * 6)).toArray++Builtin.zeroCells z.cells (n + m - i)++Builtin.zeroCells z.cells (G - (n + m)):=⟨_,rfl⟩
 rw [← hG] at hrz ⊢
 rw [← hROW] at hrz
 have hGn:n + m≤G:=by rw [hG]; exact grownCap_ge w _ _ _
 have hG63:G≤9223372036854775807:=by
  have:=grownCap_le_maxLen w (n + m) c 26 (by unfold maxLen; omega)
  rw [← hG] at this
  unfold maxLen at this
  omega
 have hRs:ROW.size = G * 6:=by
  rw [hROW]
  simp only [Array.size_append,List.size_toArray,size_zeroCells,hzl,List.length_take,hl]
  omega
 have hRa:∀ j,j < i * 6→ROW[j]? = cur[j]?:=fun j hj=>by
  rw [hROW,Array.append_assoc,Array.getElem?_append_left (by simp only [List.size_toArray,List.length_take,hl]; omega),List.getElem?_toArray,List.getElem?_take,if_pos hj,Array.getElem?_toList]
 obtain ⟨W1,hW1⟩:∃ W1,W1 = w.drew.alloc (.cells ROW 26):=⟨_,rfl⟩
 have hWN:W1.heap[w.heap.size]? = some (.cells ROW 26 (0,0)):=by rw [hW1]; exact heap_alloc_new w.drew _
 have hWo:∀ k,k < w.heap.size→W1.heap[k]? = w.heap[k]?:=fun k hk=>by rw [hW1]; exact (Stp.alloc w.drew _).block k hk (fun h=>h)
 rw [← hW1] at hrz
 have hcpA:∀ (W:World),(∀ k:Nat,W.heap[k]? = W1.heap[k]?)→∀ ty dc,(Builtin.copy_ #[23,23] ty #[.slice (some ⟨w.heap.size,i * 6,none⟩) (n + m - i) dc,.slice (some ⟨vb,0,none⟩) m vc]).run Tryd.prog W = .ok (goInt ((m:Nat):Int)) (W.setRow w.heap.size (spl ROW (i * 6) (cur2.toList.take (m * 6)))):=fun W hW ty dc=>by
  have hmin:Nat.min m (n + m - i) = m:=by show min _ _ = _; omega
  have hvW:W.heap[vb]? = some (.cells cur2 e2 (0,0)):=by rw [hW,hWo _ hvw]; exact hv
  have:=run_copyR W 23 23 ty 26 6 w.heap.size (i * 6) (n + m - i) dc ⟨vb,0,none⟩ m vc (cur2.toList.take (m * 6)) ROW 26 Tryd.underlying23 ins_szV (by rw [htl,hmin])
   (fun j v hj=>by
    rw [Addr.add_lit,cell_of_row W vb _ cur2 e2 (0,0) hvW,Nat.zero_add]
    rw [List.getElem?_take] at hj
    split at hj
    ·simpa using hj
    ·cases hj) (by rw [hW]; exact hWN) (by rw [htl,hRs]; omega) h1v
  rw [hmin] at this
  exact this
 have hRs2:(spl ROW (i * 6) (cur2.toList.take (m * 6))).size = G * 6:=by rw [spl_size (by rw [htl,hRs]; omega),hRs]
 have hcpB:∀ (W:World),(∀ k:Nat,W.heap[k]? = (W1.setRow w.heap.size (spl ROW (i * 6) (cur2.toList.take (m * 6)))).heap[k]?)→∀ ty dc sc,(Builtin.copy_ #[23,23] ty #[.slice (some ⟨w.heap.size,(i + m) * 6,none⟩) (n + m - (i + m)) dc,.slice (some ⟨g,i * 6,none⟩) (n - i) sc]).run Tryd.prog W = .ok (goInt ((n - i:Nat):Int)) (W.setRow w.heap.size (spl (spl ROW (i * 6) (cur2.toList.take (m * 6))) ((i + m) * 6) ((cur.toList.take (n * 6)).drop (i * 6)))):=fun W hW ty dc sc=>by
  have hmin:Nat.min (n - i) (n + m - (i + m)) = n - i:=by show min _ _ = _; omega
  have hgW:W.heap[g]? = some (.cells cur e (0,0)):=by rw [hW,setRow_other _ _ _ _ (by omega),hWo _ hbw]; exact hg
  have:=run_copyR W 23 23 ty 26 6 w.heap.size ((i + m) * 6) (n + m - (i + m)) dc ⟨g,i * 6,none⟩ (n - i) sc ((cur.toList.take (n * 6)).drop (i * 6)) _ 26 Tryd.underlying23 ins_szV (by rw [hdl,hmin])
   (fun j v hj=>by
    rw [Addr.add_lit,cell_of_row W g _ cur e (0,0) hgW]
    rw [List.getElem?_drop,List.getElem?_take] at hj
    split at hj
    ·simpa using hj
    ·cases hj) (by rw [hW]; exact setRow_heap W1 _ ROW _ 26 (0,0) hWN) (by rw [hdl,hRs2]; omega) (fun v hv=>h1c v (List.mem_of_mem_drop hv))
  rw [hmin] at this
  exact this
 have hGi:¬ (G = i):=by omega
 have hGim:¬ (G = i + m):=by omega
 have hci:¬ (c = i):=by omega
 refine Calls.mono (R:=fun e' w'=>e' = .returned (.slice (some ⟨w.heap.size,0,none⟩) (n + m) G)∧w' = ((w.drew.alloc (.cells ROW 26)).setRow w.heap.size (spl ROW (i * 6) (cur2.toList.take (m * 6)))).drew.setRow w.heap.size (spl (spl ROW (i * 6) (cur2.toList.take (m * 6))) ((i + m) * 6) ((cur.toList.take (n * 6)).drop (i * 6)))) ?_ (fun e' w' h=>⟨ROW,w.drew.alloc (.cells ROW 26),hRs,hRa,h.1,rfl,rfl,rfl,rfl,h.2⟩)
 subst hW1
 have hE:∀ k:Nat,((w.alloc (.cells ROW 26)).drew).heap[k]? = (w.drew.alloc (.cells ROW 26)).heap[k]?:=fun k=>rfl
 have hF:∀ k:Nat,(((w.alloc (.cells ROW 26)).drew.setRow w.heap.size (spl ROW (i * 6) (cur2.toList.take (m * 6)))).drew).heap[k]? = ((w.drew.alloc (.cells ROW 26)).setRow w.heap.size (spl ROW (i * 6) (cur2.toList.take (m * 6)))).heap[k]?:=fun k=>rfl
 have hw1:IntKind.i64.wrap ((i:Int) + (m:Int)) = (i:Int) + (m:Int):=by rw [IntKind.wrap_i64]; omega
 have hb1:(0:Int)≤(i:Int) + (m:Int):=by omega
 have hin:i≤n:=by omega
 have htn:((i:Int) + (m:Int)).toNat = i + m:=by omega
 have hb3:(i:Int)≤(n:Int):=by omega
 clear hkk hik hold hROW hG hRs hRs2 hRa hg hv hcs hcs2 hi0 hi1 hi2 hi3 hi4 hib his hzl h1c h1v hWN hWo hl hl2 hdl htl
 go_enter Tryd.func69,Tryd.ntmps69
 go_wp2_with (first
  | (at_builtin; refine Lib.wpList_append_run _ rfl _ _ _ _ rfl _ _ rfl rfl _ _ (hrz _) ?_)
  | (at_builtin; refine wpList_copy_runI _ rfl _ _ 23 23 rfl _ _ rfl rfl (hcpA _ hE _ _) ?_)
  | (at_builtin; refine wpList_copy_runI _ rfl _ _ 23 23 rfl _ _ rfl rfl (hcpB _ (fun _=>rfl) _ _ _) ?_))
 go_region_law_o (refine step_copy_runI rfl _ _ 23 23 rfl (.slice (some ⟨w.heap.size,(i + m) * 6,none⟩) (n + m - (i + m)) (G - (i + m))) (.slice (some ⟨g,i * 6,none⟩) (n - i) (c - i)) (by simp [Act.eval,Act.put]) (by simp [Act.eval,Act.put]) (hcpB _ hF 3 (G - (i + m)) (c - i)) ?_)
 go_wp2
 go_ret
 exact ⟨rfl,rfl⟩
theorem s_insV [Globs] (l : List (den .val)) (x : den .val) (i : Nat) (hi : i ≤ l.length) (hbig : (l.length + 1) * 88 ≤ 140737488355328) :
  CSpec Tryd.prog 69 [.vec 1000 .val l,.i .i64 i,.vec 1001 .val [x]] [] (.vec 1000 .val (l.take i++x::l.drop i)) []:=by
 refine ⟨fun vs w=>Tryd.call69 vs w,fun F X β w vs hvs hpin hI=>?_⟩
 match vs,hvs with
 | [v0,v1,v2],_ =>
  have h0:VecAt β (SX.Own X ⟨argSlots 0 [.vec 1000 .val l,.i .i64 i,.vec 1001 .val [x]],[]⟩ β) w 1000 .val l v0:=hI.slots 0
  have h1:SX.Im (SX.Own X ⟨argSlots 0 [.vec 1000 .val l,.i .i64 i,.vec 1001 .val [x]],[]⟩ β) w (.i .i64 i) v1:=hI.slots 1
  have h2:VecAt β (SX.Own X ⟨argSlots 0 [.vec 1000 .val l,.i .i64 i,.vec 1001 .val [x]],[]⟩ β) w 1001 .val [x] v2:=hI.slots 2
  have N0:Nm ⟨argSlots 0 [.vec 1000 .val l,.i .i64 i,.vec 1001 .val [x]],[]⟩ 1000:=.inr (.inl ⟨0,List.mem_singleton.2 rfl⟩)
  have N1:Nm ⟨argSlots 0 [.vec 1000 .val l,.i .i64 i,.vec 1001 .val [x]],[]⟩ 1001:=.inr (.inl ⟨2,List.mem_singleton.2 rfl⟩)
  cases h1
  have hL:(l.take i++x::l.drop i).length = l.length + 1:=by rw [List.length_append,List.length_cons,List.length_take,List.length_drop]; omega
  rcases h2 with ⟨h2,_⟩ | ⟨vb,vc,cur2,e2,b1,rfl,b3,b4,b5,b6,b7⟩
  ·cases h2
  have hx:All2 (SX.Im (SX.Own X ⟨argSlots 0 [.vec 1000 .val l,.i .i64 i,.vec 1001 .val [x]],[]⟩ β) w) (flat .val [x]) (cur2.toList.take (1 * 6)):=vec_cells b6 b4 b7
  have h1v:=vec_one (l:=[x]) hx
  have hb4:1≤vc:=b4
  have hb6:cur2.size = vc * 6:=b6
  have hxl:(cur2.toList.take (1 * 6)).length = 6:=by rw [← hx.1]; rfl
  have hmx:l.length + 1≤maxLen:=by unfold maxLen; omega
  have hge:=fun c=>grownCap_ge w (l.length + 1) c 26
  have hcm:=fun c=>grownCap_le_maxLen w (l.length + 1) c 26 hmx
  rcases h0 with ⟨rfl,rfl,h0⟩ | ⟨g,c,cur,e,p1,rfl,p3,p4,p5,p6,p7⟩
  ·have hi0:i = 0:=by simpa using hi
   subst hi0
   refine (ins_end_growV none 0 0 vb 1 vc [] cur2 e2 w (by omega) (by omega) (by omega) rfl (fun w' _=>run_firstCells_none w' 6 0 0 0) b3 hb6 hb4 h1v (fun _=>⟨rfl,rfl⟩) (by omega)).mono ?_
   rintro e' w' ⟨z,hz,rfl,rfl⟩
   have hzl:z.cells.size = 6:=by rw [hz]; rfl
   refine ⟨_,_,rfl,vec_end (us:=cur2.toList.take (1 * 6)) (show 1≤3 by omega) hI (((Stp.drew w).trans (Stp.alloc w.drew _) (fun _ _ h=>h)).mono (fun _ _ h=>h.elim)) (.inr (Nat.le_refl _)) (heap_alloc_new w.drew _) (hge 0) (hcm 0) ?_ hx ?_⟩
   ·simp only [Array.size_append,List.size_toArray,size_zeroCells,hzl,hxl,List.length_nil]
    have:=hge 0
    simp only [List.length_nil] at this
    show _ = _ * 6
    omega
   ·intro j u hj
    have hj':j < (cur2.toList.take (1 * 6)).length:=(List.getElem?_eq_some_iff.1 hj).1
    rw [Array.getElem?_append_left (by simpa using hj')]
    simpa using hj
  have hne:vb≠g:=fun h=>by have:=hI.inj 1001 1000 g N1 N0 (h ▸ b1) p1; omega
  have hc:=vec_cells p6 p4 p7
  have h1c:=vec_one hc
  have hp6:cur.size = c * 6:=p6
  have hcl:cur.toList.length = cur.size:=Array.length_toList
  have hall:All2 (SX.Im (SX.Own X ⟨argSlots 0 [.vec 1000 .val l,.i .i64 i,.vec 1001 .val [x]],[]⟩ β) w) (flat .val (l.take i++x::l.drop i)) ((cur.toList.take (l.length * 6)).take (i * 6)++(cur2.toList.take (1 * 6)++(cur.toList.take (l.length * 6)).drop (i * 6))):=ins_cells hc hx i hi
  have h5:c≤9223372036854775807:=by unfold maxLen at p5; omega
  have hA:((cur.toList.take (l.length * 6)).take (i * 6)).length = i * 6:=by rw [List.length_take,List.length_take,hcl]; omega
  have hC:((cur.toList.take (l.length * 6)).drop (i * 6)).length = (l.length - i) * 6:=by rw [List.length_drop,List.length_take,hcl]; omega
  have hAt:∀ j,j < i * 6→((cur.toList.take (l.length * 6)).take (i * 6))[j]? = cur[j]?:=fun j hj=>by rw [List.getElem?_take,if_pos hj,List.getElem?_take,if_pos (by omega),Array.getElem?_toList]
  by_cases hin:i = l.length
  ·subst hin
   have hd:(cur.toList.take (l.length * 6)).drop (l.length * 6) = []:=List.drop_eq_nil_of_le (by rw [List.length_take]; omega)
   have hu:(cur.toList.take (l.length * 6)).take (l.length * 6)++(cur2.toList.take (1 * 6)++(cur.toList.take (l.length * 6)).drop (l.length * 6)) = cur.toList.take (l.length * 6)++cur2.toList.take (1 * 6):=by
    rw [hd,List.append_nil,List.take_of_length_le (by rw [List.length_take]; omega)]
   have hTl:(cur.toList.take (l.length * 6)).length = l.length * 6:=by rw [List.length_take,hcl]; omega
   have hall:All2 (SX.Im (SX.Own X ⟨argSlots 0 [.vec 1000 .val l,.i .i64 l.length,.vec 1001 .val [x]],[]⟩ β) w) (flat .val (l.take l.length++x::l.drop l.length)) (cur.toList.take (l.length * 6)++cur2.toList.take (1 * 6)):=hu ▸ hall
   by_cases hroom:l.length + 1≤c
   ·have hfit:l.length * 6 + (cur2.toList.take (1 * 6)).length≤cur.size:=by rw [hxl]; omega
    refine (ins_end_roomV g l.length c vb 1 vc cur cur2 e e2 w (by omega) hroom h5 hne p3 hp6 b3 hb6 hb4 h1c h1v hbig).mono ?_
    rintro e' w' ⟨rfl,rfl⟩
    rw [← hL]
    refine ⟨_,_,rfl,vec_end (show 1≤3 by omega) hI (Stp.setRow w g _) (.inl ⟨N0,p1⟩) (setRow_heap w g cur _ e _ p3) (by rw [hL]; exact hroom) p5 (by rw [spl_size hfit]; exact p6) hall ?_⟩
    intro j u hj
    rw [spl_at hfit,hxl]
    by_cases c1:j < l.length * 6
    ·rw [List.getElem?_append_left (by omega),List.getElem?_take,if_pos c1] at hj
     rw [if_pos (by omega)]
     simpa using hj
    ·rw [List.getElem?_append_right (by omega),hTl] at hj
     have:=(List.getElem?_eq_some_iff.1 hj).1
     rw [if_neg (by omega),if_pos (by omega)]
     exact hj
   ·refine (ins_end_growV (some ⟨g, 0, none⟩) l.length c vb 1 vc (cur.toList.take (l.length * 6)) cur2 e2 w (by omega) p4 (by omega) hTl (fun w' hw => run_firstCells_some w' 6 _ ⟨g, 0, none⟩ _ c _ hTl (fun j v hj => by
     rw [Addr.add_lit,cell_of_row w' g _ cur e (0,0) (by rw [hw]; exact p3),Nat.zero_add]
     rw [List.getElem?_take] at hj
     split at hj
     ·simpa using hj
     ·cases hj)) b3 hb6 hb4 h1v (fun h=>by cases h) hbig).mono ?_
    rintro e' w' ⟨z,hz,rfl,rfl⟩
    have hzl:z.cells.size = 6:=by rw [hz]; rfl
    have hgc:=hge c
    have hcc:=hcm c
    generalize grownCap w (l.length + 1) c 26 = G at hgc hcc
    rw [← hL]
    refine ⟨_,_,rfl,vec_end (show 1≤3 by omega) hI (((Stp.drew w).trans (Stp.alloc w.drew _) (fun _ _ h=>h)).mono (fun _ _ h=>h.elim)) (.inr (Nat.le_refl _)) (heap_alloc_new w.drew _) (by rw [hL]; exact hgc) hcc ?_ hall ?_⟩
    ·simp only [Array.size_append,List.size_toArray,size_zeroCells,hzl,hxl,hTl,hL]
     show _ = _ * 6
     omega
    ·intro j u hj
     have hj':j < (cur.toList.take (l.length * 6)++cur2.toList.take (1 * 6)).length:=(List.getElem?_eq_some_iff.1 hj).1
     rw [Array.getElem?_append_left (by simpa using hj')]
     simpa using hj
  ·by_cases hroom:l.length + 1≤c
   ·refine (ins_shiftV g l.length c i vb 1 vc cur cur2 e e2 w (by omega) (by omega) hroom h5 hne p3 hp6 b3 hb6 hb4 h1c h1v).mono ?_
    rintro e' w' ⟨rfl,rfl⟩
    have hf1:(i + 1) * 6 + ((cur.toList.take (l.length * 6)).drop (i * 6)).length≤cur.size:=by rw [hC]; omega
    have hs1:=spl_size hf1
    have hf2:i * 6 + (cur2.toList.take (1 * 6)).length≤(spl cur ((i + 1) * 6) ((cur.toList.take (l.length * 6)).drop (i * 6))).size:=by rw [hs1,hxl]; omega
    rw [← hL]
    refine ⟨_,_,rfl,vec_end (show 1≤3 by omega) hI (((Stp.drew w).mono (fun _ _ h=>h.elim)).trans ((Stp.setRow _ g _).trans (Stp.setRow _ g _) (fun _ _ h=>h)) (fun _ _ h=>h)) (.inl ⟨N0,p1⟩) (setRow_heap _ g _ _ e _ (setRow_heap w.drew g cur _ e _ p3)) (by rw [hL]; exact hroom) p5 (by rw [spl_size hf2,hs1]; exact p6) hall (row_pre (fun j hj=>?_) (fun j hj=>?_) (fun j hj=>?_))⟩
    ·rw [hA] at hj
     rw [hAt j hj,spl_at hf2,if_pos hj,spl_at hf1,if_pos (by omega)]
    ·rw [hA,spl_at hf2,if_neg (by omega),if_pos (by omega)]
     congr 1
     omega
    ·rw [hA,hxl,spl_at hf2,hxl,if_neg (by omega),if_neg (by omega),spl_at hf1,if_neg (by omega),if_pos (by omega)]
     congr 1
     omega
   ·refine (ins_growV g l.length c i vb 1 vc cur cur2 e e2 w (by omega) (by omega) p4 (by omega) p3 hp6 b3 hb6 hb4 h1c h1v hbig).mono ?_
    rintro e' w' ⟨row,W,hrs,hra,rfl,hWh,hWo,hWt,hWp,rfl⟩
    have hgc:=hge c
    have hcc:=hcm c
    generalize grownCap w (l.length + 1) c 26 = G at hrs hgc hcc
    have hf1:i * 6 + (cur2.toList.take (1 * 6)).length≤row.size:=by rw [hxl]; omega
    have hs1:=spl_size hf1
    have hf2:(i + 1) * 6 + ((cur.toList.take (l.length * 6)).drop (i * 6)).length≤(spl row (i * 6) (cur2.toList.take (1 * 6))).size:=by rw [hs1,hC]; omega
    have hst:Stp (fun _=>False) w W:=⟨hWo,hWt,hWp,by rw [hWh]; simp,fun k hk _=>by rw [hWh]; exact (Stp.alloc w.drew _).block k hk (fun h=>h)⟩
    rw [← hL]
    refine ⟨_,_,rfl,vec_end (show 1≤3 by omega) hI ((hst.mono (fun _ _ h=>h.elim)).trans ((Stp.setRow _ w.heap.size _).trans (((Stp.drew _).mono (fun _ _ h=>h.elim)).trans (Stp.setRow _ w.heap.size _) (fun _ _ h=>h)) (fun _ _ h=>h)) (fun _ _ h=>h)) (.inr (Nat.le_refl _)) (setRow_heap _ _ _ _ 26 _ (setRow_heap W _ row _ 26 _ (by rw [hWh]; exact heap_alloc_new w.drew _))) (by rw [hL]; exact hgc) hcc (by rw [spl_size hf2,hs1]; exact hrs) hall (row_pre (fun j hj=>?_) (fun j hj=>?_) (fun j hj=>?_))⟩
    ·rw [hA] at hj
     rw [hAt j hj,spl_at hf2,if_pos (by omega),spl_at hf1,if_pos hj,hra j hj]
    ·rw [hA,spl_at hf2,if_pos (by omega),spl_at hf1,if_neg (by omega),if_pos (by omega)]
     congr 1
     omega
    ·rw [hA,hxl,spl_at hf2,if_neg (by omega),if_pos (by omega)]
     congr 1
     omega
end Go.Proofs.YtfeniggadfkakaaDoor
end
section
namespace Go.Proofs.YtfeniggadfkakaaDoor
open Go Go.SX Go.RowKit Go.Lib
set_option maxRecDepth 100000
set_option maxHeartbeats 4000000
theorem step_append_runV {P : Program} {ops : Array Oper} {o : Oper} {a : Act} {w : World} {K : Act → World → Prop} {Q : Exit → Act → World → Prop} {E : Prop}
  (hg:o.guard = none) (d x:Operand) (dT sT:TypeId) (hop:o.op = Op.call { callee:=Callee.builtin Builtin.append,args:=#[d,x],argTypes:=#[dT,sT] })
  (v u:Value) (hd:a.eval d = v) (hx:a.eval x = u) {v':Value} {w':World} (hr:(Builtin.append_ #[dT,sT] o.type #[v,u]).run P w = .ok v' w') (hK:K (a.put o.dst v') w') :
  if Region.wanted o (yielded ops a.tmps) = true then Oper.wp P o a w K Q else E:=by
 have hw:Region.wanted o (yielded ops a.tmps) = true:=by simp [Region.wanted,hg]
 rw [if_pos hw]
 unfold Oper.wp
 simp [execOp,hop,resolve,invoke,builtin,hd,hx,hr,Result.andThen]
 exact hK
theorem run_clearV {P : Program} (w : World) (t ty el : TypeId) (z : Value) (g o n c : Nat) (cur : Array Value) (e : TypeId) (ht : P.underlying t = some (.slice el)) (hv : (zeroValue el).run P w = .ok z w)
  (hh:w.heap[g]? = some (.cells cur e (0,0))) (hfit:o + (Builtin.zeroCells z.cells n).toList.length≤cur.size) (h1:∀ v ∈ (Builtin.zeroCells z.cells n).toList,v.oneCell' = true) (hn:0 < n) :
  (Builtin.clear_ #[t] ty #[.slice (some ⟨g,o,none⟩) n c]).run P w = .ok (.tuple #[]) (w.setRow g (spl cur o (Builtin.zeroCells z.cells n).toList)):=by
 have hst:=run_storeCells_at P g o e (Builtin.zeroCells z.cells n).toList 0 cur w hh (by simpa using hfit) h1
 simp only [Nat.add_zero] at hst
 obtain ⟨m,rfl⟩:∃ m,n = m + 1:=⟨n - 1,by omega⟩
 simp [Builtin.clear_,run_underlying ht,hv,hst,spl]
theorem del_runV (g n c i : Nat) (A2 : Option Addr) (cur : Array Value) (e : TypeId) (w : World) (hi : i < n) (hnc : n ≤ c) (hc63 : c ≤ maxLen) (hA2 : A2 = if c = i + 1 then some ⟨g, 0, none⟩ else some ⟨g, (i + 1) * 6, none⟩)
  (hg:w.heap[g]? = some (.cells cur e (0,0))) (hcs:cur.size = c * 6) (h1c:∀ v ∈ cur.toList.take (n * 6),v.oneCell' = true) (hbig:n * 88≤140737488355328) :
  Calls Tryd.prog 71 #[.slice (some ⟨g,0,none⟩) n c,.int .i64 i,.int .i64 ((i:Int) + 1)] w fun e' w' =>
   ∃ zs:List Value,zs.length = 6∧e' = .returned (.slice (some ⟨g,0,none⟩) (n - 1) c)∧w' = (w.drew.setRow g (spl cur (i * 6) ((cur.toList.take (n * 6)).drop ((i + 1) * 6)))).setRow g (spl (spl cur (i * 6) ((cur.toList.take (n * 6)).drop ((i + 1) * 6))) ((n - 1) * 6) zs):=by
 letI:Globs:=⟨[]⟩
 have mixed:Tryd.prog.follows .mixedOrders = true:=by kernel_rfl
 have hl:cur.toList.length = cur.size:=Array.length_toList
 have hdl:((cur.toList.take (n * 6)).drop ((i + 1) * 6)).length = (n - (i + 1)) * 6:=by rw [List.length_drop,List.length_take,hl]; omega
 obtain ⟨news,hnews⟩:∃ news,news = (cur.toList.take (n * 6)).drop ((i + 1) * 6):=⟨_,rfl⟩
 have hone:∀ v ∈ news,v.oneCell' = true:=fun v hv=>h1c v (by rw [hnews] at hv; exact List.mem_of_mem_drop hv)
 rw [← hnews] at hdl ⊢
 obtain ⟨r1,hr1⟩:∃ r1,r1 = spl cur (i * 6) news:=⟨_,rfl⟩
 have hfit:i * 6 + news.length≤cur.size:=by rw [hdl]; omega
 have hr1s:r1.size = cur.size:=by rw [hr1]; exact spl_size hfit
 have hrun:∀ ty,(Builtin.append_ #[23,23] ty #[.slice (some ⟨g,0,none⟩) i c,.slice A2 (n - (i + 1)) (c - (i + 1))]).run Tryd.prog w.drew = .ok (.slice (some ⟨g,0,none⟩) (n - 1) c) (w.drew.setRow g r1):=fun ty=>by
  have hst:=run_storeCells_at Tryd.prog g (i * 6) e news 0 cur w.drew hg hfit hone
  simp only [Nat.add_zero] at hst
  have hsrc:∀ w':World,w'.heap = w.drew.heap→(Builtin.firstCells (esz .val) (n - (i + 1)) (.slice A2 (n - (i + 1)) (c - (i + 1)))).run Tryd.prog w' = .ok news.toArray w':=fun w' hw=>by
   by_cases hci:c = i + 1
   ·have h0:news.length = 0:=by rw [hdl]; omega
    have hn0:n - (i + 1) = 0:=by omega
    rw [List.length_eq_zero_iff.1 h0,hn0,hA2,if_pos hci]
    exact run_firstCells_some w' 6 0 ⟨g,0,none⟩ 0 _ [] rfl (fun j v hj=>by cases hj)
   ·rw [hA2,if_neg hci]
    exact run_firstCells_some w' 6 (n - (i + 1)) ⟨g,(i + 1) * 6,none⟩ (n - (i + 1)) _ news hdl (fun j v hj=>by
     rw [Addr.add_lit,cell_of_row w' g _ cur e (0,0) (by rw [hw]; exact hg)]
     rw [hnews,List.getElem?_drop,List.getElem?_take] at hj
     split at hj
     ·simpa using hj
     ·cases hj)
  have h:=(run_append_gen (w:=w.drew) Tryd.underlying23 Tryd.underlying23 ti26_ok (τ:=.val) rfl ty (A:=some ⟨g,0,none⟩) (A2:=A2) (n:=i) (cap:=c) (m:=n - (i + 1)) (c:=c - (i + 1)) (olds:=cur.toList.take (i * 6)) (news:=news) (fun w' hw=>by
   exact run_firstCells_some w' 6 i ⟨g,0,none⟩ i c _ (by rw [List.length_take,hl]; omega) (fun j v hj=>by
    rw [Addr.add_lit,cell_of_row w' g _ cur e (0,0) (by rw [hw]; exact hg),Nat.zero_add]
    rw [List.getElem?_take] at hj
    split at hj
    ·simpa using hj
    ·cases hj)) hsrc (show (i + (n - (i + 1))) * 88≤140737488355328 by omega) (by omega)).1 (by omega) (w.drew.setRow g r1) (by
   show (storeCells ((⟨g,0,none⟩:Addr).add (i * 6)) _).run _ _ = _
   rw [Addr.add_lit,Nat.zero_add,hr1]
   exact hst)
  rw [show i + (n - (i + 1)) = n - 1 by omega] at h
  exact h
 obtain ⟨W1,hW1⟩:∃ W1,W1 = w.drew.setRow g r1:=⟨_,rfl⟩
 obtain ⟨z,hi3,hi4⟩:=ti26_ok.zeroValue W1
 have hzl:z.cells.size = 6:=by rw [hi4]; rfl
 have hzz:(Builtin.zeroCells z.cells 1).toList.length = 6:=by rw [Array.length_toList,size_zeroCells,hzl]
 have hz1:∀ v ∈ (Builtin.zeroCells z.cells 1).toList,v.oneCell' = true:=by
  intro v hv
  simp only [Builtin.zeroCells,Array.toList_map,List.mem_map] at hv
  obtain ⟨k,hk,rfl⟩:=hv
  have hk:k < 1 * z.cells.size:=by simpa using hk
  have hk2:k % z.cells.size < z.cells.size:=Nat.mod_lt _ (by omega)
  rw [getElem!_pos z.cells _ hk2]
  have hall:∀ v ∈ z.cells,v.oneCell' = true:=by rw [hi4]; simp [ti26,Value.oneCell']
  exact hall _ (Array.getElem_mem hk2)
 have hgW:W1.heap[g]? = some (.cells r1 e (0,0)):=by rw [hW1]; exact setRow_heap w.drew g cur r1 e (0,0) hg
 have hcl:∀ ty c',(Builtin.clear_ #[23] ty #[.slice (some ⟨g,(n - 1) * 6,none⟩) (n - (n - 1)) c']).run Tryd.prog W1 = .ok (.tuple #[]) (W1.setRow g (spl r1 ((n - 1) * 6) (Builtin.zeroCells z.cells 1).toList)):=fun ty c'=>by
  rw [show n - (n - 1) = 1 by omega]
  exact run_clearV W1 23 ty 26 z g ((n - 1) * 6) 1 c' r1 e Tryd.underlying23 hi3 hgW (by rw [hzz,hr1s]; omega) hz1 (by omega)
 subst hW1
 refine Calls.mono (R:=fun e' w'=>e' = .returned (.slice (some ⟨g,0,none⟩) (n - 1) c)∧w' = (w.drew.setRow g r1).setRow g (spl r1 ((n - 1) * 6) (Builtin.zeroCells z.cells 1).toList)) ?_ (fun e' w' h=>⟨_,hzz,h.1,by rw [h.2,hr1]⟩)
 generalize (Builtin.zeroCells z.cells 1).toList = ZS at hcl ⊢
 have hne:¬ ((i:Int) = (i:Int) + 1):=by omega
 have hb1:(0:Int)≤(i:Int) + 1:=by omega
 have htn:((i:Int) + 1).toNat = i + 1:=by omega
 have hb2:(i:Int) + 1≤(n:Int):=by omega
 have hb3:(i:Int)≤(i:Int) + 1:=by omega
 have hin:i≤n:=by omega
 have hic:i≤c:=by omega
 have hjc:i + 1≤c:=by omega
 have hjn:i + 1≤n:=by omega
 have hn1:n - 1≤n:=by omega
 have hc1:¬ (c = n - 1):=by omega
 have hc64:c≤9223372036854775807:=by unfold maxLen at hc63; omega
 clear hr1 hr1s hfit hone hnews hdl hi3 hi4 hzl hc63 hzz hz1 hg hgW hcs h1c hl hbig
 by_cases hci:c = i + 1
 ·rw [if_pos hci] at hA2
  subst hA2
  go_enter Tryd.func71,Tryd.ntmps71
  go_wp2_with fail
  go_region_law_o (refine step_append_runV rfl _ _ 23 23 rfl _ _ (by simp [Act.eval,Act.put]<;>omega) (by simp [Act.eval,Act.put]<;>omega) (hrun _) ?_)
  go_wp2
  go_ret
  first | exact ⟨rfl,rfl⟩ | (rw [hci]; exact ⟨rfl,rfl⟩)
 ·rw [if_neg hci] at hA2
  subst hA2
  go_enter Tryd.func71,Tryd.ntmps71
  go_wp2_with fail
  go_region_law_o (refine step_append_runV rfl _ _ 23 23 rfl _ _ (by simp [Act.eval,Act.put]<;>omega) (by simp [Act.eval,Act.put]<;>omega) (hrun _) ?_)
  go_wp2
  go_ret
  first | exact ⟨rfl,rfl⟩ | (rw [hci]; exact ⟨rfl,rfl⟩)
theorem s_delV [Globs] (l : List (den .val)) (i : Nat) (hi : i < l.length) (hbig : l.length * 88 ≤ 140737488355328) :
  CSpec Tryd.prog 71 [.vec 1000 .val l,.i .i64 i,.i .i64 ((i:Int) + 1)] [] (.vec 1000 .val (l.take i++l.drop (i + 1))) []:=by
 refine ⟨fun vs w=>Tryd.call71 vs w,fun F X β w vs hvs hpin hI=>?_⟩
 match vs,hvs with
 | [v0,v1,v2],_ =>
  have h0:VecAt β (SX.Own X ⟨argSlots 0 [.vec 1000 .val l,.i .i64 i,.i .i64 ((i:Int) + 1)],[]⟩ β) w 1000 .val l v0:=hI.slots 0
  have h1:SX.Im (SX.Own X ⟨argSlots 0 [.vec 1000 .val l,.i .i64 i,.i .i64 ((i:Int) + 1)],[]⟩ β) w (.i .i64 i) v1:=hI.slots 1
  have h2:SX.Im (SX.Own X ⟨argSlots 0 [.vec 1000 .val l,.i .i64 i,.i .i64 ((i:Int) + 1)],[]⟩ β) w (.i .i64 ((i:Int) + 1)) v2:=hI.slots 2
  have N0:Nm ⟨argSlots 0 [.vec 1000 .val l,.i .i64 i,.i .i64 ((i:Int) + 1)],[]⟩ 1000:=.inr (.inl ⟨0,List.mem_singleton.2 rfl⟩)
  cases h1
  cases h2
  have hL:(l.take i++l.drop (i + 1)).length = l.length - 1:=by rw [List.length_append,List.length_take,List.length_drop]; omega
  rcases h0 with ⟨rfl,rfl,h0⟩ | ⟨g,c,cur,e,p1,rfl,p3,p4,p5,p6,p7⟩
  ·exact absurd hi (Nat.not_lt_zero _)
  have hc:=vec_cells p6 p4 p7
  have h1c:=vec_one hc
  have hp6:cur.size = c * 6:=p6
  have hcl:cur.toList.length = cur.size:=Array.length_toList
  have hall:All2 (SX.Im (SX.Own X ⟨argSlots 0 [.vec 1000 .val l,.i .i64 i,.i .i64 ((i:Int) + 1)],[]⟩ β) w) (flat .val (l.take i++l.drop (i + 1))) ((cur.toList.take (l.length * 6)).take (i * 6)++((cur.toList.take (l.length * 6)).drop ((i + 1) * 6)++[])):=by
   rw [List.append_nil,flat_append,flat_take .val l i (by omega),flat_drop .val l (i + 1) (by omega)]
   exact (hc.take _).append (hc.drop _)
  have hA:((cur.toList.take (l.length * 6)).take (i * 6)).length = i * 6:=by rw [List.length_take,List.length_take,hcl]; omega
  have hC:((cur.toList.take (l.length * 6)).drop ((i + 1) * 6)).length = (l.length - (i + 1)) * 6:=by rw [List.length_drop,List.length_take,hcl]; omega
  refine (del_runV g l.length c i _ cur e w hi p4 p5 rfl p3 hp6 h1c hbig).mono ?_
  rintro e' w' ⟨zs,hz,rfl,rfl⟩
  have hf1:i * 6 + ((cur.toList.take (l.length * 6)).drop ((i + 1) * 6)).length≤cur.size:=by rw [hC]; omega
  have hs1:=spl_size hf1
  have hf2:(l.length - 1) * 6 + zs.length≤(spl cur (i * 6) ((cur.toList.take (l.length * 6)).drop ((i + 1) * 6))).size:=by rw [hs1,hz]; omega
  rw [← hL]
  refine ⟨_,_,rfl,vec_end (show 1≤3 by omega) hI (((Stp.drew w).mono (fun _ _ h=>h.elim)).trans ((Stp.setRow _ g _).trans (Stp.setRow _ g _) (fun _ _ h=>h)) (fun _ _ h=>h)) (.inl ⟨N0,p1⟩) (setRow_heap _ g _ _ e _ (setRow_heap w.drew g cur _ e _ p3)) (by rw [hL]; omega) p5 (by rw [hL,spl_size hf2,hs1]; exact p6) hall (row_pre (fun j hj=>?_) (fun j hj=>?_) (fun j hj=>?_))⟩
  ·rw [hA] at hj
   rw [hL,spl_at hf2,if_pos (by omega),spl_at hf1,if_pos hj,List.getElem?_take,if_pos hj,List.getElem?_take,if_pos (by omega),Array.getElem?_toList]
  ·rw [hC] at hj
   rw [hL,hA,spl_at hf2,if_pos (by omega),spl_at hf1,if_neg (by omega),if_pos (by omega)]
   congr 1
   omega
  ·exact absurd hj (Nat.not_lt_zero _)
end Go.Proofs.YtfeniggadfkakaaDoor
end
section
namespace Go.Proofs.YtfeniggadfkakaaDoor
open Go Go.SX Go.Ck Go.Vl Go.Ut Go.Up
set_option maxRecDepth 100000
set_option maxHeartbeats 1000000
section
variable [G:Globs]
def withinA (a:Val) (p:PStep) (o:OpR):AV:=.tup [.agg (encVal (withinV a p o).1),.i .i64 (withinV a p o).2]
theorem withinA_eq {a w:Val} {p:PStep} {o:OpR} {e:Int} (h:withinV a p o = (w,e)):withinA a p o = .tup [.agg (encVal w),.i .i64 e]:=by unfold withinA; rw [h]
theorem vn_e {n:Nat} {v:Val} (h:VN n v):∀ p ∈ v.e,VN n p.2:=by cases h with | mk _ _ _ _ h=>exact h
theorem w_withinT (a:Val) (p:PStep) (o:OpR) (hs:p.i < 0∨o.kind = 4) (hk:o.kind = 2∨o.kind = 3∨o.kind = 4) (hG:o.kind≠2→(partV a p).2 = 0) (ha:VN 100000000 a) (ho:VN 100000000 o.v) (he:a.e.length≤100000000):VCs Tryd.prog Γ 164 [3,4,5,6,7,8,9,13,35,51,68,108,123,137,150] (Tryd.f46.body.getD .skip) (postK Γ [.cell 6 26,.tmp 7] (fun v=>RL v (withinA a p o))) ⟨argSlots 0 [.agg (encVal a),.agg (enc .pstep p),.agg (enc .op o)],[]⟩:=by
 by_cases hs:p.i < 0
 ·by_cases h6:a.kind = 6
  ·rcases hk with hk | hk | hk
   ·by_cases hx:0≤ixI a.e (keyIs p.key)
    ·rw [withinA_eq (show withinV a p o = (a,9) from by unfold withinV; rw [if_neg (by omega),if_pos ⟨hk,hs,hx⟩])]
     refine VCs.of_vc (by first | exact Γ_good | exact Ctx.good_kp Γ_good _) ?_
     (repeat' (first | (refine aN (fun h=>?_) (fun h=>?_)<;>(try simp [-List.getD_eq_getElem?_getD,-Int.pred_toNat] at h)<;>(try (exfalso; first | omega | contradiction))) | refine bX ?_ | intro _))
     refine Or.inl (eX _ (aN (s_find a.e p.key) ?_))
     (repeat' (first | (refine aN (fun h=>?_) (fun h=>?_)<;>(try simp [-List.getD_eq_getElem?_getD,-Int.pred_toNat] at h)<;>(try (exfalso; first | omega | contradiction))) | refine bX ?_ | intro _))
     exact rL
    ·rw [withinA_eq (show withinV a p o = ({ a with e:=putE a.e p.key o.v },0) from by unfold withinV; rw [if_neg (by omega),if_neg (by omega),if_neg (by omega),if_neg (by omega),if_pos hk,if_pos hs])]
     refine VCs.of_vc (by first | exact Γ_good | exact Ctx.good_kp Γ_good _) ?_
     (repeat' (first | (refine aN (fun h=>?_) (fun h=>?_)<;>(try simp [-List.getD_eq_getElem?_getD,-Int.pred_toNat] at h)<;>(try (exfalso; first | omega | contradiction))) | refine bX ?_ | intro _))
     refine Or.inl (eX _ (aN (s_find a.e p.key) ?_))
     (repeat' (first | (refine aN (fun h=>?_) (fun h=>?_)<;>(try simp [-List.getD_eq_getElem?_getD,-Int.pred_toNat] at h)<;>(try (exfalso; first | omega | contradiction))) | refine bX ?_ | intro _))
     refine Or.inl (eX _ (aN (s_put a.e p.key o.v he (vn_e ha) ho) ?_))
     exact rL
   ·rw [withinA_eq (show withinV a p o = ({ a with e:=withoutE a.e p.key },0) from by unfold withinV; rw [if_neg (by omega),if_neg (by omega),if_neg (by omega),if_neg (by omega),if_neg (by omega),if_pos hk,if_pos hs])]
    refine VCs.of_vc (by first | exact Γ_good | exact Ctx.good_kp Γ_good _) ?_
    (repeat' (first | (refine aN (fun h=>?_) (fun h=>?_)<;>(try simp [-List.getD_eq_getElem?_getD,-Int.pred_toNat] at h)<;>(try (exfalso; first | omega | contradiction))) | refine bX ?_ | intro _))
    refine Or.inl (eX _ (aN (s_drop a.e p.key he (vn_e ha)) ?_))
    exact rL
   ·have hg:=part_ix (hG (by omega)) hs
    have hb:=ix_bound hg
    by_cases hx:o.key≠p.key∧0≤ixI a.e (keyIs o.key)
    ·rw [withinA_eq (show withinV a p o = (a,9) from by unfold withinV; rw [if_neg (by omega),if_neg (by omega),if_neg (by omega),if_pos ⟨hk,hx⟩])]
     obtain ⟨hx1,hx2⟩:=hx
     refine VCs.of_vc (by first | exact Γ_good | exact Ctx.good_kp Γ_good _) ?_
     (repeat' (first | (refine aN (fun h=>?_) (fun h=>?_)<;>(try simp [-List.getD_eq_getElem?_getD,-Int.pred_toNat] at h)<;>(try (exfalso; first | omega | contradiction))) | refine bX ?_ | intro _))
     refine Or.inl (eX _ (aN (s_find a.e o.key) ?_))
     (repeat' (first | (refine aN (fun h=>?_) (fun h=>?_)<;>(try simp [-List.getD_eq_getElem?_getD,-Int.pred_toNat] at h)<;>(try (exfalso; first | omega | contradiction))) | refine bX ?_ | intro _))
     exact rL
    ·rw [withinA_eq (show withinV a p o = ({ a with e:=putE (withoutE a.e p.key) o.key (a.e.getD (ixI a.e (keyIs p.key)).toNat ([],default)).2 },0) from by unfold withinV; rw [if_neg (by omega),if_neg (by omega),if_neg (by omega),if_neg (fun h=>hx h.2),if_neg (by omega),if_neg (by omega)])]
     refine VCs.seq (by first | exact Γ_good | exact Ctx.good_kp Γ_good _) ?_
     refine VCs.seq (by first | exact Γ_good | exact Ctx.good_kp Γ_good _) ?_
     refine VCs.cut (by first | exact Γ_good | exact Ctx.good_kp Γ_good _) Unit (fun _=>True) (fun _=>⟨[(3,.pt 3 0),(4,.pt 4 0),(5,.pt 5 0),(6,.pt 6 0),(7,.i .i64 0),(8,.b (decide (p.i < 0)))],[(3,encVal a),(4,[.s p.key,.i .i64 p.i]),(5,enc .op o),(6,[.i .i64 0,.i .i64 0,.i .u64 0,.s [],.nl,.nl])]⟩) ?_ ?_
     ·by_cases hq:o.key = p.key
      ·(repeat' (first | (refine aN (fun h=>?_) (fun h=>?_)<;>(try simp [-List.getD_eq_getElem?_getD,-Int.pred_toNat] at h)<;>(try (exfalso; first | omega | contradiction))) | refine bX ?_ | intro _))
       refine eX () (aN trivial ?_)
       exact wK
      ·have hx2:¬ 0≤ixI a.e (keyIs o.key):=fun h=>hx ⟨hq,h⟩
       (repeat' (first | (refine aN (fun h=>?_) (fun h=>?_)<;>(try simp [-List.getD_eq_getElem?_getD,-Int.pred_toNat] at h)<;>(try (exfalso; first | omega | contradiction))) | refine bX ?_ | intro _))
       refine Or.inl (eX _ (aN (s_find a.e o.key) ?_))
       (repeat' (first | (refine aN (fun h=>?_) (fun h=>?_)<;>(try simp [-List.getD_eq_getElem?_getD,-Int.pred_toNat] at h)<;>(try (exfalso; first | omega | contradiction))) | refine bX ?_ | intro _))
       refine eX () (aN trivial ?_)
       exact wK
     ·intro _ _
      refine VCs.of_vc (by first | exact Γ_good | exact Ctx.good_kp Γ_good _) ?_
      (repeat' (first | (refine aN (fun h=>?_) (fun h=>?_)<;>(try simp [-List.getD_eq_getElem?_getD,-Int.pred_toNat] at h)<;>(try (exfalso; first | omega | contradiction))) | refine bX ?_ | intro _))
      have hb1:0≤ixI a.e (keyIs p.key)∧ixI a.e (keyIs p.key) < (a.e.length:Int):=⟨hb.1,by omega⟩
      refine eX [.blk [0,1,2,3,4,5,6,7,8,9,10] [9],.one 11] (aN (by kernel_rfl) ?_)
      refine eX _ (aN (s_find a.e p.key) ?_)
      refine aN hb1 ?_
      refine eX [.blk [0,1,2,3,4,5,6,7,8,9],.one 10] (aN (by kernel_rfl) ?_)
      refine eX _ (aN (s_drop a.e p.key he (vn_e ha)) ?_)
      refine eX _ (aN (s_put (withoutE a.e p.key) o.key (a.e.getD (ixI a.e (keyIs p.key)).toNat (dflt .ent)).2 (Nat.le_trans (List.length_filter_le _ _) he) (fun q hq=>vn_e ha q (List.mem_filter.1 hq).1) (by rw [List.getD_eq_getElem?_getD,List.getElem?_eq_getElem hb.2.1]; exact vn_e ha _ (List.getElem_mem hb.2.1))) ?_)
      exact rL
  ·rw [withinA_eq (show withinV a p o = (a,10) from by unfold withinV; rw [if_pos (.inl ⟨hs,h6⟩)])]
   refine VCs.of_vc (by first | exact Γ_good | exact Ctx.good_kp Γ_good _) ?_
   (repeat' (first | (refine aN (fun h=>?_) (fun h=>?_)<;>(try simp [-List.getD_eq_getElem?_getD,-Int.pred_toNat] at h)<;>(try (exfalso; first | omega | contradiction))) | refine bX ?_ | intro _))
   exact rL
 ·have hk4:o.kind = 4:=by omega
  rw [withinA_eq (show withinV a p o = (a,10) from by unfold withinV; rw [if_pos (.inr (.inr ⟨hs,hk4⟩))])]
  refine VCs.of_vc (by first | exact Γ_good | exact Ctx.good_kp Γ_good _) ?_
  (repeat' (first | (refine aN (fun h=>?_) (fun h=>?_)<;>(try simp [-List.getD_eq_getElem?_getD,-Int.pred_toNat] at h)<;>(try (exfalso; first | omega | contradiction))) | refine bX ?_ | intro _))
  all_goals exact rL
theorem s_withinT (a:Val) (p:PStep) (o:OpR) (hs:p.i < 0∨o.kind = 4) (hk:o.kind = 2∨o.kind = 3∨o.kind = 4) (hG:o.kind≠2→(partV a p).2 = 0) (ha:VN 100000000 a) (ho:VN 100000000 o.v) (he:a.e.length≤100000000):PSpec Tryd.prog 46 [.agg (encVal a),.agg (enc .pstep p),.agg (enc .op o)] (withinA a p o) :=
 pspec_of_VCsL Γ_good Tryd.func46 rfl Tryd.call46 Tryd.results46 Tryd.ntmps46 (Nat.le_of_ble_eq_true rfl) (w_withinT a p o hs hk hG ha ho he) Γ_good
end
end Go.Proofs.YtfeniggadfkakaaDoor
end
section
namespace Go.Proofs.YtfeniggadfkakaaDoor
open Go Go.SX Go.Ck Go.Vl Go.Ut Go.Up
set_option maxRecDepth 100000
set_option maxHeartbeats 1000000
theorem part_ln {v:Val} {p:PStep} (h:(partV v p).2 = 0) (hp:¬ p.i < 0):p.i.toNat < v.l.length∧p.i < (v.l.length:Int):=by
 unfold partV at h
 rw [if_neg hp] at h
 by_cases c:v.kind≠5
 ·rw [if_pos c] at h; exact absurd h (by decide)
 ·rw [if_neg c] at h
  by_cases d:(v.l.length:Int)≤p.i
  ·rw [if_pos d] at h; exact absurd h (by decide)
  ·omega
section
variable [G:Globs]
theorem w_withinL (a:Val) (p:PStep) (o:OpR) (hs:¬ p.i < 0) (hk:o.kind = 2∨o.kind = 3) (hG:o.kind = 3→(partV a p).2 = 0) (ho:VN 100000000 o.v) (hn:a.l.length≤100000000):vc Tryd.prog Γ 164 [3,4,5,6,7,8,9,13,35,51,68,108,123,137,150,1000,1001] (Tryd.f46.body.getD .skip) (postBK Γ [.cell 6 26,.tmp 7] (.tup [.agg (encVal (withinV a p o).1),.i .i64 (withinV a p o).2]) []) ⟨argSlots 0 [.ag 0 [.i .i64 a.kind,.i .i64 a.n,.i .u64 a.f,.s a.s,.vec 1000 .val a.l,.vec 1001 .ent a.e],.agg (enc .pstep p),.agg (enc .op o)],[]⟩:=by
 by_cases h5:a.kind = 5
 ·rcases hk with hk | hk
  ·by_cases hx:(a.l.length:Int) < p.i
   ·rw [show withinV a p o = (a,8) from by unfold withinV; rw [if_neg (by omega),if_neg (by omega),if_pos ⟨hk,hs,hx⟩]]
    (repeat' (first | (refine aN (fun h=>?_) (fun h=>?_)<;>(try simp [-List.getD_eq_getElem?_getD,-Int.pred_toNat] at h)<;>(try (exfalso; first | omega | contradiction))) | refine bX ?_ | intro _))
    refine eX [] (aN rfl wK)
   ·rw [show withinV a p o = ({ a with l:=a.l.take p.i.toNat++o.v::a.l.drop p.i.toNat },0) from by unfold withinV; rw [if_neg (by omega),if_neg (by omega),if_neg (by omega),if_neg (by omega),if_pos hk,if_neg hs]]
    (repeat' (first | (refine aN (fun h=>?_) (fun h=>?_)<;>(try simp [-List.getD_eq_getElem?_getD,-Int.pred_toNat] at h)<;>(try (exfalso; first | omega | contradiction))) | refine bX ?_ | intro _))
    refine eX [.take 0,.take 2,.take 4,.tree 5 [1,3,5,6,7] (.opt 1 (.opt 3 (.opt 5 (.opt 6 (.opt 7 .fin .non) .non) .non) (.opt 5 (.opt 3 (.opt 6 (.opt 7 .fin .non) .non) (.opt 6 (.opt 3 (.opt 7 .fin .non) (.opt 7 (.opt 3 .fin .non) .non)) .non)) .non)) (.opt 3 (.opt 1 (.opt 5 (.opt 6 (.opt 7 .fin .non) .non) .non) (.opt 5 (.opt 1 (.opt 6 (.opt 7 .fin .non) .non) (.opt 6 (.opt 1 (.opt 7 .fin .non) (.opt 7 (.opt 1 .fin .non) .non)) .non)) .non)) (.opt 5 (.opt 1 (.opt 3 (.opt 6 (.opt 7 .fin .non) .non) (.opt 6 (.opt 3 (.opt 7 .fin .non) (.opt 7 (.opt 3 .fin .non) .non)) .non)) (.opt 3 (.opt 1 (.opt 6 (.opt 7 .fin .non) .non) (.opt 6 (.opt 1 (.opt 7 .fin .non) (.opt 7 (.opt 1 .fin .non) .non)) .non)) (.opt 6 (.opt 1 (.opt 3 (.opt 7 .fin .non) (.opt 7 (.opt 3 .fin .non) .non)) (.opt 3 (.opt 1 (.opt 7 .fin .non) (.opt 7 (.opt 1 .fin .non) .non)) (.opt 7 (.opt 1 (.opt 3 .fin .non) (.opt 3 (.opt 1 .fin .non) .non)) .non))) .non))) .non))),.one 8,.take 9,.one 10] (aN (by kernel_rfl) ?_)
    refine eX ⟨[(3,.pt 3 0),(4,.pt 4 0),(5,.pt 5 0),(6,.pt 6 0),(7,.i .i64 0),(128,.vec 1000 .val a.l),(130,.i .i64 p.i),(134,.vec 134 .val [o.v])],[(3,[.i .i64 a.kind,.i .i64 a.n,.i .u64 a.f,.s a.s,.vec 1000 .val a.l,.vec 1001 .ent a.e]),(4,[.s p.key,.i .i64 p.i]),(5,enc .op o),(6,[.i .i64 0,.i .i64 0,.i .u64 0,.s [],.nl,.nl])]⟩ (aN ?_ ?_)
    ·repeat' (first | exact trivial | exact Or.inl rfl | exact Or.inl (congrArg (fun v:Val=>AV.vec 134 .val [v]) (val_eta _)) | refine aN ?_ ?_ | refine Or.inl (eX _ (aN (s_Own o.v ho) ?_)))
    have hpi:p.i = (p.i.toNat:Int):=by omega
    have hins:=s_insV a.l o.v p.i.toNat (by omega) (by omega)
    rw [← hpi] at hins
    refine Or.inr (Or.inl (eX [] (eX _ (eX _ (eX _ (eX _ (eX _ (eX [(1001,134)] (aN (hins) ?_)))))))))
    refine (aN rfl (aN rfl (aN rfl (aN rfl ?_))))
    refine eX [] (aN rfl wK)
  ·rw [show withinV a p o = ({ a with l:=a.l.take p.i.toNat++a.l.drop (p.i.toNat + 1) },0) from by unfold withinV; rw [if_neg (by omega),if_neg (by omega),if_neg (by omega),if_neg (by omega),if_neg (by omega),if_pos hk,if_neg hs]]
   have hx:=part_ln (hG hk) hs
   (repeat' (first | (refine aN (fun h=>?_) (fun h=>?_)<;>(try simp [-List.getD_eq_getElem?_getD,-Int.pred_toNat] at h)<;>(try (exfalso; first | omega | contradiction))) | refine bX ?_ | intro _))
   have hpi:p.i = (p.i.toNat:Int):=by omega
   have hdel:=s_delV a.l p.i.toNat hx.1 (by omega)
   rw [← hpi] at hdel
   refine Or.inr (Or.inl (eX [] (eX _ (eX _ (eX _ (eX _ (eX _ (eX [(1000,1000)] (aN (hdel) ?_)))))))))
   refine (aN rfl (aN rfl (aN rfl (aN rfl ?_))))
   refine eX [] (aN rfl wK)
 ·rw [show withinV a p o = (a,10) from by unfold withinV; rw [if_pos (.inr (.inl ⟨hs,h5⟩))]]
  (repeat' (first | (refine aN (fun h=>?_) (fun h=>?_)<;>(try simp [-List.getD_eq_getElem?_getD,-Int.pred_toNat] at h)<;>(try (exfalso; first | omega | contradiction))) | refine bX ?_ | intro _))
  refine eX [] (aN rfl wK)
theorem s_withinL (a:Val) (p:PStep) (o:OpR) (hs:¬ p.i < 0) (hk:o.kind = 2∨o.kind = 3) (hG:o.kind = 3→(partV a p).2 = 0) (ho:VN 100000000 o.v) (hn:a.l.length≤100000000):CSpec Tryd.prog 46 [.ag 0 [.i .i64 a.kind,.i .i64 a.n,.i .u64 a.f,.s a.s,.vec 1000 .val a.l,.vec 1001 .ent a.e],.agg (enc .pstep p),.agg (enc .op o)] [] (.tup [.agg (encVal (withinV a p o).1),.i .i64 (withinV a p o).2]) [] :=
 cspec_of_vc Γ_good Tryd.func46 rfl Tryd.call46 Tryd.results46 Tryd.ntmps46 (Nat.le_of_ble_eq_true rfl) (Nat.le_of_ble_eq_true rfl) (by rfl) (w_withinL a p o hs hk hG ho hn)
end
end Go.Proofs.YtfeniggadfkakaaDoor
end
section
namespace Go.Proofs.YtfeniggadfkakaaDoor
open Go Go.SX Go.Ck Go.Vl Go.Ut Go.Up
set_option maxRecDepth 100000
set_option maxHeartbeats 1000000
section
variable [G:Globs]
theorem w_reb0 (a c:Val) (g:Nat) (cs:List AV) (hc:PSpec Tryd.prog g [.agg (encVal a),.rp cs] (.agg (encVal c))):vc Tryd.prog Γ 64 [1,2,3,6,7,8,11,21] (Tryd.f44.body.getD .skip) (postK Γ [.cell 6 26] (fun v=>v = .agg (encVal c))) ⟨argSlots 0 [.agg (encVal a),.rd .pstep [],.fn g [.rp cs]],[]⟩:=by
 intro _
 refine aN (fun _=>?_) (fun hq=>Bool.noConfusion hq)
 refine Or.inl (eX _ (aN (hc) ?_))
 rfl
theorem s_reb0 (a c:Val) (g:Nat) (cs:List AV) (hc:PSpec Tryd.prog g [.agg (encVal a),.rp cs] (.agg (encVal c))):PSpec Tryd.prog 44 [.agg (encVal a),.rd .pstep [],.fn g [.rp cs]] (.agg (encVal c)) :=
 pspec_of_vc Γ_good Tryd.func44 rfl Tryd.call44 Tryd.results44 Tryd.ntmps44 (Nat.le_of_ble_eq_true rfl) (w_reb0 a c g cs hc)
theorem w_reb1 (a c:Val) (p:PStep) (r:List PStep) (g:Nat) (cs:List AV) (h0:(partV a p).2 = 0) (ha:VN 100000000 a) (ih:PSpec Tryd.prog 44 [.agg (encVal (partV a p).1),.rd .pstep r,.fn g [.rp cs]] (.agg (encVal (rebV (partV a p).1 r c)))):vc Tryd.prog Γ 64 [1,2,3,6,7,8,11,21] (Tryd.f44.body.getD .skip) (postK Γ [.cell 6 26] (fun v=>RL v (.agg (encVal (rebV a (p::r) c))))) ⟨argSlots 0 [.agg (encVal a),.rd .pstep (p::r),.fn g [.rp cs]],[]⟩:=by
 have hr:PSpec Tryd.prog 44 [.agg (encVal (partV a p).1),.rd .pstep (((p::r).take (Int.toNat ((p::r).length:Int))).drop (Int.toNat 1)),.fn g [.rp cs]] (.agg (encVal (rebV (partV a p).1 r c))):=by
  rw [tail_eq]; exact ih
 intro _
 refine aN (fun hq=>?_) (fun _=>?_)
 ·exact absurd (eq_of_beq hq) (by simp only [List.length_cons]; omega)
 refine Or.inr (Or.inl (eX [] (eX _ (eX _ (eX _ (eX _ (eX _ (eX [(1000,60),(1001,61)] (aN (s_OwnO a ha) ?_)))))))))
 refine (aN rfl (aN rfl (aN rfl (aN rfl ?_))))
 refine aN ⟨by omega,by simp only [List.length_cons]; omega⟩ ?_
 refine aN (fun hi=>?_) (fun hi=>?_)
 ·have hi:p.i < 0:=by have:=of_decide_eq_true hi; exact this
  have hb:=ix_bound (part_ix h0 hi)
  have hp1:(partV a p).1 = (a.e.getD (ixI a.e (keyIs p.key)).toNat (dflt .ent)).2:=by
   unfold partV
   rw [if_pos hi]
   have h6:¬ a.kind≠6:=fun h6=>by unfold partV at h0; rw [if_pos hi,if_pos h6] at h0; exact absurd h0 (by decide)
   rw [if_neg h6,if_neg (part_ix h0 hi)]
  rw [hp1] at hr
  refine eX [.blk [0,1,2,3,4,5,6,7]] (aN (by kernel_rfl) ?_)
  refine aN ⟨by omega,by simp only [List.length_cons]; omega⟩ ?_
  refine eX _ (aN (s_find a.e p.key) ?_)
  have hb1:0≤ixI a.e (keyIs p.key)∧ixI a.e (keyIs p.key) < (a.e.length:Int):=⟨hb.1,by omega⟩
  refine eX [.blk [0,1,2,3,4,5,6,7,8,9,10,11,12,13,14],.one 15] (aN (by kernel_rfl) ?_)
  refine aN hb1 ?_
  refine aN ⟨by omega,by simp only [List.length_cons]; omega,by simp only [List.length_cons]; omega⟩ ?_
  refine eX _ (aN (hr) ?_)
  refine aN hb1 ?_
  rw [rebV,if_pos hi,hp1]
  (repeat' (first | exact wA | exact Or.inl (congrArg (fun w=>AV.rd .ent (a.e.set (ixI a.e (keyIs p.key)).toNat ((a.e.getD (ixI a.e (keyIs p.key)).toNat (dflt .ent)).1,w))) (val_eta _)) | exact Or.inr ⟨rfl,_,rfl⟩ | refine aN ?_ ?_))
 ·have hi:¬ p.i < 0:=by have:=of_decide_eq_false hi; exact this
  have hx:=part_ln h0 hi
  have hp1:(partV a p).1 = a.l.getD p.i.toNat (dflt .val):=by
   unfold partV
   rw [if_neg hi]
   have h5:¬ a.kind≠5:=fun h5=>by unfold partV at h0; rw [if_neg hi,if_pos h5] at h0; exact absurd h0 (by decide)
   rw [if_neg h5,if_neg (by omega)]
  rw [hp1] at hr
  have hb1:0≤p.i∧p.i < (a.l.length:Int):=⟨by omega,hx.2⟩
  refine eX [.blk [0,1,2,3,4,5,6,7,8,9,10,11,12,13,14,15,16,17,18],.one 19] (aN (by kernel_rfl) ?_)
  refine aN ⟨by omega,by simp only [List.length_cons]; omega⟩ ?_
  refine aN ⟨by omega,by simp only [List.length_cons]; omega⟩ ?_
  refine aN hb1 ?_
  refine aN ⟨by omega,by simp only [List.length_cons]; omega,by simp only [List.length_cons]; omega⟩ ?_
  refine eX _ (aN (hr) ?_)
  refine aN hb1 ?_
  rw [rebV,if_neg hi,hp1]
  (repeat' (first | exact wA | exact Or.inl (congrArg (fun w=>AV.rd .val (a.l.set p.i.toNat w)) (val_eta _)) | exact Or.inr ⟨rfl,_,rfl⟩ | refine aN ?_ ?_))
theorem s_reb1 (a c:Val) (p:PStep) (r:List PStep) (g:Nat) (cs:List AV) (h0:(partV a p).2 = 0) (ha:VN 100000000 a) (ih:PSpec Tryd.prog 44 [.agg (encVal (partV a p).1),.rd .pstep r,.fn g [.rp cs]] (.agg (encVal (rebV (partV a p).1 r c)))):PSpec Tryd.prog 44 [.agg (encVal a),.rd .pstep (p::r),.fn g [.rp cs]] (.agg (encVal (rebV a (p::r) c))) :=
 pspec_of_vcL Γ_good Tryd.func44 rfl Tryd.call44 Tryd.results44 Tryd.ntmps44 (Nat.le_of_ble_eq_true rfl) (w_reb1 a c p r g cs h0 ha ih)
theorem s_reb (c:Val) (g:Nat) (cs:List AV) (hc:∀ b,PSpec Tryd.prog g [.agg (encVal b),.rp cs] (.agg (encVal c))):∀ (l:List PStep) (a:Val),(ledV a l).2 = 0→VN 100000000 a→PSpec Tryd.prog 44 [.agg (encVal a),.rd .pstep l,.fn g [.rp cs]] (.agg (encVal (rebV a l c)))
 | [],a,_,_=>by rw [rebV]; exact s_reb0 a c g cs (hc a)
 | p::r,a,h,ha=>by
  have h0:(partV a p).2 = 0:=by
   rw [ledV] at h
   by_cases d:(partV a p).2≠0
   ·rw [if_pos d] at h; exact h
   ·simpa using d
  have hr:(ledV (partV a p).1 r).2 = 0:=by rw [ledV,if_neg (by simp [h0])] at h; exact h
  exact s_reb1 a c p r g cs h0 ha (s_reb c g cs hc r _ hr (vn_part ha (partV_in h0)))
theorem w_app1 (b:Val) (o:OpR) (ho:VN 100000000 o.v):vc Tryd.prog Γ 7 [1,2,3] (Tryd.f45.body.getD .skip) (postK Γ [.cell 3 26] (fun v=>v = .agg (encVal o.v))) ⟨argSlots 0 [.agg (encVal b),.rp (enc .op o)],[]⟩:=by
 refine Or.inl (eX _ (aN (s_Own o.v ho) ?_))
 rfl
theorem s_app1 (b:Val) (o:OpR) (ho:VN 100000000 o.v):PSpec Tryd.prog 45 [.agg (encVal b),.rp (enc .op o)] (.agg (encVal o.v)) :=
 pspec_of_vc Γ_good Tryd.func45 rfl Tryd.call45 Tryd.results45 Tryd.ntmps45 (Nat.le_of_ble_eq_true rfl) (w_app1 b o ho)
theorem w_app2 (b c:Val):vc Tryd.prog Γ 5 [1,2,3] (Tryd.f47.body.getD .skip) (postK Γ [.cell 3 26] (fun v=>v = .agg (encVal c))) ⟨argSlots 0 [.agg (encVal b),.rp (encVal c)],[]⟩:=by
 rfl
theorem s_app2 (b c:Val):PSpec Tryd.prog 47 [.agg (encVal b),.rp (encVal c)] (.agg (encVal c)) :=
 pspec_of_vc Γ_good Tryd.func47 rfl Tryd.call47 Tryd.results47 Tryd.ntmps47 (Nat.le_of_ble_eq_true rfl) (w_app2 b c)
def goodV (a:Val):Val × Int:=if faultV a≠0 then (zeroV,faultV a) else (a,0)
def goodA (a:Val):AV:=.tup [.agg (encVal (goodV a).1),.i .i64 (goodV a).2]
theorem goodA_eq {a w:Val} {e:Int} (h:goodV a = (w,e)):goodA a = .tup [.agg (encVal w),.i .i64 e]:=by unfold goodA; rw [h]
theorem w_good (hu:HasU8) (a:Val) (ha:VB a) (hn:(sizV a).2≤1000000000):vc Tryd.prog Γ 12 [1,2,3,4,8] (Tryd.f43.body.getD .skip) (postK Γ [.cell 2 26,.tmp 3] (fun v=>RL v (goodA a))) ⟨argSlots 0 [.agg (encVal a)],[]⟩:=by
 have hC:=s_Check hu a ha hn
 rw [chk_T] at hC
 refine Or.inl (eX _ (aN (hC) ?_))
 refine aN (fun hq=>?_) (fun hq=>?_)
 ·have hq:faultV a≠0:=by simpa using hq
  rw [goodA_eq (show goodV a = (zeroV,faultV a) from if_pos hq)]
  exact rL
 ·have hq:¬ faultV a≠0:=by simpa using hq
  rw [goodA_eq (show goodV a = (a,0) from if_neg hq)]
  exact rL
theorem s_good (hu:HasU8) (a:Val) (ha:VB a) (hn:(sizV a).2≤1000000000):PSpec Tryd.prog 43 [.agg (encVal a)] (goodA a) :=
 pspec_of_vcL Γ_good Tryd.func43 rfl Tryd.call43 Tryd.results43 Tryd.ntmps43 (Nat.le_of_ble_eq_true rfl) (w_good hu a ha hn)
end
end Go.Proofs.YtfeniggadfkakaaDoor
end
section
namespace Go.Proofs.YtfeniggadfkakaaDoor
open Go Go.SX Go.Ck Go.Vl Go.Ut Go.Up
set_option maxRecDepth 100000
set_option maxHeartbeats 1000000
theorem app_set {a:Val} {o:OpR} (h1:¬ faultV a≠0) (h2:¬ opF o≠0) (hk:o.kind = 1):applyV a o = if (ledV a o.p).2≠0 then (zeroV,(ledV a o.p).2) else if faultV (rebV a o.p o.v)≠0 then (zeroV,faultV (rebV a o.p o.v)) else (rebV a o.p o.v,0):=by
 have hf:=fine_of_fault (v:=a) (by simpa using h1)
 obtain ⟨u1,u2⟩:=upd_set hk o.p a hf
 unfold applyV
 rw [if_neg h1,if_neg h2,u1]
 by_cases c:(ledV a o.p).2≠0
 ·rw [if_pos c,if_pos c]
 ·rw [if_neg c,if_neg c,u2 (by simpa using c)]
theorem app_last {a : Val} {o : OpR} {up : List PStep} {x : PStep} (h1 : ¬ faultV a ≠ 0) (h2 : ¬ opF o ≠ 0) (hk : o.kind ≠ 1) (hp : o.p = up ++ [x]) : applyV a o = if (ledV a up).2 ≠ 0 then (zeroV, (ledV a up).2) else if o.kind ≠ 2 ∧ (ledV a o.p).2 ≠ 0 then (zeroV, (ledV a o.p).2)
  else if (withinV (ledV a up).1 x o).2≠0 then (zeroV,(withinV (ledV a up).1 x o).2) else
   if faultV (rebV a up (withinV (ledV a up).1 x o).1)≠0 then (zeroV,faultV (rebV a up (withinV (ledV a up).1 x o).1)) else (rebV a up (withinV (ledV a up).1 x o).1,0):=by
 have hf:=fine_of_fault (v:=a) (by simpa using h1)
 have hop:=opF_ok (o:=o) (by simpa using h2)
 obtain ⟨u1,u2⟩:=upd_last hk x up a hf
 rw [← hp] at u1 u2
 have hw:=within_last (v:=(ledV a up).1) (p:=x) (o:=o) (by omega)
 unfold applyV
 rw [if_neg h1,if_neg h2,u1]
 by_cases c:(ledV a up).2≠0
 ·rw [if_pos c,if_pos c,if_pos c]
 ·rw [if_neg c,if_neg c]
  have c0:(ledV a up).2 = 0:=by simpa using c
  have hl:ledV a o.p = if (partV (ledV a up).1 x).2≠0 then (zeroV,(partV (ledV a up).1 x).2) else ((partV (ledV a up).1 x).1,0):=by rw [hp,ledV_append _ _ _ c0,ledV_one]
  have hl2:(ledV a o.p).2 = (partV (ledV a up).1 x).2:=by
   rw [hl]
   by_cases d:(partV (ledV a up).1 x).2≠0
   ·rw [if_pos d]
   ·rw [if_neg d]; simp at d; exact d.symm
  rw [hl2,hw]
  by_cases d:o.kind≠2∧(partV (ledV a up).1 x).2≠0
  ·rw [if_pos d,if_pos d,if_pos d.2]
  ·rw [if_neg d,if_neg d]
   by_cases e:(withinV (ledV a up).1 x o).2≠0
   ·rw [if_pos e,if_pos e]
   ·rw [if_neg e,if_neg e]
    rw [u2 c0 (by rw [hw,if_neg d]; simpa using e),hw,if_neg d]
theorem stepsF_pre:∀ {l m:List PStep},stepsF (l++m) = 0→stepsF l = 0
 | [],_,_=>rfl
 | p::r,m,h=>by
  rw [List.cons_append,stepsF] at h
  rw [stepsF]
  by_cases c:stepF p = 0
  ·rw [c,orI_zero] at h ⊢
   exact stepsF_pre h
  ·rw [orI_ne c] at h; exact absurd h c
theorem pathF_pre {l m:List PStep} (h:pathF (l++m) = 0):pathF l = 0:=by
 unfold pathF at h ⊢
 by_cases c:20 < (l++m).length
 ·rw [if_pos c] at h; exact absurd h (by decide)
 ·rw [if_neg c] at h
  rw [List.length_append] at c
  rw [if_neg (by omega)]
  exact stepsF_pre h
section
variable [G:Globs]
theorem w_applyS (hu:HasU8) (a:Val) (o:OpR) (ha:Mod a) (ho:Mod o.v) (hk:o.key.length≤10000000):vc Tryd.prog (Γ.kp 26) 107 [2,3,4,5,6,7,8,9,10,11,12,13,14,15,19,25,30,39,72,77,86,97] (Tryd.f25.body.getD .skip) (postK (Γ.kp 26) [.cell 4 26,.tmp 5] (fun v=>RL v (appA a o))) ⟨argSlots 0 [.agg (encVal a),.agg (enc .op o)],[]⟩:=by
 have hC:=s_Check hu a ha.vb ha.siz
 rw [chk_T] at hC
 refine Or.inl (eX _ (aN (hC) ?_))
 refine aN (fun hq=>?_) (fun hq=>?_)
 ·have hq:faultV a≠0:=by simpa using hq
  rw [appA_eq (show applyV a o = (zeroV,faultV a) from if_pos hq)]
  exact rL
 have hq:¬ faultV a≠0:=by simpa using hq
 refine Or.inl (eX _ (aN (s_updC hu o ho.vb ho.siz) ?_))
 refine aN (fun hq2=>?_) (fun hq2=>?_)
 ·have hq2:opF o≠0:=by simpa using hq2
  rw [appA_eq (show applyV a o = (zeroV,opF o) from by unfold applyV; rw [if_neg hq,if_pos hq2])]
  exact rL
 have hq2:¬ opF o≠0:=by simpa using hq2
 have hop:=opF_ok (o:=o) (by simpa using hq2)
 have hpp:=pathF_ok hop.2.1
 have hup:=up_ok ha ho hk hop.2.1
 have hget:∀ l,pathF l = 0→PSpec Tryd.prog 23 [.agg (encVal a),.rd .pstep l] (ledA a l):=fun l hl=>by
  have:=s_get hu a l ha.vn
  rw [show getA a l = ledA a l from by unfold getA ledA; rw [show getV a l = ledV a l from if_neg (by simp [hl])]] at this
  exact this
 refine aN (fun h1=>?_) (fun h1=>?_)
 ·have h1:o.kind = 1:=eq_of_beq h1
  have e0:=app_set hq hq2 h1
  refine Or.inl (eX _ (aN (hget o.p hop.2.1) ?_))
  refine aN (fun hq3=>?_) (fun hq3=>?_)
  ·have hq3:(ledV a o.p).2≠0:=by simpa using hq3
   rw [if_pos hq3] at e0
   rw [appA_eq e0]
   exact rL
  have hq3:¬ (ledV a o.p).2≠0:=by simpa using hq3
  rw [if_neg hq3] at e0
  refine Or.inr (Or.inr (Or.inr (Or.inl (eX [3] (eX _ (aN ((s_reb o.v 45 (enc .op o) (fun b=>s_app1 b o ho.vn) o.p a (by simpa using hq3) ha.vn)) ?_))))))
  have hu2:=upd_set h1 o.p a (fine_of_fault (v:=a) (by simpa using hq))
  rw [hu2.2 (by simpa using hq3)] at hup
  refine Or.inl (eX _ (aN (s_good hu (rebV a o.p o.v) hup.1 hup.2.1) ?_))
  rw [show appA a o = goodA (rebV a o.p o.v) from by unfold appA goodA goodV; rw [e0]]
  exact rL
 have h1:o.kind≠1:=ne_of_beq_false h1
 have hne:o.p≠[]:=hop.2.2.resolve_left h1
 have hlen:0 < o.p.length:=List.length_pos_iff.2 hne
 have hle:=hpp.1
 obtain ⟨up,x,hpx⟩:∃ up x,o.p = up++[x]:=⟨o.p.dropLast,o.p.getLast hne,(List.dropLast_concat_getLast hne).symm⟩
 have hll:o.p.length = up.length + 1:=by rw [hpx,List.length_append]; rfl
 have hup1:(o.p.take (Int.toNat ((o.p.length:Int) - 1))).drop (Int.toNat 0) = up:=by
  rw [show Int.toNat ((o.p.length:Int) - 1) = up.length by omega,hpx,List.take_left' rfl]; rfl
 have hx1:o.p.getD (Int.toNat ((o.p.length:Int) - 1)) (dflt .pstep) = x:=by
  rw [show Int.toNat ((o.p.length:Int) - 1) = up.length by omega,hpx,List.getD_eq_getElem?_getD,List.getElem?_append_right (Nat.le_refl _),Nat.sub_self]; rfl
 have hpu:pathF up = 0:=pathF_pre (by rw [← hpx]; exact hop.2.1)
 have e0:=app_last hq hq2 h1 hpx
 refine eX [.blk [0,1,2,3,4,5,6,7,8,9,10,11,12,13,14,15,16] [11],.one 17] (aN (by kernel_rfl) ?_)
 (refine rNG ?_)
 (refine bN3 ?_)
 (refine rNG ?_)
 (refine bN2 ?_)
 rw [hup1,hx1]
 have hk234:o.kind = 2∨o.kind = 3∨o.kind = 4:=by omega
 have hvn:VN 100000000 (ledV a up).1:=ledV_keep (R:=VN 100000000) (vn_zero _) (fun _ h _ hx=>vn_part h hx) up a ha.vn
 have hvl:(ledV a up).1.l.length≤100000000:=by cases hvn with | mk _ h _=>exact h
 have hve:(ledV a up).1.e.length≤100000000:=by cases hvn with | mk _ _ h=>exact h
 by_cases hc:(ledV a up).2≠0
 ·rw [if_pos hc] at e0
  refine Or.inl (eX _ (aN (hget up hpu) ?_))
  refine aN (fun _=>?_) (fun h=>absurd h (by simpa using hc))
  rw [appA_eq e0]
  exact rL
 rw [if_neg hc] at e0
 have hc0:(ledV a up).2 = 0:=by simpa using hc
 have hlp:(ledV a o.p).2 = (partV (ledV a up).1 x).2:=by
  rw [hpx,ledV_append _ _ _ hc0,ledV_one]
  by_cases d:(partV (ledV a up).1 x).2≠0
  ·rw [if_pos d]
  ·rw [if_neg d]; simp at d; exact d.symm
 by_cases ht:x.i < 0∨o.kind = 4
 ·refine Or.inl (eX _ (aN (hget up hpu) ?_))
  refine aN (fun h=>absurd hc0 (by simpa using h)) (fun _=>?_)
  by_cases hk2:o.kind = 2
  ·have hd0:¬ (o.kind≠2∧(partV (ledV a up).1 x).2≠0):=fun h=>h.1 hk2
   rw [if_neg (fun h=>h.1 hk2)] at e0
   refine aN (fun h=>absurd hk2 (by simpa using h)) (fun _=>?_)
   refine Or.inl (eX _ (aN (s_withinT (ledV a up).1 x o ht hk234 (fun h=>absurd hk2 h) hvn ho.vn hve) ?_))
   refine aN (fun hw=>?_) (fun hw=>?_)
   ·have hw:(withinV (ledV a up).1 x o).2≠0:=by simpa using hw
    rw [if_pos hw] at e0
    rw [appA_eq e0]
    exact rL
   have hw:¬ (withinV (ledV a up).1 x o).2≠0:=by simpa using hw
   rw [if_neg hw] at e0
   have hlast:=upd_last h1 x up a (fine_of_fault (v:=a) (by simpa using hq))
   rw [← hpx,within_last hk234,if_neg hd0] at hlast
   rw [hlast.2 hc0 (by simpa using hw)] at hup
   refine Or.inr (Or.inr (Or.inr (Or.inl (eX [12] (eX _ (aN ((s_reb (withinV (ledV a up).1 x o).1 47 (encVal (withinV (ledV a up).1 x o).1) (fun b=>s_app2 b _) up a hc0 ha.vn)) ?_))))))
   refine Or.inl (eX _ (aN (s_good hu (rebV a up (withinV (ledV a up).1 x o).1) hup.1 hup.2.1) ?_))
   rw [show appA a o = goodA (rebV a up (withinV (ledV a up).1 x o).1) from by unfold appA goodA goodV; rw [e0]]
   exact rL
  ·refine aN (fun _=>?_) (fun h=>absurd (by simpa using h) hk2)
   refine Or.inl (eX _ (aN (hget o.p hop.2.1) ?_))
   refine aN (fun hd=>?_) (fun hd=>?_)
   ·have hd:(ledV a o.p).2≠0:=by simpa using hd
    rw [if_pos ⟨hk2,hd⟩] at e0
    rw [appA_eq e0]
    exact rL
   have hd:(ledV a o.p).2 = 0:=by simpa using hd
   rw [if_neg (fun h=>h.2 hd)] at e0
   have hd0:¬ (o.kind≠2∧(partV (ledV a up).1 x).2≠0):=fun h=>h.2 (by rw [← hlp]; exact hd)
   refine Or.inl (eX _ (aN (s_withinT (ledV a up).1 x o ht hk234 (fun _=>by rw [← hlp]; exact hd) hvn ho.vn hve) ?_))
   refine aN (fun hw=>?_) (fun hw=>?_)
   ·have hw:(withinV (ledV a up).1 x o).2≠0:=by simpa using hw
    rw [if_pos hw] at e0
    rw [appA_eq e0]
    exact rL
   have hw:¬ (withinV (ledV a up).1 x o).2≠0:=by simpa using hw
   rw [if_neg hw] at e0
   have hlast:=upd_last h1 x up a (fine_of_fault (v:=a) (by simpa using hq))
   rw [← hpx,within_last hk234,if_neg hd0] at hlast
   rw [hlast.2 hc0 (by simpa using hw)] at hup
   refine Or.inr (Or.inr (Or.inr (Or.inl (eX [12] (eX _ (aN ((s_reb (withinV (ledV a up).1 x o).1 47 (encVal (withinV (ledV a up).1 x o).1) (fun b=>s_app2 b _) up a hc0 ha.vn)) ?_))))))
   refine Or.inl (eX _ (aN (s_good hu (rebV a up (withinV (ledV a up).1 x o).1) hup.1 hup.2.1) ?_))
   rw [show appA a o = goodA (rebV a up (withinV (ledV a up).1 x o).1) from by unfold appA goodA goodV; rw [e0]]
   exact rL
 ·have hs:¬ x.i < 0:=fun h=>ht (.inl h)
  have hk23:o.kind = 2∨o.kind = 3:=by omega
  refine Or.inr (Or.inl (eX [] (eX _ (eX _ (eX _ (eX _ (eX _ (eX [(1000,100),(1001,101)] (aN (s_getO hu a up ha.vn hpu hc0) ?_)))))))))
  refine (aN rfl (aN rfl (aN rfl (aN rfl ?_))))
  refine aN (fun h=>Bool.noConfusion h) (fun _=>?_)
  by_cases hk2:o.kind = 2
  ·have hd0:¬ (o.kind≠2∧(partV (ledV a up).1 x).2≠0):=fun h=>h.1 hk2
   rw [if_neg (fun h=>h.1 hk2)] at e0
   refine aN (fun h=>absurd hk2 (by simpa using h)) (fun _=>?_)
   refine Or.inr (Or.inl (eX [] (eX _ (eX _ (eX _ (eX _ (eX _ (eX [(1000,100),(1001,101)] (aN (s_withinL (ledV a up).1 x o hs hk23 (fun h=>absurd h (by omega)) ho.vn hvl) ?_)))))))))
   refine (aN rfl (aN rfl (aN rfl (aN rfl ?_))))
   refine aN (fun hw=>?_) (fun hw=>?_)
   ·have hw:(withinV (ledV a up).1 x o).2≠0:=by simpa using hw
    rw [if_pos hw] at e0
    rw [appA_eq e0]
    exact rL
   have hw:¬ (withinV (ledV a up).1 x o).2≠0:=by simpa using hw
   rw [if_neg hw] at e0
   have hlast:=upd_last h1 x up a (fine_of_fault (v:=a) (by simpa using hq))
   rw [← hpx,within_last hk234,if_neg hd0] at hlast
   rw [hlast.2 hc0 (by simpa using hw)] at hup
   refine Or.inr (Or.inr (Or.inr (Or.inl (eX [12] (eX _ (aN ((s_reb (withinV (ledV a up).1 x o).1 47 (encVal (withinV (ledV a up).1 x o).1) (fun b=>s_app2 b _) up a hc0 ha.vn)) ?_))))))
   refine Or.inl (eX _ (aN (s_good hu (rebV a up (withinV (ledV a up).1 x o).1) hup.1 hup.2.1) ?_))
   rw [show appA a o = goodA (rebV a up (withinV (ledV a up).1 x o).1) from by unfold appA goodA goodV; rw [e0]]
   exact rL
  ·refine aN (fun _=>?_) (fun h=>absurd (by simpa using h) hk2)
   refine Or.inl (eX _ (aN (hget o.p hop.2.1) ?_))
   refine aN (fun hd=>?_) (fun hd=>?_)
   ·have hd:(ledV a o.p).2≠0:=by simpa using hd
    rw [if_pos ⟨hk2,hd⟩] at e0
    rw [appA_eq e0]
    exact rL
   have hd:(ledV a o.p).2 = 0:=by simpa using hd
   rw [if_neg (fun h=>h.2 hd)] at e0
   have hd0:¬ (o.kind≠2∧(partV (ledV a up).1 x).2≠0):=fun h=>h.2 (by rw [← hlp]; exact hd)
   refine Or.inr (Or.inl (eX [] (eX _ (eX _ (eX _ (eX _ (eX _ (eX [(1000,100),(1001,101)] (aN (s_withinL (ledV a up).1 x o hs hk23 (fun _=>by rw [← hlp]; exact hd) ho.vn hvl) ?_)))))))))
   refine (aN rfl (aN rfl (aN rfl (aN rfl ?_))))
   refine aN (fun hw=>?_) (fun hw=>?_)
   ·have hw:(withinV (ledV a up).1 x o).2≠0:=by simpa using hw
    rw [if_pos hw] at e0
    rw [appA_eq e0]
    exact rL
   have hw:¬ (withinV (ledV a up).1 x o).2≠0:=by simpa using hw
   rw [if_neg hw] at e0
   have hlast:=upd_last h1 x up a (fine_of_fault (v:=a) (by simpa using hq))
   rw [← hpx,within_last hk234,if_neg hd0] at hlast
   rw [hlast.2 hc0 (by simpa using hw)] at hup
   refine Or.inr (Or.inr (Or.inr (Or.inl (eX [12] (eX _ (aN ((s_reb (withinV (ledV a up).1 x o).1 47 (encVal (withinV (ledV a up).1 x o).1) (fun b=>s_app2 b _) up a hc0 ha.vn)) ?_))))))
   refine Or.inl (eX _ (aN (s_good hu (rebV a up (withinV (ledV a up).1 x o).1) hup.1 hup.2.1) ?_))
   rw [show appA a o = goodA (rebV a up (withinV (ledV a up).1 x o).1) from by unfold appA goodA goodV; rw [e0]]
   exact rL
theorem s_applyS (hu:HasU8) (a:Val) (o:OpR) (ha:Mod a) (ho:Mod o.v) (hk:o.key.length≤10000000):PSpec Tryd.prog 25 [.agg (encVal a),.agg (enc .op o)] (appA a o) :=
 pspec_of_vcL (Ctx.good_kp Γ_good 26) Tryd.func25 rfl Tryd.call25 Tryd.results25 Tryd.ntmps25 (Nat.le_of_ble_eq_true rfl) (w_applyS hu a o ha ho hk)
end
end Go.Proofs.YtfeniggadfkakaaDoor
end
section
namespace Go.Proofs.YtfeniggadfkakaaDoor
open Go Go.SX Go.Ck Go.Vl Go.Ut Go.Up
set_option maxRecDepth 100000
set_option maxHeartbeats 1000000
section
variable [G:Globs]
theorem w_allP (hu:HasU8) (a:Val) (l:List OpR) (ha:Mod a) (hl:∀ o ∈ l,Mod o.v∧o.key.length≤10000000):vc Tryd.prog Γ 39 [1,2,4,5,6,7,8,9,10,14,19,20,21,22,33] (Tryd.f22.body.getD .skip) (postK Γ [.cell 4 26,.tmp 5,.tmp 6] (fun v=>RL v (allA (allV a l)))) ⟨argSlots 0 [.agg (encVal a),.rd .op l],[]⟩:=by
 have hC:=s_Check hu a ha.vb ha.siz
 rw [chk_T] at hC
 refine Or.inl (eX _ (aN (hC) ?_))
 refine aN (fun hq=>?_) (fun hq=>?_)
 ·have hq:faultV a≠0:=by simpa using hq
  rw [show allV a l = (zeroV,0,faultV a) from if_pos hq]
  exact rL
 have hq:¬ faultV a≠0:=by simpa using hq
 refine Or.inl (eX _ (aN (s_Own a ha.vn) ?_))
 rw [show allV a l = allF a 0 l from if_neg hq]
 generalize hR:allF a 0 l = R
 intro hml
 refine eX [] (eX [] (eX [] (eX (Nat × Val) (eX (fun q=>q.1≤l.length∧Mod q.2∧R = allF q.2 q.1 (l.drop q.1)) (eX (fun ⟨i,v⟩=>⟨[(2,.pt 2 0),(4,.pt 4 0),(5,.i .i64 0),(6,.i .i64 0),(19,.rd .op l),(20,.i .i64 l.length),(21,.i .i64 i)],[(2,encVal v),(4,[.i .i64 0,.i .i64 0,.i .u64 0,.s [],.nl,.nl])]⟩) (eX (fun q=>l.length - q.1) (eX (0,a) (aN ⟨Nat.zero_le _,ha,hR.symm⟩ (aN ?_ ?_)))))))))
 ·exact wK
 rintro ⟨i,v⟩ ⟨hi,hv,hI⟩
 simp only at hi hv hI
 refine aN (fun hz=>?_) (fun hz=>?_)
 ·have hi:=ltD hz
  have hg:=getI (τ:=.op) hi
  refine bN2 ?_
  rw [hg]
  have ho:=hl l[i] (List.getElem_mem hi)
  have hlen:=len_le hml
  rw [List.drop_eq_getElem_cons hi,allF] at hI
  refine Or.inl (eX _ (aN (s_applyS hu v l[i] hv ho.1 ho.2) ?_))
  refine aN (fun hq=>?_) (fun hq=>?_)
  ·have hq:(applyV v l[i]).2≠0:=by simpa using hq
   rw [if_pos hq] at hI
   rw [hI]
   exact rL
  ·have hq:¬ (applyV v l[i]).2≠0:=by simpa using hq
   rw [if_neg hq] at hI
   (refine rNG ?_)
   refine eX [] (eX (i + 1,(applyV v l[i]).1) (aN ⟨hi,mod_app hv ho.1 ho.2 (by simpa using hq),hI⟩ (aN ?_ ?_)))
   ·exact wK
   ·(exact Nat.sub_lt_sub_left (by omega) (by omega))
 ·have hi:=geD hi hz
  rw [List.drop_eq_nil_of_le (by omega),allF] at hI
  rw [hI]
  exact rL
theorem s_allP (hu:HasU8) (a:Val) (l:List OpR) (ha:Mod a) (hl:∀ o ∈ l,Mod o.v∧o.key.length≤10000000):PSpec Tryd.prog 22 [.agg (encVal a),.rd .op l] (allA (allV a l)) :=
 pspec_of_vcL Γ_good Tryd.func22 rfl Tryd.call22 Tryd.results22 Tryd.ntmps22 (Nat.le_of_ble_eq_true rfl) (w_allP hu a l ha hl)
end
end Go.Proofs.YtfeniggadfkakaaDoor
end
