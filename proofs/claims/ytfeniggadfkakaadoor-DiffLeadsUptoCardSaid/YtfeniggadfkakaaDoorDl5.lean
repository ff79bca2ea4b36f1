/-
  A part of a proof: plain laws and walks, one after the other. No conditions.
-/
import Derived.Test.YtfeniggadfkakaaDoorDl4
import Derived.Laws.IdiomCopy
import Derived.Lib.Overlaps
import Derived.Lib.AppendZerosOnto
import Derived.WalkKit
import Derived.Shelf.Spec.SlicesInsert
import Derived.Deep.RegionLaw
import Derived.Laws.Bits64
import Derived.Laws.Bits64b
set_option linter.constructorNameAsVariable false
set_option linter.unusedVariables false
set_option linter.unusedSimpArgs false
set_option linter.unusedSectionVars false
section
namespace Go.Proofs.YtfeniggadfkakaaDoor
open Go Go.SX Go.Ck Go.Vl Go.Ut Go.Up
set_option maxRecDepth 100000
set_option maxHeartbeats 1000000
theorem stepF1 {p:PStep} (h:p.i < -1∨(0≤p.i∧p.key≠[])):stepF p = 1:=if_pos h
theorem stepF2 {p:PStep} (h:¬ (p.i < -1∨(0≤p.i∧p.key≠[]))) (h2:100 < p.key.length):stepF p = 2:=by unfold stepF; rw [if_neg h,if_pos h2]
theorem stepF3 {p:PStep} (h:¬ (p.i < -1∨(0≤p.i∧p.key≠[]))) (h2:¬ 100 < p.key.length) (h3:0≤bad p.key):stepF p = 3:=by unfold stepF; rw [if_neg h,if_neg h2,if_pos h3]
theorem stepF0 {p:PStep} (h:¬ (p.i < -1∨(0≤p.i∧p.key≠[]))) (h2:¬ 100 < p.key.length) (h3:¬ 0≤bad p.key):stepF p = 0:=by unfold stepF; rw [if_neg h,if_neg h2,if_neg h3]
theorem stepsF_stop {l:List PStep} {i:Nat} {e:Int} (h:i < l.length) (he:stepF l[i] = e) (h0:e≠0):stepsF (l.drop i) = e:=by rw [stepsF_drop h,he,orI_ne h0]
theorem stepsF_go {l:List PStep} {i:Nat} (h:i < l.length) (he:stepF l[i] = 0):stepsF (l.drop i) = stepsF (l.drop (i + 1)):=by rw [stepsF_drop h,he,orI_zero]
section
variable [G:Globs]
def partA (a:Val) (p:PStep):AV:=.tup [.agg (encVal (partV a p).1),.i .i64 (partV a p).2]
theorem partA_eq {a:Val} {p:PStep} {w:Val} {e:Int} (h:partV a p = (w,e)):partA a p = .tup [.agg (encVal w),.i .i64 e]:=by unfold partA; rw [h]
theorem partV_tk {a:Val} {p:PStep} (h:p.i < 0) (h2:a.kind≠6):partV a p = (zeroV,10):=by unfold partV; rw [if_pos h,if_pos h2]
theorem partV_tn {a:Val} {p:PStep} (h:p.i < 0) (h2:¬ a.kind≠6) (h3:ixI a.e (keyIs p.key) < 0):partV a p = (zeroV,8):=by unfold partV; rw [if_pos h,if_neg h2,if_pos h3]
theorem partV_t {a:Val} {p:PStep} (h:p.i < 0) (h2:¬ a.kind≠6) (h3:¬ ixI a.e (keyIs p.key) < 0):partV a p = ((a.e.getD (ixI a.e (keyIs p.key)).toNat (dflt .ent)).2,0):=by unfold partV; rw [if_pos h,if_neg h2,if_neg h3]
theorem partV_lk {a:Val} {p:PStep} (h:¬ p.i < 0) (h2:a.kind≠5):partV a p = (zeroV,10):=by unfold partV; rw [if_neg h,if_pos h2]
theorem partV_ln {a:Val} {p:PStep} (h:¬ p.i < 0) (h2:¬ a.kind≠5) (h3:(a.l.length:Int)≤p.i):partV a p = (zeroV,8):=by unfold partV; rw [if_neg h,if_neg h2,if_pos h3]
theorem partV_l {a:Val} {p:PStep} (h:¬ p.i < 0) (h2:¬ a.kind≠5) (h3:¬ (a.l.length:Int)≤p.i):partV a p = (a.l.getD p.i.toNat (dflt .val),0):=by unfold partV; rw [if_neg h,if_neg h2,if_neg h3]
theorem w_partOf (a:Val) (p:PStep) (h : -1≤p.i):vc Tryd.prog Γ 46 [2,3,4,5,6,7,10,13,21,31,38] (Tryd.f34.body.getD .skip) (postK Γ [.cell 4 26,.tmp 5] (fun v=>RL v (partA a p))) ⟨argSlots 0 [.agg (encVal a),.agg (enc .pstep p)],[]⟩:=by
 refine aN (fun hq=>?_) (fun hq=>?_)
 ·have hq:p.i < 0:=by have:=eq_of_beq hq; omega
  refine aN (fun hk=>?_) (fun hk=>?_)
  ·have hk:a.kind≠6:=by simpa using hk
   rw [partA_eq (partV_tk hq hk)]
   exact rL
  have hk:¬ a.kind≠6:=by simpa using hk
  refine Or.inl (eX _ (aN (s_entAt a.e p.key) ?_))
  refine aN (fun hx=>?_) (fun hx=>?_)
  ·have hx:ixI a.e (keyIs p.key) < 0:=of_decide_eq_true hx
   rw [partA_eq (partV_tn hq hk hx)]
   exact rL
  have hx:¬ ixI a.e (keyIs p.key) < 0:=of_decide_eq_false hx
  have hb:=ix_bound hx
  rw [partA_eq (partV_t hq hk hx)]
  refine bN2 ?_
  exact rL
 ·have hq:¬ p.i < 0:=by have:=ne_of_beq_false hq; omega
  refine aN (fun hk=>?_) (fun hk=>?_)
  ·have hk:a.kind≠5:=by simpa using hk
   rw [partA_eq (partV_lk hq hk)]
   exact rL
  have hk:¬ a.kind≠5:=by simpa using hk
  intro _
  refine aN (fun hx=>?_) (fun hx=>?_)
  ·rw [partA_eq (partV_ln hq hk (of_decide_eq_true hx))]
   exact rL
  have hx:¬ (a.l.length:Int)≤p.i:=of_decide_eq_false hx
  rw [partA_eq (partV_l hq hk hx)]
  refine bN2 ?_
  exact rL
theorem s_partOf (a:Val) (p:PStep) (h : -1≤p.i):PSpec Tryd.prog 34 [.agg (encVal a),.agg (enc .pstep p)] (partA a p) :=
 pspec_of_vcL Γ_good Tryd.func34 rfl Tryd.call34 Tryd.results34 Tryd.ntmps34 (Nat.le_of_ble_eq_true rfl) (w_partOf a p h)
theorem w_pathR (l:List PStep):vc Tryd.prog Γ 36 [0,2,4,7,8,9,10,11,26,30,34] (Tryd.f61.body.getD .skip) (postK Γ [.tmp 2] (fun v=>v = .i .i64 (pathF l))) ⟨argSlots 0 [.rd .pstep l],[]⟩:=by
 intro hl
 refine aN (fun hq=>?_) (fun hq=>?_)
 ·refine congrArg (AV.i .i64) ?_
  rw [pathF,if_pos (by have:=of_decide_eq_true hq; omega)]
 rw [pathF,if_neg (by have:=of_decide_eq_false hq; omega)]
 intro _
 refine eX [] (eX [] (eX [] (eX Nat (eX (fun i=>i≤(l).length∧(stepsF l = stepsF (l.drop i))) (eX (fun i=>⟨[(8,.rd .pstep l),(9,.i .i64 l.length),(10,.i .i64 i)],[]⟩) (eX (fun i=>(l).length - i) (eX 0 (aN ⟨Nat.zero_le _,rfl⟩ (aN ?_ ?_)))))))))
 ·exact wK
 rintro i ⟨hi,hI⟩
 refine aN (fun hz=>?_) (fun hz=>?_)
 ·have hi:=ltD hz
  have hg:=getI (τ:=.pstep) hi
  refine bN2 ?_
  rw [hg]
  by_cases c:l[i].i < -1∨(0≤l[i].i∧l[i].key≠[])
  ·rw [stepsF_stop hi (stepF1 c) (by decide)] at hI
   rcases c with c | ⟨c,c3⟩
   all_goals (repeat' (first | (refine aN (fun h=>?_) (fun h=>?_)<;>(try simp [-List.getD_eq_getElem?_getD,-Int.pred_toNat] at h)<;>(try (exfalso; first | omega | contradiction))) | refine bX ?_ | intro _))
   all_goals exact congrArg (AV.i .i64) hI.symm
  ·have c1 : -1≤l[i].i:=by omega
   have c2:l[i].i = -1∨(0≤l[i].i∧l[i].key = []):=by grind
   by_cases d:100 < l[i].key.length
   ·rw [stepsF_stop hi (stepF2 c d) (by decide)] at hI
    rcases c2 with c2 | ⟨c2,c3⟩
    all_goals (repeat' (first | (refine aN (fun h=>?_) (fun h=>?_)<;>(try simp [-List.getD_eq_getElem?_getD,-Int.pred_toNat] at h)<;>(try (exfalso; first | omega | contradiction))) | refine bX ?_ | intro _))
    all_goals exact congrArg (AV.i .i64) hI.symm
   ·by_cases e:0≤bad l[i].key
    ·rw [stepsF_stop hi (stepF3 c d e) (by decide)] at hI
     rcases c2 with c2 | ⟨c2,c3⟩
     all_goals (repeat' (first | (refine aN (fun h=>?_) (fun h=>?_)<;>(try simp [-List.getD_eq_getElem?_getD,-Int.pred_toNat] at h)<;>(try (exfalso; first | omega | contradiction))) | refine bX ?_ | intro _))
     all_goals refine Or.inl (eX _ (aN (s_BadPlace l[i].key) ?_))
     all_goals (repeat' (first | (refine aN (fun h=>?_) (fun h=>?_)<;>(try simp [-List.getD_eq_getElem?_getD,-Int.pred_toNat] at h)<;>(try (exfalso; first | omega | contradiction))) | refine bX ?_ | intro _))
     all_goals exact congrArg (AV.i .i64) hI.symm
    ·rw [stepsF_go hi (stepF0 c d e)] at hI
     have:=len_le hl
     rcases c2 with c2 | ⟨c2,c3⟩
     all_goals (repeat' (first | (refine aN (fun h=>?_) (fun h=>?_)<;>(try simp [-List.getD_eq_getElem?_getD,-Int.pred_toNat] at h)<;>(try (exfalso; first | omega | contradiction))) | refine bX ?_ | intro _))
     all_goals refine Or.inl (eX _ (aN (s_BadPlace l[i].key) ?_))
     all_goals (repeat' (first | (refine aN (fun h=>?_) (fun h=>?_)<;>(try simp [-List.getD_eq_getElem?_getD,-Int.pred_toNat] at h)<;>(try (exfalso; first | omega | contradiction))) | refine bX ?_ | intro _))
     all_goals refine eX [] (eX (i + 1) (aN ⟨hi,hI⟩ (aN ?_ ?_)))
     all_goals first | (exact Nat.sub_lt_sub_left (by omega) (by omega)) | exact wK
 ·(have hi:=geD hi hz)
  rw [hI,List.drop_eq_nil_of_le (by omega)]
  rfl
theorem s_pathR (l:List PStep):PSpec Tryd.prog 61 [.rd .pstep l] (.i .i64 (pathF l)) :=
 pspec_of_vc Γ_good Tryd.func61 rfl Tryd.call61 Tryd.results61 Tryd.ntmps61 (Nat.le_of_ble_eq_true rfl) (w_pathR l)
def ledA (a:Val) (l:List PStep):AV:=.tup [.agg (encVal (ledV a l).1),.i .i64 (ledV a l).2]
theorem ledA_eq {a w:Val} {l:List PStep} {e:Int} (h:ledV a l = (w,e)):ledA a l = .tup [.agg (encVal w),.i .i64 e]:=by unfold ledA; rw [h]
theorem tail_eq (p:PStep) (r:List PStep):((p::r).take (Int.toNat ((p::r).length:Int))).drop (Int.toNat 1) = r:=by
 rw [Int.toNat_natCast,List.take_length]; rfl
theorem w_led0 (a:Val):vc Tryd.prog Γ 30 [1,2,4,5,6,7,10,21] (Tryd.f18.body.getD .skip) (postK Γ [.cell 4 26,.tmp 5] (fun v=>RL v (ledA a []))) ⟨argSlots 0 [.agg (encVal a),.rd .pstep []],[]⟩:=by
 intro _
 refine aN (fun _=>?_) (fun hq=>Bool.noConfusion hq)
 exact rL
theorem s_led0 (a:Val):PSpec Tryd.prog 18 [.agg (encVal a),.rd .pstep []] (ledA a []) :=
 pspec_of_vcL Γ_good Tryd.func18 rfl Tryd.call18 Tryd.results18 Tryd.ntmps18 (Nat.le_of_ble_eq_true rfl) (w_led0 a)
theorem w_led1 (a:Val) (p:PStep) (r:List PStep) (h : -1≤p.i) (ih:∀ w,PSpec Tryd.prog 18 [.agg (encVal w),.rd .pstep r] (ledA w r)):vc Tryd.prog Γ 30 [1,2,4,5,6,7,10,21] (Tryd.f18.body.getD .skip) (postK Γ [.cell 4 26,.tmp 5] (fun v=>RL v (ledA a (p::r)))) ⟨argSlots 0 [.agg (encVal a),.rd .pstep (p::r)],[]⟩:=by
 intro _
 refine aN (fun hq=>?_) (fun _=>?_)
 ·have:=eq_of_beq hq
  simp only [List.length_cons] at this
  omega
 have hs:=s_partOf a p h
 refine eX [.take 1,.take 2,.tree 8 [0,3,4,5,6,7,8,9] (.opt 0 (.opt 3 (.opt 4 (.opt 5 (.opt 6 (.opt 7 (.opt 8 (.opt 9 .fin .non) .non) (.opt 8 (.opt 7 (.opt 9 .fin .non) (.opt 9 (.opt 7 .fin .non) .non)) .non)) (.opt 7 (.opt 6 (.opt 8 (.opt 9 .fin .non) .non) (.opt 8 (.opt 6 (.opt 9 .fin .non) .non) .non)) (.opt 8 (.opt 6 (.opt 7 (.opt 9 .fin .non) (.opt 9 (.opt 7 .fin .non) .non)) (.opt 7 (.opt 6 (.opt 9 .fin .non) .non) .non)) .non))) (.opt 8 (.opt 5 (.opt 6 (.opt 7 (.opt 9 .fin .non) (.opt 9 (.opt 7 .fin .non) .non)) (.opt 7 (.opt 6 (.opt 9 .fin .non) .non) .non)) .non) .non)) (.opt 8 (.opt 4 (.opt 5 (.opt 6 (.opt 7 (.opt 9 .fin .non) (.opt 9 (.opt 7 .fin .non) .non)) (.opt 7 (.opt 6 (.opt 9 .fin .non) .non) .non)) .non) .non) .non)) (.opt 8 (.opt 3 (.opt 4 (.opt 5 (.opt 6 (.opt 7 (.opt 9 .fin .non) (.opt 9 (.opt 7 .fin .non) .non)) (.opt 7 (.opt 6 (.opt 9 .fin .non) .non) .non)) .non) .non) .non) .non)) (.opt 3 (.opt 0 (.opt 4 (.opt 5 (.opt 6 (.opt 7 (.opt 8 (.opt 9 .fin .non) .non) (.opt 8 (.opt 7 (.opt 9 .fin .non) (.opt 9 (.opt 7 .fin .non) .non)) .non)) (.opt 7 (.opt 6 (.opt 8 (.opt 9 .fin .non) .non) (.opt 8 (.opt 6 (.opt 9 .fin .non) .non) .non)) (.opt 8 (.opt 6 (.opt 7 (.opt 9 .fin .non) (.opt 9 (.opt 7 .fin .non) .non)) (.opt 7 (.opt 6 (.opt 9 .fin .non) .non) .non)) .non))) (.opt 8 (.opt 5 (.opt 6 (.opt 7 (.opt 9 .fin .non) (.opt 9 (.opt 7 .fin .non) .non)) (.opt 7 (.opt 6 (.opt 9 .fin .non) .non) .non)) .non) .non)) (.opt 8 (.opt 4 (.opt 5 (.opt 6 (.opt 7 (.opt 9 .fin .non) (.opt 9 (.opt 7 .fin .non) .non)) (.opt 7 (.opt 6 (.opt 9 .fin .non) .non) .non)) .non) .non) .non)) (.opt 8 (.opt 0 (.opt 4 (.opt 5 (.opt 6 (.opt 7 (.opt 9 .fin .non) (.opt 9 (.opt 7 .fin .non) .non)) (.opt 7 (.opt 6 (.opt 9 .fin .non) .non) .non)) .non) .non) .non) .non)) (.opt 8 (.opt 0 (.opt 3 (.opt 4 (.opt 5 (.opt 6 (.opt 7 (.opt 9 .fin .non) (.opt 9 (.opt 7 .fin .non) .non)) (.opt 7 (.opt 6 (.opt 9 .fin .non) .non) .non)) .non) .non) .non) (.opt 3 (.opt 0 (.opt 4 (.opt 5 (.opt 6 (.opt 7 (.opt 9 .fin .non) (.opt 9 (.opt 7 .fin .non) .non)) (.opt 7 (.opt 6 (.opt 9 .fin .non) .non) .non)) .non) .non) .non) .non)) .non))),.take 10] (aN (by kernel_rfl) ?_)
 refine aN ⟨by omega,by simp only [List.length_cons]; omega⟩ ?_
 refine eX ⟨[(1,.rd .pstep (p::r)),(2,.pt 2 0),(4,.pt 4 0),(5,.i .i64 0),(6,.pt 6 0),(19,.i .i64 (partV a p).2)],[(2,encVal a),(4,[.i .i64 0,.i .i64 0,.i .u64 0,.s [],.nl,.nl]),(6,encVal (partV a p).1)]⟩ (aN ?_ ?_)
 ·repeat' (first | exact trivial | exact Or.inl rfl | refine aN ?_ ?_ | refine Or.inl (eX _ (aN hs ?_)))
 have hr:PSpec Tryd.prog 18 [.agg (encVal (partV a p).1),.rd .pstep (((p::r).take (Int.toNat ((p::r).length:Int))).drop (Int.toNat 1))] (ledA (partV a p).1 r):=by
  rw [tail_eq]; exact ih _
 refine aN (fun hq=>?_) (fun hq=>?_)
 ·have hq:(partV a p).2≠0:=by simpa using hq
  rw [ledA_eq (show ledV a (p::r) = (zeroV,(partV a p).2) from by rw [ledV,if_pos hq])]
  exact rL
 ·have hq:¬ (partV a p).2≠0:=by simpa using hq
  rw [show ledA a (p::r) = ledA (partV a p).1 r from by unfold ledA; rw [ledV,if_neg hq]]
  refine eX [.blk [0,1,2,3,4,5],.one 6,.take 7] (aN (by kernel_rfl) ?_)
  refine aN ⟨by omega,by simp only [List.length_cons]; omega,by simp only [List.length_cons]; omega⟩ ?_
  refine eX _ (aN (hr) ?_)
  exact rL
theorem s_led1 (a:Val) (p:PStep) (r:List PStep) (h : -1≤p.i) (ih:∀ w,PSpec Tryd.prog 18 [.agg (encVal w),.rd .pstep r] (ledA w r)):PSpec Tryd.prog 18 [.agg (encVal a),.rd .pstep (p::r)] (ledA a (p::r)) :=
 pspec_of_vcL Γ_good Tryd.func18 rfl Tryd.call18 Tryd.results18 Tryd.ntmps18 (Nat.le_of_ble_eq_true rfl) (w_led1 a p r h ih)
theorem s_Led:∀ (l:List PStep) (a:Val),(∀ p ∈ l,-1≤p.i)→PSpec Tryd.prog 18 [.agg (encVal a),.rd .pstep l] (ledA a l)
 | [],a,_=>s_led0 a
 | p::r,a,h=>s_led1 a p r (h p (.head _)) fun w=>s_Led r w fun q hq=>h q (.tail _ hq)
theorem vn_zero (n:Nat):VN n zeroV:=.mk _ (Nat.zero_le _) (Nat.zero_le _) (fun _ h=>nomatch h) (fun _ h=>nomatch h)
theorem vn_part {n:Nat} {v x:Val} (hv:VN n v) (hx:x ∈ partsOf v):VN n x:=by
 cases hv with
 | mk _ _ _ h4 h5 =>
  rcases List.mem_append.1 hx with hx | hx
  ·exact h4 x hx
  ·obtain ⟨z,hz,rfl⟩:=List.mem_map.1 hx
   exact h5 z hz
end
end Go.Proofs.YtfeniggadfkakaaDoor
end
section
namespace Go.Proofs.YtfeniggadfkakaaDoor
open Go Go.SX Go.Vl
set_option maxRecDepth 100000
set_option maxHeartbeats 0
section
variable [G:Globs]
end
end Go.Proofs.YtfeniggadfkakaaDoor
end
section
namespace Go.Proofs.YtfeniggadfkakaaDoor
open Go Go.SX Go.Ck Go.Vl Go.Ut Go.Up
set_option maxRecDepth 100000
set_option maxHeartbeats 1000000
section
variable [G:Globs]
end
end Go.Proofs.YtfeniggadfkakaaDoor
end
section
namespace Go.Proofs.YtfeniggadfkakaaDoor
open Go Go.SX Go.Vl
set_option maxRecDepth 100000
set_option maxHeartbeats 0
section
variable [G:Globs]
theorem w_with (l:List Ent) (k:Str) (a:Val) (hl1:l.length≤100000000):VCs Tryd.prog Γ 39 [0,1,5,6,7,23] (Tryd.f62.body.getD .skip) (postK Γ [.tmp 6] (fun v=>v = .rd .ent (putE l k a))) ⟨argSlots 0 [.rd .ent l,.s k,.agg (encVal a)],[]⟩:=by
 refine VCs.seq (by first | exact Γ_good | exact Ctx.good_kp Γ_good _) ?_
 refine VCs.seq (by first | exact Γ_good | exact Ctx.good_kp Γ_good _) ?_
 refine Or.inl (eX _ (aN (s_wout l k hl1) ?_))
 have hml:(withoutE l k).length≤l.length:=List.length_filter_le _ _
 unfold putE
 generalize withoutE l k = m at hml
 refine VCs.seq (by first | exact Γ_good | exact Ctx.good_kp Γ_good _) ?_
 refine VCs.cut (by first | exact Γ_good | exact Ctx.good_kp Γ_good _) Unit (fun _=>True) (fun _=>⟨[(0,.rd .ent m),(1,.s k),(5,.pt 5 0),(7,.i .i64 (m.findIdx (keyGt k):Nat))],[(5,encVal a)]⟩) ?_ ?_
 ·refine eX [] (eX [] (eX [] (eX Nat (eX (fun i=>i≤m.length∧i≤m.findIdx (keyGt k)) (eX (fun i=>⟨[(0,.rd .ent m),(1,.s k),(5,.pt 5 0),(7,.i .i64 i)],[(5,encVal a)]⟩) (eX (fun i=>m.length - i) (eX 0 (aN ⟨Nat.zero_le _,Nat.zero_le _⟩ (aN ?_ ?_)))))))))
  ·exact wK
  ·rintro i ⟨hi,hf⟩
   intro _
   refine aN (fun hz=>?_) (fun hz=>?_)
   · have hi : i < m.length := by have : (i : Int) < (m.length : Int) := of_decide_eq_true hz
                                  omega
     have hg:m.getD (Int.toNat (i:Int)) (dflt .ent) = m[i]:=by rw [Int.toNat_natCast,List.getD_eq_getElem?_getD,List.getElem?_eq_getElem hi]; rfl
     refine bN2 ?_
     refine aN (fun hq=>?_) (fun hq=>?_)
     ·have hq : keyGt k m[i] = false := by
       rw [hg] at hq
       have hq:(Op.bytesLess m[i].1 k || m[i].1 == k) = true:=hq
       rw [keyGt,hq]; rfl
      (refine rNG ?_)
      refine eX [] (eX (i + 1) (aN ⟨hi,ix_miss hi hf hq⟩ (aN ?_ ?_)))
      ·exact wK
      ·show m.length - (i + 1) < m.length - i
       omega
     ·have hq : keyGt k m[i] = true := by
       rw [hg] at hq
       have hq:(Op.bytesLess m[i].1 k || m[i].1 == k) = false:=hq
       rw [keyGt,hq]; rfl
      have e:i = m.findIdx (keyGt k):=by
       have:=List.not_of_lt_findIdx (p:=keyGt k) (xs:=m) (i:=i)
       rcases Nat.lt_or_ge i (m.findIdx (keyGt k)) with h1 | h1
       ·have:=this h1
        rw [hq] at this
        cases this
       ·omega
      refine eX () (aN trivial ?_)
      (repeat' (first | exact wA | exact Or.inl ((congrArg (fun n:Nat=>AV.i .i64 n) e)) | refine aN ?_ ?_))
   · have hi : i = m.length := by have : ¬ (i : Int) < (m.length : Int) := of_decide_eq_false hz
                                  omega
     have e:i = m.findIdx (keyGt k):=by
      have:=List.findIdx_le_length (p:=keyGt k) (xs:=m)
      omega
     refine aN (fun h9=>Bool.noConfusion h9) (fun _=>?_)
     refine eX () (aN trivial ?_)
     (repeat' (first | exact wA | exact Or.inl ((congrArg (fun n:Nat=>AV.i .i64 n) e)) | refine aN ?_ ?_))
 rintro _ _
 have hle:=List.findIdx_le_length (p:=keyGt k) (xs:=m)
 generalize m.findIdx (keyGt k) = j at hle
 refine VCs.of_vc (by first | exact Γ_good | exact Ctx.good_kp Γ_good _) ?_
 refine eX [.take 0,.take 1,.take 2,.take 4,.take 9,.take 10,.take 11,.tree 4 [3,5,6,7] (.opt 3 (.opt 5 (.opt 6 (.opt 7 .fin .non) .non) .non) (.opt 5 (.opt 3 (.opt 6 (.opt 7 .fin .non) .non) (.opt 6 (.opt 3 (.opt 7 .fin .non) (.opt 7 (.opt 3 .fin .non) .non)) .non)) .non)),.one 8,.one 12,.take 13] (aN (by kernel_rfl) ?_)
 refine aN ⟨by omega,by omega,by omega⟩ ?_
 refine bN2 ?_
 have hob:(List.drop (Int.toNat 0) (m.take (Int.toNat (j:Int)))).length * 104≤140737488355328:=by
  rw [List.length_drop,List.length_take]
  omega
 refine eX ⟨[(29,.vec 29 .ent (m.take j)),(33,.vec 33 .ent [(k,⟨a.kind,a.n,a.f,a.s,a.l,a.e⟩)]),(37,.rd .ent ((m.take m.length).drop j))],[]⟩ (aN ?_ ?_)
 ·repeat' (first | exact trivial | exact hob | exact Or.inl rfl | refine aN ?_ ?_)
 rw [List.take_length]
 refine aN (show ((m.take j).length + 1) * 104≤140737488355328 by rw [List.length_take]; omega) ?_
 refine aN (show ((m.take j++[(k,(⟨a.kind,a.n,a.f,a.s,a.l,a.e⟩:Val))]).length + (m.drop j).length) * 104≤140737488355328 by rw [List.length_append,List.length_take,List.length_drop,List.length_singleton]; omega) ?_
 have e:m.take j++[(k,(⟨a.kind,a.n,a.f,a.s,a.l,a.e⟩:Val))]++m.drop j = m.take j++(k,a)::m.drop j:=by rw [val_eta,List.append_assoc]; rfl
 exact congrArg (AV.rd .ent) e
theorem s_with (l:List Ent) (k:Str) (a:Val) (hl1:l.length≤100000000):PSpec Tryd.prog 62 [.rd .ent l,.s k,.agg (encVal a)] (.rd .ent (putE l k a)) :=
 pspec_of_VCs Γ_good Tryd.func62 rfl Tryd.call62 Tryd.results62 Tryd.ntmps62 (Nat.le_of_ble_eq_true rfl) (w_with l k a hl1) Γ_good
end
end Go.Proofs.YtfeniggadfkakaaDoor
end
section
namespace Go.Proofs.YtfeniggadfkakaaDoor
open Go Go.SX Go.Vl
set_option maxRecDepth 100000
set_option maxHeartbeats 0
section
variable [G:Globs]
end
end Go.Proofs.YtfeniggadfkakaaDoor
end
section
namespace Go.SX
variable {P:Program}
section
variable [Globs]
theorem All2.take {α γ:Type} {R:α→γ→Prop} {a:List α} {b:List γ} (h:All2 R a b) (n:Nat):All2 R (a.take n) (b.take n):=by
 refine ⟨by rw [List.length_take,List.length_take,h.1],fun j x y hx hy=>?_⟩
 rw [List.getElem?_take] at hx hy
 split at hx
 ·rename_i hj
  rw [if_pos hj] at hy
  exact h.2 j x y hx hy
 ·cases hx
theorem All2.drop {α γ:Type} {R:α→γ→Prop} {a:List α} {b:List γ} (h:All2 R a b) (n:Nat):All2 R (a.drop n) (b.drop n):=by
 refine ⟨by rw [List.length_drop,List.length_drop,h.1],fun j x y hx hy=>?_⟩
 rw [List.getElem?_drop] at hx hy
 exact h.2 _ x y hx hy
theorem flat_take (τ:Ty) (l:List (den τ)) (i:Nat) (hi:i≤l.length):flat τ (l.take i) = (flat τ l).take (i * esz τ):=by
 have h:=flat_append τ (l.take i) (l.drop i)
 rw [List.take_append_drop] at h
 rw [h,List.take_left' (by rw [flat_length,List.length_take,Nat.min_eq_left hi])]
end
end Go.SX
end
section
namespace Go.Proofs.YtfeniggadfkakaaDoor
open Go Go.SX Go.RowKit Go.Lib
set_option maxRecDepth 100000
set_option maxHeartbeats 4000000
end Go.Proofs.YtfeniggadfkakaaDoor
end
section
namespace Go.Proofs.YtfeniggadfkakaaDoor
open Go Go.SX Go.Vl
set_option maxRecDepth 100000
set_option maxHeartbeats 0
section
variable [G:Globs]
end
end Go.Proofs.YtfeniggadfkakaaDoor
end
section
namespace Go.Proofs.YtfeniggadfkakaaDoor
open Go Go.SX Go.RowKit Go.Lib
set_option maxRecDepth 100000
set_option maxHeartbeats 4000000
end Go.Proofs.YtfeniggadfkakaaDoor
end
section
namespace Go.Proofs.YtfeniggadfkakaaDoor
open Go Go.SX Go.RowKit Go.Lib
set_option maxRecDepth 100000
set_option maxHeartbeats 4000000
end Go.Proofs.YtfeniggadfkakaaDoor
end
section
namespace Go.Proofs.YtfeniggadfkakaaDoor
open Go Go.SX Go.Ck Go.Vl Go.Ut Go.Up
set_option maxRecDepth 100000
set_option maxHeartbeats 1000000
section
variable [G:Globs]
theorem vn_e {n:Nat} {v:Val} (h:VN n v):∀ p ∈ v.e,VN n p.2:=by cases h with | mk _ _ _ _ h=>exact h
end
end Go.Proofs.YtfeniggadfkakaaDoor
end
section
namespace Go.Proofs.YtfeniggadfkakaaDoor
open Go Go.SX Go.Ck Go.Vl Go.Ut Go.Up
set_option maxRecDepth 100000
set_option maxHeartbeats 1000000
section
variable [G:Globs]
end
end Go.Proofs.YtfeniggadfkakaaDoor
end
section
namespace Go.Proofs.YtfeniggadfkakaaDoor
open Go Go.SX Go.Ck Go.Vl Go.Ut
set_option maxRecDepth 100000
set_option maxHeartbeats 1000000
section
variable [G:Globs]
def partsR (f:Int):AV:=if (f / 4503599627370496) % 2048 = 2047 then .tup [.i .u64 0,.i .i64 0,.i .i64 (if f % 4503599627370496 = 0 then 1 else 2)] else if (f / 4503599627370496) % 2048 = 0 then .tup [.i .u64 (f % 4503599627370496),.i .i64 (-1074),.i .i64 0] else .tup [.i .u64 (f % 4503599627370496 + 4503599627370496),.i .i64 ((f / 4503599627370496) % 2048 - 1075),.i .i64 0]
theorem w_floatParts (f:Int) (h0:0≤f) (h1:f≤18446744073709551615):vc Tryd.prog Γ 28 [0,2,3,4,5,6,18,20,22] (Tryd.f59.body.getD .skip) (postK Γ [.tmp 2,.tmp 3,.tmp 4] (fun v=>v = partsR f)) ⟨argSlots 0 [.i .u64 f],[]⟩:=by
 have hq:f.tdiv 4503599627370496 = f / 4503599627370496:=Int.tdiv_eq_ediv_of_nonneg h0
 have hm:f.tmod 4503599627370496 = f % 4503599627370496:=Int.tmod_eq_emod_of_nonneg h0
 have hm2:(f / 4503599627370496).tmod 2048 = (f / 4503599627370496) % 2048:=Int.tmod_eq_emod_of_nonneg (by omega)
 have hw:IntKind.i64.wrap ((f.tdiv 4503599627370496).tmod 2048) = (f / 4503599627370496) % 2048:=by
  rw [hq,hm2]; exact IntWalk.i64_in _ ⟨by omega,by omega⟩
 have hw2:IntKind.u64.wrap (f.tmod 4503599627370496 + 4503599627370496) = f % 4503599627370496 + 4503599627370496:=by
  rw [hm]; exact IntWalk.u64_in _ ⟨by omega,by omega⟩
 refine aN (by decide) ?_
 refine aN (by decide) ?_
 refine bN2 ?_
 refine aN (by decide) ?_
 refine aN (fun h=>?_) (fun h=>?_)
 ·have h:(f / 4503599627370496) % 2048 = 2047:=by rw [← hw]; exact eq_of_beq h
  refine aN (fun h2=>?_) (fun h2=>?_)
  ·have h2:f % 4503599627370496 = 0:=by rw [← hm]; exact eq_of_beq h2
   show AV.tup [.i .u64 0,.i .i64 0,.i .i64 1] = _
   rw [partsR,if_pos h,if_pos h2]
  ·have h2:¬ f % 4503599627370496 = 0:=by rw [← hm]; exact ne_of_beq_false h2
   refine aN (fun _=>?_) (fun h3=>absurd (hw.trans h) (ne_of_beq_false h3))
   show AV.tup [.i .u64 0,.i .i64 0,.i .i64 2] = _
   rw [partsR,if_pos h,if_neg h2]
 ·have h:¬ (f / 4503599627370496) % 2048 = 2047:=by rw [← hw]; exact ne_of_beq_false h
  refine aN (fun h2=>Bool.noConfusion h2) (fun _=>?_)
  refine aN (fun h3=>absurd (hw.symm.trans (eq_of_beq h3)) h) (fun _=>?_)
  refine aN (fun h2=>?_) (fun h2=>?_)
  ·have h2:(f / 4503599627370496) % 2048 = 0:=by rw [← hw]; exact eq_of_beq h2
   show AV.tup [.i .u64 (f.tmod 4503599627370496),.i .i64 (-1074),.i .i64 0] = _
   rw [partsR,if_neg h,if_pos h2,hm]
  ·have h2:¬ (f / 4503599627370496) % 2048 = 0:=by rw [← hw]; exact ne_of_beq_false h2
   refine bN2 ?_
   show AV.tup [.i .u64 (IntKind.u64.wrap (f.tmod 4503599627370496 + 4503599627370496)),.i .i64 (IntKind.i64.wrap ((f.tdiv 4503599627370496).tmod 2048) - 1075),.i .i64 0] = _
   rw [partsR,if_neg h,if_neg h2,hw2,hw]
theorem s_floatParts (f:Int) (h0:0≤f) (h1:f≤18446744073709551615):PSpec Tryd.prog 59 [.i .u64 f] (partsR f) :=
 pspec_of_vc Γ_good Tryd.func59 rfl Tryd.call59 Tryd.results59 Tryd.ntmps59 (Nat.le_of_ble_eq_true rfl) (w_floatParts f h0 h1)
theorem partsR_eq (f:Int):∃ x y z,partsR f = .tup [.i .u64 x,.i .i64 y,.i .i64 z]∧(z = 2↔((f / 4503599627370496) % 2048 = 2047∧f % 4503599627370496≠0)):=by
 unfold partsR
 split
 ·rename_i h
  refine ⟨_,_,_,rfl,?_⟩
  split<;>omega
 ·split
  ·exact ⟨_,_,_,rfl,by omega⟩
  ·exact ⟨_,_,_,rfl,by omega⟩
theorem w_oneFault (a:Val) (h0:0≤a.f) (h1:a.f≤18446744073709551615):VCs Tryd.prog Γ 147 [1,2,5,6,7,8,16,44,84,98,114,118,120,121,122,123,130,134,143] (Tryd.f31.body.getD .skip) (postK Γ [.tmp 2] (fun v=>v = .i .i64 (docF a))) ⟨argSlots 0 [.agg (encVal a)],[]⟩:=by
 refine VCs.seq (by first | exact Γ_good | exact Ctx.good_kp Γ_good _) ?_
 refine VCs.cut (by first | exact Γ_good | exact Ctx.good_kp Γ_good _) Unit (fun _=>¬ (a.kind < 0∨6 < a.kind)) (fun _=>⟨[(1,.pt 1 0),(2,.i .i64 0)],[(1,encVal a)]⟩) ?_ ?_
 ·(repeat' (first | (refine aN (fun h=>?_) (fun h=>?_)<;>(try simp [-List.getD_eq_getElem?_getD,-Int.pred_toNat] at h)<;>(try (exfalso; first | omega | contradiction))) | refine bX ?_ | intro _))
  all_goals first | (exact congrArg (AV.i .i64) (docF_kind (by unfold kindBad oddF; omega))) | (refine eX () (aN (by omega) ?_); exact wK)
 intro _ k1
 refine VCs.cut (by first | exact Γ_good | exact Ctx.good_kp Γ_good _) Unit (fun _=>¬ ((a.kind≠1∧a.kind≠2∧a.n≠0)∨(a.kind = 1∧a.n≠0∧a.n≠1))) (fun _=>⟨[(1,.pt 1 0),(2,.i .i64 0)],[(1,encVal a)]⟩) ?_ ?_
 ·(repeat' (first | (refine aN (fun h=>?_) (fun h=>?_)<;>(try simp [-List.getD_eq_getElem?_getD,-Int.pred_toNat] at h)<;>(try (exfalso; first | omega | contradiction))) | refine bX ?_ | intro _))
  all_goals first | (exact congrArg (AV.i .i64) (docF_kind (by unfold kindBad oddF; omega))) | (refine eX () (aN (by omega) ?_); exact wK)
 intro _ k2
 refine VCs.cut (by first | exact Γ_good | exact Ctx.good_kp Γ_good _) Unit (fun _=>¬ ((a.kind≠3∧a.f≠0)∨(a.kind≠4∧a.s≠[])∨(a.kind≠5∧0 < a.l.length)∨(a.kind≠6∧0 < a.e.length))) (fun _=>⟨[(1,.pt 1 0),(2,.i .i64 0)],[(1,encVal a)]⟩) ?_ ?_
 ·(repeat' (first | (refine aN (fun h=>?_) (fun h=>?_)<;>(try simp [-List.getD_eq_getElem?_getD,-Int.pred_toNat] at h)<;>(try (exfalso; first | omega | contradiction))) | refine bX ?_ | intro _))
  all_goals first | (exact congrArg (AV.i .i64) (docF_kind (by unfold kindBad oddF; grind))) | (refine eX () (aN (by grind) ?_); exact wK)
 intro _ k3
 obtain ⟨x,y,z,hp,hz⟩:=partsR_eq a.f
 have hs:=s_floatParts a.f h0 h1
 rw [hp] at hs
 refine VCs.cut (by first | exact Γ_good | exact Ctx.good_kp Γ_good _) Unit (fun _=>¬ oddF a.f) (fun _=>⟨[(1,.pt 1 0),(2,.i .i64 0)],[(1,encVal a)]⟩) ?_ ?_
 ·refine Or.inl (eX _ (aN (hs) ?_))
  (repeat' (first | (refine aN (fun h=>?_) (fun h=>?_)<;>(try simp [-List.getD_eq_getElem?_getD,-Int.pred_toNat] at h)<;>(try (exfalso; first | omega | contradiction))) | refine bX ?_ | intro _))
  all_goals first | (exact congrArg (AV.i .i64) (docF_kind (by unfold kindBad oddF; omega))) | (refine eX () (aN (by unfold oddF; omega) ?_); exact wK)
 intro _ k4
 have hk:¬ kindBad a:=by unfold kindBad; grind
 refine VCs.cut (by first | exact Γ_good | exact Ctx.good_kp Γ_good _) Unit (fun _=>¬ (4000 < a.s.length∨200 < a.l.length∨200 < a.e.length)) (fun _=>⟨[(1,.pt 1 0),(2,.i .i64 0)],[(1,encVal a)]⟩) ?_ ?_
 ·(repeat' (first | (refine aN (fun h=>?_) (fun h=>?_)<;>(try simp [-List.getD_eq_getElem?_getD,-Int.pred_toNat] at h)<;>(try (exfalso; first | omega | contradiction))) | refine bX ?_ | intro _))
  all_goals first | (exact congrArg (AV.i .i64) (docF_large hk (by omega))) | (refine eX () (aN (by omega) ?_); exact wK)
 intro _ k5
 refine VCs.cut (by first | exact Γ_good | exact Ctx.good_kp Γ_good _) Unit (fun _=>¬ 0≤bad a.s) (fun _=>⟨[(1,.pt 1 0),(2,.i .i64 0)],[(1,encVal a)]⟩) ?_ ?_
 ·refine Or.inl (eX _ (aN (s_BadPlace a.s) ?_))
  (repeat' (first | (refine aN (fun h=>?_) (fun h=>?_)<;>(try simp [-List.getD_eq_getElem?_getD,-Int.pred_toNat] at h)<;>(try (exfalso; first | omega | contradiction))) | refine bX ?_ | intro _))
  all_goals first | (exact congrArg (AV.i .i64) (docF_text hk k5 (by omega))) | (refine eX () (aN (by omega) ?_); exact wK)
 intro _ k6
 refine VCs.of_vc (by first | exact Γ_good | exact Ctx.good_kp Γ_good _) ?_
 rw [docF_ent hk k5 k6]
 intro hl
 refine eX [] (eX [] (eX [] (eX Nat (eX (fun i=>i≤a.e.length∧entF none a.e = entF (keyAt a.e i) (a.e.drop i)) (eX (fun i=>⟨[(6,.s (lastK a.e i)),(120,.rd .ent a.e),(121,.i .i64 a.e.length),(122,.i .i64 i)],[]⟩) (eX (fun i=>a.e.length - i) (eX 0 (aN ⟨Nat.zero_le _,rfl⟩ (aN ?_ ?_)))))))))
 ·exact wK
 ·rintro i ⟨hi,he⟩
  refine aN (fun hz=>?_) (fun hz=>?_)
  ·have hi:=ltD hz
   have hg:=getI (τ:=.ent) hi
   refine bN2 ?_
   rw [hg]
   intro _
   refine aN (fun hq=>?_) (fun hq=>?_)
   ·have hk:=keyF_large (p:=keyAt a.e i) (k:=a.e[i].1) (by have:=of_decide_eq_true hq; omega)
    rw [entF_stop hi (by rw [hk]; decide),hk] at he
    exact congrArg (AV.i .i64) he.symm
   have n1:¬ 100 < a.e[i].1.length:=by have:=of_decide_eq_false hq; omega
   refine Or.inl (eX _ (aN (s_BadPlace a.e[i].1) ?_))
   refine aN (fun hq=>?_) (fun hq=>?_)
   ·have hk:=keyF_text (p:=keyAt a.e i) (k:=a.e[i].1) n1 (of_decide_eq_true hq)
    rw [entF_stop hi (by rw [hk]; decide),hk] at he
    exact congrArg (AV.i .i64) he.symm
   have n2:¬ 0≤bad a.e[i].1:=of_decide_eq_false hq
   have hlen:=len_le hl
   refine aN (fun hq=>?_) (fun hq=>?_)
   ·have h0:0 < i:=by have:=of_decide_eq_true hq; omega
    refine aN (fun hq=>?_) (fun hq=>?_)
    ·have hk:=keyF_order (e:=a.e) n1 n2 h0 (by simpa using (show (!Op.bytesLess (lastK a.e i) a.e[i].1) = true from hq))
     rw [entF_stop hi (by rw [hk]; decide),hk] at he
     exact congrArg (AV.i .i64) he.symm
    ·have hk:=keyF_ok (e:=a.e) n1 n2 (fun _=>by simpa using (show (!Op.bytesLess (lastK a.e i) a.e[i].1) = false from hq))
     rw [entF_go hi hk] at he
     (refine rNG ?_)
     refine eX [] (eX (i + 1) (aN ⟨hi,he⟩ (aN ?_ ?_)))
     ·(repeat' (first | exact wA | exact Or.inl ((congrArg AV.s (lastK_succ hi).symm)) | refine aN ?_ ?_))
     ·show a.e.length - (i + 1) < a.e.length - i
      omega
   ·have h0:¬ 0 < i:=by have:=of_decide_eq_false hq; omega
    refine aN (fun hq=>Bool.noConfusion hq) (fun _=>?_)
    have hk:=keyF_ok (e:=a.e) n1 n2 (fun h=>absurd h h0)
    rw [entF_go hi hk] at he
    (refine rNG ?_)
    refine eX [] (eX (i + 1) (aN ⟨hi,he⟩ (aN ?_ ?_)))
    ·(repeat' (first | exact wA | exact Or.inl ((congrArg AV.s (lastK_succ hi).symm)) | refine aN ?_ ?_))
    ·show a.e.length - (i + 1) < a.e.length - i
     omega
  ·have hi:=geD hi hz
   rw [entF_end _ (by omega)] at he
   exact congrArg (AV.i .i64) he.symm
theorem s_oneFault (a:Val) (h0:0≤a.f) (h1:a.f≤18446744073709551615):PSpec Tryd.prog 31 [.agg (encVal a)] (.i .i64 (docF a)) :=
 pspec_of_VCs Γ_good Tryd.func31 rfl Tryd.call31 Tryd.results31 Tryd.ntmps31 (Nat.le_of_ble_eq_true rfl) (w_oneFault a h0 h1) Γ_good
end
end Go.Proofs.YtfeniggadfkakaaDoor
end
section
namespace Go.Proofs.YtfeniggadfkakaaDoor
open Go Go.SX Go.Ck Go.Vl Go.Ut
set_option maxRecDepth 100000
set_option maxHeartbeats 1000000
section
variable [G:Globs]
theorem w_fault (a:Val) (ha:VB a) (hn:(sizV a).2≤1000000000):vc Tryd.prog Γ 74 [1,2,3,4,5,6,7,9,11,17,26,29,34,38,39,40,41,55,56,57,58] (Tryd.f15.body.getD .skip) (postK Γ [.tmp 2] (fun v=>v = .i .i64 (chkT [⟨a,0⟩] 0))) ⟨argSlots 0 [.agg (encVal a)],[]⟩:=by
 have hpos:=siz_pos a
 generalize hR:chkT [⟨a,0⟩] 0 = R
 refine eX [] (eX [] (eX [(14,3)] (eX (List VPlace × Int) (eX (fun q=>(∀ p ∈ q.1,VB p.v∧0≤p.above∧p.above≤20)∧sumT q.1≤1000000000∧0≤q.2∧q.2≤2000∧R = chkT q.1 q.2) (eX (fun ⟨l,m⟩=>⟨[(3,.vec 3 .vplace l),(4,.i .i64 m)],[]⟩) (eX (fun q=>(sumT q.1).toNat) (eX ([⟨a,0⟩],0) (aN ⟨fun p hp=>by rw [List.mem_singleton.1 hp]; exact ⟨ha,Int.le_refl _,(show (0:Int)≤20 by decide)⟩,by simp only [sumT]; omega,Int.le_refl _,by omega,hR.symm⟩ (aN ?_ ?_)))))))))
 ·(repeat' (first | exact wA | exact Or.inl ((congrArg (fun x=>AV.vec 3 .vplace [x]) (vplace_eta a 0))) | refine aN ?_ ?_))
 ·rintro ⟨l,m⟩ ⟨hv,hs,hm0,hm,he⟩
  simp only at hv hs hm0 hm he
  intro hl
  refine aN (fun hz=>?_) (fun hz=>?_)
  ·obtain ⟨x, r, rfl⟩ : ∃ x r, l = x :: r := by
    cases l with
    | nil=>exact absurd (of_decide_eq_true hz) (by decide)
    | cons x r=>exact ⟨x,r,rfl⟩
   obtain ⟨hxb,hx0,hx1⟩:=hv x (.head _)
   have hlenr:((r.length:Nat):Int)≤sumT r:=sumT_len r
   have hsx:=siz_pos x.v
   have hsl:=siz_len x.v
   have hsum:sumT (x::r) = (sizV x.v).2 + sumT r:=rfl
   refine aN ⟨by omega,by simp only [List.length_cons]; omega⟩ ?_
   refine aN ⟨by omega,by simp only [List.length_cons]; omega⟩ ?_
   (refine rNG ?_)
   rw [chkT_step] at he
   refine aN (fun hq=>?_) (fun hq=>?_)
   ·rw [if_pos (of_decide_eq_true hq)] at he
    exact congrArg (AV.i .i64) he.symm
   rw [if_neg (of_decide_eq_false hq)] at he
   have hm2:¬ 2000 < m + 1:=of_decide_eq_false hq
   rw [oneF_doc] at he
   refine aN (fun hq=>?_) (fun hq=>?_)
   ·rw [if_pos (show 20≤x.above from of_decide_eq_true hq),if_pos (by decide)] at he
    exact congrArg (AV.i .i64) he.symm
   have ha20:¬ 20≤x.above:=of_decide_eq_false hq
   rw [if_neg ha20] at he
   have hfb:0≤x.v.f∧x.v.f≤18446744073709551615:=by cases hxb with | mk _ _ _ h3=>exact h3
   refine Or.inl (eX _ (aN (s_oneFault x.v hfb.1 hfb.2) ?_))
   refine aN (fun hq=>?_) (fun hq=>?_)
   ·have hq:docF x.v≠0:=by simpa using hq
    rw [if_pos hq] at he
    exact congrArg (AV.i .i64) he.symm
   have hd:¬ docF x.v≠0:=by simpa using hq
   rw [if_neg hd] at he
   intro hlv
   refine eX [(7,7,.vplace)] (eX [] (eX [] (eX Nat (eX (fun i=>i≤x.v.l.length) (eX (fun i=>⟨[(3,.vs 3 .vplace (x::r) 1),(4,.i .i64 (m + 1)),(5,.pt 5 0),(7,.vec 7 .vplace ((x.v.l.take i).map fun v=>(⟨v,x.above + 1⟩:VPlace))),(38,.rd .val x.v.l),(39,.i .i64 x.v.l.length),(40,.i .i64 i)],[(5,enc .vplace x)]⟩) (eX (fun i=>x.v.l.length - i) (eX 0 (aN (Nat.zero_le _) (aN ?_ ?_)))))))))
   ·exact wK
   ·rintro i hi
    refine aN (fun hz=>?_) (fun hz=>?_)
    ·have hi:=ltD hz
     have hg:=getI (τ:=.val) hi
     refine bN2 ?_
     rw [hg]
     (refine rNG ?_)
     refine aN (show (((x.v.l.take i).map fun v=>(⟨v,x.above + 1⟩:VPlace)).length + 1) * 96≤140737488355328 by rw [List.length_map,List.length_take]; omega) ?_
     (refine rNG ?_)
     refine eX [(51,7)] (eX (i + 1) (aN hi (aN ?_ ?_)))
     ·(repeat' (first | exact wA | exact Or.inl ((congrArg (AV.vec 7 .vplace) (by rw [take_snoc hi,List.map_append]; exact congrArg (fun p=>_++[p]) (vplace_eta _ _)))) | refine aN ?_ ?_))
     ·show x.v.l.length - (i + 1) < x.v.l.length - i
      omega
    ·have hi:=geD hi hz
     subst hi
     rw [List.take_length]
     intro hle
     refine eX [] (eX [] (eX [] (eX Nat (eX (fun i=>i≤x.v.e.length) (eX (fun i=>⟨[(3,.vs 3 .vplace (x::r) 1),(4,.i .i64 (m + 1)),(5,.pt 5 0),(7,.vec 7 .vplace ((x.v.l++(x.v.e.take i).map (·.2)).map fun v=>(⟨v,x.above + 1⟩:VPlace))),(55,.rd .ent x.v.e),(56,.i .i64 x.v.e.length),(57,.i .i64 i)],[(5,enc .vplace x)]⟩) (eX (fun i=>x.v.e.length - i) (eX 0 (aN (Nat.zero_le _) (aN ?_ ?_)))))))))
     ·(repeat' (first | exact wA | exact Or.inl ((congrArg (AV.vec 7 .vplace) (by rw [List.take_zero,List.map_nil,List.append_nil]))) | refine aN ?_ ?_))
     ·rintro i hi
      refine aN (fun hz=>?_) (fun hz=>?_)
      ·have hi:=ltD hz
       have hg:=getI (τ:=.ent) hi
       refine bN2 ?_
       rw [hg]
       (refine rNG ?_)
       refine aN (show (((x.v.l++(x.v.e.take i).map (·.2)).map fun v=>(⟨v,x.above + 1⟩:VPlace)).length + 1) * 96≤140737488355328 by rw [List.length_map,List.length_append,List.length_map,List.length_take]; omega) ?_
       (refine rNG ?_)
       have he2:x.v.l++(x.v.e.take (i + 1)).map (·.2) = (x.v.l++(x.v.e.take i).map (·.2))++[x.v.e[i].2]:=by rw [take_snoc hi,List.map_append,← List.append_assoc]; rfl
       refine eX [(69,7)] (eX (i + 1) (aN hi (aN ?_ ?_)))
       ·have he3 : (x.v.l ++ (x.v.e.take i).map (·.2)).map (fun v => (⟨v, x.above + 1⟩ : VPlace)) ++ [⟨⟨x.v.e[i].2.kind, x.v.e[i].2.n, x.v.e[i].2.f, x.v.e[i].2.s, x.v.e[i].2.l, x.v.e[i].2.e⟩, x.above + 1⟩] = (x.v.l ++ (x.v.e.take (i + 1)).map (·.2)).map (fun v => (⟨v, x.above + 1⟩ : VPlace)) := by
         rw [he2,vplace_eta]; exact (List.map_append (l₂:=[x.v.e[i].2])).symm
        (repeat' (first | exact wA | exact Or.inl ((congrArg (AV.vec 7 .vplace) he3)) | refine aN ?_ ?_))
       ·show x.v.e.length - (i + 1) < x.v.e.length - i
        omega
      ·have hi:=geD hi hz
       subst hi
       rw [List.take_length]
       have hpl:(x.v.l++x.v.e.map (·.2)).map (fun v=>(⟨v,x.above + 1⟩:VPlace)) = placesOf x:=rfl
       have hpl2:=sumT_parts x
       have hpll:=sumT_len (placesOf x)
       refine aN (show ((placesOf x).length + r.length) * 96≤140737488355328 by omega) ?_
       refine eX [(73,3)] (eX (placesOf x++r,m + 1) (aN ⟨fun p hp=>?_,by simp only; rw [sumT_append]; omega,by simp only; omega,by simp only; omega,he⟩ (aN ?_ ?_)))
       ·rcases List.mem_append.1 hp with hp | hp
        ·obtain ⟨y,hy,rfl⟩:=List.mem_map.1 hp
         refine ⟨?_,by simp only; omega,by simp only; omega⟩
         cases hxb with
         | mk _ _ _ _ h4 h5 =>
          rcases List.mem_append.1 hy with hy | hy
          ·exact h4 y hy
          ·obtain ⟨z,hz,rfl⟩:=List.mem_map.1 hy
           exact h5 z hz
        ·exact hv p (.tail _ hp)
       ·trace_state
        exact wK
       ·simp only
        rw [sumT_append]
        omega
  ·have hnil : l = [] := by
    cases l with
    | nil=>rfl
    | cons x r=>exact absurd (of_decide_eq_false hz) (by simp only [List.length_cons]; omega)
   subst hnil
   exact congrArg (AV.i .i64) he.symm
theorem s_fault (a:Val) (ha:VB a) (hn:(sizV a).2≤1000000000):PSpec Tryd.prog 15 [.agg (encVal a)] (.i .i64 (chkT [⟨a,0⟩] 0)) :=
 pspec_of_vc Γ_good Tryd.func15 rfl Tryd.call15 Tryd.results15 Tryd.ntmps15 (Nat.le_of_ble_eq_true rfl) (w_fault a ha hn)
end
end Go.Proofs.YtfeniggadfkakaaDoor
end
section
namespace Go.Proofs.YtfeniggadfkakaaDoor
open Go Go.SX Go.Ck Go.Vl Go.Ut
set_option maxRecDepth 100000
set_option maxHeartbeats 1000000
theorem and_mask {f:Int} (k:Nat) (hk:k≤63) (h0:0≤f) (h1:f≤18446744073709551615):bits .and .u64 f ((2 ^ k - 1:Nat):Int) = f % ((2 ^ k:Nat):Int):=by
 obtain ⟨n,rfl⟩:∃ n:Nat,f = n:=⟨f.toNat,by omega⟩
 have h2:2 ^ k≤2 ^ 63:=Nat.pow_le_pow_right (by decide) hk
 rw [bits_and_u64_nat _ _ (by omega) (by omega),Nat.and_two_pow_sub_one_eq_mod]
 rfl
theorem shr52 {f:Int}:f.fdiv (2 ^ min (Int.toNat 52) IntKind.u64.bits) = f / 4503599627370496:=by
 rw [show (2:Int) ^ min (Int.toNat 52) IntKind.u64.bits = 4503599627370496 from rfl,Int.fdiv_eq_ediv_of_nonneg _ (by decide)]
theorem expo {f:Int} (h0:0≤f) (h1:f≤18446744073709551615):bits .and .u64 (f.fdiv (2 ^ min (Int.toNat 52) IntKind.u64.bits)) 2047 = (f / 4503599627370496) % 2048:=by
 rw [shr52]
 exact and_mask 11 (by decide) (by omega) (by omega)
theorem frac {f:Int} (h0:0≤f) (h1:f≤18446744073709551615):bits .and .u64 f 4503599627370495 = f % 4503599627370496:=and_mask 52 (by decide) h0 h1
section
variable [G:Globs]
abbrev ownS (a:Val) (t:Bool):St:=⟨[(2,.pt 2 0),(4,.i .i64 0),(5,.b (decide (a.kind = 1∨a.kind = 2))),(6,.i .u64 ((a.f / 4503599627370496) % 2048)),(7,.i .u64 (a.f % 4503599627370496)),(25,.b t)],[(2,encVal a)]⟩
theorem w_ownP (a:Val) (above:Int) (hu:HasU8) (h0:0≤a.f) (h1:a.f≤18446744073709551615):VCs Tryd.prog Γ 121 [1,2,4,5,6,7,9,25,99,116] (Tryd.f72.body.getD .skip) (postK Γ [.tmp 4] (fun v=>v = .i .i64 (ownF a above))) ⟨argSlots 0 [.agg (encVal a),.i .i64 above],[]⟩:=by
 refine VCs.seq (by first | exact Γ_good | exact Ctx.good_kp Γ_good _) ?_
 refine VCs.cut (by first | exact Γ_good | exact Ctx.good_kp Γ_good _) Unit (fun _=>¬ 20≤above) (fun _=>⟨[(2,.pt 2 0),(4,.i .i64 0)],[(2,encVal a)]⟩) ?_ ?_
 ·(repeat' (first | (refine aN (fun h=>?_) (fun h=>?_)<;>(try simp [-List.getD_eq_getElem?_getD,-Int.pred_toNat] at h)<;>(try (exfalso; first | omega | contradiction))) | refine bX ?_ | intro _))
  all_goals first | (refine eX () (aN (by omega) ?_); exact wK) | (refine congrArg (AV.i .i64) ?_; rw [ownF,if_pos (by omega)])
 intro _ k1
 refine VCs.cut (by first | exact Γ_good | exact Ctx.good_kp Γ_good _) Unit (fun _=>True) (fun _=>⟨[(2,.pt 2 0),(4,.i .i64 0),(5,.b (decide (a.kind = 1∨a.kind = 2)))],[(2,encVal a)]⟩) ?_ ?_
 ·(repeat' (first | (refine aN (fun h=>?_) (fun h=>?_)<;>(try simp [-List.getD_eq_getElem?_getD,-Int.pred_toNat] at h)<;>(try (exfalso; first | omega | contradiction))) | refine bX ?_ | intro _))
  all_goals refine eX () (aN trivial ?_)
  all_goals (repeat' (first | exact wA | exact Or.inl ((congrArg AV.b (by (rw [Bool.eq_iff_iff]; (try simp only [beq_iff_eq,bne_iff_ne,beq_eq_false_iff_ne,bne_eq_false_iff_eq,decide_eq_true_eq,decide_eq_false_iff_not,Bool.not_eq_true',Bool.not_eq_false',Bool.not_true,Bool.not_false,ne_eq,Decidable.not_not,gt_iff_lt,ge_iff_le,Int.not_lt,Int.not_le,Bool.cond_true,Bool.cond_false,cond_true,cond_false,Int.reduceBNe,Int.reduceBEq,Int.reduceLT,Int.reduceLE,Int.reduceEq,Int.reduceNe,not_true_eq_false,not_false_eq_true,Bool.false_eq_true,Bool.true_eq_false,reduceCtorEq,Bool.and_eq_true,Bool.or_eq_true,Bool.and_eq_false_iff,Bool.or_eq_false_iff,Bool.true_and,Bool.and_true,Bool.false_and,Bool.and_false,Bool.or_false,Bool.false_or,Bool.or_true,Bool.true_or,bne_iff_ne,List.length_pos_iff,Int.natCast_pos,Int.ofNat_lt,Int.ofNat_le] at *); first | done | omega | grind)))) | refine aN ?_ ?_))
 intro _ _
 refine VCs.cut (by first | exact Γ_good | exact Ctx.good_kp Γ_good _) Unit (fun _=>True) (fun _=>⟨[(2,.pt 2 0),(4,.i .i64 0),(5,.b (decide (a.kind = 1∨a.kind = 2))),(6,.i .u64 ((a.f / 4503599627370496) % 2048)),(7,.i .u64 (a.f % 4503599627370496))],[(2,encVal a)]⟩) ?_ ?_
 ·refine eX [.blk [0,1,2,3,4,5,6,7,8]] (aN (by kernel_rfl) ?_)
  refine aN (by decide) ?_
  refine eX () (aN trivial ?_)
  rw [expo h0 h1,frac h0 h1]
  exact wK
 intro _ _
 refine VCs.seqS ?_
 refine VCs.block ?_
 refine VCs.cutS Unit (fun _=>True) (fun _=>ownS a (decide (kindBad a))) ?_ ?_
 ·refine VCs.cut (by first | exact Γ_good | exact Ctx.good_kp Γ_good _) Unit (fun _=>True) (fun _=>ownS a (decide (a.kind < 0∨6 < a.kind))) ?_ ?_
  ·(repeat' (first | (refine aN (fun h=>?_) (fun h=>?_)<;>(try simp [-List.getD_eq_getElem?_getD,-Int.pred_toNat] at h)<;>(try (exfalso; first | omega | contradiction))) | refine bX ?_ | intro _))
   all_goals refine eX () (aN trivial ?_)
   all_goals (repeat' (first | exact wA | exact Or.inl ((congrArg AV.b (by (try unfold oddF at *); (rw [Bool.eq_iff_iff]; (try simp only [beq_iff_eq,bne_iff_ne,beq_eq_false_iff_ne,bne_eq_false_iff_eq,decide_eq_true_eq,decide_eq_false_iff_not,Bool.not_eq_true',Bool.not_eq_false',Bool.not_true,Bool.not_false,ne_eq,Decidable.not_not,gt_iff_lt,ge_iff_le,Int.not_lt,Int.not_le,Bool.cond_true,Bool.cond_false,cond_true,cond_false,Int.reduceBNe,Int.reduceBEq,Int.reduceLT,Int.reduceLE,Int.reduceEq,Int.reduceNe,not_true_eq_false,not_false_eq_true,Bool.false_eq_true,Bool.true_eq_false,reduceCtorEq,Bool.and_eq_true,Bool.or_eq_true,Bool.and_eq_false_iff,Bool.or_eq_false_iff,Bool.true_and,Bool.and_true,Bool.false_and,Bool.and_false,Bool.or_false,Bool.false_or,Bool.or_true,Bool.true_or,bne_iff_ne,List.length_pos_iff,Int.natCast_pos,Int.ofNat_lt,Int.ofNat_le] at *); first | done | omega | grind)))) | refine aN ?_ ?_))
  intro _ _
  refine VCs.cond rfl (fun h=>?_) (fun h=>?_)
  ·refine VCs.of_vc (by first | exact Γ_good | exact Ctx.good_kp Γ_good _) ?_
   refine eX () (aN trivial ?_)
   (repeat' (first | exact wA | exact Or.inl ((congrArg AV.b (by (try unfold kindBad at *); (try unfold oddF at *); (rw [Bool.eq_iff_iff]; (try simp only [beq_iff_eq,bne_iff_ne,beq_eq_false_iff_ne,bne_eq_false_iff_eq,decide_eq_true_eq,decide_eq_false_iff_not,Bool.not_eq_true',Bool.not_eq_false',Bool.not_true,Bool.not_false,ne_eq,Decidable.not_not,gt_iff_lt,ge_iff_le,Int.not_lt,Int.not_le,Bool.cond_true,Bool.cond_false,cond_true,cond_false,Int.reduceBNe,Int.reduceBEq,Int.reduceLT,Int.reduceLE,Int.reduceEq,Int.reduceNe,not_true_eq_false,not_false_eq_true,Bool.false_eq_true,Bool.true_eq_false,reduceCtorEq,Bool.and_eq_true,Bool.or_eq_true,Bool.and_eq_false_iff,Bool.or_eq_false_iff,Bool.true_and,Bool.and_true,Bool.false_and,Bool.and_false,Bool.or_false,Bool.false_or,Bool.or_true,Bool.true_or,bne_iff_ne,List.length_pos_iff,Int.natCast_pos,Int.ofNat_lt,Int.ofNat_le] at *); first | done | omega | grind)))) | refine aN ?_ ?_))
  replace h:=of_decide_eq_false h
  refine VCs.cut (by first | exact Γ_good | exact Ctx.good_kp Γ_good _) Unit (fun _=>True) (fun _=>ownS a (decide (a.kind≠1∧a.kind≠2∧a.n≠0))) ?_ ?_
  ·(repeat' (first | (refine aN (fun h=>?_) (fun h=>?_)<;>(try simp [-List.getD_eq_getElem?_getD,-Int.pred_toNat] at h)<;>(try (exfalso; first | omega | contradiction))) | refine bX ?_ | intro _))
   all_goals refine eX () (aN trivial ?_)
   all_goals (repeat' (first | exact wA | exact Or.inl ((congrArg AV.b (by (try unfold oddF at *); (rw [Bool.eq_iff_iff]; (try simp only [beq_iff_eq,bne_iff_ne,beq_eq_false_iff_ne,bne_eq_false_iff_eq,decide_eq_true_eq,decide_eq_false_iff_not,Bool.not_eq_true',Bool.not_eq_false',Bool.not_true,Bool.not_false,ne_eq,Decidable.not_not,gt_iff_lt,ge_iff_le,Int.not_lt,Int.not_le,Bool.cond_true,Bool.cond_false,cond_true,cond_false,Int.reduceBNe,Int.reduceBEq,Int.reduceLT,Int.reduceLE,Int.reduceEq,Int.reduceNe,not_true_eq_false,not_false_eq_true,Bool.false_eq_true,Bool.true_eq_false,reduceCtorEq,Bool.and_eq_true,Bool.or_eq_true,Bool.and_eq_false_iff,Bool.or_eq_false_iff,Bool.true_and,Bool.and_true,Bool.false_and,Bool.and_false,Bool.or_false,Bool.false_or,Bool.or_true,Bool.true_or,bne_iff_ne,List.length_pos_iff,Int.natCast_pos,Int.ofNat_lt,Int.ofNat_le] at *); first | done | omega | grind)))) | refine aN ?_ ?_))
  intro _ _
  refine VCs.cond rfl (fun h=>?_) (fun h=>?_)
  ·refine VCs.of_vc (by first | exact Γ_good | exact Ctx.good_kp Γ_good _) ?_
   refine eX () (aN trivial ?_)
   (repeat' (first | exact wA | exact Or.inl ((congrArg AV.b (by (try unfold kindBad at *); (try unfold oddF at *); (rw [Bool.eq_iff_iff]; (try simp only [beq_iff_eq,bne_iff_ne,beq_eq_false_iff_ne,bne_eq_false_iff_eq,decide_eq_true_eq,decide_eq_false_iff_not,Bool.not_eq_true',Bool.not_eq_false',Bool.not_true,Bool.not_false,ne_eq,Decidable.not_not,gt_iff_lt,ge_iff_le,Int.not_lt,Int.not_le,Bool.cond_true,Bool.cond_false,cond_true,cond_false,Int.reduceBNe,Int.reduceBEq,Int.reduceLT,Int.reduceLE,Int.reduceEq,Int.reduceNe,not_true_eq_false,not_false_eq_true,Bool.false_eq_true,Bool.true_eq_false,reduceCtorEq,Bool.and_eq_true,Bool.or_eq_true,Bool.and_eq_false_iff,Bool.or_eq_false_iff,Bool.true_and,Bool.and_true,Bool.false_and,Bool.and_false,Bool.or_false,Bool.false_or,Bool.or_true,Bool.true_or,bne_iff_ne,List.length_pos_iff,Int.natCast_pos,Int.ofNat_lt,Int.ofNat_le] at *); first | done | omega | grind)))) | refine aN ?_ ?_))
  replace h:=of_decide_eq_false h
  refine VCs.cut (by first | exact Γ_good | exact Ctx.good_kp Γ_good _) Unit (fun _=>True) (fun _=>ownS a (decide (a.kind = 1∧a.n≠0∧a.n≠1))) ?_ ?_
  ·(repeat' (first | (refine aN (fun h=>?_) (fun h=>?_)<;>(try simp [-List.getD_eq_getElem?_getD,-Int.pred_toNat] at h)<;>(try (exfalso; first | omega | contradiction))) | refine bX ?_ | intro _))
   all_goals refine eX () (aN trivial ?_)
   all_goals (repeat' (first | exact wA | exact Or.inl ((congrArg AV.b (by (try unfold oddF at *); (rw [Bool.eq_iff_iff]; (try simp only [beq_iff_eq,bne_iff_ne,beq_eq_false_iff_ne,bne_eq_false_iff_eq,decide_eq_true_eq,decide_eq_false_iff_not,Bool.not_eq_true',Bool.not_eq_false',Bool.not_true,Bool.not_false,ne_eq,Decidable.not_not,gt_iff_lt,ge_iff_le,Int.not_lt,Int.not_le,Bool.cond_true,Bool.cond_false,cond_true,cond_false,Int.reduceBNe,Int.reduceBEq,Int.reduceLT,Int.reduceLE,Int.reduceEq,Int.reduceNe,not_true_eq_false,not_false_eq_true,Bool.false_eq_true,Bool.true_eq_false,reduceCtorEq,Bool.and_eq_true,Bool.or_eq_true,Bool.and_eq_false_iff,Bool.or_eq_false_iff,Bool.true_and,Bool.and_true,Bool.false_and,Bool.and_false,Bool.or_false,Bool.false_or,Bool.or_true,Bool.true_or,bne_iff_ne,List.length_pos_iff,Int.natCast_pos,Int.ofNat_lt,Int.ofNat_le] at *); first | done | omega | grind)))) | refine aN ?_ ?_))
  intro _ _
  refine VCs.cond rfl (fun h=>?_) (fun h=>?_)
  ·refine VCs.of_vc (by first | exact Γ_good | exact Ctx.good_kp Γ_good _) ?_
   refine eX () (aN trivial ?_)
   (repeat' (first | exact wA | exact Or.inl ((congrArg AV.b (by (try unfold kindBad at *); (try unfold oddF at *); (rw [Bool.eq_iff_iff]; (try simp only [beq_iff_eq,bne_iff_ne,beq_eq_false_iff_ne,bne_eq_false_iff_eq,decide_eq_true_eq,decide_eq_false_iff_not,Bool.not_eq_true',Bool.not_eq_false',Bool.not_true,Bool.not_false,ne_eq,Decidable.not_not,gt_iff_lt,ge_iff_le,Int.not_lt,Int.not_le,Bool.cond_true,Bool.cond_false,cond_true,cond_false,Int.reduceBNe,Int.reduceBEq,Int.reduceLT,Int.reduceLE,Int.reduceEq,Int.reduceNe,not_true_eq_false,not_false_eq_true,Bool.false_eq_true,Bool.true_eq_false,reduceCtorEq,Bool.and_eq_true,Bool.or_eq_true,Bool.and_eq_false_iff,Bool.or_eq_false_iff,Bool.true_and,Bool.and_true,Bool.false_and,Bool.and_false,Bool.or_false,Bool.false_or,Bool.or_true,Bool.true_or,bne_iff_ne,List.length_pos_iff,Int.natCast_pos,Int.ofNat_lt,Int.ofNat_le] at *); first | done | omega | grind)))) | refine aN ?_ ?_))
  replace h:=of_decide_eq_false h
  refine VCs.cut (by first | exact Γ_good | exact Ctx.good_kp Γ_good _) Unit (fun _=>True) (fun _=>ownS a (decide (a.kind≠3∧a.f≠0))) ?_ ?_
  ·(repeat' (first | (refine aN (fun h=>?_) (fun h=>?_)<;>(try simp [-List.getD_eq_getElem?_getD,-Int.pred_toNat] at h)<;>(try (exfalso; first | omega | contradiction))) | refine bX ?_ | intro _))
   all_goals refine eX () (aN trivial ?_)
   all_goals (repeat' (first | exact wA | exact Or.inl ((congrArg AV.b (by (try unfold oddF at *); (rw [Bool.eq_iff_iff]; (try simp only [beq_iff_eq,bne_iff_ne,beq_eq_false_iff_ne,bne_eq_false_iff_eq,decide_eq_true_eq,decide_eq_false_iff_not,Bool.not_eq_true',Bool.not_eq_false',Bool.not_true,Bool.not_false,ne_eq,Decidable.not_not,gt_iff_lt,ge_iff_le,Int.not_lt,Int.not_le,Bool.cond_true,Bool.cond_false,cond_true,cond_false,Int.reduceBNe,Int.reduceBEq,Int.reduceLT,Int.reduceLE,Int.reduceEq,Int.reduceNe,not_true_eq_false,not_false_eq_true,Bool.false_eq_true,Bool.true_eq_false,reduceCtorEq,Bool.and_eq_true,Bool.or_eq_true,Bool.and_eq_false_iff,Bool.or_eq_false_iff,Bool.true_and,Bool.and_true,Bool.false_and,Bool.and_false,Bool.or_false,Bool.false_or,Bool.or_true,Bool.true_or,bne_iff_ne,List.length_pos_iff,Int.natCast_pos,Int.ofNat_lt,Int.ofNat_le] at *); first | done | omega | grind)))) | refine aN ?_ ?_))
  intro _ _
  refine VCs.cond rfl (fun h=>?_) (fun h=>?_)
  ·refine VCs.of_vc (by first | exact Γ_good | exact Ctx.good_kp Γ_good _) ?_
   refine eX () (aN trivial ?_)
   (repeat' (first | exact wA | exact Or.inl ((congrArg AV.b (by (try unfold kindBad at *); (try unfold oddF at *); (rw [Bool.eq_iff_iff]; (try simp only [beq_iff_eq,bne_iff_ne,beq_eq_false_iff_ne,bne_eq_false_iff_eq,decide_eq_true_eq,decide_eq_false_iff_not,Bool.not_eq_true',Bool.not_eq_false',Bool.not_true,Bool.not_false,ne_eq,Decidable.not_not,gt_iff_lt,ge_iff_le,Int.not_lt,Int.not_le,Bool.cond_true,Bool.cond_false,cond_true,cond_false,Int.reduceBNe,Int.reduceBEq,Int.reduceLT,Int.reduceLE,Int.reduceEq,Int.reduceNe,not_true_eq_false,not_false_eq_true,Bool.false_eq_true,Bool.true_eq_false,reduceCtorEq,Bool.and_eq_true,Bool.or_eq_true,Bool.and_eq_false_iff,Bool.or_eq_false_iff,Bool.true_and,Bool.and_true,Bool.false_and,Bool.and_false,Bool.or_false,Bool.false_or,Bool.or_true,Bool.true_or,bne_iff_ne,List.length_pos_iff,Int.natCast_pos,Int.ofNat_lt,Int.ofNat_le] at *); first | done | omega | grind)))) | refine aN ?_ ?_))
  replace h:=of_decide_eq_false h
  refine VCs.cut (by first | exact Γ_good | exact Ctx.good_kp Γ_good _) Unit (fun _=>True) (fun _=>ownS a (decide (oddF a.f))) ?_ ?_
  ·(repeat' (first | (refine aN (fun h=>?_) (fun h=>?_)<;>(try simp [-List.getD_eq_getElem?_getD,-Int.pred_toNat] at h)<;>(try (exfalso; first | omega | contradiction))) | refine bX ?_ | intro _))
   all_goals refine eX () (aN trivial ?_)
   all_goals (repeat' (first | exact wA | exact Or.inl ((congrArg AV.b (by (try unfold oddF at *); (rw [Bool.eq_iff_iff]; (try simp only [beq_iff_eq,bne_iff_ne,beq_eq_false_iff_ne,bne_eq_false_iff_eq,decide_eq_true_eq,decide_eq_false_iff_not,Bool.not_eq_true',Bool.not_eq_false',Bool.not_true,Bool.not_false,ne_eq,Decidable.not_not,gt_iff_lt,ge_iff_le,Int.not_lt,Int.not_le,Bool.cond_true,Bool.cond_false,cond_true,cond_false,Int.reduceBNe,Int.reduceBEq,Int.reduceLT,Int.reduceLE,Int.reduceEq,Int.reduceNe,not_true_eq_false,not_false_eq_true,Bool.false_eq_true,Bool.true_eq_false,reduceCtorEq,Bool.and_eq_true,Bool.or_eq_true,Bool.and_eq_false_iff,Bool.or_eq_false_iff,Bool.true_and,Bool.and_true,Bool.false_and,Bool.and_false,Bool.or_false,Bool.false_or,Bool.or_true,Bool.true_or,bne_iff_ne,List.length_pos_iff,Int.natCast_pos,Int.ofNat_lt,Int.ofNat_le] at *); first | done | omega | grind)))) | refine aN ?_ ?_))
  intro _ _
  refine VCs.cond rfl (fun h=>?_) (fun h=>?_)
  ·refine VCs.of_vc (by first | exact Γ_good | exact Ctx.good_kp Γ_good _) ?_
   refine eX () (aN trivial ?_)
   (repeat' (first | exact wA | exact Or.inl ((congrArg AV.b (by (try unfold kindBad at *); (try unfold oddF at *); (rw [Bool.eq_iff_iff]; (try simp only [beq_iff_eq,bne_iff_ne,beq_eq_false_iff_ne,bne_eq_false_iff_eq,decide_eq_true_eq,decide_eq_false_iff_not,Bool.not_eq_true',Bool.not_eq_false',Bool.not_true,Bool.not_false,ne_eq,Decidable.not_not,gt_iff_lt,ge_iff_le,Int.not_lt,Int.not_le,Bool.cond_true,Bool.cond_false,cond_true,cond_false,Int.reduceBNe,Int.reduceBEq,Int.reduceLT,Int.reduceLE,Int.reduceEq,Int.reduceNe,not_true_eq_false,not_false_eq_true,Bool.false_eq_true,Bool.true_eq_false,reduceCtorEq,Bool.and_eq_true,Bool.or_eq_true,Bool.and_eq_false_iff,Bool.or_eq_false_iff,Bool.true_and,Bool.and_true,Bool.false_and,Bool.and_false,Bool.or_false,Bool.false_or,Bool.or_true,Bool.true_or,bne_iff_ne,List.length_pos_iff,Int.natCast_pos,Int.ofNat_lt,Int.ofNat_le] at *); first | done | omega | grind)))) | refine aN ?_ ?_))
  replace h:=of_decide_eq_false h
  refine VCs.cut (by first | exact Γ_good | exact Ctx.good_kp Γ_good _) Unit (fun _=>True) (fun _=>ownS a (decide (a.kind≠4∧a.s≠[]))) ?_ ?_
  ·(repeat' (first | (refine aN (fun h=>?_) (fun h=>?_)<;>(try simp [-List.getD_eq_getElem?_getD,-Int.pred_toNat] at h)<;>(try (exfalso; first | omega | contradiction))) | refine bX ?_ | intro _))
   all_goals refine eX () (aN trivial ?_)
   all_goals (repeat' (first | exact wA | exact Or.inl ((congrArg AV.b (by (try unfold oddF at *); (rw [Bool.eq_iff_iff]; (try simp only [beq_iff_eq,bne_iff_ne,beq_eq_false_iff_ne,bne_eq_false_iff_eq,decide_eq_true_eq,decide_eq_false_iff_not,Bool.not_eq_true',Bool.not_eq_false',Bool.not_true,Bool.not_false,ne_eq,Decidable.not_not,gt_iff_lt,ge_iff_le,Int.not_lt,Int.not_le,Bool.cond_true,Bool.cond_false,cond_true,cond_false,Int.reduceBNe,Int.reduceBEq,Int.reduceLT,Int.reduceLE,Int.reduceEq,Int.reduceNe,not_true_eq_false,not_false_eq_true,Bool.false_eq_true,Bool.true_eq_false,reduceCtorEq,Bool.and_eq_true,Bool.or_eq_true,Bool.and_eq_false_iff,Bool.or_eq_false_iff,Bool.true_and,Bool.and_true,Bool.false_and,Bool.and_false,Bool.or_false,Bool.false_or,Bool.or_true,Bool.true_or,bne_iff_ne,List.length_pos_iff,Int.natCast_pos,Int.ofNat_lt,Int.ofNat_le] at *); first | done | omega | grind)))) | refine aN ?_ ?_))
  intro _ _
  refine VCs.cond rfl (fun h=>?_) (fun h=>?_)
  ·refine VCs.of_vc (by first | exact Γ_good | exact Ctx.good_kp Γ_good _) ?_
   refine eX () (aN trivial ?_)
   (repeat' (first | exact wA | exact Or.inl ((congrArg AV.b (by (try unfold kindBad at *); (try unfold oddF at *); (rw [Bool.eq_iff_iff]; (try simp only [beq_iff_eq,bne_iff_ne,beq_eq_false_iff_ne,bne_eq_false_iff_eq,decide_eq_true_eq,decide_eq_false_iff_not,Bool.not_eq_true',Bool.not_eq_false',Bool.not_true,Bool.not_false,ne_eq,Decidable.not_not,gt_iff_lt,ge_iff_le,Int.not_lt,Int.not_le,Bool.cond_true,Bool.cond_false,cond_true,cond_false,Int.reduceBNe,Int.reduceBEq,Int.reduceLT,Int.reduceLE,Int.reduceEq,Int.reduceNe,not_true_eq_false,not_false_eq_true,Bool.false_eq_true,Bool.true_eq_false,reduceCtorEq,Bool.and_eq_true,Bool.or_eq_true,Bool.and_eq_false_iff,Bool.or_eq_false_iff,Bool.true_and,Bool.and_true,Bool.false_and,Bool.and_false,Bool.or_false,Bool.false_or,Bool.or_true,Bool.true_or,bne_iff_ne,List.length_pos_iff,Int.natCast_pos,Int.ofNat_lt,Int.ofNat_le] at *); first | done | omega | grind)))) | refine aN ?_ ?_))
  replace h:=of_decide_eq_false h
  refine VCs.cut (by first | exact Γ_good | exact Ctx.good_kp Γ_good _) Unit (fun _=>True) (fun _=>ownS a (decide (a.kind≠5∧0 < a.l.length))) ?_ ?_
  ·(repeat' (first | (refine aN (fun h=>?_) (fun h=>?_)<;>(try simp [-List.getD_eq_getElem?_getD,-Int.pred_toNat] at h)<;>(try (exfalso; first | omega | contradiction))) | refine bX ?_ | intro _))
   all_goals refine eX () (aN trivial ?_)
   all_goals (repeat' (first | exact wA | exact Or.inl ((congrArg AV.b (by (try unfold oddF at *); (rw [Bool.eq_iff_iff]; (try simp only [beq_iff_eq,bne_iff_ne,beq_eq_false_iff_ne,bne_eq_false_iff_eq,decide_eq_true_eq,decide_eq_false_iff_not,Bool.not_eq_true',Bool.not_eq_false',Bool.not_true,Bool.not_false,ne_eq,Decidable.not_not,gt_iff_lt,ge_iff_le,Int.not_lt,Int.not_le,Bool.cond_true,Bool.cond_false,cond_true,cond_false,Int.reduceBNe,Int.reduceBEq,Int.reduceLT,Int.reduceLE,Int.reduceEq,Int.reduceNe,not_true_eq_false,not_false_eq_true,Bool.false_eq_true,Bool.true_eq_false,reduceCtorEq,Bool.and_eq_true,Bool.or_eq_true,Bool.and_eq_false_iff,Bool.or_eq_false_iff,Bool.true_and,Bool.and_true,Bool.false_and,Bool.and_false,Bool.or_false,Bool.false_or,Bool.or_true,Bool.true_or,bne_iff_ne,List.length_pos_iff,Int.natCast_pos,Int.ofNat_lt,Int.ofNat_le] at *); first | done | omega | grind)))) | refine aN ?_ ?_))
  intro _ _
  refine VCs.cond rfl (fun h=>?_) (fun h=>?_)
  ·refine VCs.of_vc (by first | exact Γ_good | exact Ctx.good_kp Γ_good _) ?_
   refine eX () (aN trivial ?_)
   (repeat' (first | exact wA | exact Or.inl ((congrArg AV.b (by (try unfold kindBad at *); (try unfold oddF at *); (rw [Bool.eq_iff_iff]; (try simp only [beq_iff_eq,bne_iff_ne,beq_eq_false_iff_ne,bne_eq_false_iff_eq,decide_eq_true_eq,decide_eq_false_iff_not,Bool.not_eq_true',Bool.not_eq_false',Bool.not_true,Bool.not_false,ne_eq,Decidable.not_not,gt_iff_lt,ge_iff_le,Int.not_lt,Int.not_le,Bool.cond_true,Bool.cond_false,cond_true,cond_false,Int.reduceBNe,Int.reduceBEq,Int.reduceLT,Int.reduceLE,Int.reduceEq,Int.reduceNe,not_true_eq_false,not_false_eq_true,Bool.false_eq_true,Bool.true_eq_false,reduceCtorEq,Bool.and_eq_true,Bool.or_eq_true,Bool.and_eq_false_iff,Bool.or_eq_false_iff,Bool.true_and,Bool.and_true,Bool.false_and,Bool.and_false,Bool.or_false,Bool.false_or,Bool.or_true,Bool.true_or,bne_iff_ne,List.length_pos_iff,Int.natCast_pos,Int.ofNat_lt,Int.ofNat_le] at *); first | done | omega | grind)))) | refine aN ?_ ?_))
  replace h:=of_decide_eq_false h
  refine VCs.of_vc (by first | exact Γ_good | exact Ctx.good_kp Γ_good _) ?_
  (repeat' (first | (refine aN (fun h=>?_) (fun h=>?_)<;>(try simp [-List.getD_eq_getElem?_getD,-Int.pred_toNat] at h)<;>(try (exfalso; first | omega | contradiction))) | refine bX ?_ | intro _))
  all_goals refine eX () (aN trivial ?_)
  all_goals (repeat' (first | exact wA | exact Or.inl ((congrArg AV.b (by (try unfold kindBad at *); (try unfold oddF at *); (rw [Bool.eq_iff_iff]; (try simp only [beq_iff_eq,bne_iff_ne,beq_eq_false_iff_ne,bne_eq_false_iff_eq,decide_eq_true_eq,decide_eq_false_iff_not,Bool.not_eq_true',Bool.not_eq_false',Bool.not_true,Bool.not_false,ne_eq,Decidable.not_not,gt_iff_lt,ge_iff_le,Int.not_lt,Int.not_le,Bool.cond_true,Bool.cond_false,cond_true,cond_false,Int.reduceBNe,Int.reduceBEq,Int.reduceLT,Int.reduceLE,Int.reduceEq,Int.reduceNe,not_true_eq_false,not_false_eq_true,Bool.false_eq_true,Bool.true_eq_false,reduceCtorEq,Bool.and_eq_true,Bool.or_eq_true,Bool.and_eq_false_iff,Bool.or_eq_false_iff,Bool.true_and,Bool.and_true,Bool.false_and,Bool.and_false,Bool.or_false,Bool.false_or,Bool.or_true,Bool.true_or,bne_iff_ne,List.length_pos_iff,Int.natCast_pos,Int.ofNat_lt,Int.ofNat_le] at *); first | done | omega | grind)))) | refine aN ?_ ?_))
 intro _ _
 refine VCs.cond rfl (fun h=>?_) (fun h=>?_)
 ·have hk:kindBad a:=of_decide_eq_true h
  refine VCs.of_vc (by first | exact Γ_good | exact Ctx.good_kp Γ_good _) ?_
  refine congrArg (AV.i .i64) ?_
  rw [ownF,if_neg k1,if_pos hk]
 have hk:¬ kindBad a:=of_decide_eq_false h
 refine VCs.cut (by first | exact Γ_good | exact Ctx.good_kp Γ_good _) Unit (fun _=>True) (fun _=>⟨[(2,.pt 2 0),(99,.b (decide (4000 < a.s.length∨200 < a.l.length∨200 < a.e.length)))],[(2,encVal a)]⟩) ?_ ?_
 ·(repeat' (first | (refine aN (fun h=>?_) (fun h=>?_)<;>(try simp [-List.getD_eq_getElem?_getD,-Int.pred_toNat] at h)<;>(try (exfalso; first | omega | contradiction))) | refine bX ?_ | intro _))
  all_goals refine eX () (aN trivial ?_)
  all_goals (repeat' (first | exact wA | exact Or.inl ((congrArg AV.b (by (rw [Bool.eq_iff_iff]; (try simp only [beq_iff_eq,bne_iff_ne,beq_eq_false_iff_ne,bne_eq_false_iff_eq,decide_eq_true_eq,decide_eq_false_iff_not,Bool.not_eq_true',Bool.not_eq_false',Bool.not_true,Bool.not_false,ne_eq,Decidable.not_not,gt_iff_lt,ge_iff_le,Int.not_lt,Int.not_le,Bool.cond_true,Bool.cond_false,cond_true,cond_false,Int.reduceBNe,Int.reduceBEq,Int.reduceLT,Int.reduceLE,Int.reduceEq,Int.reduceNe,not_true_eq_false,not_false_eq_true,Bool.false_eq_true,Bool.true_eq_false,reduceCtorEq,Bool.and_eq_true,Bool.or_eq_true,Bool.and_eq_false_iff,Bool.or_eq_false_iff,Bool.true_and,Bool.and_true,Bool.false_and,Bool.and_false,Bool.or_false,Bool.false_or,Bool.or_true,Bool.true_or,bne_iff_ne,List.length_pos_iff,Int.natCast_pos,Int.ofNat_lt,Int.ofNat_le] at *); first | done | omega | grind)))) | refine aN ?_ ?_))
 intro _ _
 refine VCs.cond rfl (fun h=>?_) (fun h=>?_)
 ·refine VCs.of_vc (by first | exact Γ_good | exact Ctx.good_kp Γ_good _) ?_
  refine congrArg (AV.i .i64) ?_
  rw [ownF,if_neg k1,if_neg hk,if_pos (of_decide_eq_true h)]
 have hk2:=of_decide_eq_false h
 refine VCs.of_vc (by first | exact Γ_good | exact Ctx.good_kp Γ_good _) ?_
 refine Or.inl (eX _ (aN (s_Bad hu a.s) ?_))
 refine aN (fun hq=>?_) (fun hq=>?_)
 ·refine congrArg (AV.i .i64) ?_
  rw [ownF,if_neg k1,if_neg hk,if_neg hk2,if_pos (of_decide_eq_true hq)]
 ·refine VCs.of_vc (by first | exact Γ_good | exact Ctx.good_kp Γ_good _) ?_
  refine congrArg (AV.i .i64) ?_
  rw [ownF,if_neg k1,if_neg hk,if_neg hk2,if_neg (of_decide_eq_false hq)]
theorem s_ownP (a:Val) (above:Int) (hu:HasU8) (h0:0≤a.f) (h1:a.f≤18446744073709551615):PSpec Tryd.prog 72 [.agg (encVal a),.i .i64 above] (.i .i64 (ownF a above)) :=
 pspec_of_VCs Γ_good Tryd.func72 rfl Tryd.call72 Tryd.results72 Tryd.ntmps72 (Nat.le_of_ble_eq_true rfl) (w_ownP a above hu h0 h1) Γ_good
end
end Go.Proofs.YtfeniggadfkakaaDoor
end
section
namespace Go.Proofs.YtfeniggadfkakaaDoor
open Go Go.SX Go.Ck Go.Vl Go.Ut
set_option maxRecDepth 100000
set_option maxHeartbeats 1000000
section
variable [G:Globs]
theorem check_step (hu : HasU8) (y : Val) (above m : Int) (hy : VB y) (hn : (sizV y).2 ≤ 1000000000) (h0 : 0 ≤ above) (h1 : above ≤ 20) (hm0 : 0 ≤ m) (hm1 : m ≤ 2000)
  (hc:¬ 20≤above→∀ x ∈ partsOf y,∀ k,0≤k→k≤2000→CSpec Tryd.prog 48 [.agg (encVal x),.i .i64 (above + 1),.pt 1000 0] [(1000,[.i .i64 k])] (.i .i64 (chkV x (above + 1) k).1) [(1000,[.i .i64 (chkV x (above + 1) k).2])]) :
  CSpec Tryd.prog 48 [.agg (encVal y),.i .i64 above,.pt 1000 0] [(1000,[.i .i64 m])] (.i .i64 (chkV y above m).1) [(1000,[.i .i64 (chkV y above m).2])]:=by
 have hlen:=siz_len y
 have hfb:0≤y.f∧y.f≤18446744073709551615:=by cases hy with | mk _ _ _ h3=>exact h3
 refine cspec_of_VCf (L:=[3,4,5,6,7,8,9,10,11,20,25,28,29,30,31,35,40,45,62,63,70,1000,1003,1004,1005,1006]) (N:=72) Γ_good Tryd.func48 rfl Tryd.call48 Tryd.ntmps48 (Nat.le_of_ble_eq_true rfl) rfl ?_
 have hcv:=chkV_eq y above m
 generalize chkV y above m = R at hcv
 refine VCf.seq Γ_good (by decide) ?_
 refine VCf.seq Γ_good (by decide) ?_
 (refine rNG ?_)
 refine aN (fun hq=>?_) (fun hq=>?_)
 ·rw [if_pos (of_decide_eq_true hq)] at hcv
  subst hcv
  exact eX [] (aN rfl wK)
 rw [if_neg (of_decide_eq_false hq)] at hcv
 have hm2:¬ 2000 < m + 1:=of_decide_eq_false hq
 have hone:oneF y above = orI (ownF y above) (entF none y.e):=rfl
 refine VCf.seq Γ_good (by decide) ?_
 refine Or.inl (eX _ (aN (s_ownP y above hu hfb.1 hfb.2) ?_))
 refine aN (fun hq=>?_) (fun hq=>?_)
 ·have hq:ownF y above≠0:=by simpa using hq
  rw [orI_ne hq] at hone
  rw [hone,if_pos hq] at hcv
  subst hcv
  exact eX [] (aN rfl wK)
 have hq:ownF y above = 0:=by simpa using hq
 rw [hq,orI_zero] at hone
 have ha20:¬ 20≤above:=fun h=>by rw [ownF,if_pos h] at hq; cases hq
 refine VCf.seq Γ_good (by decide) ?_
 intro hl
 refine eX [] (eX [] (eX [] (eX Nat (eX (fun i=>i≤y.e.length∧entF none y.e = entF (keyAt y.e i) (y.e.drop i)) (eX (fun i=>⟨[(3,.pt 3 0),(4,.pt 4 0),(5,.pt 5 0),(6,.pt 6 0),(28,.rd .ent y.e),(29,.i .i64 y.e.length),(30,.i .i64 i)],[(1000,[.i .i64 (m + 1)]),(3,encVal y),(4,[.i .i64 above]),(5,[.pt 1000 0]),(6,[.i .i64 0])]⟩) (eX (fun i=>y.e.length - i) (eX 0 (aN ⟨Nat.zero_le _,rfl⟩ (aN ?_ ?_)))))))))
 ·exact wK
 ·rintro i ⟨hi,he⟩
  refine aN (fun hz=>?_) (fun hz=>?_)
  ·have hi:=ltD hz
   have hg:=getI (τ:=.ent) hi
   refine bN2 ?_
   rw [hg]
   intro _
   refine aN (fun hq=>?_) (fun hq=>?_)
   ·have hk:=keyF_large (p:=keyAt y.e i) (k:=y.e[i].1) (by have:=of_decide_eq_true hq; omega)
    rw [entF_stop hi (by rw [hk]; decide),hk] at he
    rw [hone,he,if_pos (by decide)] at hcv
    subst hcv
    exact eX [] (aN rfl wK)
   have n1:¬ 100 < y.e[i].1.length:=by have:=of_decide_eq_false hq; omega
   refine Or.inl (eX _ (aN (s_Bad hu y.e[i].1) ?_))
   refine aN (fun hq=>?_) (fun hq=>?_)
   ·have hk:=keyF_text (p:=keyAt y.e i) (k:=y.e[i].1) n1 (of_decide_eq_true hq)
    rw [entF_stop hi (by rw [hk]; decide),hk] at he
    rw [hone,he,if_pos (by decide)] at hcv
    subst hcv
    exact eX [] (aN rfl wK)
   have n2:¬ 0≤bad y.e[i].1:=of_decide_eq_false hq
   have hlen2:=len_le hl
   refine eX [.blk [0,1,2,3,4,5,6,7,8,9,10,11,12,13,14]] (aN (by kernel_rfl) ?_)
   refine aN (fun hq=>?_) (fun hq=>?_)
   ·have hi0:0 < i:=by have:=of_decide_eq_true hq; omega
    have hL:(y.e.getD (Int.toNat ((i:Int) - 1)) (dflt .ent)).1 = lastK y.e i:=by
     rw [show Int.toNat ((i:Int) - 1) = i - 1 from by omega,lastK,if_pos hi0]
    (refine rNG ?_)
    refine bN2 ?_
    generalize y.e.getD (Int.toNat ((i:Int) - 1)) (dflt .ent) = p at hL ⊢
    refine aN (fun hq=>?_) (fun hq=>?_)
    ·have hk:=keyF_order (e:=y.e) n1 n2 hi0 (by rw [← hL]; simpa using (show (!Op.bytesLess p.1 y.e[i].1) = true from hq))
     rw [entF_stop hi (by rw [hk]; decide),hk] at he
     rw [hone,he,if_pos (by decide)] at hcv
     subst hcv
     exact eX [] (aN rfl wK)
    ·have hk:=keyF_ok (e:=y.e) n1 n2 (fun _=>by rw [← hL]; simpa using (show (!Op.bytesLess p.1 y.e[i].1) = false from hq))
     rw [entF_go hi hk] at he
     (refine rNG ?_)
     refine eX [] (eX (i + 1) (aN ⟨hi,he⟩ (aN ?_ ?_)))
     ·exact wK
     ·show y.e.length - (i + 1) < y.e.length - i
      omega
   ·have hi0:¬ 0 < i:=by have:=of_decide_eq_false hq; omega
    refine aN (fun hq=>Bool.noConfusion hq) (fun _=>?_)
    have hk:=keyF_ok (e:=y.e) n1 n2 (fun h=>absurd h hi0)
    rw [entF_go hi hk] at he
    (refine rNG ?_)
    refine eX [] (eX (i + 1) (aN ⟨hi,he⟩ (aN ?_ ?_)))
    ·exact wK
    ·show y.e.length - (i + 1) < y.e.length - i
     omega
  ·have hi:=geD hi hz
   rw [entF_end _ (by omega)] at he
   rw [hone,he,if_neg (by decide)] at hcv
   have hcc:=hc ha20
   clear hc
   refine VCf.renB 3 1003 rfl rfl ?_
   refine VCf.renB 4 1004 rfl rfl ?_
   refine VCf.renB 5 1005 rfl rfl ?_
   refine VCf.renB 6 1006 rfl rfl ?_
   refine VCf.range (σ:=Int × Int) Γ_good (by decide) [(3,.pt 1003 0),(4,.pt 1004 0),(5,.pt 1005 0),(6,.pt 1006 0),(62,.fn 67 [.rp (encVal y)])] (fun pre=>[(1000,[.i .i64 (chkL pre (above + 1) (m + 1)).2]),(1003,encVal y),(1004,[.i .i64 above]),(1005,[.pt 1000 0]),(1006,[.i .i64 0])]) (fun q=>R = q∧q.1≠0) (fun q=>[(1000,[.i .i64 q.2]),(1003,encVal y),(1004,[.i .i64 above]),(1005,[.pt 1000 0]),(1006,[.i .i64 q.1])]) [1000,1003,1004,1005,1006] (parts_it y (by omega) (by omega)) ?_ rfl rfl rfl rfl (fun _=>rfl) (fun _=>rfl) rfl rfl rfl (fun pre=>(chkL pre (above + 1) (m + 1)).1 = 0) rfl ?_ ?_ ?_
   ·refine Or.inl (eX _ (aN (s_parts y) ?_))
    refine eX [] ?_
    exact wK
   ·intro pre x post hx hj
    have hm:x ∈ partsOf y:=by rw [hx]; simp
    have hb:=chkL_le pre (above + 1) (m + 1) (by omega) (by omega)
    generalize hk:(chkL pre (above + 1) (m + 1)).2 = k at hb
    have hpre:chkL pre (above + 1) (m + 1) = (0,k):=by rw [← hj,← hk]
    have hs:=hcc x hm k (by omega) (hb.2.2 hj)
    (refine rNG ?_)
    refine Or.inr (Or.inl (eX [] (eX _ (eX _ (eX _ (eX _ (eX _ (eX [(1000,1000)] (aN (hs) ?_)))))))))
    refine (aN rfl (aN rfl (aN rfl (aN rfl (aN rfl ?_)))))
    refine aN (fun hq=>?_) (fun hq=>?_)
    ·have hq:(chkV x (above + 1) k).1≠0:=by simpa using hq
     refine eX [] (eX (chkV x (above + 1) k) (aN ⟨?_,hq⟩ ?_))
     ·rw [hcv,hx]
      exact chkL_stop hpre rfl hq post
     ·exact wK
    ·have hq:(chkV x (above + 1) k).1 = 0:=by simpa using hq
     have hs2:=chkL_snoc hpre x
     rw [hs2]
     refine aN hq (eX [] ?_)
     exact wK
   ·rintro ⟨e,k⟩ ⟨h1,h2⟩
    subst h1
    exact eX [] (aN rfl wK)
   ·intro hj
    have h2:R = (0,(chkL (partsOf y) (above + 1) (m + 1)).2):=by
     rw [hcv,← hj]
    rw [h2]
    exact eX [] (aN rfl wK)
end
end Go.Proofs.YtfeniggadfkakaaDoor
end
section
namespace Go.Proofs.YtfeniggadfkakaaDoor
open Go Go.SX Go.Ck Go.Vl Go.Ut
set_option maxRecDepth 100000
set_option maxHeartbeats 1000000
section
variable [G:Globs]
theorem vb_part {y x:Val} (hy:VB y) (hx:x ∈ partsOf y):VB x:=by
 cases hy with
 | mk _ _ _ _ h4 h5 =>
  rcases List.mem_append.1 hx with hx | hx
  ·exact h4 x hx
  ·obtain ⟨z,hz,rfl⟩:=List.mem_map.1 hx
   exact h5 z hz
theorem s_check (hu : HasU8) : ∀ (n : Nat) (y : Val) (above m : Int), SizeOf.sizeOf y < n → VB y → (sizV y).2 ≤ 1000000000 → 0 ≤ above → above ≤ 20 → 0 ≤ m → m ≤ 2000 →
  CSpec Tryd.prog 48 [.agg (encVal y),.i .i64 above,.pt 1000 0] [(1000,[.i .i64 m])] (.i .i64 (chkV y above m).1) [(1000,[.i .i64 (chkV y above m).2])]:=by
 intro n
 induction n with
 | zero=>intro y _ _ h; exact absurd h (Nat.not_lt_zero _)
 | succ n ih =>
  intro y above m h hy hn h0 h1 hm0 hm1
  exact check_step hu y above m hy hn h0 h1 hm0 hm1 fun ha x hx k hk0 hk1=>ih x (above + 1) k (by have:=parts_sz hx; omega) (vb_part hy hx) (by have:=(siz_parts y).2 x hx; omega) (by omega) (by omega) hk0 hk1
theorem w_Check (hu:HasU8) (a:Val) (ha:VB a) (hn:(sizV a).2≤1000000000):vc Tryd.prog Γ 6 [1,2,3] (Tryd.f26.body.getD .skip) (postK Γ [.tmp 2] (fun v=>v = .i .i64 (chkV a 0 0).1)) ⟨argSlots 0 [.agg (encVal a)],[]⟩:=by
 refine Or.inr (Or.inl (eX [] (eX _ (eX _ (eX _ (eX _ (eX _ (eX [(1000,3)] (aN (s_check hu _ a 0 0 (Nat.lt_succ_self _) ha hn (by decide) (by decide) (by decide) (by decide)) ?_)))))))))
 refine (aN rfl (aN rfl (aN rfl (aN rfl (aN rfl ?_)))))
 rfl
theorem s_Check (hu:HasU8) (a:Val) (ha:VB a) (hn:(sizV a).2≤1000000000):PSpec Tryd.prog 26 [.agg (encVal a)] (.i .i64 (chkV a 0 0).1) :=
 pspec_of_vc Γ_good Tryd.func26 rfl Tryd.call26 Tryd.results26 Tryd.ntmps26 (Nat.le_of_ble_eq_true rfl) (w_Check hu a ha hn)
theorem chk_T (a:Val):(chkV a 0 0).1 = chkT [⟨a,0⟩] 0:=by
 rw [chkT]
 simp only
 cases chkV a 0 0 with
 | mk e m =>
  simp only [chkT]
  by_cases h:e = 0
  ·simp [h]
  ·simp [h]
end
end Go.Proofs.YtfeniggadfkakaaDoor
end
section
namespace Go.Proofs.YtfeniggadfkakaaDoor
open Go Go.SX Go.Ck Go.Vl Go.Ut Go.Up
set_option maxRecDepth 100000
set_option maxHeartbeats 1000000
theorem opF_else {o:OpR} (c:¬ (o.kind < 1∨4 < o.kind)):opF o = orI (pathF o.p) (orI (if o.kind≤2 then chkT [⟨o.v,0⟩] 0 else 0) (if o.kind = 4∧100 < o.key.length then 2 else if o.kind = 4∧0≤bad o.key then 3 else if 1 < o.kind∧o.p = [] then 1 else 0)):=by
 unfold opF; rw [if_neg c]
section
variable [G:Globs]
theorem w_opFault (o:OpR) (hv:VB o.v) (hn:(sizV o.v).2≤1000000000):vc Tryd.prog Γ 48 [1,2,3,4,12,17,21,26,30,34,38,47] (Tryd.f32.body.getD .skip) (postK Γ [.tmp 2] (fun v=>v = .i .i64 (opF o))) ⟨argSlots 0 [.agg (enc .op o)],[]⟩:=by
 by_cases c:o.kind < 1∨4 < o.kind
 ·rw [show opF o = 1 from by unfold opF; rw [if_pos c]]
  rcases c with c | c
  all_goals (repeat' (first | (refine aN (fun h=>?_) (fun h=>?_)<;>(try simp [-List.getD_eq_getElem?_getD,-Int.pred_toNat] at h)<;>(try (exfalso; first | omega | contradiction))) | refine bX ?_ | intro _))
  all_goals rfl
 rw [opF_else c]
 have c:1≤o.kind∧o.kind≤4:=by omega
 (repeat' (first | (refine aN (fun h=>?_) (fun h=>?_)<;>(try simp [-List.getD_eq_getElem?_getD,-Int.pred_toNat] at h)<;>(try (exfalso; first | omega | contradiction))) | refine bX ?_ | intro _))
 refine Or.inl (eX _ (aN (s_pathR o.p) ?_))
 refine aN (fun hq=>?_) (fun hq=>?_)
 ·have hq:pathF o.p≠0:=by simpa using hq
  rw [orI_ne hq]
  rfl
 have hq:pathF o.p = 0:=by simpa using hq
 rw [hq,orI_zero]
 by_cases d:o.kind≤2
 ·rw [if_pos d]
  (repeat' (first | (refine aN (fun h=>?_) (fun h=>?_)<;>(try simp [-List.getD_eq_getElem?_getD,-Int.pred_toNat] at h)<;>(try (exfalso; first | omega | contradiction))) | refine bX ?_ | intro _))
  refine Or.inl (eX _ (aN (s_fault o.v hv hn) ?_))
  refine aN (fun hq=>?_) (fun hq=>?_)
  ·have hq:chkT [⟨o.v,0⟩] 0≠0:=by simpa using hq
   rw [orI_ne hq]
   rfl
  have hq:chkT [⟨o.v,0⟩] 0 = 0:=by simpa using hq
  rw [hq,orI_zero,if_neg (by omega),if_neg (by omega)]
  (repeat' (first | (refine aN (fun h=>?_) (fun h=>?_)<;>(try simp [-List.getD_eq_getElem?_getD,-Int.pred_toNat] at h)<;>(try (exfalso; first | omega | contradiction))) | refine bX ?_ | intro _))
  all_goals (refine congrArg (AV.i .i64) ?_; first | rfl | grind)
 ·rw [if_neg d,orI_zero]
  by_cases f:o.kind = 4
  ·by_cases g:100 < o.key.length
   ·rw [if_pos ⟨f,g⟩]
    (repeat' (first | (refine aN (fun h=>?_) (fun h=>?_)<;>(try simp [-List.getD_eq_getElem?_getD,-Int.pred_toNat] at h)<;>(try (exfalso; first | omega | contradiction))) | refine bX ?_ | intro _))
    all_goals (refine congrArg (AV.i .i64) ?_; first | rfl | grind)
   ·(repeat' (first | (refine aN (fun h=>?_) (fun h=>?_)<;>(try simp [-List.getD_eq_getElem?_getD,-Int.pred_toNat] at h)<;>(try (exfalso; first | omega | contradiction))) | refine bX ?_ | intro _))
    refine Or.inl (eX _ (aN (s_BadPlace o.key) ?_))
    (repeat' (first | (refine aN (fun h=>?_) (fun h=>?_)<;>(try simp [-List.getD_eq_getElem?_getD,-Int.pred_toNat] at h)<;>(try (exfalso; first | omega | contradiction))) | refine bX ?_ | intro _))
    all_goals (refine congrArg (AV.i .i64) ?_; first | rfl | grind)
  ·(repeat' (first | (refine aN (fun h=>?_) (fun h=>?_)<;>(try simp [-List.getD_eq_getElem?_getD,-Int.pred_toNat] at h)<;>(try (exfalso; first | omega | contradiction))) | refine bX ?_ | intro _))
   all_goals (refine congrArg (AV.i .i64) ?_; first | rfl | grind)
theorem s_opFault (o:OpR) (hv:VB o.v) (hn:(sizV o.v).2≤1000000000):PSpec Tryd.prog 32 [.agg (enc .op o)] (.i .i64 (opF o)) :=
 pspec_of_vc Γ_good Tryd.func32 rfl Tryd.call32 Tryd.results32 Tryd.ntmps32 (Nat.le_of_ble_eq_true rfl) (w_opFault o hv hn)
end
end Go.Proofs.YtfeniggadfkakaaDoor
end
section
namespace Go.Proofs.YtfeniggadfkakaaDoor
open Go Go.SX Go.Ck Go.Vl Go.Ut Go.Up
set_option maxRecDepth 100000
set_option maxHeartbeats 1000000
def updA (a:Val) (l:List PStep) (o:OpR):AV:=.tup [.agg (encVal (upV a l o).1),.i .i64 (upV a l o).2]
theorem updA_eq {a w:Val} {l:List PStep} {o:OpR} {e:Int} (h:upV a l o = (w,e)):updA a l o = .tup [.agg (encVal w),.i .i64 e]:=by unfold updA; rw [h]
theorem part_lx {v:Val} {p:PStep} (h:(partV v p).2 = 0) (hp:¬ p.i < 0):p.i.toNat < v.l.length∧p.i < (v.l.length:Int):=by
 unfold partV at h
 rw [if_neg hp] at h
 by_cases c:v.kind≠5
 ·rw [if_pos c] at h; exact absurd h (by decide)
 ·rw [if_neg c] at h
  by_cases d:(v.l.length:Int)≤p.i
  ·rw [if_pos d] at h; exact absurd h (by decide)
  ·omega
section
variable [G:Globs]
theorem w_upd0 (a:Val) (o:OpR):vc Tryd.prog Γ 195 [1,3,5,6,7,8,9,10,11,12,13,14,15,18,31,39,51,56,82,83,86,91,93,109,130,133,138,163,168,182] (Tryd.f33.body.getD .skip) (postK Γ [.cell 6 26,.tmp 7] (fun v=>RL v (updA a [] o))) ⟨argSlots 0 [.agg (encVal a),.rd .pstep [],.agg (enc .op o)],[]⟩:=by
 intro _
 refine aN (fun _=>?_) (fun hq=>Bool.noConfusion hq)
 exact rL
theorem s_upd0 (a:Val) (o:OpR):PSpec Tryd.prog 33 [.agg (encVal a),.rd .pstep [],.agg (enc .op o)] (updA a [] o) :=
 pspec_of_vcL Γ_good Tryd.func33 rfl Tryd.call33 Tryd.results33 Tryd.ntmps33 (Nat.le_of_ble_eq_true rfl) (w_upd0 a o)
theorem w_upd1 (a:Val) (p:PStep) (r:List PStep) (o:OpR) (hp : -1≤p.i) (hn:VN 100000000 a) (ih:∀ w,VN 100000000 w→PSpec Tryd.prog 33 [.agg (encVal w),.rd .pstep r,.agg (enc .op o)] (updA w r o)):VCs Tryd.prog Γ 195 [1,3,5,6,7,8,9,10,11,12,13,14,15,18,31,39,51,56,82,83,86,91,93,109,130,133,138,163,168,182] (Tryd.f33.body.getD .skip) (postK Γ [.cell 6 26,.tmp 7] (fun v=>RL v (updA a (p::r) o))) ⟨argSlots 0 [.agg (encVal a),.rd .pstep (p::r),.agg (enc .op o)],[]⟩:=by
 have hnl:a.l.length≤100000000∧a.e.length≤100000000:=by cases hn with | mk _ h1 h2=>exact ⟨h1,h2⟩
 refine VCs.seq (by first | exact Γ_good | exact Ctx.good_kp Γ_good _) ?_
 refine VCs.seq (by first | exact Γ_good | exact Ctx.good_kp Γ_good _) ?_
 intro _
 refine aN (fun hq=>?_) (fun _=>?_)
 ·have:=eq_of_beq hq
  simp only [List.length_cons] at this
  omega
 refine VCs.seq (by first | exact Γ_good | exact Ctx.good_kp Γ_good _) ?_
 refine aN ⟨by omega,by simp only [List.length_cons]; omega⟩ ?_
 refine VCs.seqS ?_
 refine VCs.cut (by first | exact Γ_good | exact Ctx.good_kp Γ_good _) Unit (fun _=>True) (fun _=>⟨[(1,.rd .pstep (p::r)),(3,.pt 3 0),(5,.pt 5 0),(6,.pt 6 0),(7,.i .i64 0),(8,.pt 8 0),(31,.b (decide (o.kind = 1∨r≠[])))],[(3,encVal a),(5,enc .op o),(6,[.i .i64 0,.i .i64 0,.i .u64 0,.s [],.nl,.nl]),(8,enc .pstep p)]⟩) ?_ ?_
 ·have hr : (1 < (((p :: r).length : Nat) : Int)) ↔ r ≠ [] := by
   cases r with
   | nil=>simp
   | cons _ _=>simp only [List.length_cons]; constructor<;>intro<;>first | omega | simp
  (repeat' (first | (refine aN (fun h=>?_) (fun h=>?_)<;>(try simp [-List.getD_eq_getElem?_getD,-Int.pred_toNat] at h)<;>(try (exfalso; first | omega | contradiction))) | refine bX ?_ | intro _))
  all_goals refine eX () (aN trivial ?_)
  all_goals (repeat' (first | exact wA | exact Or.inl ((congrArg AV.b (by (rw [Bool.eq_iff_iff]; (try simp only [beq_iff_eq,bne_iff_ne,beq_eq_false_iff_ne,bne_eq_false_iff_eq,decide_eq_true_eq,decide_eq_false_iff_not,Bool.not_eq_true',Bool.not_eq_false',Bool.not_true,Bool.not_false,ne_eq,Decidable.not_not,gt_iff_lt,ge_iff_le,Int.not_lt,Int.not_le,Bool.cond_true,Bool.cond_false,cond_true,cond_false,Int.reduceBNe,Int.reduceBEq,Int.reduceLT,Int.reduceLE,Int.reduceEq,Int.reduceNe,not_true_eq_false,not_false_eq_true,Bool.false_eq_true,Bool.true_eq_false,reduceCtorEq,Bool.and_eq_true,Bool.or_eq_true,Bool.and_eq_false_iff,Bool.or_eq_false_iff,Bool.true_and,Bool.and_true,Bool.false_and,Bool.and_false,Bool.or_false,Bool.false_or,Bool.or_true,Bool.true_or,bne_iff_ne,List.length_pos_iff,Int.natCast_pos,Int.ofNat_lt,Int.ofNat_le] at *); first | done | omega | grind)))) | refine aN ?_ ?_))
 intro _ _
 refine VCs.cond rfl (fun h=>?_) (fun h=>?_)
 ·have hA:o.kind = 1∨r≠[]:=of_decide_eq_true h
  have hu:upV a (p::r) o = if (partV a p).2≠0 then (a,(partV a p).2) else if (upV (partV a p).1 r o).2≠0 then (a,(upV (partV a p).1 r o).2) else (setAt a p (upV (partV a p).1 r o).1,0):=by rw [upV,if_pos hA]
  refine VCs.of_vc (by first | exact Γ_good | exact Ctx.good_kp Γ_good _) ?_
  refine Or.inl (eX _ (aN (s_partOf a p hp) ?_))
  refine aN (fun hq=>?_) (fun hq=>?_)
  ·have hq:(partV a p).2≠0:=by simpa using hq
   rw [if_pos hq] at hu
   rw [updA_eq hu]
   exact rL
  have hq:¬ (partV a p).2≠0:=by simpa using hq
  rw [if_neg hq] at hu
  have hw:VN 100000000 (partV a p).1:=vn_part hn (partV_in (by simpa using hq))
  have hr:PSpec Tryd.prog 33 [.agg (encVal (partV a p).1),.rd .pstep (((p::r).take (Int.toNat ((p::r).length:Int))).drop (Int.toNat 1)),.agg (enc .op o)] (updA (partV a p).1 r o):=by
   rw [tail_eq]; exact ih _ hw
  refine eX [.blk [0,1,2,3,4,5],.take 6,.take 7,.one 8,.take 9] (aN (by kernel_rfl) ?_)
  refine aN ⟨by omega,by simp only [List.length_cons]; omega,by simp only [List.length_cons]; omega⟩ ?_
  refine eX _ (aN (hr) ?_)
  refine aN (fun hq2=>?_) (fun hq2=>?_)
  ·have hq2:(upV (partV a p).1 r o).2≠0:=by simpa using hq2
   rw [if_pos hq2] at hu
   rw [updA_eq hu]
   exact rL
  have hq2:¬ (upV (partV a p).1 r o).2≠0:=by simpa using hq2
  rw [if_neg hq2] at hu
  rw [updA_eq hu]
  refine aN (fun hi=>?_) (fun hi=>?_)
  ·have hi:p.i < 0:=by have:=eq_of_beq hi; omega
   refine Or.inl (eX _ (aN (s_with a.e p.key (upV (partV a p).1 r o).1 hnl.2) ?_))
   rw [setAt,if_pos hi]
   exact rL
  ·have hi:¬ p.i < 0:=by have:=ne_of_beq_false hi; omega
   have hx:=part_lx (by simpa using hq) hi
   rw [setAt,if_neg hi]
   refine aN (show a.l.length * 88≤140737488355328 by omega) ?_
   refine bN2 ?_
   (repeat' (first | exact wA | exact Or.inl (congrArg (fun w=>AV.rd .val (a.l.set p.i.toNat w)) (val_eta _)) | exact Or.inr ⟨rfl,_,rfl⟩ | refine aN ?_ ?_))
 ·have hA:¬ (o.kind = 1∨r≠[]):=of_decide_eq_false h
  have hr0:r = []:=by
   cases r with
   | nil=>rfl
   | cons _ _=>exact absurd (.inr (by simp)) hA
  subst hr0
  have hu:upV a [p] o = lastU a p o:=by rw [upV,if_neg hA]
  rw [show updA a [p] o = .tup [.agg (encVal (lastU a p o).1),.i .i64 (lastU a p o).2] from updA_eq hu]
  refine VCs.of_vc (by first | exact Γ_good | exact Ctx.good_kp Γ_good _) ?_
  refine VCs.of_vc (by first | exact Γ_good | exact Ctx.good_kp Γ_good _) ?_
  refine Or.inl (eX _ (aN (s_partOf a p hp) ?_))
  refine aN (fun hk=>?_) (fun hk=>?_)
  ·have hk:o.kind = 2:=eq_of_beq hk
   unfold lastU
   rw [if_pos hk]
   refine aN (fun hq=>?_) (fun hq=>?_)
   ·have hq:(partV a p).2 = 10:=eq_of_beq hq
    rw [if_pos hq,hq]
    exact rL
   have hq:¬ (partV a p).2 = 10:=ne_of_beq_false hq
   rw [if_neg hq]
   refine aN (fun hi=>?_) (fun hi=>?_)
   ·have hi:p.i < 0:=by have:=eq_of_beq hi; omega
    rw [if_pos hi]
    refine aN (fun hz=>?_) (fun hz=>?_)
    ·rw [if_pos (eq_of_beq hz)]
     exact rL
    rw [if_neg (ne_of_beq_false hz)]
    refine Or.inl (eX _ (aN (s_with a.e p.key o.v hnl.2) ?_))
    exact rL
   have hi:¬ p.i < 0:=by have:=ne_of_beq_false hi; omega
   rw [if_neg hi]
   intro _
   refine aN (fun hz=>?_) (fun hz=>?_)
   ·rw [if_pos (of_decide_eq_true hz)]
    exact rL
   have hz:¬ (a.l.length:Int) < p.i:=of_decide_eq_false hz
   rw [if_neg hz]
   refine aN ⟨by omega,by omega,by omega⟩ ?_
   have hlt:((a.l.take p.i.toNat).drop (Int.toNat 0)).length≤a.l.length:=by rw [List.length_drop,List.length_take]; omega
   refine aN (show ((a.l.take p.i.toNat).drop (Int.toNat 0)).length * 88≤140737488355328 by omega) ?_
   refine eX [.take 0,.take 1,.take 5,.take 7,.tree 6 [2,3,4,6,8,9] (.opt 2 (.opt 3 (.opt 4 (.opt 6 (.opt 8 (.opt 9 .fin .non) .non) (.opt 8 (.opt 6 (.opt 9 .fin .non) .non) .non)) (.opt 6 (.opt 4 (.opt 8 (.opt 9 .fin .non) .non) (.opt 8 (.opt 4 (.opt 9 .fin .non) (.opt 9 (.opt 4 .fin .non) .non)) .non)) (.opt 8 (.opt 4 (.opt 6 (.opt 9 .fin .non) .non) (.opt 6 (.opt 4 (.opt 9 .fin .non) (.opt 9 (.opt 4 .fin .non) .non)) .non)) .non))) (.opt 6 (.opt 3 (.opt 4 (.opt 8 (.opt 9 .fin .non) .non) (.opt 8 (.opt 4 (.opt 9 .fin .non) (.opt 9 (.opt 4 .fin .non) .non)) .non)) (.opt 8 (.opt 3 (.opt 4 (.opt 9 .fin .non) (.opt 9 (.opt 4 .fin .non) .non)) (.opt 9 (.opt 3 (.opt 4 .fin .non) .non) .non)) .non)) (.opt 8 (.opt 3 (.opt 4 (.opt 6 (.opt 9 .fin .non) .non) (.opt 6 (.opt 4 (.opt 9 .fin .non) (.opt 9 (.opt 4 .fin .non) .non)) .non)) (.opt 6 (.opt 3 (.opt 4 (.opt 9 .fin .non) (.opt 9 (.opt 4 .fin .non) .non)) (.opt 9 (.opt 3 (.opt 4 .fin .non) .non) .non)) .non)) .non))) (.opt 6 (.opt 2 (.opt 3 (.opt 4 (.opt 8 (.opt 9 .fin .non) .non) (.opt 8 (.opt 4 (.opt 9 .fin .non) (.opt 9 (.opt 4 .fin .non) .non)) .non)) (.opt 8 (.opt 3 (.opt 4 (.opt 9 .fin .non) (.opt 9 (.opt 4 .fin .non) .non)) (.opt 9 (.opt 3 (.opt 4 .fin .non) .non) .non)) .non)) (.opt 8 (.opt 2 (.opt 3 (.opt 4 (.opt 9 .fin .non) (.opt 9 (.opt 4 .fin .non) .non)) (.opt 9 (.opt 3 (.opt 4 .fin .non) .non) .non)) (.opt 9 (.opt 2 (.opt 3 (.opt 4 .fin .non) .non) .non) .non)) .non)) (.opt 8 (.opt 2 (.opt 3 (.opt 4 (.opt 6 (.opt 9 .fin .non) .non) (.opt 6 (.opt 4 (.opt 9 .fin .non) (.opt 9 (.opt 4 .fin .non) .non)) .non)) (.opt 6 (.opt 3 (.opt 4 (.opt 9 .fin .non) (.opt 9 (.opt 4 .fin .non) .non)) (.opt 9 (.opt 3 (.opt 4 .fin .non) .non) .non)) .non)) (.opt 6 (.opt 2 (.opt 3 (.opt 4 (.opt 9 .fin .non) (.opt 9 (.opt 4 .fin .non) .non)) (.opt 9 (.opt 3 (.opt 4 .fin .non) .non) .non)) (.opt 9 (.opt 2 (.opt 3 (.opt 4 .fin .non) .non) .non) .non)) .non)) .non))),.one 10,.take 11,.one 12] (aN (by kernel_rfl) ?_)
   have o1:(((a.l.take p.i.toNat).drop (Int.toNat 0)).length + 1) * 88≤140737488355328:=by omega
   have o2:(0:Int)≤p.i∧p.i≤(a.l.length:Int)∧(a.l.length:Int)≤(a.l.length:Int):=⟨by omega,by omega,by omega⟩
   refine eX ⟨[(3,.pt 3 0),(6,.pt 6 0),(7,.i .i64 0),(121,.vec 121 .val ((a.l.take p.i.toNat).drop (Int.toNat 0)++[(⟨o.v.kind,o.v.n,o.v.f,o.v.s,o.v.l,o.v.e⟩:Val)])),(126,.rd .val ((a.l.take (Int.toNat (a.l.length:Int))).drop p.i.toNat))],[(3,encVal a),(6,[.i .i64 0,.i .i64 0,.i .u64 0,.s [],.nl,.nl])]⟩ (aN ?_ ?_)
   ·repeat' (first | exact trivial | exact Or.inl rfl | exact o1 | exact o2 | refine aN ?_ ?_)
   have ed:(a.l.take (Int.toNat (a.l.length:Int))).drop p.i.toNat = a.l.drop p.i.toNat:=by rw [Int.toNat_natCast,List.take_length]
   have el:(a.l.take p.i.toNat).drop (Int.toNat 0) = a.l.take p.i.toNat:=rfl
   rw [ed,el,val_eta]
   refine aN (show ((a.l.take p.i.toNat++[o.v]).length + (a.l.drop p.i.toNat).length) * 88≤140737488355328 by rw [List.length_append,List.length_take,List.length_drop]; simp only [List.length_cons,List.length_nil]; omega) ?_
   have ec:a.l.take p.i.toNat++[o.v]++a.l.drop p.i.toNat = a.l.take p.i.toNat++o.v::a.l.drop p.i.toNat:=by rw [List.append_assoc]; rfl
   (repeat' (first | exact wA | exact Or.inl (congrArg (AV.rd .val) ec) | exact Or.inr ⟨rfl,_,rfl⟩ | refine aN ?_ ?_))
  ·have hk:¬ o.kind = 2:=ne_of_beq_false hk
   unfold lastU
   rw [if_neg hk]
   refine aN (fun h3=>?_) (fun h3=>?_)
   ·have h3:o.kind = 3:=eq_of_beq h3
    refine aN (fun hq=>?_) (fun hq=>?_)
    ·have hq:(partV a p).2≠0:=by simpa using hq
     rw [if_pos hq]
     exact rL
    have hq:¬ (partV a p).2≠0:=by simpa using hq
    rw [if_neg hq,if_pos h3]
    refine aN (fun hi=>?_) (fun hi=>?_)
    ·have hi:p.i < 0:=by have:=eq_of_beq hi; omega
     rw [if_pos hi]
     refine Or.inl (eX _ (aN (s_wout a.e p.key hnl.2) ?_))
     exact rL
    have hi:¬ p.i < 0:=by have:=ne_of_beq_false hi; omega
    rw [if_neg hi]
    have hx:=part_lx (by simpa using hq) hi
    refine aN ⟨by omega,by omega,by omega⟩ ?_
    have hlt:((a.l.take p.i.toNat).drop (Int.toNat 0)).length≤a.l.length:=by rw [List.length_drop,List.length_take]; omega
    refine aN (show ((a.l.take p.i.toNat).drop (Int.toNat 0)).length * 88≤140737488355328 by omega) ?_
    (refine rNG ?_)
    refine aN ⟨by omega,by omega,by omega⟩ ?_
    have ed:(a.l.take (Int.toNat (a.l.length:Int))).drop (Int.toNat (p.i + 1)) = a.l.drop (p.i.toNat + 1):=by rw [Int.toNat_natCast,List.take_length,show Int.toNat (p.i + 1) = p.i.toNat + 1 from by omega]
    have el:(a.l.take p.i.toNat).drop (Int.toNat 0) = a.l.take p.i.toNat:=rfl
    rw [ed,el]
    refine aN (show ((a.l.take p.i.toNat).length + (a.l.drop (p.i.toNat + 1)).length) * 88≤140737488355328 by rw [List.length_take,List.length_drop]; omega) ?_
    exact rL
   ·have h3:¬ o.kind = 3:=ne_of_beq_false h3
    refine aN (fun hq=>?_) (fun hq=>?_)
    ·have hq:(partV a p).2≠0:=by simpa using hq
     rw [if_pos hq]
     exact rL
    have hq:¬ (partV a p).2≠0:=by simpa using hq
    rw [if_neg hq,if_neg h3]
    refine aN (fun hi=>?_) (fun hi=>?_)
    · have hi : ¬ p.i < 0 := by have : p.i ≠ -1 := by simpa using hi
                                omega
      rw [if_pos hi]
      exact rL
    have hi : ¬ ¬ p.i < 0 := by have : p.i = -1 := by simpa using hi
                                omega
    rw [if_neg hi]
    have hdr:(withoutE a.e p.key).length≤100000000:=Nat.le_trans (List.length_filter_le _ _) hnl.2
    have fin:∀ Q:Prop,Q→Q:=fun _ h=>h
    refine aN (fun hz=>?_) (fun hz=>?_)
    ·have hz:o.key≠p.key:=by simpa using hz
     refine Or.inl (eX _ (aN (s_entAt a.e o.key) ?_))
     refine aN (fun hy=>?_) (fun hy=>?_)
     ·rw [if_pos ⟨hz,of_decide_eq_true hy⟩]
      exact rL
     ·rw [if_neg (fun h=>absurd h.2 (of_decide_eq_false hy))]
      refine eX [.blk [0,1,2,3,4,5,6,7,8,9],.one 10] (aN (by kernel_rfl) ?_)
      refine eX _ (aN (s_wout a.e p.key hnl.2) ?_)
      refine eX _ (aN (s_with (withoutE a.e p.key) o.key (partV a p).1 hdr) ?_)
      exact rL
    ·have hz:¬ o.key≠p.key:=by simpa using hz
     refine aN (fun hy=>Bool.noConfusion hy) (fun _=>?_)
     rw [if_neg (fun h=>absurd h.1 hz)]
     refine eX [.blk [0,1,2,3,4,5,6,7,8,9],.one 10] (aN (by kernel_rfl) ?_)
     refine eX _ (aN (s_wout a.e p.key hnl.2) ?_)
     refine eX _ (aN (s_with (withoutE a.e p.key) o.key (partV a p).1 hdr) ?_)
     exact rL
theorem s_upd1 (a:Val) (p:PStep) (r:List PStep) (o:OpR) (hp : -1≤p.i) (hn:VN 100000000 a) (ih:∀ w,VN 100000000 w→PSpec Tryd.prog 33 [.agg (encVal w),.rd .pstep r,.agg (enc .op o)] (updA w r o)):PSpec Tryd.prog 33 [.agg (encVal a),.rd .pstep (p::r),.agg (enc .op o)] (updA a (p::r) o) :=
 pspec_of_VCsL Γ_good Tryd.func33 rfl Tryd.call33 Tryd.results33 Tryd.ntmps33 (Nat.le_of_ble_eq_true rfl) (w_upd1 a p r o hp hn ih) Γ_good
theorem s_upd:∀ (l:List PStep) (a:Val) (o:OpR),(∀ p ∈ l,-1≤p.i)→VN 100000000 a→PSpec Tryd.prog 33 [.agg (encVal a),.rd .pstep l,.agg (enc .op o)] (updA a l o)
 | [],a,o,_,_=>s_upd0 a o
 | p::r,a,o,h,hn=>s_upd1 a p r o (h p (.head _)) hn fun w hw=>s_upd r w o (fun q hq=>h q (.tail _ hq)) hw
end
end Go.Proofs.YtfeniggadfkakaaDoor
end
section
namespace Go.Proofs.YtfeniggadfkakaaDoor
open Go Go.SX Go.Ck Go.Vl Go.Ut Go.Up
set_option maxRecDepth 100000
set_option maxHeartbeats 1000000
theorem stepF_ok {p:PStep} (h:stepF p = 0) : -1≤p.i∧p.key.length≤100:=by
 unfold stepF at h
 by_cases c:p.i < -1∨(0≤p.i∧p.key≠[])
 ·rw [if_pos c] at h; exact absurd h (by decide)
 ·rw [if_neg c] at h
  by_cases d:100 < p.key.length
  ·rw [if_pos d] at h; exact absurd h (by decide)
  ·omega
theorem pathF_ok {l:List PStep} (h:pathF l = 0):l.length≤20∧∀ p ∈ l,-1≤p.i∧p.key.length≤100:=by
 unfold pathF at h
 by_cases c:20 < l.length
 ·rw [if_pos c] at h; exact absurd h (by decide)
 ·rw [if_neg c] at h
  exact ⟨by omega,fun p hp=>stepF_ok (stepsF_mem h p hp)⟩
theorem opF_ok {o:OpR} (h:opF o = 0):(1≤o.kind∧o.kind≤4)∧pathF o.p = 0∧(o.kind = 1∨o.p≠[]):=by
 unfold opF at h
 by_cases c:o.kind < 1∨4 < o.kind
 ·rw [if_pos c] at h; exact absurd h (by decide)
 ·rw [if_neg c] at h
  obtain ⟨h1,h2⟩:=orI_0 h
  obtain ⟨_,h3⟩:=orI_0 h2
  refine ⟨by omega,h1,?_⟩
  by_cases d:o.kind = 1
  ·exact .inl d
  ·refine .inr fun e=>?_
   by_cases f:o.kind = 4∧100 < o.key.length
   ·rw [if_pos f] at h3; exact absurd h3 (by decide)
   ·rw [if_neg f] at h3
    by_cases g:o.kind = 4∧0≤bad o.key
    ·rw [if_pos g] at h3; exact absurd h3 (by decide)
    ·rw [if_neg g,if_pos ⟨by omega,e⟩] at h3; exact absurd h3 (by decide)
theorem vn_of_vw {n m:Nat} (h:n≤m) {v:Val} (hv:VW n v):VN m v:=by
 induction hv with
 | mk v _ _ _ h1 h2 _ _ i1 i2=>exact .mk v (Nat.le_trans h1 h) (Nat.le_trans h2 h) i1 i2
structure Mod (v:Val):Prop where
 vb:VB v
 bk:bkV v≤10000000
theorem Mod.siz {v:Val} (h:Mod v):(sizV v).2≤1000000000:=by have:=siz_bulk v; have:=h.bk; omega
theorem Mod.vw {v:Val} (h:Mod v):VW 10000000 v:=(vw_of_vb h.vb).mono h.bk
theorem Mod.vn {v:Val} (h:Mod v):VN 100000000 v:=vn_of_vw (by decide) h.vw
theorem up_ok {v:Val} {o:OpR} (hv:Mod v) (ho:Mod o.v) (hk:o.key.length≤10000000) (hp:pathF o.p = 0):VB (upV v o.p o).1∧(sizV (upV v o.p o).1).2≤1000000000∧VN 100000000 (upV v o.p o).1:=by
 obtain ⟨h1,h2⟩:=pathF_ok hp
 have h3:=clo_vw.upV (n:=10000000) (ho.vw.mono (Nat.le_succ _)) o.p v hv.vw
 have h4:=up_bulk (o:=o) (B:=10000000) hk o.p v (fun q hq=>(h2 q hq).2) hv.bk
 have h5:=siz_bulk (upV v o.p o).1
 have h6:(o.p.length + 1) * (2 * 10000000 + 110)≤21 * (2 * 10000000 + 110):=Nat.mul_le_mul_right _ (by omega)
 have:=ho.bk
 exact ⟨h3.vb,by omega,vn_of_vw (by decide) h3⟩
def appA (a:Val) (o:OpR):AV:=.tup [.agg (encVal (applyV a o).1),.i .i64 (applyV a o).2]
theorem appA_eq {a w:Val} {o:OpR} {e:Int} (h:applyV a o = (w,e)):appA a o = .tup [.agg (encVal w),.i .i64 e]:=by unfold appA; rw [h]
section
variable [G:Globs]
theorem w_updd (a:Val) (o:OpR) (ha:Mod a) (ho:Mod o.v) (hk:o.key.length≤10000000):vc Tryd.prog Γ 39 [2,3,4,5,6,7,8,9,13,19,31,35] (Tryd.f17.body.getD .skip) (postK Γ [.cell 4 26,.tmp 5] (fun v=>RL v (appA a o))) ⟨argSlots 0 [.agg (encVal a),.agg (enc .op o)],[]⟩:=by
 refine Or.inl (eX _ (aN (s_fault a ha.vb ha.siz) ?_))
 refine aN (fun hq=>?_) (fun hq=>?_)
 ·have hq:faultV a≠0:=by simpa using hq
  rw [appA_eq (show applyV a o = (zeroV,faultV a) from if_pos hq)]
  exact rL
 have hq:¬ faultV a≠0:=by simpa using hq
 refine Or.inl (eX _ (aN (s_opFault o ho.vb ho.siz) ?_))
 refine aN (fun hq2=>?_) (fun hq2=>?_)
 ·have hq2:opF o≠0:=by simpa using hq2
  rw [appA_eq (show applyV a o = (zeroV,opF o) from by unfold applyV; rw [if_neg hq,if_pos hq2])]
  exact rL
 have hq2:¬ opF o≠0:=by simpa using hq2
 have hop:=opF_ok (o:=o) (by simpa using hq2)
 have hpp:=pathF_ok hop.2.1
 have hup:=up_ok ha ho hk hop.2.1
 have e0:applyV a o = if (upV a o.p o).2≠0 then (zeroV,(upV a o.p o).2) else if faultV (upV a o.p o).1≠0 then (zeroV,faultV (upV a o.p o).1) else ((upV a o.p o).1,0):=by unfold applyV; rw [if_neg hq,if_neg hq2]
 refine Or.inl (eX _ (aN (s_upd o.p a o (fun p hp=>(hpp.2 p hp).1) ha.vn) ?_))
 refine aN (fun hq3=>?_) (fun hq3=>?_)
 ·have hq3:(upV a o.p o).2 = 0:=eq_of_beq hq3
  rw [if_neg (by simp [hq3])] at e0
  refine Or.inl (eX _ (aN (s_fault (upV a o.p o).1 hup.1 hup.2.1) ?_))
  refine aN (fun hq4=>?_) (fun hq4=>?_)
  ·have hq4:faultV (upV a o.p o).1≠0:=by simpa using hq4
   rw [if_pos hq4] at e0
   rw [appA_eq e0]
   exact rL
  ·have hq4:¬ faultV (upV a o.p o).1≠0:=by simpa using hq4
   rw [if_neg hq4] at e0
   rw [appA_eq e0]
   exact rL
 ·have hq3:(upV a o.p o).2≠0:=ne_of_beq_false hq3
  rw [if_pos hq3] at e0
  refine aN (fun _=>?_) (fun h=>absurd h (by simpa using hq3))
  rw [appA_eq e0]
  exact rL
theorem s_updd (a:Val) (o:OpR) (ha:Mod a) (ho:Mod o.v) (hk:o.key.length≤10000000):PSpec Tryd.prog 17 [.agg (encVal a),.agg (enc .op o)] (appA a o) :=
 pspec_of_vcL Γ_good Tryd.func17 rfl Tryd.call17 Tryd.results17 Tryd.ntmps17 (Nat.le_of_ble_eq_true rfl) (w_updd a o ha ho hk)
end
end Go.Proofs.YtfeniggadfkakaaDoor
end
section
namespace Go.Proofs.YtfeniggadfkakaaDoor
open Go Go.SX Go.Ck Go.Vl Go.Ut Go.Up
set_option maxRecDepth 100000
set_option maxHeartbeats 1000000
section
variable [G:Globs]
end
end Go.Proofs.YtfeniggadfkakaaDoor
end
section
namespace Go.Proofs.YtfeniggadfkakaaDoor
open Go Go.SX Go.Ck Go.Vl Go.Ut Go.Up
set_option maxRecDepth 100000
set_option maxHeartbeats 1000000
def allA (r:Val × Int × Int):AV:=.tup [.agg (encVal r.1),.i .i64 r.2.1,.i .i64 r.2.2]
theorem mod_app {v:Val} {o:OpR} (hv:Mod v) (ho:Mod o.v) (hk:o.key.length≤10000000) (h:(applyV v o).2 = 0):Mod (applyV v o).1:=by
 obtain ⟨h1,h2,h3⟩:=applyV_good h
 exact ⟨by rw [h2]; exact (up_ok hv ho hk h3).1,good_bulk h1⟩
section
variable [G:Globs]
theorem w_updAll (a:Val) (l:List OpR) (ha:Mod a) (hl:∀ o ∈ l,Mod o.v∧o.key.length≤10000000):vc Tryd.prog Γ 39 [1,2,4,5,6,7,8,9,10,11,15,18,19,20,21,32] (Tryd.f7.body.getD .skip) (postK Γ [.cell 4 26,.tmp 5,.tmp 6] (fun v=>RL v (allA (allV a l)))) ⟨argSlots 0 [.agg (encVal a),.rd .op l],[]⟩:=by
 refine Or.inl (eX _ (aN (s_fault a ha.vb ha.siz) ?_))
 refine aN (fun hq=>?_) (fun hq=>?_)
 ·have hq:faultV a≠0:=by simpa using hq
  rw [show allV a l = (zeroV,0,faultV a) from if_pos hq]
  exact rL
 have hq:¬ faultV a≠0:=by simpa using hq
 rw [show allV a l = allF a 0 l from if_neg hq]
 generalize hR:allF a 0 l = R
 intro hml
 refine eX [] (eX [] (eX [] (eX (Nat × Val) (eX (fun q=>q.1≤l.length∧Mod q.2∧R = allF q.2 q.1 (l.drop q.1)) (eX (fun ⟨i,v⟩=>⟨[(2,.pt 2 0),(4,.pt 4 0),(5,.i .i64 0),(6,.i .i64 0),(18,.rd .op l),(19,.i .i64 l.length),(20,.i .i64 i)],[(2,encVal v),(4,[.i .i64 0,.i .i64 0,.i .u64 0,.s [],.nl,.nl])]⟩) (eX (fun q=>l.length - q.1) (eX (0,a) (aN ⟨Nat.zero_le _,ha,hR.symm⟩ (aN ?_ ?_)))))))))
 ·exact wK
 rintro ⟨i,v⟩ ⟨hi,hv,hI⟩
 simp only at hi hv hI
 refine aN (fun hz=>?_) (fun hz=>?_)
 ·have hi:=ltD hz
  have hg:=getI (τ:=.op) hi
  refine bN2 ?_
  rw [hg]
  have ho:=hl l[i] (List.getElem_mem hi)
  have hlen:=len_le hml
  rw [List.drop_eq_getElem_cons hi,allF] at hI
  refine Or.inl (eX _ (aN (s_updd v l[i] hv ho.1 ho.2) ?_))
  refine aN (fun hq=>?_) (fun hq=>?_)
  ·have hq:(applyV v l[i]).2≠0:=by simpa using hq
   rw [if_pos hq] at hI
   rw [hI]
   exact rL
  ·have hq:¬ (applyV v l[i]).2≠0:=by simpa using hq
   rw [if_neg hq] at hI
   (refine rNG ?_)
   refine eX [] (eX (i + 1,(applyV v l[i]).1) (aN ⟨hi,mod_app hv ho.1 ho.2 (by simpa using hq),hI⟩ (aN ?_ ?_)))
   ·exact wK
   ·(exact Nat.sub_lt_sub_left (by omega) (by omega))
 ·have hi:=geD hi hz
  rw [List.drop_eq_nil_of_le (by omega),allF] at hI
  rw [hI]
  exact rL
theorem s_updAll (a:Val) (l:List OpR) (ha:Mod a) (hl:∀ o ∈ l,Mod o.v∧o.key.length≤10000000):PSpec Tryd.prog 7 [.agg (encVal a),.rd .op l] (allA (allV a l)) :=
 pspec_of_vcL Γ_good Tryd.func7 rfl Tryd.call7 Tryd.results7 Tryd.ntmps7 (Nat.le_of_ble_eq_true rfl) (w_updAll a l ha hl)
end
end Go.Proofs.YtfeniggadfkakaaDoor
end
section
namespace Go.Proofs.YtfeniggadfkakaaDoor
open Go Go.SX Go.Ck Go.Vl Go.Ut Go.Up
set_option maxRecDepth 100000
set_option maxHeartbeats 1000000
section
variable [G:Globs]
end
end Go.Proofs.YtfeniggadfkakaaDoor
end
section
namespace Go.Proofs.YtfeniggadfkakaaDoor
open Go Go.SX Go.Ck Go.Vl Go.Ut Go.Up
set_option maxRecDepth 100000
set_option maxHeartbeats 1000000
section
variable [G:Globs]
theorem w_clone (l:List PStep) (h:l.length≤1000000):vc Tryd.prog Γ 8 [0,2,4] (Tryd.f58.body.getD .skip) (postK Γ [.tmp 2] (fun v=>RL v (.rd .pstep l))) ⟨argSlots 0 [.rd .pstep l],[]⟩:=by
 intro x hx
 refine aN (fun hq=>?_) (fun hq=>?_)
 ·have hq:x = true:=hq
  have he:l = []:=by
   cases l with
   | nil=>rfl
   | cons y r=>exact absurd (hx rfl) (by rw [hq]; decide)
  subst he
  exact rL
 ·refine aN (show (([]:List PStep).length + l.length) * 24≤140737488355328 by simp only [List.length_nil]; omega) ?_
  exact rL
theorem s_clone (l:List PStep) (h:l.length≤1000000):PSpec Tryd.prog 58 [.rd .pstep l] (.rd .pstep l) :=
 pspec_of_vcL Γ_good Tryd.func58 rfl Tryd.call58 Tryd.results58 Tryd.ntmps58 (Nat.le_of_ble_eq_true rfl) (w_clone l h)
end
end Go.Proofs.YtfeniggadfkakaaDoor
end
section
namespace Go.SX
variable [Globs]
def postNK {τ:Ty} (Γ:Ctx) (rs:List ResultVar) (id:Nat) (l:List (den τ)) (boxes':List (Nat × List AV)) (e:Exit) (s:St):Prop :=
 match e with
 | .normal=>endK Γ rs (.vec id τ l) boxes' s∨(l = []∧endK Γ rs .nl boxes' s)
 | .ret=>endK Γ rs (.vec id τ l) boxes' s∨(l = []∧endK Γ rs .nl boxes' s)
 | _=>False
section
variable {P:Program} {N:Nat} {Γ:Ctx}
theorem cspec_of_vcN (hΓ : Γ.good P) {f : FuncId} {fn : Func} {c : Code} (hf : P.funcs[f]? = some fn) (hb : fn.body = some c) (hcall : ∀ (vs : Array Value) (w : World), (callFunc f vs).run P w = .ok (.enter f vs) w)
  {rs:Array ResultVar} (hrs:fn.results = rs) (hN:fn.ntmps = N) {args:List AV} {boxes:List (Nat × List AV)} {id:Nat} {τ:Ty} {l:List (den τ)} {boxes':List (Nat × List AV)} {L:List Nat} (hlen:args.length≤N) (hN1:1≤N)
  (hlow:(boxNames boxes).all (fun n=>Nat.ble N n) = true) (hfree:inB id (namesB boxes') = false) (hvc:vc P Γ N L c (postNK Γ rs.toList id l boxes') ⟨argSlots 0 args,boxes⟩):CSpec P f args boxes (.vec id τ l) boxes':=by
 refine ⟨hcall,fun F X β w vs hvs hpin hI0=>?_⟩
 refine calls_of_wp hf hb ?_
 have hpad:∀ n,(vs.toArray++Array.replicate (fn.ntmps - vs.toArray.size) undef).getD n undef = vs.toArray.getD n undef∨look (argSlots 0 args) n = .x:=fun n=>by
  by_cases hm:n < vs.length
  ·left
   simp only [Array.getD_eq_getD_getElem?]
   rw [Array.getElem?_append_left (by simpa using hm)]
  ·right
   have h1:=look_args args 0 n
   rw [Nat.zero_add] at h1
   rw [h1,List.getD_eq_getElem?_getD,List.getElem?_eq_none (by omega)]
   rfl
 have hI:InvB w F X N ⟨argSlots 0 args,boxes⟩ β { tmps:=vs.toArray++Array.replicate (fn.ntmps - vs.toArray.size) undef,defers:=[] } w:=by
  refine ⟨hI0.ext,fun n=>?_,?_,hI0.boxes,hI0.inj,hI0.own,hI0.defers,hI0.ext2,hI0.pin,fun n hn=>?_,hI0.gl⟩
  ·rcases hpad n with h1 | h1
   ·show Rel _ _ _ _ ((vs.toArray++Array.replicate (fn.ntmps - vs.toArray.size) undef).getD n undef)
    rw [h1]; exact hI0.slots n
   ·show Rel _ _ _ (look (argSlots 0 args) n) _
    rw [h1]; exact Rel.x
  ·simp only [Array.size_append,List.size_toArray,Array.size_replicate,hN,hvs]
   omega
  ·cases hp:F.pin n with
   | none=>rfl
   | some g =>
    have h1:=boxNames_mem.2 (hpin n g hp)
    have:=Nat.le_of_ble_eq_true (List.all_eq_true.1 hlow n h1)
    omega
 refine vc_ok (W0:=w) (F:=F) (X:=X) hΓ c _ _ _ _ _ (fun e s a w' hq ⟨β',hI'⟩=>?_) hvc ⟨_,hI⟩
 have key:(endK Γ rs.toList (.vec id τ l) boxes' s∨(l = []∧endK Γ rs.toList .nl boxes' s))→a.defers = []∧∃ v,(results fn a.tmps).run P w' = .ok v w'∧∃ v' β'',Ending.returned v = .returned v'∧InvB w F X 1 ⟨[(0,.vec id τ l)],boxes'⟩ β'' ⟨#[v'],[]⟩ w':=by
  have hd:F.dfr = []:=hI0.defers.symm
  have hF:{ F with dfr:=[] } = F:=by cases F; simp only at hd; subst hd; rfl
  rintro (h | ⟨rfl,h⟩)
  ·rw [← hrs] at h
   obtain ⟨u,β'',h1,h2⟩:=end_ok hΓ hN1 hI' h
   rw [hF] at h2
   exact ⟨hI'.defers.trans hd,u,h1,u,β'',rfl,h2⟩
  ·rw [← hrs] at h
   obtain ⟨u,β'',h1,h2⟩:=end_ok hΓ hN1 hI' h
   rw [hF] at h2
   have hnf:¬ Nm ⟨[(0,AV.nl)],boxes'⟩ id:=fun hm=>by
    have h3:id ∈ namesV [.nl] boxes':=Nm_names (fun q=>by
     simp only [look]
     cases Nat.beq 0 q with
     | true=>exact .inr (List.mem_singleton.2 rfl)
     | false=>exact .inl rfl) hm
    have h4:id ∈ namesB boxes':=by simpa [namesV,namesL,ids,ids0] using h3
    rw [inB_iff.2 h4] at hfree
    cases hfree
   have h3:=h2.nlVec (n:=0) (id:=id) rfl hnf τ
   exact ⟨hI'.defers.trans hd,u,h1,u,_,rfl,h3⟩
 cases e with
 | normal=>exact key hq
 | ret=>exact key hq
 | _=>exact hq.elim
end
end Go.SX
end
section
namespace Go.Proofs.YtfeniggadfkakaaDoor
open Go Go.SX Go.Vl Go.Ck Go.Up Go.Df
set_option maxRecDepth 100000
set_option maxHeartbeats 4000000
section
variable [G:Globs]
theorem w_cloneN (l:List PStep) (h:l.length≤1000000):vc Tryd.prog Γ 8 [0,2,4] (Tryd.f58.body.getD .skip) (postNK (τ:=.pstep) Γ [.tmp 2] 1000 (l) []) ⟨argSlots 0 [.rd .pstep l],[]⟩:=by
 intro x hx
 refine aN (fun hq=>?_) (fun hq=>?_)
 ·have hq:x = true:=hq
  have he:l = []:=by
   cases l with
   | nil=>rfl
   | cons y r=>exact absurd (hx rfl) (by rw [hq]; decide)
  subst he
  refine Or.inr (aN rfl ?_)
  refine eX [] (aN rfl wK)
 ·refine aN (show (([]:List PStep).length + l.length) * 24≤140737488355328 by simp only [List.length_nil]; omega) ?_
  refine Or.inl ?_
  refine eX [(7,1000)] (aN rfl wK)
theorem s_cloneN (l:List PStep) (h:l.length≤1000000):CSpec Tryd.prog 58 [.rd .pstep l] [] (.vec 1000 .pstep (l)) [] :=
 cspec_of_vcN Γ_good Tryd.func58 rfl Tryd.call58 Tryd.results58 Tryd.ntmps58 (Nat.le_of_ble_eq_true rfl) (Nat.le_of_ble_eq_true rfl) (by rfl) (by rfl) (w_cloneN l h)
theorem w_wadd (k:Int) (hk:0≤k∧k≤3) (p:List PStep) (v:Val) (q:List OpR) (hp:p.length≤1000000) (hv:VN 100000000 v) (hq:q.length≤1000000):vc Tryd.prog Γ 23 [0,1,2,7,1000,1001] (Tryd.f30.body.getD .skip) (postBK Γ [] (.tup []) [(1000,[.vec 1001 .op (q++[mkO k p v])])]) ⟨argSlots 0 [.pt 1000 0,.i .i64 k,.rd .pstep p,.agg (encVal v)],[(1000,[.vec 1001 .op q])]⟩:=by
 have hC:=s_clone p hp
 have hO:=s_Own v hv
 (repeat' (first | (refine aN (fun h=>?_) (fun h=>?_)<;>(try simp [-List.getD_eq_getElem?_getD,-Int.pred_toNat] at h)<;>(try (exfalso; first | omega | contradiction))) | refine bX ?_ | intro _))
 refine eX [.take 0,.blk [1,2,3,4,5,6,7,8,9,10,11] [19],.one 12,.blk [13,14],.one 15] (aN (by kernel_rfl) ?_)
 refine eX _ (aN (hC) ?_)
 refine eX _ (aN (hO) ?_)
 refine aN (show (q.length + 1) * 136≤140737488355328 by omega) ?_
 have e:q++[(⟨k,p,⟨v.kind,v.n,v.f,v.s,v.l,v.e⟩,[]⟩:OpR)] = q++[mkO k p v]:=by rw [val_eta]; rfl
 refine eX [(20,1001)] (aN rfl ?_)
 (repeat' (first | exact wA | exact Or.inl ((congrArg (AV.vec 1001 .op) e)) | refine aN ?_ ?_))
theorem s_wadd (k:Int) (hk:0≤k∧k≤3) (p:List PStep) (v:Val) (q:List OpR) (hp:p.length≤1000000) (hv:VN 100000000 v) (hq:q.length≤1000000):CSpec Tryd.prog 30 [.pt 1000 0,.i .i64 k,.rd .pstep p,.agg (encVal v)] [(1000,[.vec 1001 .op q])] (.tup []) [(1000,[.vec 1001 .op (q++[mkO k p v])])] :=
 cspec_of_vc Γ_good Tryd.func30 rfl Tryd.call30 Tryd.results30 Tryd.ntmps30 (Nat.le_of_ble_eq_true rfl) (Nat.le_of_ble_eq_true rfl) (by rfl) (w_wadd k hk p v q hp hv hq)
theorem w_wadd0 (k:Int) (hk:0≤k∧k≤3) (p:List PStep) (q:List OpR) (hp:p.length≤1000000) (hq:q.length≤1000000):vc Tryd.prog Γ 23 [0,1,2,7,1000,1001] (Tryd.f30.body.getD .skip) (postBK Γ [] (.tup []) [(1000,[.vec 1001 .op (q++[mkO k p zeroV])])]) ⟨argSlots 0 [.pt 1000 0,.i .i64 k,.rd .pstep p,.agg [.i .i64 0,.i .i64 0,.i .u64 0,.s [],.nl,.nl]],[(1000,[.vec 1001 .op q])]⟩:=by
 have hC:=s_clone p hp
 have hO:PSpec Tryd.prog 38 [.agg [.i .i64 0,.i .i64 0,.i .u64 0,.s [],.nl,.nl]] (.agg (encVal zeroV)):=PSpec.arg (args':=[.agg [.i .i64 0,.i .i64 0,.i .u64 0,.s [],.nl,.nl]]) (s_Own zeroV (vn_zero _)) (by exact rL)
 (repeat' (first | (refine aN (fun h=>?_) (fun h=>?_)<;>(try simp [-List.getD_eq_getElem?_getD,-Int.pred_toNat] at h)<;>(try (exfalso; first | omega | contradiction))) | refine bX ?_ | intro _))
 refine eX [.take 0,.blk [1,2,3,4,5,6,7,8,9,10,11] [19],.one 12,.blk [13,14],.one 15] (aN (by kernel_rfl) ?_)
 refine eX _ (aN (hC) ?_)
 refine eX _ (aN (hO) ?_)
 refine aN (show (q.length + 1) * 136≤140737488355328 by omega) ?_
 have e:q++[(⟨k,p,⟨zeroV.kind,zeroV.n,zeroV.f,zeroV.s,zeroV.l,zeroV.e⟩,[]⟩:OpR)] = q++[mkO k p zeroV]:=by rw [val_eta]; rfl
 refine eX [(20,1001)] (aN rfl ?_)
 (repeat' (first | exact wA | exact Or.inl ((congrArg (AV.vec 1001 .op) e)) | refine aN ?_ ?_))
theorem s_wadd0 (k:Int) (hk:0≤k∧k≤3) (p:List PStep) (q:List OpR) (hp:p.length≤1000000) (hq:q.length≤1000000):CSpec Tryd.prog 30 [.pt 1000 0,.i .i64 k,.rd .pstep p,.agg [.i .i64 0,.i .i64 0,.i .u64 0,.s [],.nl,.nl]] [(1000,[.vec 1001 .op q])] (.tup []) [(1000,[.vec 1001 .op (q++[mkO k p zeroV])])] :=
 cspec_of_vc Γ_good Tryd.func30 rfl Tryd.call30 Tryd.results30 Tryd.ntmps30 (Nat.le_of_ble_eq_true rfl) (Nat.le_of_ble_eq_true rfl) (by rfl) (w_wadd0 k hk p q hp hq)
end
end Go.Proofs.YtfeniggadfkakaaDoor
end
section
namespace Go.SX
variable [Globs]
theorem CSpec.frz {P : Program} {f : FuncId} {args args' : List AV} {boxes boxes0 : List (Nat × List AV)} {r : AV} {boxes' : List (Nat × List AV)} (h : CSpec P f args boxes r boxes') (id : Nat)
  (he:(⟨argSlots 0 args',boxes0⟩:St).frz id = ⟨argSlots 0 args,boxes⟩) (hl:args'.length = args.length) (hb:boxNames boxes0 = boxNames boxes):CSpec P f args' boxes0 r boxes' :=
 ⟨h.1,fun F X β w vs h1 h2 hI=>h.2 F X β w vs (h1.trans hl) (fun n g hg=>by
  have:=boxNames_mem.2 (h2 n g hg)
  rw [hb] at this
  exact boxNames_mem.1 this) (by
  have:=hI.frz id
  rw [he] at this
  exact this)⟩
end Go.SX
end
section
namespace Go.Proofs.YtfeniggadfkakaaDoor
open Go Go.SX Go.Vl Go.Ck Go.Up Go.Df
set_option maxRecDepth 100000
set_option maxHeartbeats 4000000
theorem flat_take {α β:Type} (f:α→List β) {l:List α} {i:Nat} (h:i < l.length):(l.take (i + 1)).flatMap f = (l.take i).flatMap f++f l[i]:=by rw [take_snoc h,List.flatMap_append]; simp
theorem flat_len {α β:Type} (f:α→List β) (l:List α) (i:Nat):((l.take i).flatMap f).length≤(l.flatMap f).length:=by
 have e:l.flatMap f = (l.take i).flatMap f++(l.drop i).flatMap f:=by rw [← List.flatMap_append,List.take_append_drop]
 rw [e,List.length_append]
 omega
section
variable [G:Globs]
theorem w_wtab (n:Nat) (a b:List Ent) (p:List PStep) (q:List OpR) (hp:p.length≤900000) (hb:∀ y ∈ b,VN 100000000 y.2) (hq:q.length + (a.flatMap (tabW1 (wayR n) b)).length + (b.flatMap (tabW2 a)).length≤1000000) (ih:∀ x ∈ a,∀ y ∈ b,∀ q':List OpR,q'.length + (wayR n x.2 y.2).length≤1000000→CSpec Tryd.prog 14 [.pt 1000 0,.agg (encVal x.2),.agg (encVal y.2),.rd .pstep (p++[sK x.1])] [(1000,[.vec 1001 .op q'])] (.tup []) [(1000,[.vec 1001 .op (q'++(wayR n x.2 y.2).map (preO (p++[sK x.1])))])]):vc Tryd.prog Γ 71 [0,1,2,3,9,10,11,13,14,15,16,17,32,48,49,50,51,58,1000,1001] (Tryd.f28.body.getD .skip) (postBK Γ [] (.tup []) [(1000,[.vec 1001 .op (q++(a.flatMap (tabW1 (wayR n) b)++b.flatMap (tabW2 a)).map (preO p))])]) ⟨argSlots 0 [.pt 1000 0,.rd .ent a,.rd .ent b,.rd .pstep p],[(1000,[.vec 1001 .op q])]⟩:=by
 intro hl
 have hl0:=len_le hl
 refine eX [] (eX [] (eX [] (eX Nat (eX (fun i=>i≤a.length) (eX (fun i=>⟨[(0,.pt 1000 0),(1,.rd .ent a),(2,.rd .ent b),(3,.rd .pstep p),(14,.rd .ent a),(15,.i .i64 a.length),(16,.i .i64 i)],[(1000,[.vec 1001 .op (q++((a.take i).flatMap (tabW1 (wayR n) b)).map (preO p))])]⟩) (eX (fun i=>a.length - i) (eX 0 (aN (Nat.zero_le _) (aN ?_ ?_)))))))))
 ·(repeat' (first | exact wA | exact Or.inl ((congrArg (AV.vec 1001 .op) (List.append_nil q).symm)) | refine aN ?_ ?_))
 ·rintro i hi
  refine aN (fun hz=>?_) (fun hz=>?_)
  ·have hi:=ltD hz
   have hg:=getI (τ:=.ent) hi
   refine bN2 ?_
   rw [hg]
   have hx:=List.getElem_mem hi
   have f1:=flat_take (tabW1 (wayR n) b) hi
   have f2:=flat_len (tabW1 (wayR n) b) a (i + 1)
   have f3:(q++((a.take i).flatMap (tabW1 (wayR n) b)).map (preO p)).length = q.length + ((a.take i).flatMap (tabW1 (wayR n) b)).length:=by rw [List.length_append,List.length_map]
   rw [f1,List.length_append] at f2
   have hC:=s_cloneN p (by omega)
   refine eX [.take 0,.take 2,.tree 4 [1,3,4,5] (.opt 1 (.opt 3 (.opt 4 (.opt 5 .fin .non) .non) .non) (.opt 3 (.opt 1 (.opt 4 (.opt 5 .fin .non) .non) (.opt 4 (.opt 1 (.opt 5 .fin .non) (.opt 5 (.opt 1 .fin .non) .non)) .non)) .non)),.one 6,.take 7] (aN (by kernel_rfl) ?_)
   refine eX ⟨[(0,.pt 1000 0),(1,.rd .ent a),(2,.rd .ent b),(3,.rd .pstep p),(14,.rd .ent a),(15,.i .i64 a.length),(16,.i .i64 i),(9,.pt 9 0),(21,.vec 21 .pstep p),(25,.vec 25 .pstep [sK a[i].1])],[(1000,[.vec 1001 .op (q++((a.take i).flatMap (tabW1 (wayR n) b)).map (preO p))]),(9,enc .ent a[i])]⟩ (aN ?_ ?_)
   ·repeat' first
     | exact trivial
     | refine aN ?_ ?_
     |
      refine Or.inr (Or.inl (eX [] (eX _ (eX _ (eX _ (eX _ (eX _ (eX [(1000,21)] (aN (hC) ?_)))))))))
      refine (aN rfl (aN rfl (aN rfl (aN rfl ?_))))
    all_goals exact wK
   refine aN (show (p.length + 1) * 24≤140737488355328 by omega) ?_
   (repeat' (first | (refine aN (fun h=>?_) (fun h=>?_)<;>(try simp [-List.getD_eq_getElem?_getD,-Int.pred_toNat] at h)<;>(try (exfalso; first | omega | contradiction))) | refine bX ?_ | intro _))
   refine Or.inl (eX _ (aN (s_find b a[i].1) ?_))
   refine aN (fun hc=>?_) (fun hc=>?_)
   ·have hc:0≤ixI b (keyIs a[i].1):=of_decide_eq_true hc
    have hb':=ix_bound (l:=b) (q:=keyIs a[i].1) (by omega)
    have hgd:b.getD (ixI b (keyIs a[i].1)).toNat (dflt .ent) = b[(ixI b (keyIs a[i].1)).toNat]'hb'.2.1:=by rw [List.getD_eq_getElem?_getD,List.getElem?_eq_getElem hb'.2.1]; rfl
    have hat:atB b a[i].1 = (b[(ixI b (keyIs a[i].1)).toNat]'hb'.2.1).2:=by unfold atB; rw [List.getD_eq_getElem?_getD,List.getElem?_eq_getElem hb'.2.1]; rfl
    have hT:tabW1 (wayR n) b a[i] = (wayR n a[i].2 (b[(ixI b (keyIs a[i].1)).toNat]'hb'.2.1).2).map (preO [sK a[i].1]):=(if_pos hc).trans (by rw [hat])
    have hI0:=ih _ hx _ (List.getElem_mem hb'.2.1)
    generalize b[(ixI b (keyIs a[i].1)).toNat]'hb'.2.1 = y at *
    have hlT:(tabW1 (wayR n) b a[i]).length = (wayR n a[i].2 y.2).length:=by rw [hT,List.length_map]
    have hI:=hI0 (q++((a.take i).flatMap (tabW1 (wayR n) b)).map (preO p)) (by omega)
    have e1:q++((a.take i).flatMap (tabW1 (wayR n) b)).map (preO p)++(wayR n a[i].2 y.2).map (preO (p++[sK a[i].1])) = q++((a.take (i + 1)).flatMap (tabW1 (wayR n) b)).map (preO p):=by rw [f1,List.map_append,hT,map_pre,List.append_assoc]
    rw [e1] at hI
    have hI2:CSpec Tryd.prog 14 [.pt 1000 0,.agg (encVal a[i].2),.agg (encVal y.2),.vec 1005 .pstep (p++[sK a[i].1])] [(1000,[.vec 1001 .op (q++((a.take i).flatMap (tabW1 (wayR n) b)).map (preO p))])] (.tup []) [(1000,[.vec 1001 .op (q++((a.take (i + 1)).flatMap (tabW1 (wayR n) b)).map (preO p))])]:=hI.frz 1005 rfl rfl rfl
    refine eX [.blk [0,1,2,3,4,5,6,7,8],.one 9] (aN (by kernel_rfl) ?_)
    refine bN2 ?_
    rw [hgd]
    refine Or.inr (Or.inl (eX [] (eX _ (eX _ (eX _ (eX _ (eX _ (eX [(1000,1000),(1001,1001),(1005,26)] (aN (hI2) ?_)))))))))
    refine (aN rfl (aN rfl (aN rfl (aN rfl (aN rfl ?_)))))
    (refine rNG ?_)
    refine eX [] (eX (i + 1) (aN hi (aN ?_ ?_)))
    ·exact wK
    ·(exact Nat.sub_lt_sub_left (by omega) (by omega))
   ·have hc:¬ 0≤ixI b (keyIs a[i].1):=of_decide_eq_false hc
    have hT:tabW1 (wayR n) b a[i] = [mkO 3 [sK a[i].1] zeroV]:=if_neg hc
    have e1:q++((a.take i).flatMap (tabW1 (wayR n) b)).map (preO p)++[mkO 3 (p++[sK a[i].1]) zeroV] = q++((a.take (i + 1)).flatMap (tabW1 (wayR n) b)).map (preO p):=by rw [f1,List.map_append,hT,List.append_assoc]; rfl
    have hA:=s_wadd0 3 ⟨by decide,by decide⟩ (p++[sK a[i].1]) (q++((a.take i).flatMap (tabW1 (wayR n) b)).map (preO p)) (by rw [List.length_append,List.length_singleton]; omega) (by omega)
    rw [e1] at hA
    have hA2:CSpec Tryd.prog 30 [.pt 1000 0,.i .i64 3,.vec 1005 .pstep (p++[sK a[i].1]),.agg [.i .i64 0,.i .i64 0,.i .u64 0,.s [],.nl,.nl]] [(1000,[.vec 1001 .op (q++((a.take i).flatMap (tabW1 (wayR n) b)).map (preO p))])] (.tup []) [(1000,[.vec 1001 .op (q++((a.take (i + 1)).flatMap (tabW1 (wayR n) b)).map (preO p))])]:=hA.frz 1005 rfl rfl rfl
    (repeat' (first | (refine aN (fun h=>?_) (fun h=>?_)<;>(try simp [-List.getD_eq_getElem?_getD,-Int.pred_toNat] at h)<;>(try (exfalso; first | omega | contradiction))) | refine bX ?_ | intro _))
    refine Or.inr (Or.inl (eX [] (eX _ (eX _ (eX _ (eX _ (eX _ (eX [(1000,1000),(1001,1001),(1005,26)] (aN (hA2) ?_)))))))))
    refine (aN rfl (aN rfl (aN rfl (aN rfl (aN rfl ?_)))))
    (refine rNG ?_)
    refine eX [] (eX (i + 1) (aN hi (aN ?_ ?_)))
    ·exact wK
    ·(exact Nat.sub_lt_sub_left (by omega) (by omega))
  ·(have hi:=geD hi hz)
   subst hi
   rw [List.take_length]
   have e0:q++(a.flatMap (tabW1 (wayR n) b)++b.flatMap (tabW2 a)).map (preO p) = q++(a.flatMap (tabW1 (wayR n) b)).map (preO p)++(b.flatMap (tabW2 a)).map (preO p):=by rw [List.map_append,List.append_assoc]
   have e1:(q++(a.flatMap (tabW1 (wayR n) b)).map (preO p)).length = q.length + (a.flatMap (tabW1 (wayR n) b)).length:=by rw [List.length_append,List.length_map]
   rw [e0]
   generalize q++(a.flatMap (tabW1 (wayR n) b)).map (preO p) = Q at *
   intro hl
   have hl0:=len_le hl
   refine eX [] (eX [] (eX [] (eX Nat (eX (fun i=>i≤b.length) (eX (fun i=>⟨[(0,.pt 1000 0),(1,.rd .ent a),(3,.rd .pstep p),(48,.rd .ent b),(49,.i .i64 b.length),(50,.i .i64 i)],[(1000,[.vec 1001 .op (Q++((b.take i).flatMap (tabW2 a)).map (preO p))])]⟩) (eX (fun i=>b.length - i) (eX 0 (aN (Nat.zero_le _) (aN ?_ ?_)))))))))
   ·(repeat' (first | exact wA | exact Or.inl ((congrArg (AV.vec 1001 .op) (List.append_nil Q).symm)) | refine aN ?_ ?_))
   ·rintro i hi
    refine aN (fun hz=>?_) (fun hz=>?_)
    ·have hi:=ltD hz
     have hg:=getI (τ:=.ent) hi
     refine bN2 ?_
     rw [hg]
     have hx:=List.getElem_mem hi
     have f1:=flat_take (tabW2 a) hi
     have f2:=flat_len (tabW2 a) b (i + 1)
     have f3:(Q++((b.take i).flatMap (tabW2 a)).map (preO p)).length = Q.length + ((b.take i).flatMap (tabW2 a)).length:=by rw [List.length_append,List.length_map]
     rw [f1,List.length_append] at f2
     have hC:=s_cloneN p (by omega)
     refine Or.inl (eX _ (aN (s_find a b[i].1) ?_))
     refine aN (fun hc=>?_) (fun hc=>?_)
     ·have hc:ixI a (keyIs b[i].1) < 0:=of_decide_eq_true hc
      have hT:tabW2 a b[i] = [mkO 2 [sK b[i].1] b[i].2]:=if_pos hc
      have hA:=s_wadd 2 ⟨by decide,by decide⟩ (p++[sK b[i].1]) b[i].2 (Q++((b.take i).flatMap (tabW2 a)).map (preO p)) (by rw [List.length_append,List.length_singleton]; omega) (hb _ hx) (by omega)
      have e1:Q++((b.take i).flatMap (tabW2 a)).map (preO p)++[mkO 2 (p++[sK b[i].1]) b[i].2] = Q++((b.take (i + 1)).flatMap (tabW2 a)).map (preO p):=by rw [f1,List.map_append,hT,List.append_assoc]; rfl
      rw [e1] at hA
      have hA2:CSpec Tryd.prog 30 [.pt 1000 0,.i .i64 2,.vec 1005 .pstep (p++[sK b[i].1]),.agg (encVal b[i].2)] [(1000,[.vec 1001 .op (Q++((b.take i).flatMap (tabW2 a)).map (preO p))])] (.tup []) [(1000,[.vec 1001 .op (Q++((b.take (i + 1)).flatMap (tabW2 a)).map (preO p))])]:=hA.frz 1005 rfl rfl rfl
      generalize Q++((b.take i).flatMap (tabW2 a)).map (preO p) = Q1 at *
      generalize hQ2:Q++((b.take (i + 1)).flatMap (tabW2 a)).map (preO p) = Q2 at *
      refine eX [.take 0,.take 1,.take 3,.take 8,.tree 6 [2,4,5,6,7,9] (.opt 2 (.opt 4 (.opt 5 (.opt 6 (.opt 7 (.opt 9 .fin .non) (.opt 9 (.opt 7 .fin .non) .non)) (.opt 9 (.opt 6 (.opt 7 .fin .non) .non) .non)) (.opt 9 (.opt 5 (.opt 6 (.opt 7 .fin .non) .non) .non) .non)) (.opt 9 (.opt 4 (.opt 5 (.opt 6 (.opt 7 .fin .non) .non) .non) .non) .non)) (.opt 4 (.opt 2 (.opt 5 (.opt 6 (.opt 7 (.opt 9 .fin .non) (.opt 9 (.opt 7 .fin .non) .non)) (.opt 9 (.opt 6 (.opt 7 .fin .non) .non) .non)) (.opt 9 (.opt 5 (.opt 6 (.opt 7 .fin .non) .non) .non) .non)) (.opt 5 (.opt 2 (.opt 6 (.opt 7 (.opt 9 .fin .non) (.opt 9 (.opt 7 .fin .non) .non)) (.opt 9 (.opt 6 (.opt 7 .fin .non) .non) .non)) (.opt 6 (.opt 2 (.opt 7 (.opt 9 .fin .non) (.opt 9 (.opt 7 .fin .non) .non)) (.opt 9 (.opt 2 (.opt 7 .fin .non) .non) .non)) (.opt 9 (.opt 2 (.opt 6 (.opt 7 .fin .non) .non) (.opt 6 (.opt 2 (.opt 7 .fin .non) .non) .non)) .non))) (.opt 9 (.opt 2 (.opt 5 (.opt 6 (.opt 7 .fin .non) .non) .non) (.opt 5 (.opt 2 (.opt 6 (.opt 7 .fin .non) .non) (.opt 6 (.opt 2 (.opt 7 .fin .non) .non) .non)) .non)) .non))) (.opt 9 (.opt 2 (.opt 4 (.opt 5 (.opt 6 (.opt 7 .fin .non) .non) .non) .non) (.opt 4 (.opt 2 (.opt 5 (.opt 6 (.opt 7 .fin .non) .non) .non) (.opt 5 (.opt 2 (.opt 6 (.opt 7 .fin .non) .non) (.opt 6 (.opt 2 (.opt 7 .fin .non) .non) .non)) .non)) .non)) .non))),.one 10] (aN (by kernel_rfl) ?_)
      refine eX ⟨[(0,.pt 1000 0),(1,.rd .ent a),(3,.rd .pstep p),(48,.rd .ent b),(49,.i .i64 b.length),(50,.i .i64 i),(59,.pt 1000 0),(66,.vec 66 .pstep (p++[sK b[i].1])),(68,.agg (encVal b[i].2))],[(1000,[.vec 1001 .op Q1])]⟩ (aN ?_ ?_)
      ·repeat' first
        | exact trivial
        | refine aN (show (p.length + 1) * 24≤140737488355328 by omega) ?_
        | refine aN ?_ ?_
        |
         refine Or.inr (Or.inl (eX [] (eX _ (eX _ (eX _ (eX _ (eX _ (eX [(1000,61)] (aN (hC) ?_)))))))))
         refine (aN rfl (aN rfl (aN rfl (aN rfl ?_))))
       all_goals exact wK
      refine Or.inr (Or.inl (eX [] (eX _ (eX _ (eX _ (eX _ (eX _ (eX [(1000,1000),(1001,1001),(1005,66)] (aN (hA2) ?_)))))))))
      refine (aN rfl (aN rfl (aN rfl (aN rfl (aN rfl ?_)))))
      (refine rNG ?_)
      refine eX [] (eX (i + 1) (aN hi (aN ?_ ?_)))
      ·(repeat' (first | exact wA | exact Or.inl ((congrArg (AV.vec 1001 .op) hQ2.symm)) | refine aN ?_ ?_))
      ·(exact Nat.sub_lt_sub_left (by omega) (by omega))
     ·have hc:¬ ixI a (keyIs b[i].1) < 0:=of_decide_eq_false hc
      have hT:tabW2 a b[i] = []:=if_neg hc
      rw [hT,List.append_nil] at f1
      (refine rNG ?_)
      refine eX [] (eX (i + 1) (aN hi (aN ?_ ?_)))
      ·(repeat' (first | exact wA | exact Or.inl ((congrArg (AV.vec 1001 .op) (show _ = Q++((b.take (i + 1)).flatMap (tabW2 a)).map (preO p) by rw [f1]))) | refine aN ?_ ?_))
      ·(exact Nat.sub_lt_sub_left (by omega) (by omega))
    ·(have hi:=geD hi hz)
     subst hi
     rw [List.take_length]
     refine eX [] (aN rfl wK)
theorem s_wtab (n:Nat) (a b:List Ent) (p:List PStep) (q:List OpR) (hp:p.length≤900000) (hb:∀ y ∈ b,VN 100000000 y.2) (hq:q.length + (a.flatMap (tabW1 (wayR n) b)).length + (b.flatMap (tabW2 a)).length≤1000000) (ih:∀ x ∈ a,∀ y ∈ b,∀ q':List OpR,q'.length + (wayR n x.2 y.2).length≤1000000→CSpec Tryd.prog 14 [.pt 1000 0,.agg (encVal x.2),.agg (encVal y.2),.rd .pstep (p++[sK x.1])] [(1000,[.vec 1001 .op q'])] (.tup []) [(1000,[.vec 1001 .op (q'++(wayR n x.2 y.2).map (preO (p++[sK x.1])))])]):CSpec Tryd.prog 28 [.pt 1000 0,.rd .ent a,.rd .ent b,.rd .pstep p] [(1000,[.vec 1001 .op q])] (.tup []) [(1000,[.vec 1001 .op (q++(a.flatMap (tabW1 (wayR n) b)++b.flatMap (tabW2 a)).map (preO p))])] :=
 cspec_of_vc Γ_good Tryd.func28 rfl Tryd.call28 Tryd.results28 Tryd.ntmps28 (Nat.le_of_ble_eq_true rfl) (Nat.le_of_ble_eq_true rfl) (by rfl) (w_wtab n a b p q hp hb hq ih)
end
end Go.Proofs.YtfeniggadfkakaaDoor
end
section
namespace Go.Proofs.YtfeniggadfkakaaDoor
open Go Go.SX Go.Vl Go.Ck Go.Up Go.Df
set_option maxRecDepth 100000
set_option maxHeartbeats 4000000
theorem lst_del (w:Val→Val→List OpR) (D:Val→Val→Int) {a b:List Val} {m j:Nat} (hm:m < a.length) (h:gP D a b (m + 1) j = gP D a b m j + nd a[m]):lstW w D a b (m + 1) j = mkO 3 [sI m] zeroV::lstW w D a b m j:=by
 cases j with
 | zero=>rw [lstW]
 | succ k=>rw [lstW,getZ hm,if_pos h]
theorem lst_ins0 (w:Val→Val→List OpR) (D:Val→Val→Int) (a:List Val) {b:List Val} {k:Nat} (hk:k < b.length):lstW w D a b 0 (k + 1) = mkO 2 [sI 0] b[k]::lstW w D a b 0 k:=by rw [lstW,getZ hk]
theorem lst_ins (w:Val→Val→List OpR) (D:Val→Val→Int) {a b:List Val} {m k:Nat} (hm:m < a.length) (hk:k < b.length) (h:¬ gP D a b (m + 1) (k + 1) = gP D a b m (k + 1) + nd a[m]) (h2:gP D a b (m + 1) (k + 1) = gP D a b (m + 1) k + nd b[k]):lstW w D a b (m + 1) (k + 1) = mkO 2 [sI (m + 1)] b[k]::lstW w D a b (m + 1) k:=by rw [lstW,getZ hm,getZ hk,if_neg h,if_pos h2]
theorem lst_both (w:Val→Val→List OpR) (D:Val→Val→Int) {a b:List Val} {m k:Nat} (hm:m < a.length) (hk:k < b.length) (h:¬ gP D a b (m + 1) (k + 1) = gP D a b m (k + 1) + nd a[m]) (h2:¬ gP D a b (m + 1) (k + 1) = gP D a b (m + 1) k + nd b[k]):lstW w D a b (m + 1) (k + 1) = (w a[m] b[k]).map (preO [sI m])++lstW w D a b m k:=by rw [lstW,getZ hm,getZ hk,if_neg h,if_neg h2]
section
variable [G:Globs]
theorem w_wlst (n:Nat) (a b:List Val) (p:List PStep) (q:List OpR) (hp:p.length≤900000) (hb:∀ y ∈ b,VN 100000000 y) (hd1:∀ x ∈ a,∀ y ∈ b,farF n x y≤2000000) (sa:sumN a≤1000) (sb:sumN b≤1000) (hs:∀ x ∈ a,∀ y ∈ b,PSpec Tryd.prog 21 [.agg (encVal x),.agg (encVal y)] (.i .i64 (farF n x y))) (hq:q.length + (lstW (wayR n) (farF n) a b a.length b.length).length≤1000000) (ih:∀ x ∈ a,∀ y ∈ b,∀ (s:PStep) (q':List OpR),q'.length + (wayR n x y).length≤1000000→CSpec Tryd.prog 14 [.pt 1000 0,.agg (encVal x),.agg (encVal y),.rd .pstep (p++[s])] [(1000,[.vec 1001 .op q'])] (.tup []) [(1000,[.vec 1001 .op (q'++(wayR n x y).map (preO (p++[s])))])]):vc Tryd.prog Γ 125 [0,1,2,3,8,9,10,23,44,83,1000,1001] (Tryd.f29.body.getD .skip) (postBK Γ [] (.tup []) [(1000,[.vec 1001 .op (q++(lstW (wayR n) (farF n) a b a.length b.length).map (preO p))])]) ⟨argSlots 0 [.pt 1000 0,.rd .val a,.rd .val b,.rd .pstep p],[(1000,[.vec 1001 .op q])]⟩:=by
 have hgr:=s_grid (farF n) a b (far_nn n) hd1 sa sb hs
 have ql:=sumN_nn a
 have qe:=sumN_nn b
 have hC:=s_cloneN p (by omega)
 refine Or.inl (eX _ (aN (hgr) ?_))
 intro _
 intro _
 refine eX [] (eX [] (eX [] (eX (Nat × Nat × List OpR) (eX (fun z=>z.1≤a.length∧z.2.1≤b.length∧lstW (wayR n) (farF n) a b a.length b.length = z.2.2++lstW (wayR n) (farF n) a b z.1 z.2.1) (eX (fun ⟨i,j,L⟩=>⟨[(0,.pt 1000 0),(1,.rd .val a),(2,.rd .val b),(3,.rd .pstep p),(8,.rd .ints (gridP (farF n) a b)),(9,.i .i64 i),(10,.i .i64 j)],[(1000,[.vec 1001 .op (q++L.map (preO p))])]⟩) (eX (fun z=>z.1 + z.2.1) (eX (a.length,b.length,[]) (aN ⟨Nat.le_refl _,Nat.le_refl _,rfl⟩ (aN ?_ ?_)))))))))
 ·(repeat' (first | exact wA | exact Or.inl ((congrArg (AV.vec 1001 .op) (List.append_nil q).symm)) | refine aN ?_ ?_))
 rintro ⟨i,j,L⟩ ⟨hi,hj,hI⟩
 simp only at hi hj hI
 have hql:q.length + (L.length + (lstW (wayR n) (farF n) a b i j).length)≤1000000:=by rw [← List.length_append,← hI]; exact hq
 have hQl:(q++L.map (preO p)).length = q.length + L.length:=by rw [List.length_append,List.length_map]
 by_cases i0:i = 0
 ·subst i0
  by_cases j0:j = 0
  ·subst j0
   rw [lstW,List.append_nil] at hI
   (repeat' (first | (refine aN (fun h=>?_) (fun h=>?_)<;>(try simp [-List.getD_eq_getElem?_getD,-Int.pred_toNat] at h)<;>(try (exfalso; first | omega | contradiction))) | refine bX ?_ | intro _))
   rw [hI]
   refine eX [] (aN rfl wK)
  ·obtain ⟨k,rfl⟩:∃ k,j = k + 1:=⟨j - 1,by omega⟩
   have hk:k < b.length:=hj
   have hnb:=nd_mem b (List.getElem_mem hk)
   have hpb:=nd_pos b[k]
   have hNb:=s_Nodes _ b[k] (Nat.lt_succ_self _) (show nd b[k]≤1000000000 by omega)
   have hgb:b.getD (((k + 1:Nat):Int) - 1).toNat (dflt .val) = b[k]:=by rw [show (((k + 1:Nat):Int) - 1).toNat = k by omega,List.getD_eq_getElem?_getD,List.getElem?_eq_getElem hk]; rfl
   have g2:=gP_b (far_nn n) a b (0) k
   have g3:=gP_b (far_nn n) a b (0) (k + 1)
   have r2:(gridP (farF n) a b).getD (((0:Nat):Int)).toNat (dflt .ints) = rowP (farF n) a b (0):=by rw [Int.toNat_natCast,List.getD_eq_getElem?_getD,grid_at (farF n) a b (by omega)]; rfl
   have c2:(rowP (farF n) a b (0)).getD ((k + 1:Nat):Int).toNat (dflt .int) = gP (farF n) a b (0) (k + 1):=row_get (farF n) a b (0) (by omega)
   have c3:(rowP (farF n) a b (0)).getD (((k + 1:Nat):Int) - 1).toNat (dflt .int) = gP (farF n) a b (0) k:=by rw [show (((k + 1:Nat):Int) - 1).toNat = k by omega]; exact row_get (farF n) a b (0) (by omega)
   have ek:((k + 1:Nat):Int) - 1 = (k:Int):=by omega
   have hnb:(sizV b[k]).2≤sumN b:=hnb
   have hpb:1≤(sizV b[k]).2:=hpb
   have hposk:(0:Int) < ((k + 1:Nat):Int):=by omega
   have l0:=grid_len (farF n) a b
   have l1:=fun k=>row_len (farF n) a b k
   have hg:=gP_0s (farF n) a hk
   (repeat' (first | (refine aN (fun h=>?_) (fun h=>?_)<;>(try simp [-List.getD_eq_getElem?_getD,-Int.pred_toNat] at h)<;>(try (exfalso; first | omega | contradiction))) | refine bX ?_ | intro _))
   refine eX [.blk [0,1,2,3,4,5,6,7,8,9,10,11,12,13,14,15,16,17,18,19,20,21,22,23,24,25,26,27]] (aN (by kernel_rfl) ?_)
   refine aN (fun h=>absurd (of_decide_eq_true h) (by omega)) (fun _=>?_)
   (repeat' (first | (refine aN (fun h=>?_) (fun h=>?_)<;>(try simp [-List.getD_eq_getElem?_getD,-Int.pred_toNat] at h)<;>(try (exfalso; first | omega | contradiction))) | refine bX ?_ | intro _))
   refine eX [.blk [0,1,2,3,4,5,6,7,8,9,10,11,12,13,14,15,16,17,18,19,20,21,22,23,24,25,26,27]] (aN (by kernel_rfl) ?_)
   refine aN (fun _=>?_) (fun h=>absurd hposk (of_decide_eq_false h))
   refine bN2 ?_
   rw [r2]
   refine aN ⟨by omega,by rw [l1]; omega⟩ ?_
   rw [c2]
   refine bN2 ?_
   rw [r2]
   (refine rNG ?_)
   refine aN ⟨by omega,by rw [l1]; omega⟩ ?_
   rw [c3]
   (refine rNG ?_)
   refine bN2 ?_
   rw [hgb]
   refine eX _ (aN (hNb) ?_)
   (refine rNG ?_)
   refine aN (fun _=>?_) (fun h=>absurd h (by rw [hg]; simp; rfl))
   have hL:=lst_ins0 (wayR n) (farF n) a hk
   rw [hL] at hI hql
   rw [List.length_cons] at hql
   have hA:=s_wadd 2 ⟨by decide,by decide⟩ (p++[sI (0)]) b[k] (q++L.map (preO p)) (by rw [List.length_append,List.length_singleton]; omega) (hb _ (List.getElem_mem hk)) (by omega)
   have e1:q++L.map (preO p)++[mkO 2 (p++[sI (0)]) b[k]] = q++(L++[mkO 2 [sI (0)] b[k]]).map (preO p):=by rw [List.map_append,List.append_assoc]; rfl
   rw [e1] at hA
   have hA2:CSpec Tryd.prog 30 [.pt 1000 0,.i .i64 2,.vec 1005 .pstep (p++[sI (0)]),.agg (encVal b[k])] [(1000,[.vec 1001 .op (q++L.map (preO p))])] (.tup []) [(1000,[.vec 1001 .op (q++(L++[mkO 2 [sI (0)] b[k]]).map (preO p))])]:=hA.frz 1005 rfl rfl rfl
   (repeat' (first | (refine aN (fun h=>?_) (fun h=>?_)<;>(try simp [-List.getD_eq_getElem?_getD,-Int.pred_toNat] at h)<;>(try (exfalso; first | omega | contradiction))) | refine bX ?_ | intro _))
   rw [ek]
   refine eX [.take 0,.take 1,.take 3,.take 7,.take 8,.take 9,.tree 5 [2,4,5,6,10] (.opt 2 (.opt 4 (.opt 5 (.opt 6 (.opt 10 .fin .non) (.opt 10 (.opt 6 .fin .non) .non)) (.opt 10 (.opt 5 (.opt 6 .fin .non) .non) .non)) (.opt 10 (.opt 4 (.opt 5 (.opt 6 .fin .non) .non) .non) .non)) (.opt 4 (.opt 2 (.opt 5 (.opt 6 (.opt 10 .fin .non) (.opt 10 (.opt 6 .fin .non) .non)) (.opt 10 (.opt 5 (.opt 6 .fin .non) .non) .non)) (.opt 5 (.opt 2 (.opt 6 (.opt 10 .fin .non) (.opt 10 (.opt 6 .fin .non) .non)) (.opt 10 (.opt 2 (.opt 6 .fin .non) .non) .non)) (.opt 10 (.opt 2 (.opt 5 (.opt 6 .fin .non) .non) (.opt 5 (.opt 2 (.opt 6 .fin .non) .non) .non)) .non))) (.opt 10 (.opt 2 (.opt 4 (.opt 5 (.opt 6 .fin .non) .non) .non) (.opt 4 (.opt 2 (.opt 5 (.opt 6 .fin .non) .non) (.opt 5 (.opt 2 (.opt 6 .fin .non) .non) .non)) .non)) .non))),.one 11] (aN (by kernel_rfl) ?_)
   refine bN2 ?_
   rw [getI (τ:=.val) hk]
   refine eX ⟨[(0,.pt 1000 0),(1,.rd .val a),(2,.rd .val b),(3,.rd .pstep p),(8,.rd .ints (gridP (farF n) a b)),(9,.i .i64 ((0:Nat):Int)),(10,.i .i64 (k:Int)),(113,.pt 1000 0),(119,.vec 119 .pstep (p++[sI (0)])),(123,.agg (encVal b[k]))],[(1000,[.vec 1001 .op (q++L.map (preO p))])]⟩ (aN ?_ ?_)
   ·repeat' first
     | exact trivial
     | refine aN (show (p.length + 1) * 24≤140737488355328 by omega) ?_
     | refine aN ?_ ?_
     |
      refine Or.inr (Or.inl (eX [] (eX _ (eX _ (eX _ (eX _ (eX _ (eX [(1000,115)] (aN (hC) ?_)))))))))
      refine (aN rfl (aN rfl (aN rfl (aN rfl ?_))))
    all_goals exact wK
   refine Or.inr (Or.inl (eX [] (eX _ (eX _ (eX _ (eX _ (eX _ (eX [(1000,1000),(1001,1001),(1005,119)] (aN (hA2) ?_)))))))))
   refine (aN rfl (aN rfl (aN rfl (aN rfl (aN rfl ?_)))))
   refine eX [] (eX (0,k,L++[mkO 2 [sI (0)] b[k]]) (aN ⟨hi,Nat.le_of_lt hk,by rw [hI,List.append_assoc]; rfl⟩ (aN ?_ ?_)))
   ·exact wK
   ·simp only
    omega
 ·obtain ⟨m,rfl⟩:∃ m,i = m + 1:=⟨i - 1,by omega⟩
  have hm:m < a.length:=hi
  have hna:=nd_mem a (List.getElem_mem hm)
  have hpa:=nd_pos a[m]
  have hNa:=s_Nodes _ a[m] (Nat.lt_succ_self _) (show nd a[m]≤1000000000 by omega)
  have hga:a.getD (((m + 1:Nat):Int) - 1).toNat (dflt .val) = a[m]:=by rw [show (((m + 1:Nat):Int) - 1).toNat = m by omega,List.getD_eq_getElem?_getD,List.getElem?_eq_getElem hm]; rfl
  have g0:=gP_b (far_nn n) a b (m + 1) j
  have g1:=gP_b (far_nn n) a b m j
  have r0:(gridP (farF n) a b).getD (((m + 1:Nat):Int)).toNat (dflt .ints) = rowP (farF n) a b (m + 1):=by rw [Int.toNat_natCast,List.getD_eq_getElem?_getD,grid_at (farF n) a b (by omega)]; rfl
  have r1:(gridP (farF n) a b).getD (((m + 1:Nat):Int) - 1).toNat (dflt .ints) = rowP (farF n) a b m:=by rw [show (((m + 1:Nat):Int) - 1).toNat = m by omega,List.getD_eq_getElem?_getD,grid_at (farF n) a b (by omega)]; rfl
  have c0:=fun k=>row_get (farF n) a b k (j:=j) (by omega)
  have l0:=grid_len (farF n) a b
  have l1:=fun k=>row_len (farF n) a b k
  have hpos:(0:Int) < ((m + 1:Nat):Int):=by omega
  have hna:(sizV a[m]).2≤sumN a:=hna
  have hpa:1≤(sizV a[m]).2:=hpa
  have tj:((j:Nat):Int).toNat = j:=Int.toNat_natCast j
  have em:((m + 1:Nat):Int) - 1 = (m:Int):=by omega
  (repeat' (first | (refine aN (fun h=>?_) (fun h=>?_)<;>(try simp [-List.getD_eq_getElem?_getD,-Int.pred_toNat] at h)<;>(try (exfalso; first | omega | contradiction))) | refine bX ?_ | intro _))
  refine eX [.blk [0,1,2,3,4,5,6,7,8,9,10,11,12,13,14,15,16,17,18,19,20,21,22,23,24,25,26,27]] (aN (by kernel_rfl) ?_)
  refine aN (fun _=>?_) (fun h=>absurd hpos (of_decide_eq_false h))
  refine bN2 ?_
  rw [r0]
  refine aN ⟨by omega,by rw [l1]; omega⟩ ?_
  rw [tj,c0]
  (refine rNG ?_)
  refine bN2 ?_
  rw [r1]
  refine aN ⟨by omega,by rw [l1]; omega⟩ ?_
  rw [tj,c0]
  (refine rNG ?_)
  refine bN2 ?_
  rw [hga]
  refine eX _ (aN (hNa) ?_)
  (refine rNG ?_)
  refine aN (fun hc=>?_) (fun hc=>?_)
  ·have hc:gP (farF n) a b (m + 1) j = gP (farF n) a b m j + nd a[m]:=eq_of_beq hc
   have hL:=lst_del (wayR n) (farF n) hm hc
   rw [hL] at hI hql
   rw [List.length_cons] at hql
   have hA:=s_wadd0 3 ⟨by decide,by decide⟩ (p++[sI m]) (q++L.map (preO p)) (by rw [List.length_append,List.length_singleton]; omega) (by omega)
   have e1:q++L.map (preO p)++[mkO 3 (p++[sI m]) zeroV] = q++(L++[mkO 3 [sI m] zeroV]).map (preO p):=by rw [List.map_append,List.append_assoc]; rfl
   rw [e1] at hA
   have hA2:CSpec Tryd.prog 30 [.pt 1000 0,.i .i64 3,.vec 1005 .pstep (p++[sI m]),.agg [.i .i64 0,.i .i64 0,.i .u64 0,.s [],.nl,.nl]] [(1000,[.vec 1001 .op (q++L.map (preO p))])] (.tup []) [(1000,[.vec 1001 .op (q++(L++[mkO 3 [sI m] zeroV]).map (preO p))])]:=hA.frz 1005 rfl rfl rfl
   (repeat' (first | (refine aN (fun h=>?_) (fun h=>?_)<;>(try simp [-List.getD_eq_getElem?_getD,-Int.pred_toNat] at h)<;>(try (exfalso; first | omega | contradiction))) | refine bX ?_ | intro _))
   rw [em]
   refine Or.inr (Or.inl (eX [] (eX _ (eX _ (eX _ (eX _ (eX _ (eX [(1000,76)] (aN (hC) ?_)))))))))
   refine (aN rfl (aN rfl (aN rfl (aN rfl ?_))))
   refine aN (show (p.length + 1) * 24≤140737488355328 by omega) ?_
   (repeat' (first | (refine aN (fun h=>?_) (fun h=>?_)<;>(try simp [-List.getD_eq_getElem?_getD,-Int.pred_toNat] at h)<;>(try (exfalso; first | omega | contradiction))) | refine bX ?_ | intro _))
   refine Or.inr (Or.inl (eX [] (eX _ (eX _ (eX _ (eX _ (eX _ (eX [(1000,1000),(1001,1001),(1005,80)] (aN (hA2) ?_)))))))))
   refine (aN rfl (aN rfl (aN rfl (aN rfl (aN rfl ?_)))))
   refine eX [] (eX (m,j,L++[mkO 3 [sI m] zeroV]) (aN ⟨Nat.le_of_lt hm,hj,by rw [hI,List.append_assoc]; rfl⟩ (aN ?_ ?_)))
   ·exact wK
   ·simp only
    omega
  ·have hc:¬ gP (farF n) a b (m + 1) j = gP (farF n) a b m j + nd a[m]:=ne_of_beq_false hc
   obtain ⟨k,rfl⟩:∃ k,j = k + 1:=⟨j - 1,by
    have:j≠0:=fun e=>hc (by rw [e]; exact gP_s0 (farF n) b hm)
    omega⟩
   have hk:k < b.length:=hj
   have hnb:=nd_mem b (List.getElem_mem hk)
   have hpb:=nd_pos b[k]
   have hNb:=s_Nodes _ b[k] (Nat.lt_succ_self _) (show nd b[k]≤1000000000 by omega)
   have hgb:b.getD (((k + 1:Nat):Int) - 1).toNat (dflt .val) = b[k]:=by rw [show (((k + 1:Nat):Int) - 1).toNat = k by omega,List.getD_eq_getElem?_getD,List.getElem?_eq_getElem hk]; rfl
   have g2:=gP_b (far_nn n) a b (m + 1) k
   have g3:=gP_b (far_nn n) a b (m + 1) (k + 1)
   have r2:(gridP (farF n) a b).getD (((m + 1:Nat):Int)).toNat (dflt .ints) = rowP (farF n) a b (m + 1):=by rw [Int.toNat_natCast,List.getD_eq_getElem?_getD,grid_at (farF n) a b (by omega)]; rfl
   have c2:(rowP (farF n) a b (m + 1)).getD ((k + 1:Nat):Int).toNat (dflt .int) = gP (farF n) a b (m + 1) (k + 1):=row_get (farF n) a b (m + 1) (by omega)
   have c3:(rowP (farF n) a b (m + 1)).getD (((k + 1:Nat):Int) - 1).toNat (dflt .int) = gP (farF n) a b (m + 1) k:=by rw [show (((k + 1:Nat):Int) - 1).toNat = k by omega]; exact row_get (farF n) a b (m + 1) (by omega)
   have ek:((k + 1:Nat):Int) - 1 = (k:Int):=by omega
   have hnb:(sizV b[k]).2≤sumN b:=hnb
   have hpb:1≤(sizV b[k]).2:=hpb
   have hposk:(0:Int) < ((k + 1:Nat):Int):=by omega
   (repeat' (first | (refine aN (fun h=>?_) (fun h=>?_)<;>(try simp [-List.getD_eq_getElem?_getD,-Int.pred_toNat] at h)<;>(try (exfalso; first | omega | contradiction))) | refine bX ?_ | intro _))
   refine eX [.blk [0,1,2,3,4,5,6,7,8,9,10,11,12,13,14,15,16,17,18,19,20,21,22,23,24,25,26,27]] (aN (by kernel_rfl) ?_)
   refine aN (fun _=>?_) (fun h=>absurd hposk (of_decide_eq_false h))
   refine bN2 ?_
   rw [r2]
   refine aN ⟨by omega,by rw [l1]; omega⟩ ?_
   rw [c2]
   refine bN2 ?_
   rw [r2]
   (refine rNG ?_)
   refine aN ⟨by omega,by rw [l1]; omega⟩ ?_
   rw [c3]
   (refine rNG ?_)
   refine bN2 ?_
   rw [hgb]
   refine eX _ (aN (hNb) ?_)
   (refine rNG ?_)
   refine aN (fun hc2=>?_) (fun hc2=>?_)
   ·have hc2:gP (farF n) a b (m + 1) (k + 1) = gP (farF n) a b (m + 1) k + nd b[k]:=eq_of_beq hc2
    have hL:=lst_ins (wayR n) (farF n) hm hk hc hc2
    rw [hL] at hI hql
    rw [List.length_cons] at hql
    have hA:=s_wadd 2 ⟨by decide,by decide⟩ (p++[sI (m + 1)]) b[k] (q++L.map (preO p)) (by rw [List.length_append,List.length_singleton]; omega) (hb _ (List.getElem_mem hk)) (by omega)
    have e1:q++L.map (preO p)++[mkO 2 (p++[sI (m + 1)]) b[k]] = q++(L++[mkO 2 [sI (m + 1)] b[k]]).map (preO p):=by rw [List.map_append,List.append_assoc]; rfl
    rw [e1] at hA
    have hA2:CSpec Tryd.prog 30 [.pt 1000 0,.i .i64 2,.vec 1005 .pstep (p++[sI (m + 1)]),.agg (encVal b[k])] [(1000,[.vec 1001 .op (q++L.map (preO p))])] (.tup []) [(1000,[.vec 1001 .op (q++(L++[mkO 2 [sI (m + 1)] b[k]]).map (preO p))])]:=hA.frz 1005 rfl rfl rfl
    (repeat' (first | (refine aN (fun h=>?_) (fun h=>?_)<;>(try simp [-List.getD_eq_getElem?_getD,-Int.pred_toNat] at h)<;>(try (exfalso; first | omega | contradiction))) | refine bX ?_ | intro _))
    rw [ek]
    refine eX [.take 0,.take 1,.take 3,.take 7,.take 8,.take 9,.tree 5 [2,4,5,6,10] (.opt 2 (.opt 4 (.opt 5 (.opt 6 (.opt 10 .fin .non) (.opt 10 (.opt 6 .fin .non) .non)) (.opt 10 (.opt 5 (.opt 6 .fin .non) .non) .non)) (.opt 10 (.opt 4 (.opt 5 (.opt 6 .fin .non) .non) .non) .non)) (.opt 4 (.opt 2 (.opt 5 (.opt 6 (.opt 10 .fin .non) (.opt 10 (.opt 6 .fin .non) .non)) (.opt 10 (.opt 5 (.opt 6 .fin .non) .non) .non)) (.opt 5 (.opt 2 (.opt 6 (.opt 10 .fin .non) (.opt 10 (.opt 6 .fin .non) .non)) (.opt 10 (.opt 2 (.opt 6 .fin .non) .non) .non)) (.opt 10 (.opt 2 (.opt 5 (.opt 6 .fin .non) .non) (.opt 5 (.opt 2 (.opt 6 .fin .non) .non) .non)) .non))) (.opt 10 (.opt 2 (.opt 4 (.opt 5 (.opt 6 .fin .non) .non) .non) (.opt 4 (.opt 2 (.opt 5 (.opt 6 .fin .non) .non) (.opt 5 (.opt 2 (.opt 6 .fin .non) .non) .non)) .non)) .non))),.one 11] (aN (by kernel_rfl) ?_)
    refine bN2 ?_
    rw [getI (τ:=.val) hk]
    refine eX ⟨[(0,.pt 1000 0),(1,.rd .val a),(2,.rd .val b),(3,.rd .pstep p),(8,.rd .ints (gridP (farF n) a b)),(9,.i .i64 ((m + 1:Nat):Int)),(10,.i .i64 (k:Int)),(113,.pt 1000 0),(119,.vec 119 .pstep (p++[sI (m + 1)])),(123,.agg (encVal b[k]))],[(1000,[.vec 1001 .op (q++L.map (preO p))])]⟩ (aN ?_ ?_)
    ·repeat' first
      | exact trivial
      | refine aN (show (p.length + 1) * 24≤140737488355328 by omega) ?_
      | refine aN ?_ ?_
      |
       refine Or.inr (Or.inl (eX [] (eX _ (eX _ (eX _ (eX _ (eX _ (eX [(1000,115)] (aN (hC) ?_)))))))))
       refine (aN rfl (aN rfl (aN rfl (aN rfl ?_))))
     all_goals exact wK
    refine Or.inr (Or.inl (eX [] (eX _ (eX _ (eX _ (eX _ (eX _ (eX [(1000,1000),(1001,1001),(1005,119)] (aN (hA2) ?_)))))))))
    refine (aN rfl (aN rfl (aN rfl (aN rfl (aN rfl ?_)))))
    refine eX [] (eX (m + 1,k,L++[mkO 2 [sI (m + 1)] b[k]]) (aN ⟨hi,Nat.le_of_lt hk,by rw [hI,List.append_assoc]; rfl⟩ (aN ?_ ?_)))
    ·exact wK
    ·simp only
     omega
   ·have hc2:¬ gP (farF n) a b (m + 1) (k + 1) = gP (farF n) a b (m + 1) k + nd b[k]:=ne_of_beq_false hc2
    have hL:=lst_both (wayR n) (farF n) hm hk hc hc2
    rw [hL] at hI hql
    rw [List.length_append,List.length_map] at hql
    have hW:=ih _ (List.getElem_mem hm) _ (List.getElem_mem hk) (sI m) (q++L.map (preO p)) (by omega)
    have e1:q++L.map (preO p)++(wayR n a[m] b[k]).map (preO (p++[sI m])) = q++(L++(wayR n a[m] b[k]).map (preO [sI m])).map (preO p):=by rw [List.map_append,List.append_assoc,map_pre]
    rw [e1] at hW
    have hW2:CSpec Tryd.prog 14 [.pt 1000 0,.agg (encVal a[m]),.agg (encVal b[k]),.vec 1005 .pstep (p++[sI m])] [(1000,[.vec 1001 .op (q++L.map (preO p))])] (.tup []) [(1000,[.vec 1001 .op (q++(L++(wayR n a[m] b[k]).map (preO [sI m])).map (preO p))])]:=hW.frz 1005 rfl rfl rfl
    (repeat' (first | (refine aN (fun h=>?_) (fun h=>?_)<;>(try simp [-List.getD_eq_getElem?_getD,-Int.pred_toNat] at h)<;>(try (exfalso; first | omega | contradiction))) | refine bX ?_ | intro _))
    rw [em,ek]
    refine eX [.take 0,.take 1,.take 2,.take 3,.take 5,.take 6,.take 7,.take 9,.take 11,.tree 6 [4,8,10,12,13,14] (.opt 4 (.opt 8 (.opt 10 (.opt 12 (.opt 13 (.opt 14 .fin .non) .non) .non) (.opt 12 (.opt 10 (.opt 13 (.opt 14 .fin .non) .non) (.opt 13 (.opt 10 (.opt 14 .fin .non) .non) .non)) .non)) (.opt 10 (.opt 8 (.opt 12 (.opt 13 (.opt 14 .fin .non) .non) .non) (.opt 12 (.opt 8 (.opt 13 (.opt 14 .fin .non) .non) (.opt 13 (.opt 8 (.opt 14 .fin .non) (.opt 14 (.opt 8 .fin .non) .non)) .non)) .non)) (.opt 12 (.opt 8 (.opt 10 (.opt 13 (.opt 14 .fin .non) .non) (.opt 13 (.opt 10 (.opt 14 .fin .non) .non) .non)) (.opt 10 (.opt 8 (.opt 13 (.opt 14 .fin .non) .non) (.opt 13 (.opt 8 (.opt 14 .fin .non) (.opt 14 (.opt 8 .fin .non) .non)) .non)) (.opt 13 (.opt 8 (.opt 10 (.opt 14 .fin .non) .non) (.opt 10 (.opt 8 (.opt 14 .fin .non) (.opt 14 (.opt 8 .fin .non) .non)) .non)) .non))) .non))) (.opt 8 (.opt 4 (.opt 10 (.opt 12 (.opt 13 (.opt 14 .fin .non) .non) .non) (.opt 12 (.opt 10 (.opt 13 (.opt 14 .fin .non) .non) (.opt 13 (.opt 10 (.opt 14 .fin .non) .non) .non)) .non)) (.opt 10 (.opt 4 (.opt 12 (.opt 13 (.opt 14 .fin .non) .non) .non) (.opt 12 (.opt 4 (.opt 13 (.opt 14 .fin .non) .non) (.opt 13 (.opt 4 (.opt 14 .fin .non) (.opt 14 (.opt 4 .fin .non) .non)) .non)) .non)) (.opt 12 (.opt 4 (.opt 10 (.opt 13 (.opt 14 .fin .non) .non) (.opt 13 (.opt 10 (.opt 14 .fin .non) .non) .non)) (.opt 10 (.opt 4 (.opt 13 (.opt 14 .fin .non) .non) (.opt 13 (.opt 4 (.opt 14 .fin .non) (.opt 14 (.opt 4 .fin .non) .non)) .non)) (.opt 13 (.opt 4 (.opt 10 (.opt 14 .fin .non) .non) (.opt 10 (.opt 4 (.opt 14 .fin .non) (.opt 14 (.opt 4 .fin .non) .non)) .non)) .non))) .non))) (.opt 10 (.opt 4 (.opt 8 (.opt 12 (.opt 13 (.opt 14 .fin .non) .non) .non) (.opt 12 (.opt 8 (.opt 13 (.opt 14 .fin .non) .non) (.opt 13 (.opt 8 (.opt 14 .fin .non) (.opt 14 (.opt 8 .fin .non) .non)) .non)) .non)) (.opt 8 (.opt 4 (.opt 12 (.opt 13 (.opt 14 .fin .non) .non) .non) (.opt 12 (.opt 4 (.opt 13 (.opt 14 .fin .non) .non) (.opt 13 (.opt 4 (.opt 14 .fin .non) (.opt 14 (.opt 4 .fin .non) .non)) .non)) .non)) (.opt 12 (.opt 4 (.opt 8 (.opt 13 (.opt 14 .fin .non) .non) (.opt 13 (.opt 8 (.opt 14 .fin .non) (.opt 14 (.opt 8 .fin .non) .non)) .non)) (.opt 8 (.opt 4 (.opt 13 (.opt 14 .fin .non) .non) (.opt 13 (.opt 4 (.opt 14 .fin .non) (.opt 14 (.opt 4 .fin .non) .non)) .non)) (.opt 13 (.opt 4 (.opt 8 (.opt 14 .fin .non) (.opt 14 (.opt 8 .fin .non) .non)) (.opt 8 (.opt 4 (.opt 14 .fin .non) (.opt 14 (.opt 4 .fin .non) .non)) (.opt 14 (.opt 4 (.opt 8 .fin .non) (.opt 8 (.opt 4 .fin .non) .non)) .non))) .non))) .non))) (.opt 12 (.opt 4 (.opt 8 (.opt 10 (.opt 13 (.opt 14 .fin .non) .non) (.opt 13 (.opt 10 (.opt 14 .fin .non) .non) .non)) (.opt 10 (.opt 8 (.opt 13 (.opt 14 .fin .non) .non) (.opt 13 (.opt 8 (.opt 14 .fin .non) (.opt 14 (.opt 8 .fin .non) .non)) .non)) (.opt 13 (.opt 8 (.opt 10 (.opt 14 .fin .non) .non) (.opt 10 (.opt 8 (.opt 14 .fin .non) (.opt 14 (.opt 8 .fin .non) .non)) .non)) .non))) (.opt 8 (.opt 4 (.opt 10 (.opt 13 (.opt 14 .fin .non) .non) (.opt 13 (.opt 10 (.opt 14 .fin .non) .non) .non)) (.opt 10 (.opt 4 (.opt 13 (.opt 14 .fin .non) .non) (.opt 13 (.opt 4 (.opt 14 .fin .non) (.opt 14 (.opt 4 .fin .non) .non)) .non)) (.opt 13 (.opt 4 (.opt 10 (.opt 14 .fin .non) .non) (.opt 10 (.opt 4 (.opt 14 .fin .non) (.opt 14 (.opt 4 .fin .non) .non)) .non)) .non))) (.opt 10 (.opt 4 (.opt 8 (.opt 13 (.opt 14 .fin .non) .non) (.opt 13 (.opt 8 (.opt 14 .fin .non) (.opt 14 (.opt 8 .fin .non) .non)) .non)) (.opt 8 (.opt 4 (.opt 13 (.opt 14 .fin .non) .non) (.opt 13 (.opt 4 (.opt 14 .fin .non) (.opt 14 (.opt 4 .fin .non) .non)) .non)) (.opt 13 (.opt 4 (.opt 8 (.opt 14 .fin .non) (.opt 14 (.opt 8 .fin .non) .non)) (.opt 8 (.opt 4 (.opt 14 .fin .non) (.opt 14 (.opt 4 .fin .non) .non)) (.opt 14 (.opt 4 (.opt 8 .fin .non) (.opt 8 (.opt 4 .fin .non) .non)) .non))) .non))) (.opt 13 (.opt 4 (.opt 8 (.opt 10 (.opt 14 .fin .non) .non) (.opt 10 (.opt 8 (.opt 14 .fin .non) (.opt 14 (.opt 8 .fin .non) .non)) .non)) (.opt 8 (.opt 4 (.opt 10 (.opt 14 .fin .non) .non) (.opt 10 (.opt 4 (.opt 14 .fin .non) (.opt 14 (.opt 4 .fin .non) .non)) .non)) (.opt 10 (.opt 4 (.opt 8 (.opt 14 .fin .non) (.opt 14 (.opt 8 .fin .non) .non)) (.opt 8 (.opt 4 (.opt 14 .fin .non) (.opt 14 (.opt 4 .fin .non) .non)) (.opt 14 (.opt 4 (.opt 8 .fin .non) (.opt 8 (.opt 4 .fin .non) .non)) .non))) .non))) .non)))) .non)))),.one 15] (aN (by kernel_rfl) ?_)
    refine bN2 ?_
    rw [getI (τ:=.val) hm]
    refine bN2 ?_
    rw [getI (τ:=.val) hk]
    refine eX ⟨[(0,.pt 1000 0),(1,.rd .val a),(2,.rd .val b),(3,.rd .pstep p),(8,.rd .ints (gridP (farF n) a b)),(9,.i .i64 (m:Int)),(10,.i .i64 (k:Int)),(28,.pt 1000 0),(32,.agg (encVal a[m])),(36,.agg (encVal b[k])),(42,.vec 42 .pstep (p++[sI m]))],[(1000,[.vec 1001 .op (q++L.map (preO p))])]⟩ (aN ?_ ?_)
    ·repeat' first
      | exact trivial
      | refine aN (show (p.length + 1) * 24≤140737488355328 by omega) ?_
      | refine aN ?_ ?_
      |
       refine Or.inr (Or.inl (eX [] (eX _ (eX _ (eX _ (eX _ (eX _ (eX [(1000,38)] (aN (hC) ?_)))))))))
       refine (aN rfl (aN rfl (aN rfl (aN rfl ?_))))
     all_goals exact wK
    refine Or.inr (Or.inl (eX [] (eX _ (eX _ (eX _ (eX _ (eX _ (eX [(1000,1000),(1001,1001),(1005,42)] (aN (hW2) ?_)))))))))
    refine (aN rfl (aN rfl (aN rfl (aN rfl (aN rfl ?_)))))
    refine eX [] (eX (m,k,L++(wayR n a[m] b[k]).map (preO [sI m])) (aN ⟨Nat.le_of_lt hm,Nat.le_of_lt hk,by rw [hI,List.append_assoc]⟩ (aN ?_ ?_)))
    ·exact wK
    ·simp only
     omega
theorem s_wlst (n:Nat) (a b:List Val) (p:List PStep) (q:List OpR) (hp:p.length≤900000) (hb:∀ y ∈ b,VN 100000000 y) (hd1:∀ x ∈ a,∀ y ∈ b,farF n x y≤2000000) (sa:sumN a≤1000) (sb:sumN b≤1000) (hs:∀ x ∈ a,∀ y ∈ b,PSpec Tryd.prog 21 [.agg (encVal x),.agg (encVal y)] (.i .i64 (farF n x y))) (hq:q.length + (lstW (wayR n) (farF n) a b a.length b.length).length≤1000000) (ih:∀ x ∈ a,∀ y ∈ b,∀ (s:PStep) (q':List OpR),q'.length + (wayR n x y).length≤1000000→CSpec Tryd.prog 14 [.pt 1000 0,.agg (encVal x),.agg (encVal y),.rd .pstep (p++[s])] [(1000,[.vec 1001 .op q'])] (.tup []) [(1000,[.vec 1001 .op (q'++(wayR n x y).map (preO (p++[s])))])]):CSpec Tryd.prog 29 [.pt 1000 0,.rd .val a,.rd .val b,.rd .pstep p] [(1000,[.vec 1001 .op q])] (.tup []) [(1000,[.vec 1001 .op (q++(lstW (wayR n) (farF n) a b a.length b.length).map (preO p))])] :=
 cspec_of_vc Γ_good Tryd.func29 rfl Tryd.call29 Tryd.results29 Tryd.ntmps29 (Nat.le_of_ble_eq_true rfl) (Nat.le_of_ble_eq_true rfl) (by rfl) (w_wlst n a b p q hp hb hd1 sa sb hs hq ih)
end
end Go.Proofs.YtfeniggadfkakaaDoor
end
section
namespace Go.Proofs.YtfeniggadfkakaaDoor
open Go Go.SX Go.Ck Go.Vl
set_option maxRecDepth 100000
set_option maxHeartbeats 1000000
section
variable [G:Globs]
theorem w_sizeD (a:Val) (hn:(sizV a).2≤1000000000) (hl:∀ x ∈ a.l,PSpec Tryd.prog 16 [.agg (encVal x)] (.tup [.i .i64 (sizV x).1,.i .i64 (sizV x).2])) (he:∀ x ∈ a.e,PSpec Tryd.prog 16 [.agg (encVal x.2)] (.tup [.i .i64 (sizV x.2).1,.i .i64 (sizV x.2).2])):vc Tryd.prog Γ 56 [1,2,3,4,5,7,8,9,11,12,13,15,16,17,18,34,35,36,37] (Tryd.f16.body.getD .skip) (postK Γ [.tmp 2,.tmp 3] (fun v=>v = .tup [.i .i64 (sizV a).1,.i .i64 (sizV a).2])) ⟨argSlots 0 [.agg (encVal a)],[]⟩:=by
 intro hll
 have hlen:=siz_len a
 refine eX [] (eX [] (eX [] (eX Nat (eX (fun i=>i≤a.l.length) (eX (fun i=>⟨[(1,.pt 1 0),(4,.i .i64 (foldS (a.l.take i) (0,1)).1),(5,.i .i64 (foldS (a.l.take i) (0,1)).2),(15,.rd .val a.l),(16,.i .i64 a.l.length),(17,.i .i64 i)],[(1,encVal a)]⟩) (eX (fun i=>a.l.length - i) (eX 0 (aN (Nat.zero_le _) (aN ?_ ?_)))))))))
 ·exact wK
 ·rintro i hi
  refine aN (fun hz=>?_) (fun hz=>?_)
  ·have hi:=ltD hz
   have hg:=getI (τ:=.val) hi
   refine bN2 ?_
   rw [hg]
   have hs:=hl a.l[i] (List.getElem_mem hi)
   refine Or.inl (eX _ (aN (hs) ?_))
   have e1:foldS (a.l.take (i + 1)) (0,1) = addS (foldS (a.l.take i) (0,1)) (sizV a.l[i]):=by rw [take_snoc hi,foldS_snoc]
   have h1:=siz_pre (v:=a) (l:=a.l.take i) (k:=a.l.drop i++a.e.map (·.2)) (by rw [← List.append_assoc,List.take_append_drop]; rfl)
   have h2:=siz_pre (v:=a) (l:=a.l.take (i + 1)) (k:=a.l.drop (i + 1)++a.e.map (·.2)) (by rw [← List.append_assoc,List.take_append_drop]; rfl)
   have e2:(foldS (a.l.take (i + 1)) (0,1)).2 = (foldS (a.l.take i) (0,1)).2 + (sizV a.l[i]).2:=congrArg (·.2) e1
   have e3:(foldS (a.l.take (i + 1)) (0,1)).1 = _:=congrArg (·.1) e1
   (refine rNG ?_)
   (refine rNG ?_)
   refine eX [] (eX (i + 1) (aN hi (aN ?_ ?_)))
   ·(repeat' (first | exact wA | exact Or.inl ((congrArg (fun p:Int × Int=>AV.i .i64 p.1) e1.symm)) | exact Or.inl ((congrArg (fun p:Int × Int=>AV.i .i64 p.2) e1.symm)) | refine aN ?_ ?_))
   ·show a.l.length - (i + 1) < a.l.length - i
    omega
  ·have hi:=geD hi hz
   subst hi
   rw [List.take_length]
   intro hle
   refine eX [] (eX [] (eX [] (eX Nat (eX (fun i=>i≤a.e.length) (eX (fun i=>⟨[(4,.i .i64 (foldS (a.l++(a.e.take i).map (·.2)) (0,1)).1),(5,.i .i64 (foldS (a.l++(a.e.take i).map (·.2)) (0,1)).2),(34,.rd .ent a.e),(35,.i .i64 a.e.length),(36,.i .i64 i)],[]⟩) (eX (fun i=>a.e.length - i) (eX 0 (aN (Nat.zero_le _) (aN ?_ ?_)))))))))
   ·have e0:foldS (a.l++(a.e.take 0).map (·.2)) (0,1) = foldS a.l (0,1):=by rw [List.take_zero,List.map_nil,List.append_nil]
    (repeat' (first | exact wA | exact Or.inl ((congrArg (fun p:Int × Int=>AV.i .i64 p.1) e0.symm)) | exact Or.inl ((congrArg (fun p:Int × Int=>AV.i .i64 p.2) e0.symm)) | refine aN ?_ ?_))
   ·rintro i hi
    refine aN (fun hz=>?_) (fun hz=>?_)
    ·have hi:=ltD hz
     have hg:=getI (τ:=.ent) hi
     refine bN2 ?_
     rw [hg]
     have hs:=he a.e[i] (List.getElem_mem hi)
     refine Or.inl (eX _ (aN (hs) ?_))
     have hsn:a.l++(a.e.take (i + 1)).map (·.2) = (a.l++(a.e.take i).map (·.2))++[a.e[i].2]:=by rw [take_snoc hi,List.map_append,← List.append_assoc]; rfl
     have e1:foldS (a.l++(a.e.take (i + 1)).map (·.2)) (0,1) = addS (foldS (a.l++(a.e.take i).map (·.2)) (0,1)) (sizV a.e[i].2):=by rw [hsn,foldS_snoc]
     have h1:=siz_pre (v:=a) (l:=a.l++(a.e.take i).map (·.2)) (k:=(a.e.drop i).map (·.2)) (by rw [List.append_assoc,← List.map_append,List.take_append_drop]; rfl)
     have h2:=siz_pre (v:=a) (l:=a.l++(a.e.take (i + 1)).map (·.2)) (k:=(a.e.drop (i + 1)).map (·.2)) (by rw [List.append_assoc,← List.map_append,List.take_append_drop]; rfl)
     have e2:(foldS (a.l++(a.e.take (i + 1)).map (·.2)) (0,1)).2 = (foldS (a.l++(a.e.take i).map (·.2)) (0,1)).2 + (sizV a.e[i].2).2:=congrArg (·.2) e1
     (refine rNG ?_)
     (refine rNG ?_)
     refine eX [] (eX (i + 1) (aN hi (aN ?_ ?_)))
     ·(repeat' (first | exact wA | exact Or.inl ((congrArg (fun p:Int × Int=>AV.i .i64 p.1) e1.symm)) | exact Or.inl ((congrArg (fun p:Int × Int=>AV.i .i64 p.2) e1.symm)) | refine aN ?_ ?_))
     ·show a.e.length - (i + 1) < a.e.length - i
      omega
    ·have hi:=geD hi hz
     subst hi
     rw [List.take_length]
     have h1:=siz_pre (v:=a) (l:=a.l++a.e.map (·.2)) (k:=[]) (by rw [List.append_nil]; rfl)
     (refine rNG ?_)
     rw [sizV_eq]
     rfl
theorem s_sizeD (a:Val) (hn:(sizV a).2≤1000000000) (hl:∀ x ∈ a.l,PSpec Tryd.prog 16 [.agg (encVal x)] (.tup [.i .i64 (sizV x).1,.i .i64 (sizV x).2])) (he:∀ x ∈ a.e,PSpec Tryd.prog 16 [.agg (encVal x.2)] (.tup [.i .i64 (sizV x.2).1,.i .i64 (sizV x.2).2])):PSpec Tryd.prog 16 [.agg (encVal a)] (.tup [.i .i64 (sizV a).1,.i .i64 (sizV a).2]) :=
 pspec_of_vc Γ_good Tryd.func16 rfl Tryd.call16 Tryd.results16 Tryd.ntmps16 (Nat.le_of_ble_eq_true rfl) (w_sizeD a hn hl he)
theorem s_SizeD:∀ (n:Nat) (y:Val),SizeOf.sizeOf y < n→(sizV y).2≤1000000000→PSpec Tryd.prog 16 [.agg (encVal y)] (.tup [.i .i64 (sizV y).1,.i .i64 (sizV y).2]):=by
 intro n
 induction n with
 | zero=>intro y h; exact absurd h (Nat.not_lt_zero _)
 | succ n ih =>
  intro y h hn
  refine s_sizeD y hn (fun x hx=>ih x (by have:=val_sz_l hx; omega) ?_) (fun x hx=>ih x.2 (by have:=val_sz_e hx; omega) ?_)
  ·have:=(siz_parts y).2 x (List.mem_append_left _ hx); omega
  ·have:=(siz_parts y).2 x.2 (List.mem_append_right _ (List.mem_map.2 ⟨x,hx,rfl⟩)); omega
end
end Go.Proofs.YtfeniggadfkakaaDoor
end
section
namespace Go.Proofs.YtfeniggadfkakaaDoor
open Go Go.SX Go.Vl Go.Ck Go.Up Go.Df
set_option maxRecDepth 100000
set_option maxHeartbeats 4000000
section
variable [G:Globs]
theorem w_farD1 (n:Nat) (a b:Val) (ca cb:Int) (oa:OKV ca a) (ob:OKV cb b) (ha:VB a) (hb:VB b) (na:nd a≤1000) (nb:nd b≤1000) (ihl:∀ x ∈ a.l,∀ y ∈ b.l,PSpec Tryd.prog 10 [.agg (encVal x),.agg (encVal y)] (.i .i64 (farF n x y))) (ihe:∀ x ∈ a.e,∀ y ∈ b.e,PSpec Tryd.prog 10 [.agg (encVal x.2),.agg (encVal y.2)] (.i .i64 (farF n x.2 y.2))):vc Tryd.prog Γ 251 [2,3,4,6,8,9,11,12,14,16,18,19,20,22,23,25,26,27,29,30,31,32,45,55,61,63,64,65,66,75,98,99,100,101,109,131,158,193,220,241] (Tryd.f10.body.getD .skip) (postK Γ [.tmp 4] (fun v=>v = .i .i64 (farF (n + 1) a b))) ⟨argSlots 0 [.agg (encVal a),.agg (encVal b)],[]⟩:=by
 have hC:=s_same a b ha hb
 have hNa:=s_SizeD _ a (Nat.lt_succ_self _) (show nd a≤1000000000 by omega)
 have hNb:=s_SizeD _ b (Nat.lt_succ_self _) (show nd b≤1000000000 by omega)
 have ka:=oa.kind
 have kb:=ob.kind
 have sla:=sum_l a
 have slb:=sum_l b
 have pl:=sumN_nn a.l
 have pe:=sumN_nn (a.e.map (·.2))
 have ql:=sumN_nn b.l
 have qe:=sumN_nn (b.e.map (·.2))
 rw [List.length_map] at pe qe
 refine Or.inl (eX _ (aN (hNa) ?_))
 refine Or.inl (eX _ (aN (hNb) ?_))
 refine Or.inl (eX _ (aN (hC) ?_))
 by_cases h0:cmpV a b = 0
 ·rw [show farF (n + 1) a b = 0 by rw [farF,if_pos h0]]
  refine aN (fun _=>rfl) (fun h=>absurd h0 (of_decide_eq_false h))
 refine aN (fun h=>absurd (of_decide_eq_true h) h0) (fun _=>?_)
 by_cases k6:a.kind = 6∧b.kind = 6
 ·rw [farF_tab n h0 k6]
  have hA:∀ x ∈ a.e,0≤tabA (farF n) b.e x∧tabA (farF n) b.e x≤2000000:=fun x hx=>by
   refine ⟨tabA_nn (far_nn n) _ _,?_⟩
   have h1:=nd_e hx
   unfold tabA
   split
   ·rename_i hh
    have hi:=ix_bound (l:=b.e) (q:=keyIs x.1) (by omega)
    refine far_small n (by omega) ?_
    rw [List.getD_eq_getElem?_getD,List.getElem?_eq_getElem hi.2.1]
    have:=nd_e (List.getElem_mem hi.2.1)
    show nd b.e[(ixI b.e (keyIs x.1)).toNat].2≤1000
    omega
   ·omega
  have hB:∀ x ∈ b.e,0≤tabB a.e x∧tabB a.e x≤1000:=fun x hx=>by
   have h1:=nd_e hx
   have h2:=tabB_b a.e x
   omega
  have sA:=fun i=>sum_lim (tabA (farF n) b.e) 2000000 (a.e.take i) fun x hx=>hA x (List.mem_of_mem_take hx)
  have sB:=fun i=>sum_lim (tabB a.e) 1000 (b.e.take i) fun x hx=>hB x (List.mem_of_mem_take hx)
  have lA:∀ i,((a.e.take i).length:Int)≤1000:=fun i=>by rw [List.length_take]; omega
  have lB:∀ i,((b.e.take i).length:Int)≤1000:=fun i=>by rw [List.length_take]; omega
  have TA:∀ i,0≤((a.e.take i).map (tabA (farF n) b.e)).sum∧((a.e.take i).map (tabA (farF n) b.e)).sum≤2000000000:=fun i=>by have:=sA i; have:=lA i; omega
  have TB:∀ i,0≤((b.e.take i).map (tabB a.e)).sum∧((b.e.take i).map (tabB a.e)).sum≤1000000:=fun i=>by have:=sB i; have:=lB i; omega
  (repeat' (first | (refine aN (fun h=>?_) (fun h=>?_)<;>(try simp [-List.getD_eq_getElem?_getD,-Int.pred_toNat] at h)<;>(try (exfalso; first | omega | contradiction))) | refine bX ?_ | intro _))
  refine eX [] (eX [] (eX [] (eX Nat (eX (fun i=>i≤(a.e).length) (eX (fun i=>⟨[(2,.pt 2 0),(3,.pt 3 0),(9,.i .i64 ((a.e.take i).map (tabA (farF n) b.e)).sum),(63,.rd .ent a.e),(64,.i .i64 a.e.length),(65,.i .i64 i)],[(2,encVal a),(3,encVal b)]⟩) (eX (fun i=>(a.e).length - i) (eX 0 (aN (Nat.zero_le _) (aN ?_ ?_)))))))))
  ·exact wK
  rintro i hi
  refine aN (fun hz=>?_) (fun hz=>?_)
  ·have hi:=ltD hz
   have hg:=getI (τ:=.ent) hi
   refine bN2 ?_
   rw [hg]
   have hm:=List.getElem_mem hi
   have hS:=sum_snoc (tabA (farF n) b.e) a.e hi
   have t1:=TA i
   have t2:=hA _ hm
   have hnx:=nd_e hm
   have hF:=s_entAt b.e a.e[i].1
   refine Or.inl (eX _ (aN (hF) ?_))
   refine aN (fun hc=>?_) (fun hc=>?_)
   ·have hc:¬ 0≤ixI b.e (keyIs a.e[i].1):=by have:=of_decide_eq_true hc; omega
    have hT:tabA (farF n) b.e a.e[i] = (sizV a.e[i].2).2:=if_neg hc
    have hN:=s_SizeD _ a.e[i].2 (Nat.lt_succ_self _) (show nd a.e[i].2≤1000000000 by omega)
    rw [← hT] at hN
    refine Or.inl (eX _ (aN (hN) ?_))
    (refine rNG ?_)
    (refine rNG ?_)
    refine eX [] (eX (_ + 1) (aN hi (aN ?_ ?_)))
    ·(repeat' (first | exact wA | exact Or.inl (congrArg (AV.i .i64) hS.symm) | refine aN ?_ ?_))
    ·(exact Nat.sub_lt_sub_left (by omega) (by omega))
   ·have hc:0≤ixI b.e (keyIs a.e[i].1):=by have:=of_decide_eq_false hc; omega
    have hb':=ix_bound (l:=b.e) (q:=keyIs a.e[i].1) (by omega)
    have hT:tabA (farF n) b.e a.e[i] = farF n a.e[i].2 (b.e.getD (ixI b.e (keyIs a.e[i].1)).toNat (dflt .ent)).2:=if_pos hc
    have hgd:b.e.getD (ixI b.e (keyIs a.e[i].1)).toNat (dflt .ent) = b.e[(ixI b.e (keyIs a.e[i].1)).toNat]'hb'.2.1:=by rw [List.getD_eq_getElem?_getD,List.getElem?_eq_getElem hb'.2.1]; rfl
    have hI:=ihe _ hm _ (List.getElem_mem hb'.2.1)
    rw [← hgd,← hT] at hI
    refine eX [.blk [0,1,2,3,4,5,6,7,8,9,10,11]] (aN (by kernel_rfl) ?_)
    refine bN2 ?_
    refine eX _ (aN (hI) ?_)
    (refine rNG ?_)
    (refine rNG ?_)
    refine eX [] (eX (_ + 1) (aN hi (aN ?_ ?_)))
    ·(repeat' (first | exact wA | exact Or.inl (congrArg (AV.i .i64) hS.symm) | refine aN ?_ ?_))
    ·(exact Nat.sub_lt_sub_left (by omega) (by omega))
  ·(have hi:=geD hi hz)
   subst hi
   rw [List.take_length]
   have ta:=TA a.e.length
   rw [List.take_length] at ta
   unfold tabF
   generalize (a.e.map (tabA (farF n) b.e)).sum = Z at *
   (repeat' (first | (refine aN (fun h=>?_) (fun h=>?_)<;>(try simp [-List.getD_eq_getElem?_getD,-Int.pred_toNat] at h)<;>(try (exfalso; first | omega | contradiction))) | refine bX ?_ | intro _))
   refine eX [] (eX [] (eX [] (eX Nat (eX (fun i=>i≤b.e.length) (eX (fun i=>⟨[(2,.pt 2 0),(9,.i .i64 (Z + ((b.e.take i).map (tabB a.e)).sum)),(98,.rd .ent b.e),(99,.i .i64 b.e.length),(100,.i .i64 i)],[(2,encVal a)]⟩) (eX (fun i=>b.e.length - i) (eX 0 (aN (Nat.zero_le _) (aN ?_ ?_)))))))))
   ·(repeat' (first | exact wA | exact Or.inl ((congrArg (AV.i .i64) (Int.add_zero Z).symm)) | refine aN ?_ ?_))
   rintro i hi
   refine aN (fun hz=>?_) (fun hz=>?_)
   ·have hi:=ltD hz
    have hg:=getI (τ:=.ent) hi
    refine bN2 ?_
    rw [hg]
    have hm:=List.getElem_mem hi
    have hS:=sum_snoc (tabB a.e) b.e hi
    have t1:=TB i
    have t2:=hB _ hm
    have hnx:=nd_e hm
    have hF:=s_entAt a.e b.e[i].1
    refine Or.inl (eX _ (aN (hF) ?_))
    refine aN (fun hc=>?_) (fun hc=>?_)
    ·have hc:ixI a.e (keyIs b.e[i].1) < 0:=of_decide_eq_true hc
     have hT:tabB a.e b.e[i] = (sizV b.e[i].2).2:=if_pos hc
     have hN:=s_SizeD _ b.e[i].2 (Nat.lt_succ_self _) (show nd b.e[i].2≤1000000000 by omega)
     rw [← hT] at hN
     refine Or.inl (eX _ (aN (hN) ?_))
     (refine rNG ?_)
     (refine rNG ?_)
     refine eX [] (eX (_ + 1) (aN hi (aN ?_ ?_)))
     ·(repeat' (first | exact wA | exact Or.inl (congrArg (AV.i .i64) (by rw [hS,Int.add_assoc])) | refine aN ?_ ?_))
     ·(exact Nat.sub_lt_sub_left (by omega) (by omega))
    ·have hc:¬ ixI a.e (keyIs b.e[i].1) < 0:=of_decide_eq_false hc
     have hT:tabB a.e b.e[i] = 0:=if_neg hc
     rw [hT] at hS
     (refine rNG ?_)
     refine eX [] (eX (_ + 1) (aN hi (aN ?_ ?_)))
     ·(repeat' (first | exact wA | exact Or.inl (congrArg (AV.i .i64) (by rw [hS,Int.add_zero])) | refine aN ?_ ?_))
     ·(exact Nat.sub_lt_sub_left (by omega) (by omega))
   ·(have hi:=geD hi hz)
    subst hi
    rw [List.take_length]
    exact rfl
 ·by_cases k5:a.kind = 5∧b.kind = 5
  ·rw [farF_list n h0 k6 k5]
   have tn:∀ k:Nat,((k:Int) + 1).toNat = k + 1:=fun k=>by omega
   generalize hd:farF n = d at *
   have dnn:∀ x y,0≤d x y:=fun x y=>by rw [← hd]; exact far_nn n x y
   have dle:∀ x ∈ a.l,∀ y ∈ b.l,d x y≤2000000:=fun x hx y hy=>by rw [← hd]; exact far_small n (by have:=nd_l hx; omega) (by have:=nd_l hy; omega)
   (repeat' (first | (refine aN (fun h=>?_) (fun h=>?_)<;>(try simp [-List.getD_eq_getElem?_getD,-Int.pred_toNat] at h)<;>(try (exfalso; first | omega | contradiction))) | refine bX ?_ | intro _))
   refine aN ⟨by omega,by omega,by omega,show ((b.l.length:Int) + 1).toNat * 8≤140737488355328 by omega⟩ ?_
   rw [tn]
   have hz0:List.replicate (b.l.length + 1) (0:Int) = backTo d a.l b.l a.l.length b.l.length:=by
    rw [← backTo_set d a.l b.l a.l.length (Nat.lt_succ_self _),backTo_none,List.drop_length,List.drop_length,ed]
    simp [List.replicate_succ']
   (repeat' (first | (refine aN (fun h=>?_) (fun h=>?_)<;>(try simp [-List.getD_eq_getElem?_getD,-Int.pred_toNat] at h)<;>(try (exfalso; first | omega | contradiction))) | refine bX ?_ | intro _))
   refine eX [] (eX [] (eX [(125,19)] (eX Nat (eX (fun c=>c≤b.l.length) (eX (fun c=>⟨[(2,.pt 2 0),(3,.pt 3 0),(19,.vec 19 .int (backTo d a.l b.l a.l.length c)),(20,.i .i64 ((c:Int) - 1))],[(2,encVal a),(3,encVal b)]⟩) (eX (fun c=>c) (eX b.l.length (aN (Nat.le_refl _) (aN ?_ ?_)))))))))
   ·(repeat' (first | exact wA | exact Or.inl ((congrArg (AV.vec 19 .int) hz0)) | refine aN ?_ ?_))
   rintro c hc
   refine aN (fun hz=>?_) (fun hz=>?_)
   ·obtain ⟨m,rfl⟩:∃ m,c = m + 1:=⟨c - 1,by have:=of_decide_eq_true hz; omega⟩
    have hm:m < b.l.length:=by omega
    have tm:(((m + 1:Nat):Int) - 1).toNat = m:=by omega
    have tm1:(((m + 1:Nat):Int) - 1 + 1).toNat = m + 1:=by omega
    have hnb:=nd_mem b.l (List.getElem_mem hm)
    have hpb:=nd_pos b.l[m]
    have hN:=s_SizeD _ b.l[m] (Nat.lt_succ_self _) (show nd b.l[m]≤1000000000 by omega)
    have hg:b.l.getD (((m + 1:Nat):Int) - 1).toNat (dflt .val) = b.l[m]:=by rw [tm,List.getD_eq_getElem?_getD,List.getElem?_eq_getElem hm]; rfl
    have hr:(backTo d a.l b.l a.l.length (m + 1)).getD (((m + 1:Nat):Int) - 1 + 1).toNat (dflt .int) = ed d (a.l.drop a.l.length) (b.l.drop (m + 1)):=by rw [tm1]; exact backTo_get d a.l b.l _ (Nat.le_refl _) (by omega)
    have hbl:=backTo_len d a.l b.l a.l.length (show m + 1≤b.l.length + 1 by omega)
    have hset:=backTo_set d a.l b.l a.l.length (show m < b.l.length + 1 by omega)
    rw [ed_drop_nil d a.l hm] at hset
    have eb:=edD_b dnn a.l b.l a.l.length (m + 1)
    have hnb:(sizV b.l[m]).2≤sumN b.l:=hnb
    have hpb:1≤(sizV b.l[m]).2:=hpb
    rw [← hr] at eb hset
    refine bN2 ?_
    rw [hg]
    refine Or.inl (eX _ (aN (hN) ?_))
    (refine rNG ?_)
    refine bN2 ?_
    (refine rNG ?_)
    refine bN2 ?_
    rw [tm]
    (refine rNG ?_)
    refine eX [] (eX m (aN (Nat.le_of_lt hm) (aN ?_ ?_)))
    ·(repeat' (first | exact wA | exact Or.inl ((congrArg (AV.vec 19 .int) hset)) | exact Or.inl ((congrArg (AV.i .i64) (show ((m + 1:Nat):Int) - 1 - 1 = (m:Int) - 1 by omega))) | refine aN ?_ ?_))
    ·exact Nat.lt_succ_self m
   ·have hc0:c = 0:=by have:=of_decide_eq_false hz; omega
    subst hc0
    rw [backTo_all]
    (repeat' (first | (refine aN (fun h=>?_) (fun h=>?_)<;>(try simp [-List.getD_eq_getElem?_getD,-Int.pred_toNat] at h)<;>(try (exfalso; first | omega | contradiction))) | refine bX ?_ | intro _))
    refine eX [] (eX [] (eX [] (eX Nat (eX (fun c=>c≤a.l.length) (eX (fun c=>⟨[(2,.pt 2 0),(3,.pt 3 0),(19,.vec 19 .int (rowD d a.l b.l c)),(23,.i .i64 ((c:Int) - 1))],[(2,encVal a),(3,encVal b)]⟩) (eX (fun c=>c) (eX a.l.length (aN (Nat.le_refl _) (aN ?_ ?_)))))))))
    ·exact wK
    rintro c hc
    have hrl:=rowD_len d a.l b.l c
    refine aN (fun hz=>?_) (fun hz=>?_)
    ·obtain ⟨m,rfl⟩:∃ m,c = m + 1:=⟨c - 1,by have:=of_decide_eq_true hz; omega⟩
     have hm:m < a.l.length:=by omega
     have tm:(((m + 1:Nat):Int) - 1).toNat = m:=by omega
     have hna:=nd_mem a.l (List.getElem_mem hm)
     have hpa:=nd_pos a.l[m]
     have hN:=s_SizeD _ a.l[m] (Nat.lt_succ_self _) (show nd a.l[m]≤1000000000 by omega)
     have hg:a.l.getD (((m + 1:Nat):Int) - 1).toNat (dflt .val) = a.l[m]:=by rw [tm,List.getD_eq_getElem?_getD,List.getElem?_eq_getElem hm]; rfl
     have hna:(sizV a.l[m]).2≤sumN a.l:=hna
     have hpa:1≤(sizV a.l[m]).2:=hpa
     have eb:=edD_b dnn a.l b.l (m + 1) b.l.length
     have hre:(rowD d a.l b.l (m + 1)).getD ((b.l.length:Nat):Int).toNat (dflt .int) = ed d (a.l.drop (m + 1)) (b.l.drop b.l.length):=rowD_get d a.l b.l (m + 1) (Nat.lt_succ_self _)
     have hset:=backTo_set d a.l b.l m (Nat.lt_succ_self b.l.length)
     rw [backTo_none,ed_drop_end d b.l hm] at hset
     refine bN2 ?_
     rw [hg]
     refine Or.inl (eX _ (aN (hN) ?_))
     (repeat' (first | (refine aN (fun h=>?_) (fun h=>?_)<;>(try simp [-List.getD_eq_getElem?_getD,-Int.pred_toNat] at h)<;>(try (exfalso; first | omega | contradiction))) | refine bX ?_ | intro _))
     refine aN ⟨by omega,by omega,by omega,show ((b.l.length:Int) + 1).toNat * 8≤140737488355328 by omega⟩ ?_
     rw [tn]
     have hrep:(List.replicate (b.l.length + 1) (0:Int)).length = b.l.length + 1:=List.length_replicate
     rw [← hre] at eb hset
     refine eX [.blk [0,1,2,3,4,5,6,7,8,9,10,11,12],.one 13] (aN (by kernel_rfl) ?_)
     refine bN2 ?_
     (refine rNG ?_)
     refine bN2 ?_
     (repeat' (first | (refine aN (fun h=>?_) (fun h=>?_)<;>(try simp [-List.getD_eq_getElem?_getD,-Int.pred_toNat] at h)<;>(try (exfalso; first | omega | contradiction))) | refine bX ?_ | intro _))
     refine eX [] (eX [] (eX [(174,26)] (eX Nat (eX (fun c=>c≤b.l.length) (eX (fun c=>⟨[(2,.pt 2 0),(3,.pt 3 0),(19,.vec 19 .int (rowD d a.l b.l (m + 1))),(23,.i .i64 (((m + 1:Nat):Int) - 1)),(25,.i .i64 (sizV a.l[m]).2),(26,.vec 26 .int (backTo d a.l b.l m c)),(27,.i .i64 ((c:Int) - 1))],[(2,encVal a),(3,encVal b)]⟩) (eX (fun c=>c) (eX b.l.length (aN (Nat.le_refl _) (aN ?_ ?_)))))))))
     ·(repeat' (first | exact wA | exact Or.inl ((congrArg (AV.vec 26 .int) hset)) | refine aN ?_ ?_))
     rintro c hc
     have hbl:=backTo_len d a.l b.l m (show c≤b.l.length + 1 by omega)
     refine aN (fun hz=>?_) (fun hz=>?_)
     ·obtain ⟨k,rfl⟩:∃ k,c = k + 1:=⟨c - 1,by have:=of_decide_eq_true hz; omega⟩
      have hk:k < b.l.length:=by omega
      have tk:(((k + 1:Nat):Int) - 1).toNat = k:=by omega
      have tk1:(((k + 1:Nat):Int) - 1 + 1).toNat = k + 1:=by omega
      have hnb:=nd_mem b.l (List.getElem_mem hk)
      have hpb:=nd_pos b.l[k]
      have hNb:=s_SizeD _ b.l[k] (Nat.lt_succ_self _) (show nd b.l[k]≤1000000000 by omega)
      have hgb:b.l.getD (((k + 1:Nat):Int) - 1).toNat (dflt .val) = b.l[k]:=by rw [tk,List.getD_eq_getElem?_getD,List.getElem?_eq_getElem hk]; rfl
      have hnb:(sizV b.l[k]).2≤sumN b.l:=hnb
      have hpb:1≤(sizV b.l[k]).2:=hpb
      have hF:=ihl a.l[m] (List.getElem_mem hm) b.l[k] (List.getElem_mem hk)
      have hF1:=dle a.l[m] (List.getElem_mem hm) b.l[k] (List.getElem_mem hk)
      have hF0:=dnn a.l[m] b.l[k]
      have r1:(rowD d a.l b.l (m + 1)).getD (((k + 1:Nat):Int) - 1).toNat (dflt .int) = ed d (a.l.drop (m + 1)) (b.l.drop k):=by rw [tk]; exact rowD_get d a.l b.l (m + 1) (by omega)
      have r2:(backTo d a.l b.l m (k + 1)).getD (((k + 1:Nat):Int) - 1 + 1).toNat (dflt .int) = ed d (a.l.drop m) (b.l.drop (k + 1)):=by rw [tk1]; exact backTo_get d a.l b.l m (Nat.le_refl _) (by omega)
      have r3:(rowD d a.l b.l (m + 1)).getD (((k + 1:Nat):Int) - 1 + 1).toNat (dflt .int) = ed d (a.l.drop (m + 1)) (b.l.drop (k + 1)):=by rw [tk1]; exact rowD_get d a.l b.l (m + 1) (by omega)
      have e1:=edD_b dnn a.l b.l (m + 1) k
      have e2:=edD_b dnn a.l b.l m (k + 1)
      have e3:=edD_b dnn a.l b.l (m + 1) (k + 1)
      have hset:=backTo_set d a.l b.l m (show k < b.l.length + 1 by omega)
      rw [ed_drop d hm hk,← r1,← r2,← r3] at hset
      rw [← r1] at e1
      rw [← r2] at e2
      rw [← r3] at e3
      have hset:(backTo d a.l b.l m (k + 1)).set k (m3 ((rowD d a.l b.l (m + 1)).getD (((k + 1:Nat):Int) - 1).toNat (dflt .int) + (sizV a.l[m]).2) ((backTo d a.l b.l m (k + 1)).getD (((k + 1:Nat):Int) - 1 + 1).toNat (dflt .int) + (sizV b.l[k]).2) ((rowD d a.l b.l (m + 1)).getD (((k + 1:Nat):Int) - 1 + 1).toNat (dflt .int) + d a.l[m] b.l[k])) = backTo d a.l b.l m k:=hset
      have hlast:((k + 1:Nat):Int) - 1 - 1 = (k:Int) - 1:=by omega
      refine bN2 ?_
      rw [hgb]
      refine Or.inl (eX _ (aN (hNb) ?_))
      refine bN2 ?_
      (refine rNG ?_)
      (refine rNG ?_)
      refine bN2 ?_
      (refine rNG ?_)
      have hFc:PSpec Tryd.prog 10 [.agg (encVal (a.l.getD (((m + 1:Nat):Int) - 1).toNat (dflt .val))),.agg (encVal (b.l.getD (((k + 1:Nat):Int) - 1).toNat (dflt .val)))] (.i .i64 (d a.l[m] b.l[k])):=by rw [hg,hgb]; exact hF
      generalize (rowD d a.l b.l (m + 1)).getD (((k + 1:Nat):Int) - 1).toNat (dflt .int) = V1 at *
      generalize (backTo d a.l b.l m (k + 1)).getD (((k + 1:Nat):Int) - 1 + 1).toNat (dflt .int) = V2 at *
      refine aN (fun hq=>?_) (fun hq=>?_)
      ·have hq:V2 + (sizV b.l[k]).2 < V1 + (sizV a.l[m]).2:=of_decide_eq_true hq
       refine eX [.blk [0,1,2,3,4,5,6,7,8,9,10,11,12,13,14,15,16,17]] (aN (by kernel_rfl) ?_)
       (refine rNG ?_)
       refine bN2 ?_
       refine bN2 ?_
       refine bN2 ?_
       refine eX _ (aN (hFc) ?_)
       (refine rNG ?_)
       generalize (rowD d a.l b.l (m + 1)).getD (((k + 1:Nat):Int) - 1 + 1).toNat (dflt .int) = V3 at *
       refine aN (fun hw=>?_) (fun hw=>?_)
       ·have hw:V3 + d a.l[m] b.l[k] < V2 + (sizV b.l[k]).2:=of_decide_eq_true hw
        refine bN2 ?_
        rw [tk]
        (refine rNG ?_)
        refine eX [] (eX k (aN (Nat.le_of_lt hk) (aN ?_ ?_)))
        ·(repeat' (first | exact wA | exact Or.inl ((congrArg (AV.vec 26 .int) (show (backTo d a.l b.l m (k + 1)).set k (V3 + d a.l[m] b.l[k]) = backTo d a.l b.l m k by rw [← hset]; unfold m3; rw [if_pos hq,if_pos hw]))) | exact Or.inl ((congrArg (AV.i .i64) hlast)) | refine aN ?_ ?_))
        ·exact Nat.lt_succ_self k
       ·have hw:¬ V3 + d a.l[m] b.l[k] < V2 + (sizV b.l[k]).2:=of_decide_eq_false hw
        refine bN2 ?_
        rw [tk]
        (refine rNG ?_)
        refine eX [] (eX k (aN (Nat.le_of_lt hk) (aN ?_ ?_)))
        ·(repeat' (first | exact wA | exact Or.inl ((congrArg (AV.vec 26 .int) (show (backTo d a.l b.l m (k + 1)).set k (V2 + (sizV b.l[k]).2) = backTo d a.l b.l m k by rw [← hset]; unfold m3; rw [if_pos hq,if_neg hw]))) | exact Or.inl ((congrArg (AV.i .i64) hlast)) | refine aN ?_ ?_))
        ·exact Nat.lt_succ_self k
      ·have hq:¬ V2 + (sizV b.l[k]).2 < V1 + (sizV a.l[m]).2:=of_decide_eq_false hq
       refine eX [.blk [0,1,2,3,4,5,6,7,8,9,10,11,12,13,14,15,16,17]] (aN (by kernel_rfl) ?_)
       (refine rNG ?_)
       refine bN2 ?_
       refine bN2 ?_
       refine bN2 ?_
       refine eX _ (aN (hFc) ?_)
       (refine rNG ?_)
       generalize (rowD d a.l b.l (m + 1)).getD (((k + 1:Nat):Int) - 1 + 1).toNat (dflt .int) = V3 at *
       refine aN (fun hw=>?_) (fun hw=>?_)
       ·have hw:V3 + d a.l[m] b.l[k] < V1 + (sizV a.l[m]).2:=of_decide_eq_true hw
        refine bN2 ?_
        rw [tk]
        (refine rNG ?_)
        refine eX [] (eX k (aN (Nat.le_of_lt hk) (aN ?_ ?_)))
        ·(repeat' (first | exact wA | exact Or.inl ((congrArg (AV.vec 26 .int) (show (backTo d a.l b.l m (k + 1)).set k (V3 + d a.l[m] b.l[k]) = backTo d a.l b.l m k by rw [← hset]; unfold m3; rw [if_neg hq,if_pos hw]))) | exact Or.inl ((congrArg (AV.i .i64) hlast)) | refine aN ?_ ?_))
        ·exact Nat.lt_succ_self k
       ·have hw:¬ V3 + d a.l[m] b.l[k] < V1 + (sizV a.l[m]).2:=of_decide_eq_false hw
        refine bN2 ?_
        rw [tk]
        (refine rNG ?_)
        refine eX [] (eX k (aN (Nat.le_of_lt hk) (aN ?_ ?_)))
        ·(repeat' (first | exact wA | exact Or.inl ((congrArg (AV.vec 26 .int) (show (backTo d a.l b.l m (k + 1)).set k (V1 + (sizV a.l[m]).2) = backTo d a.l b.l m k by rw [← hset]; unfold m3; rw [if_neg hq,if_neg hw]))) | exact Or.inl ((congrArg (AV.i .i64) hlast)) | refine aN ?_ ?_))
        ·exact Nat.lt_succ_self k
     ·have hc0:c = 0:=by have:=of_decide_eq_false hz; omega
      subst hc0
      rw [backTo_all]
      (refine rNG ?_)
      refine eX [(26,19)] (eX m (aN (Nat.le_of_lt hm) (aN ?_ ?_)))
      ·(repeat' (first | exact wA | exact Or.inl ((congrArg (AV.i .i64) (show ((m + 1:Nat):Int) - 1 - 1 = (m:Int) - 1 by omega))) | refine aN ?_ ?_))
      ·exact Nat.lt_succ_self m
    ·have hc0:c = 0:=by have:=of_decide_eq_false hz; omega
     subst hc0
     have hre:=rowD_get d a.l b.l 0 (Nat.succ_pos b.l.length)
     refine bN2 ?_
     exact congrArg (AV.i .i64) hre
  ·rw [farF_not n h0 k6 k5]
   have e:nd a + nd b = (sizV a).2 + (sizV b).2:=rfl
   rw [e]
   have p1:1≤(sizV a).2:=nd_pos a
   have p2:1≤(sizV b).2:=nd_pos b
   have p3:(sizV a).2≤1000:=na
   have p4:(sizV b).2≤1000:=nb
   (repeat' (first | (refine aN (fun h=>?_) (fun h=>?_)<;>(try simp [-List.getD_eq_getElem?_getD,-Int.pred_toNat] at h)<;>(try (exfalso; first | omega | contradiction))) | refine bX ?_ | intro _))
   all_goals exact rfl
theorem s_farD1 (n:Nat) (a b:Val) (ca cb:Int) (oa:OKV ca a) (ob:OKV cb b) (ha:VB a) (hb:VB b) (na:nd a≤1000) (nb:nd b≤1000) (ihl:∀ x ∈ a.l,∀ y ∈ b.l,PSpec Tryd.prog 10 [.agg (encVal x),.agg (encVal y)] (.i .i64 (farF n x y))) (ihe:∀ x ∈ a.e,∀ y ∈ b.e,PSpec Tryd.prog 10 [.agg (encVal x.2),.agg (encVal y.2)] (.i .i64 (farF n x.2 y.2))):PSpec Tryd.prog 10 [.agg (encVal a),.agg (encVal b)] (.i .i64 (farF (n + 1) a b)) :=
 pspec_of_vc Γ_good Tryd.func10 rfl Tryd.call10 Tryd.results10 Tryd.ntmps10 (Nat.le_of_ble_eq_true rfl) (w_farD1 n a b ca cb oa ob ha hb na nb ihl ihe)
theorem s_farD:∀ (n:Nat) (a b:Val) (ca cb:Int),SizeOf.sizeOf a < n→OKV ca a→OKV cb b→VB a→VB b→nd a≤1000→nd b≤1000→PSpec Tryd.prog 10 [.agg (encVal a),.agg (encVal b)] (.i .i64 (farF n a b))
 | 0,_,_,_,_,h=>absurd h (Nat.not_lt_zero _)
 | n + 1, a, b, ca, cb, h => fun oa ob ha hb na nb => s_farD1 n a b ca cb oa ob ha hb na nb
   (fun x hx y hy=>s_farD n x y _ _ (by have:=val_sz_l hx; omega) (oa.l hx) (ob.l hy) (vb_l ha hx) (vb_l hb hy) (by have:=nd_l hx; omega) (by have:=nd_l hy; omega))
   (fun x hx y hy=>s_farD n x.2 y.2 _ _ (by have:=val_sz_e hx; omega) (oa.e hx) (ob.e hy) (vb_e ha hx) (vb_e hb hy) (by have:=nd_e hx; omega) (by have:=nd_e hy; omega))
end
end Go.Proofs.YtfeniggadfkakaaDoor
end
section
namespace Go.Proofs.YtfeniggadfkakaaDoor
open Go Go.SX Go.Vl Go.Ck Go.Ut Go.Up Go.Df
set_option maxRecDepth 100000
set_option maxHeartbeats 4000000
def pairF (a b:Val):Int:=if faultV a≠0 then faultV a else if faultV b≠0 then faultV b else if 200 < nd a + nd b then 2 else 0
theorem pairF_ok {a b:Val} (h:pairF a b = 0):faultV a = 0∧faultV b = 0∧nd a + nd b≤200:=by
 unfold pairF at h
 split at h
 ·exact absurd h (by assumption)
 split at h
 ·exact absurd h (by assumption)
 split at h
 ·exact absurd h (by decide)
 ·rename_i h1 h2 h3
  exact ⟨by simpa using h1,by simpa using h2,by omega⟩
theorem fault_okv {a:Val} (h:faultV a = 0):OKV 0 a:=chk_okv (by letI:Globs:=⟨[]⟩; rw [chk_T]; exact h)
section
variable [G:Globs]
theorem w_pair (a b:Val) (ha:Mod a) (hb:Mod b):vc Tryd.prog Γ 35 [2,3,4,5,6,8,10,14,19,34] (Tryd.f6.body.getD .skip) (postK Γ [.tmp 4] (fun v=>v = .i .i64 (pairF a b))) ⟨argSlots 0 [.agg (encVal a),.agg (encVal b)],[]⟩:=by
 have hNa:=s_SizeD _ a (Nat.lt_succ_self _) ha.siz
 have hNb:=s_SizeD _ b (Nat.lt_succ_self _) hb.siz
 have h1:=ha.siz
 have h2:=hb.siz
 have p1:1≤(sizV a).2:=nd_pos a
 have p2:1≤(sizV b).2:=nd_pos b
 refine Or.inl (eX _ (aN (s_fault a ha.vb ha.siz) ?_))
 refine aN (fun hq=>?_) (fun hq=>?_)
 ·have hq:faultV a≠0:=by simpa using hq
  exact congrArg (AV.i .i64) (show faultV a = pairF a b from (if_pos hq).symm)
 have hq:¬ faultV a≠0:=by simpa using hq
 refine Or.inl (eX _ (aN (s_fault b hb.vb hb.siz) ?_))
 refine aN (fun hr=>?_) (fun hr=>?_)
 ·have hr:faultV b≠0:=by simpa using hr
  exact congrArg (AV.i .i64) (show faultV b = pairF a b by unfold pairF; rw [if_neg hq,if_pos hr])
 have hr:¬ faultV b≠0:=by simpa using hr
 refine Or.inl (eX _ (aN (hNa) ?_))
 refine Or.inl (eX _ (aN (hNb) ?_))
 (refine rNG ?_)
 refine aN (fun hs=>?_) (fun hs=>?_)
 ·have hs:200 < nd a + nd b:=of_decide_eq_true hs
  exact congrArg (AV.i .i64) (show (2:Int) = pairF a b by unfold pairF; rw [if_neg hq,if_neg hr,if_pos hs])
 ·have hs:¬ 200 < nd a + nd b:=of_decide_eq_false hs
  exact congrArg (AV.i .i64) (show (0:Int) = pairF a b by unfold pairF; rw [if_neg hq,if_neg hr,if_neg hs])
theorem s_pair (a b:Val) (ha:Mod a) (hb:Mod b):PSpec Tryd.prog 6 [.agg (encVal a),.agg (encVal b)] (.i .i64 (pairF a b)) :=
 pspec_of_vc Γ_good Tryd.func6 rfl Tryd.call6 Tryd.results6 Tryd.ntmps6 (Nat.le_of_ble_eq_true rfl) (w_pair a b ha hb)
theorem w_pcheck (hu:HasU8) (a b:Val) (ha:Mod a) (hb:Mod b):vc Tryd.prog Γ 23 [2,3,4,5,6,10,15,22] (Tryd.f13.body.getD .skip) (postK Γ [.tmp 4] (fun v=>v = .i .i64 (pairF a b))) ⟨argSlots 0 [.agg (encVal a),.agg (encVal b)],[]⟩:=by
 have hNa:=s_Nodes _ a (Nat.lt_succ_self _) ha.siz
 have hNb:=s_Nodes _ b (Nat.lt_succ_self _) hb.siz
 have hCa:=s_Check hu a ha.vb ha.siz
 have hCb:=s_Check hu b hb.vb hb.siz
 rw [chk_T] at hCa hCb
 have h1:=ha.siz
 have h2:=hb.siz
 have p1:1≤(sizV a).2:=nd_pos a
 have p2:1≤(sizV b).2:=nd_pos b
 refine Or.inl (eX _ (aN (hCa) ?_))
 refine aN (fun hq=>?_) (fun hq=>?_)
 ·have hq:faultV a≠0:=by simpa using hq
  exact congrArg (AV.i .i64) (show faultV a = pairF a b from (if_pos hq).symm)
 have hq:¬ faultV a≠0:=by simpa using hq
 refine Or.inl (eX _ (aN (hCb) ?_))
 refine aN (fun hr=>?_) (fun hr=>?_)
 ·have hr:faultV b≠0:=by simpa using hr
  exact congrArg (AV.i .i64) (show faultV b = pairF a b by unfold pairF; rw [if_neg hq,if_pos hr])
 have hr:¬ faultV b≠0:=by simpa using hr
 refine eX [.blk [0,1,2,3,4,5]] (aN (by kernel_rfl) ?_)
 refine eX _ (aN (hNa) ?_)
 refine eX _ (aN (hNb) ?_)
 (refine rNG ?_)
 refine aN (fun hs=>?_) (fun hs=>?_)
 ·have hs:200 < nd a + nd b:=of_decide_eq_true hs
  exact congrArg (AV.i .i64) (show (2:Int) = pairF a b by unfold pairF; rw [if_neg hq,if_neg hr,if_pos hs])
 ·have hs:¬ 200 < nd a + nd b:=of_decide_eq_false hs
  exact congrArg (AV.i .i64) (show (0:Int) = pairF a b by unfold pairF; rw [if_neg hq,if_neg hr,if_neg hs])
theorem s_pcheck (hu:HasU8) (a b:Val) (ha:Mod a) (hb:Mod b):PSpec Tryd.prog 13 [.agg (encVal a),.agg (encVal b)] (.i .i64 (pairF a b)) :=
 pspec_of_vc Γ_good Tryd.func13 rfl Tryd.call13 Tryd.results13 Tryd.ntmps13 (Nat.le_of_ble_eq_true rfl) (w_pcheck hu a b ha hb)
theorem w_costs (a:Val) (l:List OpR) (ha:Mod a) (hl:∀ o ∈ l,Mod o.v∧o.key.length≤10000000) (hn:l.length≤1000):vc Tryd.prog Γ 80 [1,2,4,5,6,8,9,10,11,14,16,17,18,19,20,30,51,52,59,64,69] (Tryd.f8.body.getD .skip) (postK Γ [.tmp 4,.cell 5 26] (fun v=>RL v (.tup [.i .i64 (cosF a 0 l).1,.agg (encVal (cosF a 0 l).2)]))) ⟨argSlots 0 [.agg (encVal a),.rd .op l],[]⟩:=by
 generalize hR:cosF a 0 l = R
 intro hml
 refine eX [] (eX [] (eX [] (eX (Nat × Val × Int) (eX (fun q=>q.1≤l.length∧Mod q.2.1∧R = cosF q.2.1 q.2.2 (l.drop q.1)∧0≤q.2.2∧q.2.2≤4000000000 * q.1) (eX (fun ⟨i,v,z⟩=>⟨[(2,.pt 2 0),(5,.pt 5 0),(6,.i .i64 z),(17,.rd .op l),(18,.i .i64 l.length),(19,.i .i64 i)],[(2,encVal v),(5,[.i .i64 0,.i .i64 0,.i .u64 0,.s [],.nl,.nl])]⟩) (eX (fun q=>l.length - q.1) (eX (0,a,0) (aN ⟨Nat.zero_le _,ha,hR.symm,Int.le_refl _,Int.le_refl _⟩ (aN ?_ ?_)))))))))
 ·exact wK
 rintro ⟨i,v,z⟩ ⟨hi,hv,hI,hz0,hz1⟩
 simp only at hi hv hI hz0 hz1
 refine aN (fun hz=>?_) (fun hz=>?_)
 ·have hi:=ltD hz
  have hg:=getI (τ:=.op) hi
  refine bN2 ?_
  rw [hg]
  have ho:=hl l[i] (List.getElem_mem hi)
  rw [List.drop_eq_getElem_cons hi,cosF] at hI
  refine Or.inl (eX _ (aN (s_updd v l[i] hv ho.1 ho.2) ?_))
  refine aN (fun hq=>?_) (fun hq=>?_)
  ·have hq:(applyV v l[i]).2≠0:=by simpa using hq
   rw [if_pos hq] at hI
   rw [hI]
   refine eX [.blk [0,1],.one 2] (aN (by kernel_rfl) ?_)
   exact rL
  ·have hq:¬ (applyV v l[i]).2≠0:=by simpa using hq
   rw [if_neg hq] at hI
   have hq0:(applyV v l[i]).2 = 0:=by simpa using hq
   obtain ⟨g1,g2,g3⟩:=applyV_good hq0
   have hm:=mod_app hv ho.1 ho.2 hq0
   have hL:=s_Led l[i].p v (fun p hp=>((pathF_ok g3).2 p hp).1)
   have n1:(sizV v).2≤1000000000:=hv.siz
   have n2:(sizV l[i].v).2≤1000000000:=ho.1.siz
   have n3:(sizV (ledV v l[i].p).1).2≤1000000000:=Int.le_trans (nd_led v l[i].p) n1
   have p2:1≤(sizV l[i].v).2:=nd_pos l[i].v
   have p3:1≤(sizV (ledV v l[i].p).1).2:=nd_pos (ledV v l[i].p).1
   have cb:=cost_b (o:=l[i]) (v:=v) n1 n2
   have hi0:(i:Int)≤1000:=by omega
   refine Or.inl (eX _ (aN (hL) ?_))
   refine Or.inl (eX _ (aN (s_SizeD _ (ledV v l[i].p).1 (Nat.lt_succ_self _) n3) ?_))
   refine Or.inl (eX _ (aN (s_SizeD _ l[i].v (Nat.lt_succ_self _) n2) ?_))
   by_cases c1:l[i].kind = 1
   ·have e:costO v l[i] = (sizV (ledV v l[i].p).1).2 + (sizV l[i].v).2:=if_pos c1
    rw [e] at hI cb
    (repeat' (first | (refine aN (fun h=>?_) (fun h=>?_)<;>(try simp [-List.getD_eq_getElem?_getD,-Int.pred_toNat] at h)<;>(try (exfalso; first | omega | contradiction))) | refine bX ?_ | intro _))
    refine eX [] (eX (i + 1,(applyV v l[i]).1,z + ((sizV (ledV v l[i].p).1).2 + (sizV l[i].v).2)) (aN ⟨hi,hm,hI,(by show 0≤z + _; omega),(by show z + _≤4000000000 * ((i + 1:Nat):Int); omega)⟩ (aN ?_ ?_)))
    ·exact wK
    ·(exact Nat.sub_lt_sub_left (by omega) (by omega))
   by_cases c2:l[i].kind = 2
   ·have e:costO v l[i] = (sizV l[i].v).2:=by unfold costO; rw [if_neg c1,if_pos c2]; rfl
    rw [e] at hI cb
    (repeat' (first | (refine aN (fun h=>?_) (fun h=>?_)<;>(try simp [-List.getD_eq_getElem?_getD,-Int.pred_toNat] at h)<;>(try (exfalso; first | omega | contradiction))) | refine bX ?_ | intro _))
    refine eX [] (eX (i + 1,(applyV v l[i]).1,z + ((sizV l[i].v).2)) (aN ⟨hi,hm,hI,(by show 0≤z + _; omega),(by show z + _≤4000000000 * ((i + 1:Nat):Int); omega)⟩ (aN ?_ ?_)))
    ·exact wK
    ·(exact Nat.sub_lt_sub_left (by omega) (by omega))
   by_cases c3:l[i].kind = 3
   ·have e:costO v l[i] = (sizV (ledV v l[i].p).1).2:=by unfold costO; rw [if_neg c1,if_neg c2,if_pos c3]; rfl
    rw [e] at hI cb
    (repeat' (first | (refine aN (fun h=>?_) (fun h=>?_)<;>(try simp [-List.getD_eq_getElem?_getD,-Int.pred_toNat] at h)<;>(try (exfalso; first | omega | contradiction))) | refine bX ?_ | intro _))
    refine eX [] (eX (i + 1,(applyV v l[i]).1,z + ((sizV (ledV v l[i].p).1).2)) (aN ⟨hi,hm,hI,(by show 0≤z + _; omega),(by show z + _≤4000000000 * ((i + 1:Nat):Int); omega)⟩ (aN ?_ ?_)))
    ·exact wK
    ·(exact Nat.sub_lt_sub_left (by omega) (by omega))
   by_cases c4:l[i].kind = 4
   ·have e:costO v l[i] = (sizV (ledV v l[i].p).1).2 + (sizV (ledV v l[i].p).1).2:=by unfold costO; rw [if_neg c1,if_neg c2,if_neg c3,if_pos c4]; rfl
    rw [e] at hI cb
    (repeat' (first | (refine aN (fun h=>?_) (fun h=>?_)<;>(try simp [-List.getD_eq_getElem?_getD,-Int.pred_toNat] at h)<;>(try (exfalso; first | omega | contradiction))) | refine bX ?_ | intro _))
    refine eX [] (eX (i + 1,(applyV v l[i]).1,z + ((sizV (ledV v l[i].p).1).2 + (sizV (ledV v l[i].p).1).2)) (aN ⟨hi,hm,hI,(by show 0≤z + _; omega),(by show z + _≤4000000000 * ((i + 1:Nat):Int); omega)⟩ (aN ?_ ?_)))
    ·exact wK
    ·(exact Nat.sub_lt_sub_left (by omega) (by omega))
   ·have e:costO v l[i] = 0:=by unfold costO; rw [if_neg c1,if_neg c2,if_neg c3,if_neg c4]
    rw [e,Int.add_zero] at hI
    (repeat' (first | (refine aN (fun h=>?_) (fun h=>?_)<;>(try simp [-List.getD_eq_getElem?_getD,-Int.pred_toNat] at h)<;>(try (exfalso; first | omega | contradiction))) | refine bX ?_ | intro _))
    refine eX [] (eX (i + 1,(applyV v l[i]).1,z) (aN ⟨hi,hm,hI,hz0,(by show z≤4000000000 * ((i + 1:Nat):Int); omega)⟩ (aN ?_ ?_)))
    ·exact wK
    ·(exact Nat.sub_lt_sub_left (by omega) (by omega))
 ·have hi:=geD hi hz
  rw [List.drop_eq_nil_of_le (by omega),cosF] at hI
  rw [hI]
  refine eX [.blk [0,1,2],.one 3] (aN (by kernel_rfl) ?_)
  exact rL
theorem s_costs (a:Val) (l:List OpR) (ha:Mod a) (hl:∀ o ∈ l,Mod o.v∧o.key.length≤10000000) (hn:l.length≤1000):PSpec Tryd.prog 8 [.agg (encVal a),.rd .op l] (.tup [.i .i64 (cosF a 0 l).1,.agg (encVal (cosF a 0 l).2)]) :=
 pspec_of_vcL Γ_good Tryd.func8 rfl Tryd.call8 Tryd.results8 Tryd.ntmps8 (Nat.le_of_ble_eq_true rfl) (w_costs a l ha hl hn)
end
end Go.Proofs.YtfeniggadfkakaaDoor
end
section
namespace Go.Proofs.YtfeniggadfkakaaDoor
open Go Go.SX Go.Vl Go.Ck Go.Ut Go.Up Go.Df
set_option maxRecDepth 100000
set_option maxHeartbeats 4000000
section
variable [G:Globs]
theorem cspec_wk {P:Program} {f:FuncId} {args args':List AV} {boxes boxes':List (Nat × List AV)} {r:AV} (h:CSpec P f args boxes r boxes') (hl:args'.length = args.length) (hw:Wk ⟨argSlots 0 args',boxes⟩ ⟨argSlots 0 args,boxes⟩):CSpec P f args' boxes r boxes' :=
 ⟨h.1,fun F X β w vs h1 h2 hI=>h.2 F X β w vs (h1.trans hl) h2 (hI.wk hw)⟩
theorem way_eq (n:Nat) {a b:Val} (h:cmpV a b = 0):wayR (n + 1) a b = []:=by rw [wayR,if_pos h]
theorem way_tab (n:Nat) {a b:Val} (h:¬ cmpV a b = 0) (k:a.kind = 6∧b.kind = 6):wayR (n + 1) a b = a.e.flatMap (tabW1 (wayR n) b.e)++b.e.flatMap (tabW2 a.e):=by rw [wayR,if_neg h,if_pos k]
theorem way_list (n:Nat) {a b:Val} (h:¬ cmpV a b = 0) (k:¬ (a.kind = 6∧b.kind = 6)) (m:a.kind = 5∧b.kind = 5):wayR (n + 1) a b = lstW (wayR n) (farF n) a.l b.l a.l.length b.l.length:=by rw [wayR,if_neg h,if_neg k,if_pos m]
theorem way_not (n:Nat) {a b:Val} (h:¬ cmpV a b = 0) (k:¬ (a.kind = 6∧b.kind = 6)) (m:¬ (a.kind = 5∧b.kind = 5)):wayR (n + 1) a b = [mkO 1 [] b]:=by rw [wayR,if_neg h,if_neg k,if_neg m]
theorem vn_l {n:Nat} {v x:Val} (h:VN n v) (hx:x ∈ v.l):VN n x:=by cases h with | mk _ _ _ h _=>exact h x hx
theorem w_way1 (n:Nat) (a b:Val) (p:List PStep) (q:List OpR) (hp:p.length≤900000) (hs:SizeOf.sizeOf a < n + 1) (ha:VB a) (hb:VB b) (nb':VN 100000000 b) (na:nd a≤1000) (nb:nd b≤1000) (hq:q.length + (wayR (n + 1) a b).length≤1000000) (ihl:∀ x ∈ a.l,∀ y ∈ b.l,∀ (s:PStep) (q':List OpR),q'.length + (wayR n x y).length≤1000000→CSpec Tryd.prog 14 [.pt 1000 0,.agg (encVal x),.agg (encVal y),.rd .pstep (p++[s])] [(1000,[.vec 1001 .op q'])] (.tup []) [(1000,[.vec 1001 .op (q'++(wayR n x y).map (preO (p++[s])))])]) (ihe:∀ x ∈ a.e,∀ y ∈ b.e,∀ q':List OpR,q'.length + (wayR n x.2 y.2).length≤1000000→CSpec Tryd.prog 14 [.pt 1000 0,.agg (encVal x.2),.agg (encVal y.2),.rd .pstep (p++[sK x.1])] [(1000,[.vec 1001 .op q'])] (.tup []) [(1000,[.vec 1001 .op (q'++(wayR n x.2 y.2).map (preO (p++[sK x.1])))])]):vc Tryd.prog Γ 49 [0,3,5,6,12,17,33,1000,1001] (Tryd.f14.body.getD .skip) (postBK Γ [] (.tup []) [(1000,[.vec 1001 .op (q++(wayR (n + 1) a b).map (preO p))])]) ⟨argSlots 0 [.pt 1000 0,.agg (encVal a),.agg (encVal b),.rd .pstep p],[(1000,[.vec 1001 .op q])]⟩:=by
 have hC:=s_Compare a b ha hb
 have sla:=sum_l a
 have slb:=sum_l b
 have pl:=sumN_nn a.l
 have pe:=sumN_nn (a.e.map (·.2))
 have ql:=sumN_nn b.l
 have qe:=sumN_nn (b.e.map (·.2))
 refine Or.inl (eX _ (aN (hC) ?_))
 by_cases h0:cmpV a b = 0
 ·rw [way_eq n h0,h0]
  (repeat' (first | (refine aN (fun h=>?_) (fun h=>?_)<;>(try simp [-List.getD_eq_getElem?_getD,-Int.pred_toNat] at h)<;>(try (exfalso; first | omega | contradiction))) | refine bX ?_ | intro _))
  refine eX [] (aN rfl ?_)
  (repeat' (first | exact wA | exact Or.inl ((congrArg (AV.vec 1001 .op) (List.append_nil q).symm)) | refine aN ?_ ?_))
 refine aN (fun h=>absurd (eq_of_beq h) h0) (fun _=>?_)
 by_cases k6:a.kind = 6∧b.kind = 6
 ·rw [way_tab n h0 k6] at hq
  rw [way_tab n h0 k6]
  rw [List.length_append] at hq
  have hT:=s_wtab n a.e b.e p q hp (fun y hy=>vn_e nb' y hy) (by omega) ihe
  obtain ⟨k1,k2⟩:=k6
  (repeat' (first | (refine aN (fun h=>?_) (fun h=>?_)<;>(try simp [-List.getD_eq_getElem?_getD,-Int.pred_toNat] at h)<;>(try (exfalso; first | omega | contradiction))) | refine bX ?_ | intro _))
  refine Or.inr (Or.inl (eX [] (eX _ (eX _ (eX _ (eX _ (eX _ (eX [(1000,1000),(1001,1001)] (aN (hT) ?_)))))))))
  refine (aN rfl (aN rfl (aN rfl (aN rfl (aN rfl ?_)))))
  refine eX [] (aN rfl wK)
 by_cases k5:a.kind = 5∧b.kind = 5
 ·rw [way_list n h0 k6 k5] at hq
  rw [way_list n h0 k6 k5]
  have hd1:∀ x ∈ a.l,∀ y ∈ b.l,farF n x y≤2000000:=fun x hx y hy=>by
   have:=nd_l hx
   have:=nd_l hy
   exact far_small n (by omega) (by omega)
  have hL:=s_wlst n a.l b.l p q hp (fun y hy=>vn_l nb' hy) hd1 (by omega) (by omega) (fun x hx y hy=>by
   have:=nd_l hx
   have:=nd_l hy
   exact s_far n x y (by have:=parts_sz (v:=a) (x:=x) (List.mem_append_left _ hx); omega) (vb_l ha hx) (vb_l hb hy) (by omega) (by omega)) hq ihl
  obtain ⟨k1,k2⟩:=k5
  (repeat' (first | (refine aN (fun h=>?_) (fun h=>?_)<;>(try simp [-List.getD_eq_getElem?_getD,-Int.pred_toNat] at h)<;>(try (exfalso; first | omega | contradiction))) | refine bX ?_ | intro _))
  refine Or.inr (Or.inl (eX [] (eX _ (eX _ (eX _ (eX _ (eX _ (eX [(1000,1000),(1001,1001)] (aN (hL) ?_)))))))))
  refine (aN rfl (aN rfl (aN rfl (aN rfl (aN rfl ?_)))))
  refine eX [] (aN rfl wK)
 ·rw [way_not n h0 k6 k5] at hq
  rw [way_not n h0 k6 k5]
  have hA:=s_wadd 1 ⟨by decide,by decide⟩ p b q (by omega) nb' (by rw [List.length_singleton] at hq; omega)
  have k56:¬ (a.kind = 6∧b.kind = 6):=k6
  have k55:¬ (a.kind = 5∧b.kind = 5):=k5
  have hR:(q++[mkO 1 p b]:List OpR) = q++([mkO 1 [] b]:List OpR).map (preO p):=by rw [List.map_singleton,preO_mk,List.append_nil]
  by_cases c1:a.kind = 6
  ·have c2:b.kind≠6:=fun e=>k6 ⟨c1,e⟩
   have c3:a.kind≠5:=by omega
   (repeat' (first | (refine aN (fun h=>?_) (fun h=>?_)<;>(try simp [-List.getD_eq_getElem?_getD,-Int.pred_toNat] at h)<;>(try (exfalso; first | omega | contradiction))) | refine bX ?_ | intro _))
   refine Or.inr (Or.inl (eX [] (eX _ (eX _ (eX _ (eX _ (eX _ (eX [(1000,1000),(1001,1001)] (aN (hA) ?_)))))))))
   refine (aN rfl (aN rfl (aN rfl (aN rfl (aN rfl ?_)))))
   refine eX [] (aN rfl ?_)
   (repeat' (first | exact wA | exact Or.inl ((congrArg (AV.vec 1001 .op) hR)) | refine aN ?_ ?_))
  by_cases c2:a.kind = 5
  ·have c3:b.kind≠5:=fun e=>k5 ⟨c2,e⟩
   (repeat' (first | (refine aN (fun h=>?_) (fun h=>?_)<;>(try simp [-List.getD_eq_getElem?_getD,-Int.pred_toNat] at h)<;>(try (exfalso; first | omega | contradiction))) | refine bX ?_ | intro _))
   refine Or.inr (Or.inl (eX [] (eX _ (eX _ (eX _ (eX _ (eX _ (eX [(1000,1000),(1001,1001)] (aN (hA) ?_)))))))))
   refine (aN rfl (aN rfl (aN rfl (aN rfl (aN rfl ?_)))))
   refine eX [] (aN rfl ?_)
   (repeat' (first | exact wA | exact Or.inl ((congrArg (AV.vec 1001 .op) hR)) | refine aN ?_ ?_))
  ·(repeat' (first | (refine aN (fun h=>?_) (fun h=>?_)<;>(try simp [-List.getD_eq_getElem?_getD,-Int.pred_toNat] at h)<;>(try (exfalso; first | omega | contradiction))) | refine bX ?_ | intro _))
   refine Or.inr (Or.inl (eX [] (eX _ (eX _ (eX _ (eX _ (eX _ (eX [(1000,1000),(1001,1001)] (aN (hA) ?_)))))))))
   refine (aN rfl (aN rfl (aN rfl (aN rfl (aN rfl ?_)))))
   refine eX [] (aN rfl ?_)
   (repeat' (first | exact wA | exact Or.inl ((congrArg (AV.vec 1001 .op) hR)) | refine aN ?_ ?_))
theorem s_way1 (n:Nat) (a b:Val) (p:List PStep) (q:List OpR) (hp:p.length≤900000) (hs:SizeOf.sizeOf a < n + 1) (ha:VB a) (hb:VB b) (nb':VN 100000000 b) (na:nd a≤1000) (nb:nd b≤1000) (hq:q.length + (wayR (n + 1) a b).length≤1000000) (ihl:∀ x ∈ a.l,∀ y ∈ b.l,∀ (s:PStep) (q':List OpR),q'.length + (wayR n x y).length≤1000000→CSpec Tryd.prog 14 [.pt 1000 0,.agg (encVal x),.agg (encVal y),.rd .pstep (p++[s])] [(1000,[.vec 1001 .op q'])] (.tup []) [(1000,[.vec 1001 .op (q'++(wayR n x y).map (preO (p++[s])))])]) (ihe:∀ x ∈ a.e,∀ y ∈ b.e,∀ q':List OpR,q'.length + (wayR n x.2 y.2).length≤1000000→CSpec Tryd.prog 14 [.pt 1000 0,.agg (encVal x.2),.agg (encVal y.2),.rd .pstep (p++[sK x.1])] [(1000,[.vec 1001 .op q'])] (.tup []) [(1000,[.vec 1001 .op (q'++(wayR n x.2 y.2).map (preO (p++[sK x.1])))])]):CSpec Tryd.prog 14 [.pt 1000 0,.agg (encVal a),.agg (encVal b),.rd .pstep p] [(1000,[.vec 1001 .op q])] (.tup []) [(1000,[.vec 1001 .op (q++(wayR (n + 1) a b).map (preO p))])] :=
 cspec_of_vc Γ_good Tryd.func14 rfl Tryd.call14 Tryd.results14 Tryd.ntmps14 (Nat.le_of_ble_eq_true rfl) (Nat.le_of_ble_eq_true rfl) (by rfl) (w_way1 n a b p q hp hs ha hb nb' na nb hq ihl ihe)
theorem s_wway:∀ (n:Nat) (a b:Val),SizeOf.sizeOf a < n→VB a→VB b→VN 100000000 b→nd a≤1000→nd b≤1000→∀ (p:List PStep) (q:List OpR),(p.length:Int) + nd a≤900000→q.length + (wayR n a b).length≤1000000→CSpec Tryd.prog 14 [.pt 1000 0,.agg (encVal a),.agg (encVal b),.rd .pstep p] [(1000,[.vec 1001 .op q])] (.tup []) [(1000,[.vec 1001 .op (q++(wayR n a b).map (preO p))])]
 | 0,_,_,h=>absurd h (Nat.not_lt_zero _)
 | n + 1, a, b, h => fun ha hb nb' na nb p q hp hq => s_way1 n a b p q (by have := nd_pos a; omega) h ha hb nb' na nb hq
   (fun x hx y hy s q' hq'=>by
    have h1:=nd_l hx
    have h2:=nd_l hy
    exact s_wway n x y (by have:=parts_sz (v:=a) (x:=x) (List.mem_append_left _ hx); omega) (vb_l ha hx) (vb_l hb hy) (vn_l nb' hy) (by omega) (by omega) (p++[s]) q' (by rw [List.length_append,List.length_singleton]; omega) hq')
   (fun x hx y hy q' hq'=>by
    have h1:=nd_e hx
    have h2:=nd_e hy
    exact s_wway n x.2 y.2 (by have:=parts_sz (v:=a) (x:=x.2) (List.mem_append_right _ (List.mem_map_of_mem hx)); omega) (vb_e ha hx) (vb_e hb hy) (vn_e nb' y hy) (by omega) (by omega) (p++[sK x.1]) q' (by rw [List.length_append,List.length_singleton]; omega) hq')
theorem pre_nil (l:List OpR):l.map (preO []) = l:=by
 induction l with
 | nil=>rfl
 | cons o r ih=>rw [List.map_cons,ih]; cases o; rfl
noncomputable def difA (a b:Val):AV:=.tup [.rd .op (if pairF a b≠0 then [] else wayR (SizeOf.sizeOf a + 1) a b),.i .i64 (pairF a b)]
theorem w_Diff (hu:HasU8) (a b:Val) (ha:Mod a) (hb:Mod b):vc Tryd.prog Γ 19 [2,3,4,5,6,7,12] (Tryd.f5.body.getD .skip) (postK Γ [.tmp 4,.tmp 5] (fun v=>RL v (difA a b))) ⟨argSlots 0 [.agg (encVal a),.agg (encVal b)],[]⟩:=by
 refine Or.inl (eX _ (aN (s_pcheck hu a b ha hb) ?_))
 refine aN (fun hq=>?_) (fun hq=>?_)
 ·have hq:pairF a b≠0:=by simpa using hq
  unfold difA
  rw [if_pos hq]
  exact rL
 ·have hq:¬ pairF a b≠0:=by simpa using hq
  have hq0:pairF a b = 0:=by simpa using hq
  obtain ⟨h1,h2,h3⟩:=pairF_ok hq0
  have p1:=nd_pos a
  have p2:=nd_pos b
  have r1:=(way_run (Nat.lt_succ_self (SizeOf.sizeOf a)) (fault_okv h1) (fault_okv h2) ha.vb hb.vb h3).1
  have hW:=s_wway _ a b (Nat.lt_succ_self (SizeOf.sizeOf a)) ha.vb hb.vb hb.vn (by omega) (by omega) [] [] (by simp; omega) (by rw [List.length_nil]; omega)
  rw [List.nil_append,pre_nil] at hW
  have hW2:=cspec_wk (args':=[.pt 1000 0,.agg (encVal a),.agg (encVal b),.nl]) hW rfl wK
  unfold difA
  rw [if_neg hq,hq0]
  (repeat' (first | (refine aN (fun h=>?_) (fun h=>?_)<;>(try simp [-List.getD_eq_getElem?_getD,-Int.pred_toNat] at h)<;>(try (exfalso; first | omega | contradiction))) | refine bX ?_ | intro _))
  refine Or.inr (Or.inl (eX [(7,0,20,.op)] (eX _ (eX _ (eX _ (eX _ (eX _ (eX [(1000,7),(1001,20)] (aN (hW2) ?_)))))))))
  refine (aN rfl (aN rfl (aN rfl (aN rfl (aN rfl ?_)))))
  exact rL
theorem s_Diff (hu:HasU8) (a b:Val) (ha:Mod a) (hb:Mod b):PSpec Tryd.prog 5 [.agg (encVal a),.agg (encVal b)] (difA a b) :=
 pspec_of_vcL Γ_good Tryd.func5 rfl Tryd.call5 Tryd.results5 Tryd.ntmps5 (Nat.le_of_ble_eq_true rfl) (w_Diff hu a b ha hb)
theorem w_lawL (hu:HasU8) (a b:Val) (ha:Mod a) (hb:Mod b):vc Tryd.prog Γ 66 [2,3,4,5,6,7,8,10,11,12,23,38] (Tryd.f3.body.getD .skip) (postK Γ [.tmp 4] (fun v=>v = .b true)) ⟨argSlots 0 [.agg (encVal a),.agg (encVal b)],[]⟩:=by
 have hD:=s_Diff hu a b ha hb
 have hP:=s_pair a b ha hb
 by_cases hp:pairF a b≠0
 ·have e:difA a b = .tup [.rd .op [],.i .i64 (pairF a b)]:=by unfold difA; rw [if_pos hp]
  rw [e] at hD
  refine Or.inl (eX _ (aN (hD) ?_))
  refine Or.inl (eX _ (aN (hP) ?_))
  refine aN (fun _=>?_) (fun h=>absurd hp (by simpa using h))
  intro _
  (repeat' (first | (refine aN (fun h=>?_) (fun h=>?_)<;>(try simp [-List.getD_eq_getElem?_getD,-Int.pred_toNat] at h)<;>(try (exfalso; first | omega | contradiction))) | refine bX ?_ | intro _))
  exact congrArg AV.b (by simp)
 ·have hp0:pairF a b = 0:=by simpa using hp
  obtain ⟨h1,h2,h3⟩:=pairF_ok hp0
  obtain ⟨r1,r2,r3,r4⟩:=way_run (Nat.lt_succ_self (SizeOf.sizeOf a)) (fault_okv h1) (fault_okv h2) ha.vb hb.vb h3
  have p1:=nd_pos a
  have p2:=nd_pos b
  have e:difA a b = .tup [.rd .op (wayR (SizeOf.sizeOf a + 1) a b),.i .i64 0]:=by unfold difA; rw [if_neg hp,hp0]
  have hF:=s_farD _ a b 0 0 (Nat.lt_succ_self (SizeOf.sizeOf a)) (fault_okv h1) (fault_okv h2) ha.vb hb.vb (by omega) (by omega)
  have hS:=s_same b b hb.vb hb.vb
  rw [e] at hD
  rw [hp0] at hP
  rw [← r3] at hF
  generalize wayR (SizeOf.sizeOf a + 1) a b = l at *
  have hl:∀ o ∈ l,Mod o.v∧o.key.length≤10000000:=fun o ho=>⟨⟨(r4 o ho).1,good_bulk (r4 o ho).2.1⟩,by rw [(r4 o ho).2.2]; exact Nat.zero_le _⟩
  have hU:=s_updAll a l ha hl
  have hC:=s_costs a l ha hl (by omega)
  rw [r2] at hU
  refine Or.inl (eX _ (aN (hD) ?_))
  refine Or.inl (eX _ (aN (hP) ?_))
  refine aN (fun h=>Bool.noConfusion (show false = true from h)) (fun _=>?_)
  refine aN (fun _=>?_) (fun h=>Bool.noConfusion (show false = true from h))
  intro hml
  refine aN (fun h=>absurd (of_decide_eq_true h) (by omega)) (fun _=>?_)
  refine Or.inl (eX _ (aN (hU) ?_))
  refine Or.inl (eX _ (aN (hC) ?_))
  refine aN (fun _=>?_) (fun h=>Bool.noConfusion (show true = false from h))
  refine Or.inl (eX _ (aN (hS) ?_))
  rw [decide_eq_true (show cmpV b b = 0 from cmpV_self b)]
  refine aN (fun _=>?_) (fun h=>Bool.noConfusion (show true = false from h))
  refine Or.inl (eX _ (aN (hF) ?_))
  exact congrArg AV.b (by simp)
theorem s_lawL (hu:HasU8) (a b:Val) (ha:Mod a) (hb:Mod b):PSpec Tryd.prog 3 [.agg (encVal a),.agg (encVal b)] (.b true) :=
 pspec_of_vc Γ_good Tryd.func3 rfl Tryd.call3 Tryd.results3 Tryd.ntmps3 (Nat.le_of_ble_eq_true rfl) (w_lawL hu a b ha hb)
end
end Go.Proofs.YtfeniggadfkakaaDoor
end
