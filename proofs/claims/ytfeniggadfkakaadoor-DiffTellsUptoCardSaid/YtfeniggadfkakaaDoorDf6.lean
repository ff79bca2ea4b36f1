/-
  A part of a proof: plain laws and walks, one after the other. No conditions.
-/
import Derived.Test.YtfeniggadfkakaaDoorDf5
set_option linter.constructorNameAsVariable false
set_option linter.unusedVariables false
set_option linter.unusedSimpArgs false
set_option linter.unusedSectionVars false
section
namespace Go.Proofs.YtfeniggadfkakaaDoor
open Go Go.SX Go.Vl Go.Ck Go.Ut Go.Up Go.Df
set_option maxRecDepth 100000
set_option maxHeartbeats 4000000
def costR (a:Val) (l:List OpR):Int × Int:=if (allV a l).2.2≠0 then (0,(allV a l).2.2) else ((cosF a 0 l).1,0)
theorem opF_kind {o:OpR} (h:opF o = 0):1≤o.kind∧o.kind≤4:=by
 by_cases c:o.kind < 1∨4 < o.kind
 ·unfold opF at h; rw [if_pos c] at h; exact absurd h (by decide)
 ·omega
theorem applyV_op {v:Val} {o:OpR} (h:(applyV v o).2 = 0):opF o = 0:=by
 unfold applyV at h
 by_cases c:faultV v≠0
 ·rw [if_pos c] at h; exact absurd h c
 ·rw [if_neg c] at h
  by_cases d:opF o≠0
  ·rw [if_pos d] at h; exact absurd h d
  ·simpa using d
section
variable [G:Globs]
theorem w_Cost (hu:HasU8) (a:Val) (l:List OpR) (ha:Mod a) (hl:∀ o ∈ l,Mod o.v∧o.key.length≤10000000) (hn:l.length≤1000):vc Tryd.prog Γ 75 [1,2,4,5,6,8,9,11,12,22,24,25,26,27,38,44,54,61] (Tryd.f12.body.getD .skip) (postK Γ [.tmp 4,.tmp 5] (fun v=>RL v (.tup [.i .i64 (costR a l).1,.i .i64 (costR a l).2]))) ⟨argSlots 0 [.agg (encVal a),.rd .op l],[]⟩:=by
 refine Or.inl (eX _ (aN (s_allP hu a l ha hl) ?_))
 refine aN (fun hq=>?_) (fun hq=>?_)
 ·have hq:(allV a l).2.2≠0:=by simpa using hq
  unfold costR
  rw [if_pos hq]
  exact rL
 have hq:¬ (allV a l).2.2≠0:=by simpa using hq
 have hq0:(allV a l).2.2 = 0:=by simpa using hq
 unfold costR
 rw [if_neg hq]
 have hall:(allF a 0 l).2.2 = 0:=by
  unfold allV at hq0
  by_cases c:faultV a≠0
  ·rw [if_pos c] at hq0; exact absurd hq0 c
  ·rw [if_neg c] at hq0; exact hq0
 clear hq hq0
 generalize hR:cosF a 0 l = R
 intro hml
 refine eX [] (eX [] (eX [] (eX (Nat × Val × Int) (eX (fun q=>q.1≤l.length∧Mod q.2.1∧R = cosF q.2.1 q.2.2 (l.drop q.1)∧(allF q.2.1 q.1 (l.drop q.1)).2.2 = 0∧0≤q.2.2∧q.2.2≤4000000000 * q.1) (eX (fun ⟨i,v,z⟩=>⟨[(2,.pt 2 0),(9,.i .i64 z),(24,.rd .op l),(25,.i .i64 l.length),(26,.i .i64 i)],[(2,encVal v)]⟩) (eX (fun q=>l.length - q.1) (eX (0,a,0) (aN ⟨Nat.zero_le _,ha,hR.symm,hall,Int.le_refl _,Int.le_refl _⟩ (aN ?_ ?_)))))))))
 ·exact wK
 rintro ⟨i,v,z⟩ ⟨hi,hv,hI,hA,hz0,hz1⟩
 simp only at hi hv hI hA hz0 hz1
 refine aN (fun hz=>?_) (fun hz=>?_)
 ·have hi:=ltD hz
  have hg:=getI (τ:=.op) hi
  refine bN2 ?_
  rw [hg]
  have ho:=hl l[i] (List.getElem_mem hi)
  rw [List.drop_eq_getElem_cons hi,cosF] at hI
  rw [List.drop_eq_getElem_cons hi,allF] at hA
  have hq0:(applyV v l[i]).2 = 0:=by
   by_cases c:(applyV v l[i]).2≠0
   ·rw [if_pos c] at hA; exact hA
   ·simpa using c
  have hq:¬ (applyV v l[i]).2≠0:=by simpa using hq0
  rw [if_neg hq] at hI hA
  obtain ⟨g1,g2,g3⟩:=applyV_good hq0
  have hk:=opF_kind (applyV_op hq0)
  have hm:=mod_app hv ho.1 ho.2 hq0
  have hG:=s_get hu v l[i].p hv.vn
  have hgv:getA v l[i].p = .tup [.agg (encVal (ledV v l[i].p).1),.i .i64 (ledV v l[i].p).2]:=by unfold getA getV; rw [if_neg (by rw [g3]; simp)]
  rw [hgv] at hG
  have n1:(sizV v).2≤1000000000:=hv.siz
  have n2:(sizV l[i].v).2≤1000000000:=ho.1.siz
  have n3:(sizV (ledV v l[i].p).1).2≤1000000000:=Int.le_trans (nd_led v l[i].p) n1
  have p2:1≤(sizV l[i].v).2:=nd_pos l[i].v
  have p3:1≤(sizV (ledV v l[i].p).1).2:=nd_pos (ledV v l[i].p).1
  have cb:=cost_b (o:=l[i]) (v:=v) n1 n2
  have hi0:(i:Int)≤1000:=by omega
  have hNw:=s_Nodes _ (ledV v l[i].p).1 (Nat.lt_succ_self _) n3
  have hNo:=s_Nodes _ l[i].v (Nat.lt_succ_self _) n2
  have hAp:=s_applyS hu v l[i] hv ho.1 ho.2
  refine Or.inl (eX _ (aN (hG) ?_))
  by_cases c1:l[i].kind = 1
  ·have e:costO v l[i] = (sizV (ledV v l[i].p).1).2 + (sizV l[i].v).2:=if_pos c1
   rw [e] at hI cb
   (repeat' (first | (refine aN (fun h=>?_) (fun h=>?_)<;>(try simp [-List.getD_eq_getElem?_getD,-Int.pred_toNat] at h)<;>(try (exfalso; first | omega | contradiction))) | refine bX ?_ | intro _))
   refine eX [.blk [0,1,2,3,4,5,6,7,8]] (aN (by kernel_rfl) ?_)
   refine eX _ (aN (hNw) ?_)
   refine eX _ (aN (hNo) ?_)
   (refine rNG ?_)
   (refine rNG ?_)
   refine Or.inl (eX _ (aN (hAp) ?_))
   (refine rNG ?_)
   refine eX [] (eX (i + 1,(applyV v l[i]).1,z + ((sizV (ledV v l[i].p).1).2 + (sizV l[i].v).2)) (aN ⟨hi,hm,hI,hA,(by show 0≤z + _; omega),(by show z + _≤4000000000 * ((i + 1:Nat):Int); omega)⟩ (aN ?_ ?_)))
   ·exact wK
   ·(exact Nat.sub_lt_sub_left (by omega) (by omega))
  by_cases c2:l[i].kind = 2
  ·have e:costO v l[i] = (sizV l[i].v).2:=by unfold costO; rw [if_neg c1,if_pos c2]; rfl
   rw [e] at hI cb
   (repeat' (first | (refine aN (fun h=>?_) (fun h=>?_)<;>(try simp [-List.getD_eq_getElem?_getD,-Int.pred_toNat] at h)<;>(try (exfalso; first | omega | contradiction))) | refine bX ?_ | intro _))
   refine Or.inl (eX _ (aN (hNo) ?_))
   (refine rNG ?_)
   refine Or.inl (eX _ (aN (hAp) ?_))
   (refine rNG ?_)
   refine eX [] (eX (i + 1,(applyV v l[i]).1,z + (sizV l[i].v).2) (aN ⟨hi,hm,hI,hA,(by show 0≤z + _; omega),(by show z + _≤4000000000 * ((i + 1:Nat):Int); omega)⟩ (aN ?_ ?_)))
   ·exact wK
   ·(exact Nat.sub_lt_sub_left (by omega) (by omega))
  by_cases c3:l[i].kind = 3
  ·have e:costO v l[i] = (sizV (ledV v l[i].p).1).2:=by unfold costO; rw [if_neg c1,if_neg c2,if_pos c3]; rfl
   rw [e] at hI cb
   (repeat' (first | (refine aN (fun h=>?_) (fun h=>?_)<;>(try simp [-List.getD_eq_getElem?_getD,-Int.pred_toNat] at h)<;>(try (exfalso; first | omega | contradiction))) | refine bX ?_ | intro _))
   refine Or.inl (eX _ (aN (hNw) ?_))
   (refine rNG ?_)
   refine Or.inl (eX _ (aN (hAp) ?_))
   (refine rNG ?_)
   refine eX [] (eX (i + 1,(applyV v l[i]).1,z + (sizV (ledV v l[i].p).1).2) (aN ⟨hi,hm,hI,hA,(by show 0≤z + _; omega),(by show z + _≤4000000000 * ((i + 1:Nat):Int); omega)⟩ (aN ?_ ?_)))
   ·exact wK
   ·(exact Nat.sub_lt_sub_left (by omega) (by omega))
  ·have c4:l[i].kind = 4:=by omega
   have e:costO v l[i] = 2 * (sizV (ledV v l[i].p).1).2:=by unfold costO; rw [if_neg c1,if_neg c2,if_neg c3,if_pos c4]; show (sizV (ledV v l[i].p).1).2 + (sizV (ledV v l[i].p).1).2 = _; omega
   rw [e] at hI cb
   (repeat' (first | (refine aN (fun h=>?_) (fun h=>?_)<;>(try simp [-List.getD_eq_getElem?_getD,-Int.pred_toNat] at h)<;>(try (exfalso; first | omega | contradiction))) | refine bX ?_ | intro _))
   refine Or.inl (eX _ (aN (hNw) ?_))
   (refine rNG ?_)
   (refine rNG ?_)
   refine Or.inl (eX _ (aN (hAp) ?_))
   (refine rNG ?_)
   refine eX [] (eX (i + 1,(applyV v l[i]).1,z + 2 * (sizV (ledV v l[i].p).1).2) (aN ⟨hi,hm,hI,hA,(by show 0≤z + _; omega),(by show z + _≤4000000000 * ((i + 1:Nat):Int); omega)⟩ (aN ?_ ?_)))
   ·exact wK
   ·(exact Nat.sub_lt_sub_left (by omega) (by omega))
 ·have hi:=geD hi hz
  rw [List.drop_eq_nil_of_le (by omega),cosF] at hI
  rw [hI]
  exact rL
theorem s_Cost (hu:HasU8) (a:Val) (l:List OpR) (ha:Mod a) (hl:∀ o ∈ l,Mod o.v∧o.key.length≤10000000) (hn:l.length≤1000):PSpec Tryd.prog 12 [.agg (encVal a),.rd .op l] (.tup [.i .i64 (costR a l).1,.i .i64 (costR a l).2]) :=
 pspec_of_vcL Γ_good Tryd.func12 rfl Tryd.call12 Tryd.results12 Tryd.ntmps12 (Nat.le_of_ble_eq_true rfl) (w_Cost hu a l ha hl hn)
theorem w_law (hu:HasU8) (a b:Val) (l:List OpR) (ha:Mod a) (hb:Mod b) (hl:∀ o ∈ l,Mod o.v∧o.key.length≤10000000):vc Tryd.prog Γ 82 [2,3,4,6,7,8,9,10,11,12,13,14,16,27,34,43,46,67] (Tryd.f4.body.getD .skip) (postK Γ [.tmp 6] (fun v=>v = .b true)) ⟨argSlots 0 [.agg (encVal a),.agg (encVal b),.rd .op l],[]⟩:=by
 have hF:=s_Far hu a b ha hb
 have hP:=s_pair a b ha hb
 by_cases hp:pairF a b≠0
 ·have e:farA a b = .tup [.i .i64 0,.i .i64 (pairF a b)]:=by unfold farA farR; rw [if_pos hp]
  rw [e] at hF
  refine Or.inl (eX _ (aN (hF) ?_))
  refine Or.inl (eX _ (aN (hP) ?_))
  refine aN (fun _=>?_) (fun h=>absurd hp (by simpa using h))
  refine aN (fun _=>?_) (fun h=>absurd h (by simp))
  refine aN (fun h=>absurd h (by simp)) (fun _=>?_)
  intro hml
  refine aN (fun _=>rfl) (fun hq=>?_)
  have hlen:l.length≤40:=by have:=of_decide_eq_false hq; omega
  have hC:=s_Cost hu a l ha hl (by omega)
  have hS:=s_costs a l ha hl (by omega)
  have hU:=s_updAll a l ha hl
  by_cases hv:(allV a l).2.2≠0
  ·have e:costR a l = (0,(allV a l).2.2):=if_pos hv
   rw [e] at hC
   refine Or.inl (eX _ (aN (hC) ?_))
   refine Or.inl (eX _ (aN (hS) ?_))
   refine Or.inl (eX _ (aN (hU) ?_))
   refine aN (fun _=>?_) (fun h=>absurd hv (by simpa using h))
   refine aN (fun _=>?_) (fun h=>Bool.noConfusion (show true = false from h))
   exact congrArg AV.b (beq_self_eq_true _)
  ·have e:costR a l = ((cosF a 0 l).1,0):=if_neg hv
   rw [e] at hC
   refine Or.inl (eX _ (aN (hC) ?_))
   refine Or.inl (eX _ (aN (hS) ?_))
   refine Or.inl (eX _ (aN (hU) ?_))
   refine aN (fun h=>absurd (by simpa using h) hv) (fun _=>?_)
   refine aN (fun _=>?_) (fun h=>Bool.noConfusion (show true = false from h))
   exact congrArg AV.b (beq_self_eq_true _)
 ·have e:farA a b = .tup [.i .i64 (farF (SizeOf.sizeOf a + 1) a b),.i .i64 0]:=by unfold farA farR; rw [if_neg hp]
  rw [e] at hF
  obtain ⟨h1,h2,h3⟩:=pairF_ok (by simpa using hp)
  have p1:=nd_pos a
  have p2:=nd_pos b
  have hD:=s_farD _ a b 0 0 (Nat.lt_succ_self (SizeOf.sizeOf a)) (fault_okv h1) (fault_okv h2) ha.vb hb.vb (by omega) (by omega)
  refine Or.inl (eX _ (aN (hF) ?_))
  refine Or.inl (eX _ (aN (hP) ?_))
  refine aN (fun h=>absurd (by simpa using h) hp) (fun _=>?_)
  refine aN (fun _=>?_) (fun h=>absurd h (by simp))
  refine Or.inl (eX _ (aN (hD) ?_))
  refine aN (fun h=>absurd h (by simp)) (fun _=>?_)
  intro hml
  refine aN (fun _=>rfl) (fun hq=>?_)
  have hlen:l.length≤40:=by have:=of_decide_eq_false hq; omega
  have hC:=s_Cost hu a l ha hl (by omega)
  have hS:=s_costs a l ha hl (by omega)
  have hU:=s_updAll a l ha hl
  by_cases hv:(allV a l).2.2≠0
  ·have e:costR a l = (0,(allV a l).2.2):=if_pos hv
   rw [e] at hC
   refine Or.inl (eX _ (aN (hC) ?_))
   refine Or.inl (eX _ (aN (hS) ?_))
   refine Or.inl (eX _ (aN (hU) ?_))
   refine aN (fun _=>?_) (fun h=>absurd hv (by simpa using h))
   refine aN (fun _=>?_) (fun h=>Bool.noConfusion (show true = false from h))
   exact congrArg AV.b (beq_self_eq_true _)
  ·have e:costR a l = ((cosF a 0 l).1,0):=if_neg hv
   rw [e] at hC
   refine Or.inl (eX _ (aN (hC) ?_))
   refine Or.inl (eX _ (aN (hS) ?_))
   refine Or.inl (eX _ (aN (hU) ?_))
   refine aN (fun h=>absurd (by simpa using h) hv) (fun _=>?_)
   refine aN (fun _=>?_) (fun h=>Bool.noConfusion (show true = false from h))
   exact congrArg AV.b (beq_self_eq_true _)
theorem s_law (hu:HasU8) (a b:Val) (l:List OpR) (ha:Mod a) (hb:Mod b) (hl:∀ o ∈ l,Mod o.v∧o.key.length≤10000000):PSpec Tryd.prog 4 [.agg (encVal a),.agg (encVal b),.rd .op l] (.b true) :=
 pspec_of_vc Γ_good Tryd.func4 rfl Tryd.call4 Tryd.results4 Tryd.ntmps4 (Nat.le_of_ble_eq_true rfl) (w_law hu a b l ha hb hl)
end
end Go.Proofs.YtfeniggadfkakaaDoor
end
section
namespace Go.SX
open Go.RowKit Go.WideShapes Go.ChangeShapes Go.Deep
def bkS (p:PStep):Nat:=p.key.length + 2
def bkO (o:OpR):Nat:=bkV o.v + o.key.length + (o.p.map bkS).sum + 1
def I64 (n:Int):Prop:=-9223372036854775808≤n∧n≤9223372036854775807
def OB (o:OpR):Prop:=I64 o.kind∧VB o.v∧∀ p ∈ o.p,I64 p.i
structure STy (P:Program) (T:TypeId) where
 (fs:Array Field) (K S:TypeId)
 hT:P.underlying T = some (.struct fs)
 sz:fs.size = 2
 cT:P.cellsOf T = 2
 h0:HasF fs 0 0 S
 h1:HasF fs 1 1 K
 uK:P.underlying K = some (.int .i64)
 uS:P.underlying S = some .string
 c:P.cellsOf K = 1∧P.cellsOf S = 1
structure OTy (P:Program) (T:TypeId) where
 (fs:Array Field) (K S Q V St:TypeId) (Tv:VTy P V) (S':STy P St)
 hT:P.underlying T = some (.struct fs)
 sz:fs.size = 4
 cT:P.cellsOf T = 9
 h0:HasF fs 0 0 K
 h1:HasF fs 1 1 Q
 h2:HasF fs 2 2 V
 h3:HasF fs 3 8 S
 uK:P.underlying K = some (.int .i64)
 uS:P.underlying S = some .string
 uQ:P.underlying Q = some (.slice St)
 c:P.cellsOf K = 1∧P.cellsOf S = 1∧P.cellsOf Q = 1
section
variable [Globs]
variable {H:Type} {encH:TypeId × Value→H} {P:Program} {W:World} {sp:Nat→Bool} {hd:Bool} {O:Nat→Prop} {bk:DataW H→Nat}
theorem arg_stepS {T : TypeId} (hbk : BulkS bk) (S : STy P T) {fuel : Nat} {cs : List Value} {x : DataW H × List MemPlace} (h : DataW.trod encH P W 0 sp hd fuel T cs = some x) :
  ∃ y:PStep,All2 (Im O W) (enc .pstep y) cs∧bkS y≤bk x.1∧I64 y.i:=by
 obtain ⟨n,ds,rfl,hl,hag,hds,hf⟩:=one_fieldS S.hT h
 rw [S.cT] at hl
 rw [S.sz] at hds
 obtain ⟨c0,c1⟩:=S.c
 match cs,hl,ds,hds with
 | [u0,u1],_,[d0,d1],_ =>
  obtain ⟨y0,q0,k0⟩:=hf 0 0 _ S.h0
  obtain ⟨y1,q1,k1⟩:=hf 1 1 _ S.h1
  simp only [List.getElem?_cons_zero,List.getElem?_cons_succ,Option.some.injEq] at k0 k1
  subst k0 k1
  rw [c1] at q0
  rw [c0] at q1
  obtain ⟨s,vs,e0,i0,z0⟩:=arg_strS (O:=O) hbk S.uS q0
  obtain ⟨k,e1,i1,w1⟩:=arg_int (O:=O) S.uK q1
  simp at e0 e1
  subst e0 e1
  refine ⟨⟨s,k⟩,All2.cons i0 (All2.cons i1 (All2.nil _)),?_,wf_i64 w1⟩
  have h9:=hbk.ag [y0.1,y1.1]
  have p1:=hbk.pos y1.1
  rw [hag]
  refine Nat.le_trans ?_ h9
  simp only [bkS,List.map_cons,List.map_nil,List.sum_cons,List.sum_nil]
  omega
theorem arg_opS {T : TypeId} (hbk : BulkS bk) (S : OTy P T) (hs : S.Tv.fs.size = 6) (hs2 : S.Tv.gs.size = 2) (hO : ∀ k, ¬ O k) {fuel : Nat} {cs : List Value} {x : DataW H × List MemPlace} (h : DataW.trod encH P W 0 sp hd fuel T cs = some x) :
  ∃ y:OpR,All2 (Im O W) (enc .op y) cs∧bkO y≤bk x.1∧OB y:=by
 obtain ⟨n,ds,rfl,hl,hag,hds,hf⟩:=one_fieldS S.hT h
 rw [S.cT] at hl
 rw [S.sz] at hds
 obtain ⟨c0,c1,c2⟩:=S.c
 match cs,hl,ds,hds with
 | [u0,u1,u2,u3,u4,u5,u6,u7,u8],_,[d0,d1,d2,d3],_ =>
  obtain ⟨y0,q0,k0⟩:=hf 0 0 _ S.h0
  obtain ⟨y1,q1,k1⟩:=hf 1 1 _ S.h1
  obtain ⟨y2,q2,k2⟩:=hf 2 2 _ S.h2
  obtain ⟨y3,q3,k3⟩:=hf 3 8 _ S.h3
  simp only [List.getElem?_cons_zero,List.getElem?_cons_succ,Option.some.injEq] at k0 k1 k2 k3
  subst k0 k1 k2 k3
  rw [c0] at q0
  rw [c2] at q1
  rw [S.Tv.cV] at q2
  rw [c1] at q3
  obtain ⟨k,e0,i0,w0⟩:=arg_int (O:=O) S.uK q0
  obtain ⟨l,vl,e1,i1,z1,r1⟩:=arg_sliceS (O:=O) (τ:=.pstep) (m:=bkS) (R:=fun p=>I64 p.i) hbk hO S.uQ S.S'.cT (fun n' hn cs' x' hx=>arg_stepS hbk S.S' hx) q1
  obtain ⟨y,j1,hyb,hy⟩:=arg_valS (O:=O) hbk S.Tv hs hs2 hO _ _ _ q2
  obtain ⟨s,vs,e3,i3,z3⟩:=arg_strS (O:=O) hbk S.uS q3
  have e2:∃ v0 v1 v2 v3 v4 v5,[u2,u3,u4,u5,u6,u7] = [v0,v1,v2,v3,v4,v5]:=⟨_,_,_,_,_,_,rfl⟩
  simp at e0 e1 e3
  subst e0 e1 e3
  have j1:All2 (Im O W) (encVal y) [u2,u3,u4,u5,u6,u7]:=by simpa using j1
  refine ⟨⟨k,l,y,s⟩,All2.cons i0 (All2.cons i1 (j1.append (All2.cons i3 (All2.nil _)))),?_,wf_i64 w0,hy,r1⟩
  have h9:=hbk.ag [y0.1,y1.1,y2.1,y3.1]
  have p0:=hbk.pos y0.1
  rw [hag]
  refine Nat.le_trans ?_ h9
  simp only [bkO,List.map_cons,List.map_nil,List.sum_cons,List.sum_nil]
  omega
end
end Go.SX
end
