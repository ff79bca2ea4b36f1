/-
  A part of a proof: plain laws and walks, one after the other. No conditions.
-/
import Derived.Test.YtiijpgmpnijidaaGreatDoorSe4
set_option linter.constructorNameAsVariable false
set_option linter.unusedVariables false
set_option linter.unusedSimpArgs false
set_option linter.unusedSectionVars false
section
namespace Go.Proofs.YtiijpgmpnijidaaGreatDoor
open Go Go.SX Go.Ck Go.Vl Go.Ut Go.Ty
set_option maxRecDepth 100000
set_option maxHeartbeats 4000000
section
variable [G:Globs]
theorem OY (hu:HasU8) (l:List aH):vc Tryz.prog Γ 37 [0,2,3,4,5,9,13,14,15,16,20,24] (Tryz.f61.body.getD .skip) (aQ Γ [.tmp 2] (fun v=>v = .i .i64 (kx l))) ⟨ae 0 [.rd .str l],[]⟩:=by
 intro hl
 by_cases c1:l = []
 ·subst c1
  (repeat' (first | (refine iF (fun h=>?_) fun h=>?_)<;>try exact cX | refine bX ?_ | intro _))
  all_goals rfl
 by_cases c2:200 < l.length
 ·have hr:kx l = 2:=by unfold kx; rw [if_neg (fun h=>c1 (List.length_eq_zero_iff.1 h)),if_pos c2]
  rw [hr]
  (repeat' (first | (refine iF (fun h=>?_) fun h=>?_)<;>try exact cX | refine bX ?_ | intro _))
  all_goals rfl
 have hr:kx l = pT none l:=by unfold kx; rw [if_neg (fun h=>c1 (List.length_eq_zero_iff.1 h)),if_neg c2]
 rw [hr]
 (repeat' (first | (refine iF (fun h=>?_) fun h=>?_)<;>try exact cX | refine bX ?_ | intro _))
 refine eX [] (eX [] (eX [] (eX Nat (eX (fun i=>i<=(l).length/\(pT none l = pT (dR l i) (l.drop i))) (eX (fun i=>⟨[(0,.rd .str l),(13,.rd .str l),(14,.i .i64 l.length),(15,.i .i64 i)],[]⟩) (eX (fun i=>(l).length - i) (eX 0 (aN ⟨Nat.zero_le _,rfl⟩ (aN ?_ ?_)))))))))
 ·exact wK
 rintro i ⟨hi,hI⟩
 refine aN (fun hz=>?_) (fun hz=>?_)
 ·have hi:=gd hz
  have hg:=cB (τ:=.str) hi
  refine bN2 ?_
  rw [hg]
  by_cases c3:0<=bad l[i]
  ·have hk:C7 (dR l i) l[i] = 3:=if_pos c3
   rw [pU hi (by rw [hk]; decide),hk] at hI
   rw [hI]
   (repeat' (first | (refine iF (fun h=>?_) fun h=>?_)<;>try exact cX | refine bX ?_ | intro _))
   refine Or.inl (eX _ (aN (ki hu l[i]) ?_))
   (repeat' (first | (refine iF (fun h=>?_) fun h=>?_)<;>try exact cX | refine bX ?_ | intro _))
   all_goals rfl
  by_cases h0:0 < i
  ·have hn:dR l i = some (l.getD (i - 1) []):=if_pos h0
   have hk:C7 (dR l i) l[i] = if Op.bytesLess (l.getD (i - 1) []) l[i] = true then 0 else 14:=by
    unfold C7
    rw [if_neg c3,hn]
   have y9:l.getD (Int.toNat ((i:Int) - 1)) (aD .str) = l.getD (i - 1) []:=by rw [show Int.toNat ((i:Int) - 1) = i - 1 by omega]
   (repeat' (first | (refine iF (fun h=>?_) fun h=>?_)<;>try exact cX | refine bX ?_ | intro _))
   refine Or.inl (eX _ (aN (ki hu l[i]) ?_))
   (repeat' (first | (refine iF (fun h=>?_) fun h=>?_)<;>try exact cX | refine bX ?_ | intro _))
   ·have hq:Op.bytesLess (l.getD (Int.toNat ((i:Int) - 1)) (aD .str)) l[i] = false:=by assumption
    rw [y9] at hq
    rw [hq,if_neg (by decide)] at hk
    rw [pU hi (by rw [hk]; decide),hk] at hI
    exact congrArg (AV.i .i64) hI.symm
   ·have hq:Op.bytesLess (l.getD (Int.toNat ((i:Int) - 1)) (aD .str)) l[i] = true:=by assumption
    rw [y9] at hq
    rw [hq,if_pos rfl] at hk
    rw [yQ hi hk] at hI
    refine eX [] (eX (_ + 1) (aN ⟨hi,hI⟩ (aN ?_ ?_)))
    ·exact wK
    ·(exact Nat.sub_lt_sub_left (by omega) (by omega))
  ·have hn:dR l i = none:=if_neg h0
   have hk:C7 (dR l i) l[i] = 0:=by
    unfold C7
    rw [if_neg c3,hn]
   rw [yQ hi hk] at hI
   (repeat' (first | (refine iF (fun h=>?_) fun h=>?_)<;>try exact cX | refine bX ?_ | intro _))
   refine Or.inl (eX _ (aN (ki hu l[i]) ?_))
   (repeat' (first | (refine iF (fun h=>?_) fun h=>?_)<;>try exact cX | refine bX ?_ | intro _))
   refine eX [] (eX (_ + 1) (aN ⟨hi,hI⟩ (aN ?_ ?_)))
   ·exact wK
   ·(exact Nat.sub_lt_sub_left (by omega) (by omega))
 ·(have hi:=ga hi hz)
  rw [hI,EH (by omega)]
  rfl
theorem NH (hu:HasU8) (l:List aH):ar Tryz.prog 61 [.rd .str l] (.i .i64 (kx l)) :=
 ah aa Tryz.func61 rfl Tryz.call61 Tryz.results61 Tryz.ntmps61 (Nat.le_of_ble_eq_true rfl) (OY hu l)
theorem Sx (d:az) (n:aH):vc Tryz.prog Γ 8 [1,2,3] (Tryz.f83.body.getD .skip) (aQ Γ [.tmp 3] (fun v=>v = .b (d.name == n))) ⟨ae 0 [.agg (enc .dfn d),.rp [.s n]],[]⟩:=by
 (repeat' (first | (refine iF (fun h=>?_) fun h=>?_)<;>try exact cX | refine bX ?_ | intro _))
 all_goals rfl
theorem Re (d:az) (n:aH):ar Tryz.prog 83 [.agg (enc .dfn d),.rp [.s n]] (.b (d.name == n)) :=
 ah aa Tryz.func83 rfl Tryz.call83 Tryz.results83 Tryz.ntmps83 (Nat.le_of_ble_eq_true rfl) (Sx d n)
theorem Vz (l:List az) (n:aH):vc Tryz.prog Γ 19 [0,1,4,5,7,8,9,16] (Tryz.f82.body.getD .skip) (aQ Γ [.tmp 4] (fun v=>v = .i .i64 (cq l n))) ⟨ae 0 [.rd .dfn l,.fn 83 [.rp [.s n]]],[]⟩:=by
 intro hl
 have Qx:=gD hl
 refine eX [] (eX [] (eX [] (eX Nat (eX (fun i=>i<=(l).length/\(i<=l.findIdx (fun d=>d.name == n))) (eX (fun i=>⟨[(0,.rd .dfn l),(1,.fn 83 [.rp [.s n]]),(7,.i .i64 l.length),(8,.i .i64 i)],[]⟩) (eX (fun i=>(l).length - i) (eX 0 (aN ⟨Nat.zero_le _,(Nat.zero_le _)⟩ (aN ?_ ?_)))))))))
 ·exact wK
 rintro i ⟨hi,hI⟩
 refine aN (fun hz=>?_) (fun hz=>?_)
 ·have hi:=gd hz
  have hg:=cB (τ:=.dfn) hi
  refine bN2 ?_
  rw [hg]
  have hD:=Re l[i] n
  cases hq:(l[i].name == n) with
  | true =>
   rw [hq] at hD
   have he:=D3 (q:=fun d=>d.name == n) hi hI hq
   refine Or.inl (eX _ (aN (hD) ?_))
   (repeat' (first | (refine iF (fun h=>?_) fun h=>?_)<;>try exact cX | refine bX ?_ | intro _))
   refine congrArg (AV.i .i64) ?_
   unfold cq
   rw [he,if_pos hi]
  | false =>
   rw [hq] at hD
   have he:=Az (q:=fun d=>d.name == n) hi hI hq
   refine Or.inl (eX _ (aN (hD) ?_))
   (focus (refine aN (fun h9=>?_) ?_; (focus (exfalso; revert h9; first | decide | (simp<;>omega) | (intro h9; simp at h9<;>omega))); refine fun _=>?_))
   (refine vG ?_)
   refine eX [] (eX (_ + 1) (aN ⟨hi,he⟩ (aN ?_ ?_)))
   ·exact wK
   ·(exact Nat.sub_lt_sub_left (by omega) (by omega))
 ·(have hi:=ga hi hz)
  refine congrArg (AV.i .i64) ?_
  unfold cq
  rw [if_neg (by omega)]
theorem PI (l:List az) (n:aH):ar Tryz.prog 82 [.rd .dfn l,.fn 83 [.rp [.s n]]] (.i .i64 (cq l n)) :=
 ah aa Tryz.func82 rfl Tryz.call82 Tryz.results82 Tryz.ntmps82 (Nat.le_of_ble_eq_true rfl) (Vz l n)
theorem Sz (s:SchemaR) (m:Int) (n:aH):vc Tryz.prog Γ 12 [0,3,4] (Tryz.f63.body.getD .skip) (aQ Γ [.tmp 4] (fun v=>v = .i .i64 (cq s.defs n))) ⟨ae 0 [.rp (bM s m),.s n],[]⟩:=by
 (repeat' (first | (refine iF (fun h=>?_) fun h=>?_)<;>try exact cX | refine bX ?_ | intro _))
 refine Or.inr (Or.inr (Or.inr (Or.inl (eX [3] (eX _ (aN (PI s.defs n) ?_))))))
 rfl
theorem CU (s:SchemaR) (m:Int) (n:aH):ar Tryz.prog 63 [.rp (bM s m),.s n] (.i .i64 (cq s.defs n)) :=
 ah aa Tryz.func63 rfl Tryz.call63 Tryz.results63 Tryz.ntmps63 (Nat.le_of_ble_eq_true rfl) (Sz s m n)
theorem Sy (s:SchemaR) (m:Int) (n:aH):vc Tryz.prog Γ 12 [0,3,4,1000] (Tryz.f63.body.getD .skip) (en Γ [.tmp 4] (.i .i64 (cq s.defs n)) [(1000,bM s m)]) ⟨ae 0 [.pt 1000 0,.s n],[(1000,bM s m)]⟩:=by
 (repeat' (first | (refine iF (fun h=>?_) fun h=>?_)<;>try exact cX | refine bX ?_ | intro _))
 refine Or.inr (Or.inr (Or.inr (Or.inl (eX [3] (eX _ (aN (PI s.defs n) ?_))))))
 exact eX [] (aN rfl wK)
theorem Rf (s:SchemaR) (m:Int) (n:aH):bx Tryz.prog 63 [.pt 1000 0,.s n] [(1000,bM s m)] (.i .i64 (cq s.defs n)) [(1000,bM s m)] :=
 bL aa Tryz.func63 rfl Tryz.call63 Tryz.results63 Tryz.ntmps63 (Nat.le_of_ble_eq_true rfl) (Nat.le_of_ble_eq_true rfl) (by rfl) (Sy s m n)
theorem Gp (l:List gL) (n k:Int) (h0:0<=k) (h1:k<=1) (h2:0<=n) (h3:(if n - 1 < 0 then 0 else n - 1) + k < l.length) (h4:l.length<=2000000):vc Tryz.prog Γ 14 [0,1,2,4,1000,1001] (Tryz.f80.body.getD .skip) (en Γ [.tmp 4] (.s (l.getD ((if n - 1 < 0 then 0 else n - 1) + k).toNat (aD .eJ)).name) [(1000,[.rd .eJ l]),(1001,[.i .i64 n])]) ⟨ae 0 [.i .i64 k,.pt 1000 0,.pt 1001 0],[(1000,[.rd .eJ l]),(1001,[.i .i64 n])]⟩:=by
 (repeat' (first | (refine iF (fun h=>?_) fun h=>?_)<;>try exact cX | refine bX ?_ | intro _))
 exact eX [] (aN rfl wK)
theorem Gc (l:List gL) (n k:Int) (h0:0<=k) (h1:k<=1) (h2:0<=n) (h3:(if n - 1 < 0 then 0 else n - 1) + k < l.length) (h4:l.length<=2000000):bx Tryz.prog 80 [.i .i64 k,.pt 1000 0,.pt 1001 0] [(1000,[.rd .eJ l]),(1001,[.i .i64 n])] (.s (l.getD ((if n - 1 < 0 then 0 else n - 1) + k).toNat (aD .eJ)).name) [(1000,[.rd .eJ l]),(1001,[.i .i64 n])] :=
 bL aa Tryz.func80 rfl Tryz.call80 Tryz.results80 Tryz.ntmps80 (Nat.le_of_ble_eq_true rfl) (Nat.le_of_ble_eq_true rfl) (by rfl) (Gp l n k h0 h1 h2 h3 h4)
def AP (l:List gL) (i:Nat):List aH:=if i = 0 then [(l.getD 0 default).name] else [(l.getD (i - 1) default).name,(l.getD i default).name]
theorem QY {l:List gL} {i:Nat} (h0:0 < i->dG (iB l (i - 1)) (l.getD (i - 1) default).name = 0):fy none (AP l i) = dG (iB l i) (l.getD i default).name:=by
 unfold AP
 by_cases h:i = 0
 ·subst h
  rw [if_pos rfl]
  show iO (dG none _) 0 = _
  rw [nq]
  rfl
 ·rw [if_neg h]
  have h1:=h0 (by omega)
  have hn:dG none (l.getD (i - 1) default).name = 0:=by
   unfold dG at h1 ⊢
   split at h1
   ·cases h1
   rename_i c1
   split at h1
   ·cases h1
   rename_i c2
   rw [if_neg c1,if_neg c2]
  show iO (dG none _) (iO (dG (some _) _) 0) = _
  rw [hn,aL,nq]
  unfold iB
  rw [if_pos (by omega)]
theorem AQ (l:List gL) (i:Nat):((AP l i).length:Int) = if (2:Int) < (i:Int) + 1 then 2 else (i:Int) + 1:=by
 unfold AP
 by_cases h:i = 0
 ·rw [if_pos h,h]; rfl
 ·rw [if_neg h]
  show (2:Int) = _
  split<;>omega
theorem I0 {l:List gL} {i k:Nat} (hk:k < (AP l i).length) (hi:i < l.length):k<=1/\(if (i:Int) - 1 < 0 then 0 else (i:Int) - 1) + k < l.length/\(l.getD ((if (i:Int) - 1 < 0 then 0 else (i:Int) - 1) + k).toNat (aD .eJ)).name = (AP l i).getD k []:=by
 unfold AP at hk ⊢
 by_cases h:i = 0
 ·rw [if_pos h] at hk ⊢
  have hk:k < 1:=hk
  obtain rfl:k = 0:=by omega
  rw [h]
  refine ⟨by omega,by show (0:Int) + 0 < _; omega,rfl⟩
 ·rw [if_neg h] at hk ⊢
  have hk:k < 2:=hk
  rw [if_neg (by omega)]
  rcases (show k = 0\/k = 1 by omega) with rfl | rfl
  ·refine ⟨by omega,by omega,?_⟩
   rw [show ((i:Int) - 1 + ((0:Nat):Int)).toNat = i - 1 by omega]
   rfl
  ·refine ⟨by omega,by omega,?_⟩
   rw [show ((i:Int) - 1 + ((1:Nat):Int)).toNat = i by omega]
   rfl
theorem K8 (hu:HasU8) (l:List gL) (hb:∀ f ∈ l,VB f.aD/\(cu f.aD).2<=1000000000):vc Tryz.prog Γ 42 [1,2,3,4,5,6,9,10,11,12,13,23,29,40] (Tryz.f62.body.getD .skip) (aQ Γ [.tmp 2] (fun v=>v = .i .i64 (iw l))) ⟨ae 0 [.rd .eJ l],[]⟩:=by
 by_cases c1:200 < l.length
 ·have hr:iw l = 2:=if_pos c1
  rw [hr]
  (repeat' (first | (refine iF (fun h=>?_) fun h=>?_)<;>try exact cX | refine bX ?_ | intro _))
  all_goals rfl
 have hr:iw l = lW none l:=if_neg c1
 rw [hr]
 (repeat' (first | (refine iF (fun h=>?_) fun h=>?_)<;>try exact cX | refine bX ?_ | intro _))
 refine eX [] (eX [] (eX [] (eX Nat (eX (fun i=>i<=(l).length/\(lW none l = lW (iB l i) (l.drop i)/\(0 < i->dG (iB l (i - 1)) (l.getD (i - 1) default).name = 0))) (eX (fun i=>⟨[(1,.pt 1 0),(10,.rd .eJ l),(11,.i .i64 l.length),(12,.i .i64 i)],[(1,[.rd .eJ l])]⟩) (eX (fun i=>(l).length - i) (eX 0 (aN ⟨Nat.zero_le _,⟨rfl,fun h=>absurd h (by decide)⟩⟩ (aN ?_ ?_)))))))))
 ·exact wK
 rintro i ⟨hi,hI⟩
 refine aN (fun hz=>?_) (fun hz=>?_)
 ·obtain ⟨hI,fV⟩:=hI
  have hi:=gd hz
  have hg:=cB (τ:=.eJ) hi
  refine bN2 ?_
  rw [hg]
  have Uj:l.getD i default = l[i]:=by rw [List.getD_eq_getElem?_getD,List.getElem?_eq_getElem hi]; rfl
  obtain ⟨hv,hs⟩:=hb l[i] (List.getElem_mem hi)
  have hN:=JX hu (AP l i) 80 l (i:Int) (fun k hk=>by
   have:=I0 hk hi
   have h9:=Gc l (i:Int) (k:Int) (by omega) (by omega) (by omega) this.2.1 (by omega)
   rw [this.2.2] at h9
   exact h9) (by have:=AQ l i; split at this<;>omega)
  rw [QY fV,AQ,Uj] at hN
  have hC:=Eu hu l[i].aD hv hs
  have hP:=ar.arg (args':=[.agg (ai l[i].aD),.agg [.i .i64 0,.i .i64 0,.i .u64 0,.s [],.nl,.nl]]) (Ga l[i].aD zeroV hv (.mk zeroV ⟨by decide,by decide⟩ ⟨by decide,by decide⟩ ⟨by decide,by decide⟩ (fun _ h=>nomatch h) (fun _ h=>nomatch h))) (by exact rL)
  have hF:zR (iB l i) l[i] = iO (dG (iB l i) l[i].name) (iO (dE l[i].aD 0 0).1 (if l[i].du = false/\eg l[i].aD zeroV≠0 then 10 else 0)):=rfl
  (repeat' (first | (refine iF (fun h=>?_) fun h=>?_)<;>try exact cX | refine bX ?_ | intro _))
  refine Or.inr (Or.inl (eX [] (eX _ (eX _ (eX _ (eX _ (eX _ (eX [(1000,1),(1001,3)] (aN (hN) ?_)))))))))
  refine (aN rfl (aN rfl (aN rfl (aN rfl (aN rfl (aN rfl ?_))))))
  by_cases k1:dG (iB l i) l[i].name = 0
  rotate_left
  ·rw [bE k1] at hF
   rw [kI hi (by rw [hF]; exact k1),hF] at hI
   (repeat' (first | (refine iF (fun h=>?_) fun h=>?_)<;>try exact cX | refine bX ?_ | intro _))
   exact congrArg (AV.i .i64) hI.symm
  rw [k1,aL] at hF
  rw [k1]
  (repeat' (first | (refine iF (fun h=>?_) fun h=>?_)<;>try exact cX | refine bX ?_ | intro _))
  refine Or.inl (eX _ (aN (hC) ?_))
  by_cases k2:(dE l[i].aD 0 0).1 = 0
  rotate_left
  ·rw [bE k2] at hF
   rw [kI hi (by rw [hF]; exact k2),hF] at hI
   (repeat' (first | (refine iF (fun h=>?_) fun h=>?_)<;>try exact cX | refine bX ?_ | intro _))
   exact congrArg (AV.i .i64) hI.symm
  rw [k2,aL] at hF
  have V3:0 < i + 1->dG (iB l (i + 1 - 1)) (l.getD (i + 1 - 1) default).name = 0:=fun _=>by
   rw [Nat.add_sub_cancel,Uj]
   exact k1
  rw [k2]
  cases hd:l[i].du with
  | true =>
   rw [hd,if_neg (fun h=>by cases h.1)] at hF
   rw [xY hi hF] at hI
   (repeat' (first | (refine iF (fun h=>?_) fun h=>?_)<;>try exact cX | refine bX ?_ | intro _))
   refine eX [] (eX (_ + 1) (aN ⟨hi,hI,V3⟩ (aN ?_ ?_)))
   ·exact wK
   ·(exact Nat.sub_lt_sub_left (by omega) (by omega))
  | false =>
   by_cases k3:eg l[i].aD zeroV = 0
   ·rw [if_neg (fun h=>h.2 k3)] at hF
    rw [xY hi hF] at hI
    (repeat' (first | (refine iF (fun h=>?_) fun h=>?_)<;>try exact cX | refine bX ?_ | intro _))
    refine Or.inl (eX _ (aN (hP) ?_))
    (repeat' (first | (refine iF (fun h=>?_) fun h=>?_)<;>try exact cX | refine bX ?_ | intro _))
    refine eX [] (eX (_ + 1) (aN ⟨hi,hI,V3⟩ (aN ?_ ?_)))
    ·exact wK
    ·(exact Nat.sub_lt_sub_left (by omega) (by omega))
   ·rw [if_pos ⟨hd,k3⟩] at hF
    rw [kI hi (by rw [hF]; decide),hF] at hI
    (repeat' (first | (refine iF (fun h=>?_) fun h=>?_)<;>try exact cX | refine bX ?_ | intro _))
    refine Or.inl (eX _ (aN (hP) ?_))
    (repeat' (first | (refine iF (fun h=>?_) fun h=>?_)<;>try exact cX | refine bX ?_ | intro _))
    exact congrArg (AV.i .i64) hI.symm
 ·obtain ⟨hI,fV⟩:=hI
  (have hi:=ga hi hz)
  rw [hI,DF (by omega)]
  rfl
theorem JP (hu:HasU8) (l:List gL) (hb:∀ f ∈ l,VB f.aD/\(cu f.aD).2<=1000000000):ar Tryz.prog 62 [.rd .eJ l] (.i .i64 (iw l)) :=
 ah aa Tryz.func62 rfl Tryz.call62 Tryz.results62 Tryz.ntmps62 (Nat.le_of_ble_eq_true rfl) (K8 hu l hb)
end
end Go.Proofs.YtiijpgmpnijidaaGreatDoor
end
section
namespace Go.Proofs.YtiijpgmpnijidaaGreatDoor
open Go Go.SX Go.Ck Go.Vl Go.Ut Go.Ty
set_option maxRecDepth 100000
set_option maxHeartbeats 4000000
inductive TB:ab->Prop
 | mk (t : ab) : (-9223372036854775808<=t.kind /\ t.kind<=9223372036854775807) -> (-9223372036854775808<=t.lo /\ t.lo<=9223372036854775807) -> (-9223372036854775808<=t.hi /\ t.hi<=9223372036854775807) ->
   (t.texts.length<=2000000/\t.t.length<=2000000/\t.f.length<=2000000)->(∀ f ∈ t.f,VB f.aD/\(cu f.aD).2<=1000000000)->(∀ x ∈ t.t,TB x)->(∀ f ∈ t.f,TB f.t)->TB t
theorem TB.inside {t:ab} (h:TB t):∀ x ∈ inside t,TB x:=by
 cases h with
 | mk _ _ _ _ _ _ h1 h2 =>
  intro x hx
  unfold Ty.inside at hx
  rcases List.mem_append.1 hx with hx | hx
  ·exact h1 x hx
  ·obtain ⟨f,hf,rfl⟩:=List.mem_map.1 hx
   exact h2 f hf
theorem zJ (x:ab):(⟨x.kind,x.lo,x.hi,x.texts,x.t,x.f,x.name⟩:ab) = x:=by cases x; rfl
def pr (t:ab):Nat->List ab
 | 0=>t.t
 | i + 1=>pr t i++[(t.f.getD i (aD .eJ)).t]
theorem qy {t:ab} {i:Nat} (h:i < t.f.length):pr t (i + 1) = pr t i++[t.f[i].t]:=by
 rw [pr,List.getD_eq_getElem?_getD,List.getElem?_eq_getElem h]
 rfl
theorem Ax (t:ab) (i:Nat):(pr t i).length = t.t.length + i:=by
 induction i with
 | zero=>rfl
 | succ i ih=>rw [pr,List.length_append,ih]; rfl
theorem FD (t:ab) (i:Nat) (h:i<=t.f.length):pr t i = t.t++(t.f.take i).map fun f=>f.t:=by
 induction i with
 | zero=>rw [List.take_zero]; exact (List.append_nil _).symm
 | succ i ih=>rw [qy (by omega),ih (by omega),List.take_succ_eq_append_getElem (by omega),List.map_append,List.append_assoc]; rfl
theorem Aw {t:ab} {i:Nat} (h:i = t.f.length):pr t i = Ty.inside t:=by
 rw [FD t i (by omega),h,List.take_length]
 rfl
section
variable [G:Globs]
theorem K2 (l:List ab) (h:l.length<=2000000):vc Tryz.prog Γ 8 [0,2,4] (Tryz.f97.body.getD .skip) (yz (τ:=.typ) Γ [.tmp 2] 1000 (l) []) ⟨ae 0 [.rd .typ l],[]⟩:=by
 intro x hx
 refine aN (fun hq=>?_) (fun hq=>?_)
 ·have hq:x = true:=hq
  have he:l = []:=by
   cases l with
   | nil=>rfl
   | cons y r=>exact absurd (hx rfl) (by rw [hq]; decide)
  subst he
  refine Or.inr (aN rfl ?_)
  refine eX [] (aN rfl wK)
 ·refine aN (show (([]:List ab).length + l.length) * 112<=140737488355328 by simp only [List.length_nil]; omega) ?_
  refine Or.inl ?_
  refine eX [(7,1000)] (aN rfl wK)
theorem JL (l:List ab) (h:l.length<=2000000):bx Tryz.prog 97 [.rd .typ l] [] (.vec 1000 .typ (l)) [] :=
 lh aa Tryz.func97 rfl Tryz.call97 Tryz.results97 Tryz.ntmps97 (Nat.le_of_ble_eq_true rfl) (Nat.le_of_ble_eq_true rfl) (by rfl) (by rfl) (K2 l h)
theorem K9 (t:ab) (ht:t.t.length<=2000000) (hf:t.f.length<=2000000):vc Tryz.prog Γ 23 [1,2,3,5,10,11,12,13] (Tryz.f79.body.getD .skip) (yz (τ:=.typ) Γ [.tmp 2] 1000 (Ty.inside t) []) ⟨ae 0 [.agg (encTyp t)],[]⟩:=by
 have hC:=JL t.t ht
 (repeat' (first | (refine iF (fun h=>?_) fun h=>?_)<;>try exact cX | refine bX ?_ | intro _))
 refine Or.inr (Or.inl (eX [] (eX _ (eX _ (eX _ (eX _ (eX _ (eX [(1000,8)] (aN (hC) ?_)))))))))
 refine (aN rfl (aN rfl (aN rfl (aN rfl ?_))))
 (repeat' (first | (refine iF (fun h=>?_) fun h=>?_)<;>try exact cX | refine bX ?_ | intro _))
 refine eX [] (eX [] (eX [] (eX Nat (eX (fun i=>i<=(t.f).length/\(0<=i)) (eX (fun i=>⟨[(3,.vec 8 .typ (pr t i)),(10,.rd .eJ t.f),(11,.i .i64 t.f.length),(12,.i .i64 i)],[]⟩) (eX (fun i=>(t.f).length - i) (eX 0 (aN ⟨Nat.zero_le _,(Nat.zero_le _)⟩ (aN ?_ ?_)))))))))
 ·exact wK
 rintro i ⟨hi,hI⟩
 refine aN (fun hz=>?_) (fun hz=>?_)
 ·have hi:=gd hz
  have hg:=cB (τ:=.eJ) hi
  refine bN2 ?_
  rw [hg]
  have hn:=Ax t i
  have hs:=qy hi
  (repeat' (first | (refine iF (fun h=>?_) fun h=>?_)<;>try exact cX | refine bX ?_ | intro _))
  refine aN (show ((pr t i).length + 1) * 112<=140737488355328 by omega) ?_
  (repeat' (first | (refine iF (fun h=>?_) fun h=>?_)<;>try exact cX | refine bX ?_ | intro _))
  refine eX [(20,8)] (eX (_ + 1) (aN ⟨hi,Nat.zero_le _⟩ (aN ?_ ?_)))
  ·dsimp only
   rw [hs,zJ]
   exact wK
  ·(exact Nat.sub_lt_sub_left (by omega) (by omega))
 ·(have hi:=ga hi hz)
  have he:pr t i = Ty.inside t:=Aw hi
  rw [he]
  refine Or.inl ?_
  refine eX [(8,1000)] (aN rfl wK)
theorem Bi (t:ab) (ht:t.t.length<=2000000) (hf:t.f.length<=2000000):bx Tryz.prog 79 [.agg (encTyp t)] [] (.vec 1000 .typ (Ty.inside t)) [] :=
 lh aa Tryz.func79 rfl Tryz.call79 Tryz.results79 Tryz.ntmps79 (Nat.le_of_ble_eq_true rfl) (Nat.le_of_ble_eq_true rfl) (by rfl) (by rfl) (K9 t ht hf)
end
end Go.Proofs.YtiijpgmpnijidaaGreatDoor
end
section
namespace Go.Proofs.YtiijpgmpnijidaaGreatDoor
open Go Go.SX Go.Ck Go.Vl Go.Ut Go.Ty
set_option maxRecDepth 100000
set_option maxHeartbeats 4000000
def lG (s:SchemaR) (es:a7):List AV:=aq s++[.ob 1002 1002 (.mp .str .int es)]
section
variable [G:Globs]
theorem OA (f:gL):vc Tryz.prog Γ 11 [1,2] (Tryz.f28.body.getD .skip) (aQ Γ [.tmp 2] (fun v=>v = .b (gM f))) ⟨ae 0 [.agg (enc .eJ f)],[]⟩:=by
 obtain ⟨n,o,h,t,d⟩:=f
 unfold gM
 cases o
 ·refine aN (fun _=>?_) (fun h=>Bool.noConfusion (show true = false from h))
  rfl
 ·refine aN (fun h=>Bool.noConfusion (show false = true from h)) (fun _=>?_)
  rfl
theorem Ev (f:gL):ar Tryz.prog 28 [.agg (enc .eJ f)] (.b (gM f)) :=
 ah aa Tryz.func28 rfl Tryz.call28 Tryz.results28 Tryz.ntmps28 (Nat.le_of_ble_eq_true rfl) (OA f)
theorem SK (n:Int) (h:0<=n/\n<=1000000000):vc Tryz.prog Γ 7 [0,2,4] (Tryz.f27.body.getD .skip) (aQ Γ [.tmp 2] (fun v=>v = .i .i64 (uu n))) ⟨ae 0 [.i .i64 n],[]⟩:=by
 unfold uu
 refine aN (fun hq=>?_) (fun hq=>?_)
 ·have hq:n = 0:=eq_of_beq hq
  rw [if_pos hq]
  rfl
 ·have hq:¬ n = 0:=ne_of_beq_false hq
  rw [if_neg hq]
  (refine vG ?_)
  rfl
theorem Rr (n:Int) (h:0<=n/\n<=1000000000):ar Tryz.prog 27 [.i .i64 n] (.i .i64 (uu n)) :=
 ah aa Tryz.func27 rfl Tryz.call27 Tryz.results27 Tryz.ntmps27 (Nat.le_of_ble_eq_true rfl) (SK n h)
theorem Jz {M:aH->Int} {l:List ab} {i:Nat} (h:i < l.length) (a:Int):Er M (l.drop i) a = Er M (l.drop (i + 1)) (if 0 < bm M l[i]/\(a = 0\/bm M l[i] < a) then bm M l[i] else a):=by rw [List.drop_eq_getElem_cons h,Er]
theorem Jy {M:aH->Int} {l:List gL} {i:Nat} (h:i < l.length) (a:Int):BV M (l.drop i) a = if gM l[i] = true then (if bm M l[i].t = 0 then 0 else BV M (l.drop (i + 1)) (max a (bm M l[i].t))) else BV M (l.drop (i + 1)) a:=by rw [List.drop_eq_getElem_cons h,BV,Jw]
theorem OU (s:SchemaR) (es:a7) (t:ab) (h8:t.kind = 8->t.t≠[]) (hr:∀ x ∈ Ty.inside t,0<=bm (aG es) x/\bm (aG es) x<=1000000) (ih:∀ x ∈ Ty.inside t,bx Tryz.prog 15 [.pt 1000 0,.agg (encTyp x)] [(1000,lG s es)] (.i .i64 (bm (aG es) x)) [(1000,lG s es)]):vc Tryz.prog Γ 86 [0,3,4,5,7,8,9,11,12,14,15,24,27,28,29,30,46,50,54,62,65,66,67,68,73,79,1000] (Tryz.f15.body.getD .skip) (en Γ [.tmp 4] (.i .i64 (bm (aG es) t)) [(1000,lG s es)]) ⟨ae 0 [.pt 1000 0,.agg (encTyp t)],[(1000,lG s es)]⟩:=by
 rw [ow]
 generalize hM:aG es = M at *
 by_cases k12:t.kind = 12
 ·rw [if_pos k12]
  (repeat' (first | (refine iF (fun h=>?_) fun h=>?_)<;>try exact cX | refine bX ?_ | intro _))
  refine eX [.fZ [0,1,2,3,4,5],.one 6,.take 7] (aN (by kernel_rfl) ?_)
  rw [<- hM]
  refine eX [] (aN rfl wK)
 rw [if_neg k12]
 by_cases k11:t.kind = 11
 ·rw [if_pos k11]
  (repeat' (first | (refine iF (fun h=>?_) fun h=>?_)<;>try exact cX | refine bX ?_ | intro _))
  rename_i Fz
  have Qz:=gD Fz
  generalize hR:Er M t.t 0 = R at *
  refine eX [] (eX [] (eX [] (eX (Nat × Int) (eX (fun q=>q.1<=t.t.length/\R = Er M (t.t.drop q.1) q.2/\0<=q.2/\q.2<=1000000) (eX (fun ⟨i,a⟩=>⟨[(0,.pt 1000 0),(5,.i .i64 a),(27,.rd .typ t.t),(28,.i .i64 t.t.length),(29,.i .i64 i)],[(1000,lG s es)]⟩) (eX (fun q=>t.t.length - q.1) (eX (0,0) (aN ⟨Nat.zero_le _,hR.symm,Int.le_refl _,by decide⟩ (aN ?_ ?_)))))))))
  ·exact wK
  rintro ⟨i,a⟩ ⟨hi,hI,h0,h1⟩
  simp only at hi hI h0 h1
  refine aN (fun hz=>?_) (fun hz=>?_)
  ·have hi:=gd hz
   have hg:=cB (τ:=.typ) hi
   refine bN2 ?_
   rw [hg]
   have hx:t.t[i] ∈ Ty.inside t:=List.mem_append_left _ (List.getElem_mem hi)
   have hb:=hr _ hx
   have hc:=ih _ hx
   rw [Jz hi] at hI
   refine Or.inr (Or.inl (eX [] (eX _ (eX _ (eX _ (eX _ (eX _ (eX [(1000,1000),(1002,1002)] (aN (hc) ?_)))))))))
   refine (aN rfl (aN rfl (aN rfl (aN rfl (aN rfl ?_)))))
   by_cases p:0 < bm M t.t[i]
   ·by_cases z:a = 0
    ·rw [if_pos ⟨p,.inl z⟩] at hI
     (repeat' (first | (refine iF (fun h=>?_) fun h=>?_)<;>try exact cX | refine bX ?_ | intro _))
     refine eX [] (eX (i + 1,bm M t.t[i]) (aN ⟨hi,hI,hb⟩ (aN ?_ ?_)))
     ·exact wK
     ·(exact Nat.sub_lt_sub_left (by omega) (by omega))
    ·by_cases q:bm M t.t[i] < a
     ·rw [if_pos ⟨p,.inr q⟩] at hI
      (repeat' (first | (refine iF (fun h=>?_) fun h=>?_)<;>try exact cX | refine bX ?_ | intro _))
      refine eX [] (eX (i + 1,bm M t.t[i]) (aN ⟨hi,hI,hb⟩ (aN ?_ ?_)))
      ·exact wK
      ·(exact Nat.sub_lt_sub_left (by omega) (by omega))
     ·rw [if_neg (fun c=>c.2.elim z q)] at hI
      (repeat' (first | (refine iF (fun h=>?_) fun h=>?_)<;>try exact cX | refine bX ?_ | intro _))
      refine eX [] (eX (i + 1,a) (aN ⟨hi,hI,h0,h1⟩ (aN ?_ ?_)))
      ·exact wK
      ·(exact Nat.sub_lt_sub_left (by omega) (by omega))
   ·rw [if_neg (fun c=>p c.1)] at hI
    (repeat' (first | (refine iF (fun h=>?_) fun h=>?_)<;>try exact cX | refine bX ?_ | intro _))
    refine eX [] (eX (i + 1,a) (aN ⟨hi,hI,h0,h1⟩ (aN ?_ ?_)))
    ·exact wK
    ·(exact Nat.sub_lt_sub_left (by omega) (by omega))
  ·have hi:=ga hi hz
   rw [List.drop_eq_nil_of_le (by omega),Er] at hI
   rw [hI]
   refine eX [] (aN rfl wK)
 rw [if_neg k11]
 by_cases k8:t.kind = 8
 ·rw [if_pos k8]
  by_cases lo:0 < t.lo
  ·rw [if_pos lo]
   have hn:=h8 k8
   have hx:t.t.getD 0 (aD .typ) ∈ Ty.inside t:=List.mem_append_left _ (lq hn)
   have hb:=hr _ hx
   have hc:=ih _ hx
   have hlen:=List.length_pos_iff.2 hn
   (repeat' (first | (refine iF (fun h=>?_) fun h=>?_)<;>try exact cX | refine bX ?_ | intro _))
   refine Or.inr (Or.inl (eX [] (eX _ (eX _ (eX _ (eX _ (eX _ (eX [(1000,1000),(1002,1002)] (aN (hc) ?_)))))))))
   refine (aN rfl (aN rfl (aN rfl (aN rfl (aN rfl ?_)))))
   refine Or.inl (eX _ (aN (Rr (bm M (t.t.getD 0 (aD .typ))) ⟨hb.1,by omega⟩) ?_))
   refine eX [] (aN rfl wK)
  ·rw [if_neg lo]
   (repeat' (first | (refine iF (fun h=>?_) fun h=>?_)<;>try exact cX | refine bX ?_ | intro _))
   refine eX [] (aN rfl wK)
 rw [if_neg k8]
 by_cases k10:t.kind = 10
 ·rw [if_pos k10]
  (repeat' (first | (refine iF (fun h=>?_) fun h=>?_)<;>try exact cX | refine bX ?_ | intro _))
  rename_i Fz
  have Qz:=gD Fz
  generalize hR:BV M t.f 0 = R at *
  refine eX [] (eX [] (eX [] (eX (Nat × Int) (eX (fun q=>q.1<=t.f.length/\R = BV M (t.f.drop q.1) q.2/\0<=q.2/\q.2<=1000000) (eX (fun ⟨i,a⟩=>⟨[(0,.pt 1000 0),(9,.i .i64 a),(65,.rd .eJ t.f),(66,.i .i64 t.f.length),(67,.i .i64 i)],[(1000,lG s es)]⟩) (eX (fun q=>t.f.length - q.1) (eX (0,0) (aN ⟨Nat.zero_le _,hR.symm,Int.le_refl _,by decide⟩ (aN ?_ ?_)))))))))
  ·exact wK
  rintro ⟨i,a⟩ ⟨hi,hI,h0,h1⟩
  simp only at hi hI h0 h1
  refine aN (fun hz=>?_) (fun hz=>?_)
  ·have hi:=gd hz
   have hg:=cB (τ:=.eJ) hi
   refine bN2 ?_
   rw [hg]
   have hx:t.f[i].t ∈ Ty.inside t:=List.mem_append_right _ (List.mem_map_of_mem (List.getElem_mem hi))
   have hb:=hr _ hx
   have hc:=ih _ hx
   have hA:=Ev t.f[i]
   rw [Jy hi] at hI
   refine Or.inl (eX _ (aN (hA) ?_))
   by_cases ask:gM t.f[i] = true
   ·rw [if_pos ask] at hI
    rw [ask]
    (repeat' (first | (refine iF (fun h=>?_) fun h=>?_)<;>try exact cX | refine bX ?_ | intro _))
    refine Or.inr (Or.inl (eX [] (eX _ (eX _ (eX _ (eX _ (eX _ (eX [(1000,1000),(1002,1002)] (aN (hc) ?_)))))))))
    refine (aN rfl (aN rfl (aN rfl (aN rfl (aN rfl ?_)))))
    by_cases z:bm M t.f[i].t = 0
    ·rw [if_pos z] at hI
     (repeat' (first | (refine iF (fun h=>?_) fun h=>?_)<;>try exact cX | refine bX ?_ | intro _))
     rw [hI]
     refine eX [] (aN rfl wK)
    ·rw [if_neg z] at hI
     (repeat' (first | (refine iF (fun h=>?_) fun h=>?_)<;>try exact cX | refine bX ?_ | intro _))
     refine eX [] (eX (i + 1,max a (bm M t.f[i].t)) (aN ⟨hi,hI,by omega,by omega⟩ (aN ?_ ?_)))
     ·(repeat' (first | exact wA | exact Or.inl ((congrArg (AV.i .i64) (show (if a < bm M t.f[i].t then bm M t.f[i].t else a) = max a (bm M t.f[i].t) by split<;>omega))) | refine aN ?_ ?_))
     ·(exact Nat.sub_lt_sub_left (by omega) (by omega))
   ·rw [if_neg ask] at hI
    have ask:gM t.f[i] = false:=by simpa using ask
    rw [ask]
    (repeat' (first | (refine iF (fun h=>?_) fun h=>?_)<;>try exact cX | refine bX ?_ | intro _))
    refine eX [] (eX (i + 1,a) (aN ⟨hi,hI,h0,h1⟩ (aN ?_ ?_)))
    ·exact wK
    ·(exact Nat.sub_lt_sub_left (by omega) (by omega))
  ·have hi:=ga hi hz
   rw [List.drop_eq_nil_of_le (by omega),BV] at hI
   rw [hI]
   (repeat' (first | (refine iF (fun h=>?_) fun h=>?_)<;>try exact cX | refine bX ?_ | intro _))
   refine eX [] (aN rfl wK)
 ·rw [if_neg k10]
  (repeat' (first | (refine iF (fun h=>?_) fun h=>?_)<;>try exact cX | refine bX ?_ | intro _))
  refine eX [] (aN rfl wK)
theorem ND (s:SchemaR) (es:a7) (t:ab) (h8:t.kind = 8->t.t≠[]) (hr:∀ x ∈ Ty.inside t,0<=bm (aG es) x/\bm (aG es) x<=1000000) (ih:∀ x ∈ Ty.inside t,bx Tryz.prog 15 [.pt 1000 0,.agg (encTyp x)] [(1000,lG s es)] (.i .i64 (bm (aG es) x)) [(1000,lG s es)]):bx Tryz.prog 15 [.pt 1000 0,.agg (encTyp t)] [(1000,lG s es)] (.i .i64 (bm (aG es) t)) [(1000,lG s es)] :=
 bL aa Tryz.func15 rfl Tryz.call15 Tryz.results15 Tryz.ntmps15 (Nat.le_of_ble_eq_true rfl) (Nat.le_of_ble_eq_true rfl) (by rfl) (OU s es t h8 hr ih)
theorem kR {l:List az} (s:SchemaR) (es:a7) (h0:∀ n,0<=aG es n) (h1:∀ n,aG es n<=10050):∀ (k:Nat) (t:ab),SizeOf.sizeOf t < k->GT l t->gK t<=100000->bx Tryz.prog 15 [.pt 1000 0,.agg (encTyp t)] [(1000,lG s es)] (.i .i64 (bm (aG es) t)) [(1000,lG s es)]
 | 0,_,h,_,_=>absurd h (Nat.not_lt_zero _)
 | k + 1, t, h, hg, hn => ND s es t (fun k8 => (hg.lt k8).2) (fun x hx => by
   have a1:=lH h0 x
   refine ⟨a1,?_⟩
   have a2:=mP hx
   by_cases z:0 < bm (aG es) x
   ·have:=(xh (A:=10050) h0 h1 (by decide) _ x (Nat.lt_succ_self _) (hg.part hx) z).2
    omega
   ·omega) (fun x hx=>kR s es h0 h1 k x (by have:=bg hx; omega) (hg.part hx) (by have:=mP hx; omega))
end
end Go.Proofs.YtiijpgmpnijidaaGreatDoor
end
section
namespace Go.Proofs.YtiijpgmpnijidaaGreatDoor
open Go Go.SX Go.Ck Go.Vl Go.Ut Go.Ty
set_option maxRecDepth 100000
set_option maxHeartbeats 4000000
section
variable [G:Globs]
theorem Kp {l:List az} {i:Nat} (h:i < l.length) (es:a7) (g:Bool):vI (l.drop i) es g = if bm (aG es) l[i].t≠aG es l[i].name then vI (l.drop (i + 1)) (ib es l[i].name (bm (aG es) l[i].t)) true else vI (l.drop (i + 1)) es g:=by rw [List.drop_eq_getElem_cons h,vI]
theorem OP (s:SchemaR) (T:Nat) (hl:∀ d ∈ s.defs,GT s.defs d.t) (hu:∀ d ∈ s.defs,0<=cq s.defs d.name/\bo s.defs d.name = d.t) (hT:∀ d ∈ s.defs,gK d.t<=T) (DP:T<=201) (hlen:s.defs.length<=50):vc Tryz.prog (Γ.kp 84) 42 [1,2,3,4,6,7,11,12,14,15,16,17,32] (Tryz.f14.body.getD .skip) (en (Γ.kp 84) [.tmp 2] (.pt 11 0) [(11,aq s++[.ob 9 9 (.mp .str .int (LD s.defs (vF s.defs (aG []) + 1) []))])]) ⟨ae 0 [.agg (aq s)],[]⟩:=by
 generalize hR:LD s.defs (vF s.defs (aG []) + 1) [] = R
 refine eX [] (eX [] (eX [] (eX (Nat × a7 × Bool) (eX (fun q=>(q.2.2 = true->R = LD s.defs q.1 q.2.1/\vF s.defs (aG q.2.1) < q.1/\Go.Ty.Fair s.defs T (aG q.2.1)/\KI s.defs q.2.1)/\(q.2.2 = false->R = q.2.1)) (eX (fun ⟨k,es,ag⟩=>⟨[(1,.pt 1 0),(3,.pt 11 0),(4,.b ag)],[(1,aq s),(11,aq s++[.ob 9 9 (.mp .str .int es)])]⟩) (eX (fun q=>if q.2.2 = true then vF s.defs (aG q.2.1) + 1 else 0) (eX (vF s.defs (aG []) + 1,[],true) (aN ⟨fun _=>⟨hR.symm,Nat.lt_succ_self _,by rw [AL]; exact wH _ _,KI.nil _⟩,fun h=>Bool.noConfusion h⟩ (aN ?_ ?_)))))))))
 ·exact wK
 rintro ⟨k,es,ag⟩ ⟨hA,hB⟩
 simp only at hA hB
 cases ag with
 | false =>
  have hB:=hB rfl
  (repeat' (first | (refine iF (fun h=>?_) fun h=>?_)<;>try exact cX | refine bX ?_ | intro _))
  rw [hB]
  refine eX [] (aN rfl wK)
 | true =>
  obtain ⟨hI,hk,hF,hK⟩:=hA rfl
  obtain ⟨m,rfl⟩:∃ m,k = m + 1:=⟨k - 1,by omega⟩
  rw [LD] at hI
  have Zi:=pR hl hu hT DP hlen s.defs es false (fun _ h=>h) hF
  generalize hS:vI s.defs es false = SW at *
  (repeat' (first | (refine iF (fun h=>?_) fun h=>?_)<;>try exact cX | refine bX ?_ | intro _))
  rename_i Fz
  have Qz:=gD Fz
  refine eX [] (eX [] (eX [] (eX (Nat × a7 × Bool) (eX (fun q=>q.1<=s.defs.length/\SW = vI (s.defs.drop q.1) q.2.1 q.2.2/\Go.Ty.Fair s.defs T (aG q.2.1)/\KI s.defs q.2.1) (eX (fun ⟨i,fs,g⟩=>⟨[(1,.pt 1 0),(3,.pt 11 0),(4,.b g),(14,.rd .dfn s.defs),(15,.i .i64 s.defs.length),(16,.i .i64 i)],[(1,aq s),(11,aq s++[.ob 9 9 (.mp .str .int fs)])]⟩) (eX (fun q=>s.defs.length - q.1) (eX (0,es,false) (aN ⟨Nat.zero_le _,hS.symm,hF,hK⟩ (aN ?_ ?_)))))))))
  ·exact wK
  rintro ⟨i,fs,g⟩ ⟨hi,hJ,TV,DO⟩
  simp only at hi hJ TV DO
  refine aN (fun hz=>?_) (fun hz=>?_)
  ·have hi:=gd hz
   have hg:=cB (τ:=.dfn) hi
   refine bN2 ?_
   rw [hg]
   have hd:=List.getElem_mem hi
   have h0:=TV.w.so.1
   have h1:=mj TV hlen DP
   have hc:=kR s fs h0 h1 _ s.defs[i].t (Nat.lt_succ_self _) (hl _ hd) (by have:=hT _ hd; omega)
   rw [Kp hi] at hJ
   refine Or.inr (Or.inl (eX [] (eX _ (eX _ (eX _ (eX _ (eX _ (eX [(1000,11),(1002,9)] (aN (hc) ?_)))))))))
   refine (aN rfl (aN rfl (aN rfl (aN rfl (aN rfl ?_)))))
   obtain ⟨f1,f2⟩:=wG hl hT DP hlen TV (hu _ hd).1
   rw [(hu _ hd).2,<- Eb] at f1
   refine eX [.take 0,.fZ [1,2,3,4,5,6],.one 7,.take 8] (aN (by kernel_rfl) ?_)
   refine aN (fun pb=>?_) (fun pb=>?_)
   ·have pb:bm (aG fs) s.defs[i].t≠aG fs s.defs[i].name:=by simpa [aG] using pb
    rw [if_pos pb] at hJ
    refine eX [.fZ [0,1,2,3,4,5,6],.one 7] (aN (by kernel_rfl) ?_)
    refine aN (by have:=DO.len; omega) ?_
    (refine vG ?_)
    refine eX [] (eX (i + 1,ib fs s.defs[i].name (bm (aG fs) s.defs[i].t),true) (aN ⟨hi,hJ,f1,DO.set hd _⟩ (aN ?_ ?_)))
    ·exact wK
    ·(exact Nat.sub_lt_sub_left (by omega) (by omega))
   ·have pb:¬ bm (aG fs) s.defs[i].t≠aG fs s.defs[i].name:=by simpa [aG] using pb
    rw [if_neg pb] at hJ
    (repeat' (first | (refine iF (fun h=>?_) fun h=>?_)<;>try exact cX | refine bX ?_ | intro _))
    refine eX [] (eX (i + 1,fs,g) (aN ⟨hi,hJ,TV,DO⟩ (aN ?_ ?_)))
    ·exact wK
    ·(exact Nat.sub_lt_sub_left (by omega) (by omega))
  ·have hi:=ga hi hz
   rw [List.drop_eq_nil_of_le (by omega),vI] at hJ
   subst hJ
   dsimp only at Zi hI
   obtain ⟨g1,g2,g3,g4,g5⟩:=Zi
   cases g with
   | true =>
    rw [if_pos rfl] at hI
    have g4:vF s.defs (aG fs) < vF s.defs (aG es):=g4 rfl rfl
    have hk:vF s.defs (aG es) < m + 1:=hk
    refine eX [] (eX (m,fs,true) (aN ⟨fun _=>⟨hI,(by show vF s.defs (aG fs) < m; omega),g1,DO⟩,fun h=>Bool.noConfusion h⟩ (aN ?_ ?_)))
    ·exact wK
    ·show (if true = true then vF s.defs (aG fs) + 1 else 0) < (if true = true then vF s.defs (aG es) + 1 else 0)
     rw [if_pos rfl,if_pos rfl]
     omega
   | false =>
    rw [if_neg (by decide)] at hI
    refine eX [] (eX (m,fs,false) (aN ⟨fun h=>Bool.noConfusion h,fun _=>hI⟩ (aN ?_ ?_)))
    ·exact wK
    ·show (if false = true then vF s.defs (aG fs) + 1 else 0) < (if true = true then vF s.defs (aG es) + 1 else 0)
     rw [if_neg (by decide),if_pos rfl]
     omega
theorem Ez (s:SchemaR) (T:Nat) (hl:∀ d ∈ s.defs,GT s.defs d.t) (hu:∀ d ∈ s.defs,0<=cq s.defs d.name/\bo s.defs d.name = d.t) (hT:∀ d ∈ s.defs,gK d.t<=T) (DP:T<=201) (hlen:s.defs.length<=50):bx Tryz.prog 14 [.agg (aq s)] [] (.pt 11 0) [(11,aq s++[.ob 9 9 (.mp .str .int (LD s.defs (vF s.defs (aG []) + 1) []))])] :=
 bL (Ctx.aO aa 84) Tryz.func14 rfl Tryz.call14 Tryz.results14 Tryz.ntmps14 (Nat.le_of_ble_eq_true rfl) (Nat.le_of_ble_eq_true rfl) (by rfl) (OP s T hl hu hT DP hlen)
end
end Go.Proofs.YtiijpgmpnijidaaGreatDoor
end
section
namespace Go.Ty
open Go Go.SX Go.Ck Go.Vl Go.Ut
set_option maxRecDepth 100000
theorem Ef:∀ (e:List aH) (q:Option aH),fy q e = 0->∀ k ∈ e,k.length<=100
 | [],_,_=>fun _ h=>nomatch h
 | x::r,q,h=>by
  rw [fy] at h
  obtain ⟨h1,h2⟩:=Up.AZ h
  intro k hk
  rcases List.mem_cons.1 hk with rfl | hk
  ·unfold dG at h1
   by_cases c:100 < k.length
   ·rw [if_pos c] at h1; exact absurd h1 (by decide)
   ·omega
  ·exact Ef r _ h2 k hk
def rv (l:List az):Nat->List aH
 | 0=>[]
 | D + 1=>(l.map fun d=>dH d.name D)++rv l D
theorem wW (l:List az):∀ D,(rv l D).length = D * l.length
 | 0=>by rw [Nat.zero_mul]; rfl
 | D + 1=>by rw [rv,List.length_append,List.length_map,wW l D,Nat.succ_mul]; omega
theorem wX {l:List az} {d:az} (hd:d ∈ l):∀ {D e:Nat},e < D->dH d.name e ∈ rv l D
 | 0,_,h=>absurd h (Nat.not_lt_zero _)
 | D + 1,e,h=>by
  rw [rv]
  by_cases c:e = D
  ·rw [c]; exact List.mem_append_left _ (List.mem_map.2 ⟨d,hd,rfl⟩)
  ·exact List.mem_append_right _ (wX hd (by omega))
def MI (l:List az) (D:Nat) (es:a7):Prop:=(es.map (·.1)).Nodup/\∀ n ∈ es.map (·.1),n ∈ rv l D
theorem MI.len {l:List az} {D:Nat} {es:a7} (h:MI l D es) (hl:l.length<=50) (hD:D<=1000):es.length<=50000:=by
 have h1:=qJ _ _ h.1 h.2
 rw [List.length_map,wW] at h1
 have:=Nat.mul_le_mul hD hl
 omega
theorem MI.nil (l:List az) (D:Nat):MI l D []:=⟨List.nodup_nil,fun _ h=>nomatch h⟩
theorem MI.set {l:List az} {D:Nat} {es:a7} (h:MI l D es) {k:aH} (hk:k ∈ rv l D) (v:Int):MI l D (ib es k v):=by
 unfold MI
 rw [w6]
 split
 ·exact h
 ·rename_i c
  refine ⟨List.nodup_append.2 ⟨h.1,List.nodup_cons.2 ⟨by simp,List.nodup_nil⟩,fun a ha b hb e=>c ?_⟩,fun n hn=>?_⟩
  ·rw [List.mem_singleton.1 hb] at e
   rw [<- e]
   exact ha
  ·rcases List.mem_append.1 hn with hn | hn
   ·exact h.2 n hn
   ·rw [List.mem_singleton.1 hn]
    exact hk
def ra (l:List az) (D:Nat) (U:ab->Prop) (e:ab->a7->Bool × a7):Prop:=∀ t es,U t->MI l D es->MI l D (e t es).2
section
variable {l:List az} {D:Nat} {U:ab->Prop}
theorem AM (hU:∀ t,U t->GT l t) {t:ab} (ht:U t) (k:t.kind = 12) {d:Nat} (hd:d < D):dH t.name d ∈ rv l D:=by
 obtain ⟨x,hx,hn,_⟩:=dy ((hU t ht).name k)
 rw [<- hn]
 exact wX hx hd
theorem wD (hU:∀ t,U t->GT l t) {h:ab->a7->Bool × a7} (hh:ra l D U h) {d:Nat} (hd:d < D):ra l D U (yY h d):=by
 intro t es ht hm
 unfold yY
 by_cases k:t.kind≠12
 ·rw [if_pos k]; exact hh t es ht hm
 rw [if_neg k]
 have hk:=AM hU ht (by simpa using k) hd
 split
 ·have h1:=hh t _ ht (hm.set hk 1)
  split
  ·exact h1.set hk 2
  ·exact h1
 ·exact hm
theorem m9 {e:ab->a7->Bool × a7} (he:ra l D U e):∀ (r:List gL) (ok:Bool) (es:a7),(∀ f ∈ r,U f.t)->MI l D es->MI l D (xX e r ok es).2
 | [],_,_,_,hm=>hm
 | f::r,ok,es,hu,hm=>by
  have iN:=fun g (hg:g ∈ r)=>hu g (.tail _ hg)
  rw [xX]
  split
  ·split
   ·exact m9 he r _ _ iN (he f.t es (hu f (.head _)) hm)
   ·exact m9 he r _ _ iN hm
  ·exact m9 he r _ _ iN hm
theorem xb {e:ab->a7->Bool × a7} (he:ra l D U e) {x:ab} (h8:x.kind = 8->U (x.t.getD 0 (aD .typ))) (gQ:∀ f ∈ x.f,U f.t) {es:a7} (hm:MI l D es):MI l D (CI e x es).2:=by
 unfold CI
 split
 ·split
  ·exact hm
  ·exact he _ _ (h8 (by assumption)) hm
 split
 ·exact m9 he _ _ _ gQ hm
 ·exact hm
theorem xc {e:ab->a7->Bool × a7} (he:ra l D U e):∀ (ps:List ab) (es:a7),(∀ x ∈ ps,(x.kind = 8->U (x.t.getD 0 (aD .typ)))/\∀ f ∈ x.f,U f.t)->MI l D es->MI l D (CK e ps es).2
 | [],_,_,hm=>hm
 | x::r,es,hu,hm=>by
  have h1:=xb he (hu x (.head _)).1 (hu x (.head _)).2 hm
  rw [CK]
  split
  ·exact h1
  ·exact xc he r _ (fun y hy=>hu y (.tail _ hy)) h1
theorem ng (hU:∀ t,U t->GT l t) {C:ab->List ab} (hP:∀ t,U t->∀ x ∈ C t,(x.kind = 8->U (x.t.getD 0 (aD .typ)))/\∀ f ∈ x.f,U f.t):∀ d,d<=D->ra l D U (QJ C d)
 | 0,_=>fun _ _ _ hm=>hm
 | d + 1,hd=>fun t es ht hm=>xc (wD hU (ng hU hP d (by omega)) hd) (C t) es (hP t ht) hm
theorem Jn {e:ab->a7->Bool × a7} {ps:List ab} {i:Nat} (h:i < ps.length) (es:a7):CK e (ps.drop i) es = if (CI e ps[i] es).1 = true then (true,(CI e ps[i] es).2) else CK e (ps.drop (i + 1)) (CI e ps[i] es).2:=by rw [List.drop_eq_getElem_cons h,CK]
theorem HG {e:ab->a7->Bool × a7} {r:List gL} {i:Nat} (h:i < r.length) (ok:Bool) (es:a7):xX e (r.drop i) ok es = if gM r[i] = true then (if ok = true then xX e (r.drop (i + 1)) (e r[i].t es).1 (e r[i].t es).2 else xX e (r.drop (i + 1)) false es) else xX e (r.drop (i + 1)) ok es:=by rw [List.drop_eq_getElem_cons h,xX]
end
end Go.Ty
end
section
namespace Go.Proofs.YtiijpgmpnijidaaGreatDoor
open Go Go.SX Go.Ck Go.Vl Go.Ut Go.Ty
set_option maxRecDepth 100000
set_option maxHeartbeats 4000000
theorem O2 (l:List az) (t:ab) (m a:Int):scan l (bK t a) m = if eB l ⟨t,a⟩ m≠0 then (eB l ⟨t,a⟩ m,m + 1) else scan l ((inside t).flatMap fun x=>bK x (a + 1)) (m + 1):=by
 rw [dD,scan]
theorem FH {l:List az} {t:ab} {m a:Int} (h:eB l ⟨t,a⟩ m = 0):m + 1<=200/\a < 20:=by
 unfold eB at h
 split at h
 ·cases h
 ·split at h
  ·cases h
  ·rename_i h1 h2
   exact ⟨by omega,by have h2:¬ 20<=a:=h2; omega⟩
theorem Gg (l:List az) (f:ab->List bD) {L:List ab} {i:Nat} (h:i < L.length) (m:Int):scan l ((L.drop i).flatMap f) m = if (scan l (f L[i]) m).1≠0 then scan l (f L[i]) m else scan l ((L.drop (i + 1)).flatMap f) (scan l (f L[i]) m).2:=by
 rw [List.drop_eq_getElem_cons h,List.flatMap_cons,rI]
section
variable [G:Globs]
theorem SJ (hu:HasU8) (s:SchemaR) (t:ab) (ht:TB t) (m a:Int) (h0:0<=m) (h1:m<=200) (h2:0<=a) (h3:a<=20):vc Tryz.prog Γ 60 [0,2,4,6,14,20,23,27,42,43,48,53,59,1000] (Tryz.f46.body.getD .skip) (en Γ [.tmp 6] (.i .i64 (eB s.defs ⟨t,a⟩ m)) [(1000,bM s (m + 1))]) ⟨ae 0 [.pt 1000 0,.agg (encTyp t),.i .i64 a],[(1000,bM s m)]⟩:=by
 have hK:=Nt t
 have hX:=NH hu t.texts
 have hD:=Rf s (m + 1) t.name
 cases ht with
 | mk _ bk bl bh bn bf _ _ =>
 have hF:=JP hu t.f bf
 by_cases c1:200 < m + 1
 ·have hr:eB s.defs ⟨t,a⟩ m = 2:=if_pos c1
  rw [hr]
  (repeat' (first | (refine iF (fun h=>?_) fun h=>?_)<;>try exact cX | refine bX ?_ | intro _))
  all_goals exact eX [] (aN rfl wK)
 by_cases c2:20<=a
 ·have hr:eB s.defs ⟨t,a⟩ m = 5:=by unfold eB; rw [if_neg c1,if_pos c2]
  rw [hr]
  (repeat' (first | (refine iF (fun h=>?_) fun h=>?_)<;>try exact cX | refine bX ?_ | intro _))
  all_goals exact eX [] (aN rfl wK)
 have hr:eB s.defs ⟨t,a⟩ m = eP s.defs t:=by unfold eB; rw [if_neg c1,if_neg c2]
 rw [hr]
 unfold eP
 (repeat' (first | (refine iF (fun h=>?_) fun h=>?_)<;>try exact cX | refine bX ?_ | intro _))
 refine Or.inl (eX _ (aN (hK) ?_))
 by_cases c3:dN t
 rotate_left
 ·rw [if_pos c3,decide_eq_false c3]
  (repeat' (first | (refine iF (fun h=>?_) fun h=>?_)<;>try exact cX | refine bX ?_ | intro _))
  all_goals exact eX [] (aN rfl wK)
 rw [if_neg (fun h=>h c3),decide_eq_true c3]
 by_cases c4:t.hi < t.lo
 ·rw [if_pos (Or.inl c4)]
  (repeat' (first | (refine iF (fun h=>?_) fun h=>?_)<;>try exact cX | refine bX ?_ | intro _))
  all_goals exact eX [] (aN rfl wK)
 by_cases c5:t.kind = 4
 ·rw [if_neg (fun h=>h.elim c4 (fun h=>h.1 c5)),if_neg (by omega),if_neg (by omega),if_neg (by omega)]
  (repeat' (first | (refine iF (fun h=>?_) fun h=>?_)<;>try exact cX | refine bX ?_ | intro _))
  all_goals exact eX [] (aN rfl wK)
 by_cases c6:t.lo < 0
 ·rw [if_pos (Or.inr ⟨c5,c6⟩)]
  (repeat' (first | (refine iF (fun h=>?_) fun h=>?_)<;>try exact cX | refine bX ?_ | intro _))
  all_goals exact eX [] (aN rfl wK)
 rw [if_neg (fun h=>h.elim c4 (fun h=>c6 h.2))]
 by_cases c7:t.kind = 7
 ·rw [if_pos c7]
  (repeat' (first | (refine iF (fun h=>?_) fun h=>?_)<;>try exact cX | refine bX ?_ | intro _))
  refine Or.inl (eX _ (aN (hX) ?_))
  exact eX [] (aN rfl wK)
 rw [if_neg c7]
 by_cases c8:t.kind = 10
 ·rw [if_pos c8]
  (repeat' (first | (refine iF (fun h=>?_) fun h=>?_)<;>try exact cX | refine bX ?_ | intro _))
  refine Or.inl (eX _ (aN (hF) ?_))
  exact eX [] (aN rfl wK)
 rw [if_neg c8]
 by_cases c9:t.kind = 12
 ·rw [if_pos c9]
  (repeat' (first | (refine iF (fun h=>?_) fun h=>?_)<;>try exact cX | refine bX ?_ | intro _))
  refine Or.inr (Or.inl (eX [] (eX _ (eX _ (eX _ (eX _ (eX _ (eX [(1000,1000)] (aN (hD) ?_)))))))))
  refine (aN rfl (aN rfl (aN rfl (aN rfl (aN rfl ?_)))))
  by_cases c10:cq s.defs t.name < 0
  ·rw [if_pos c10]
   (repeat' (first | (refine iF (fun h=>?_) fun h=>?_)<;>try exact cX | refine bX ?_ | intro _))
   all_goals exact eX [] (aN rfl wK)
  ·rw [if_neg c10]
   (repeat' (first | (refine iF (fun h=>?_) fun h=>?_)<;>try exact cX | refine bX ?_ | intro _))
   all_goals exact eX [] (aN rfl wK)
 rw [if_neg c9]
 (repeat' (first | (refine iF (fun h=>?_) fun h=>?_)<;>try exact cX | refine bX ?_ | intro _))
 all_goals exact eX [] (aN rfl wK)
theorem Rq (hu:HasU8) (s:SchemaR) (t:ab) (ht:TB t) (m a:Int) (h0:0<=m) (h1:m<=200) (h2:0<=a) (h3:a<=20):bx Tryz.prog 46 [.pt 1000 0,.agg (encTyp t),.i .i64 a] [(1000,bM s m)] (.i .i64 (eB s.defs ⟨t,a⟩ m)) [(1000,bM s (m + 1))] :=
 bL aa Tryz.func46 rfl Tryz.call46 Tryz.results46 Tryz.ntmps46 (Nat.le_of_ble_eq_true rfl) (Nat.le_of_ble_eq_true rfl) (by rfl) (SJ hu s t ht m a h0 h1 h2 h3)
theorem OZ (hu:HasU8) (s:SchemaR) (t:ab) (ht:TB t) (m a:Int) (h0:0<=m) (h1:m<=200) (h2:0<=a) (h3:a<=20) (ih:a < 20->∀ x ∈ inside t,∀ n:Int,0<=n->n<=200->bx Tryz.prog 59 [.pt 1000 0,.agg (encTyp x),.i .i64 (a + 1),.fn 46 [.np,.pt 1000 0]] [(1000,bM s n)] (.i .i64 (scan s.defs (bK x (a + 1)) n).1) [(1000,bM s (scan s.defs (bK x (a + 1)) n).2)]):vc Tryz.prog Γ 37 [0,2,3,5,8,9,11,12,18,21,22,23,24,34,1000] (Tryz.f59.body.getD .skip) (en Γ [.tmp 8] (.i .i64 (scan s.defs (bK t a) m).1) [(1000,bM s (scan s.defs (bK t a) m).2)]) ⟨ae 0 [.pt 1000 0,.agg (encTyp t),.i .i64 a,.fn 46 [.np,.pt 1000 0]],[(1000,bM s m)]⟩:=by
 have hL:=Rq hu s t ht m a h0 h1 h2 h3
 have ix:=ht.inside
 have hW:=O2 s.defs t m a
 have hN:=Bi t (by cases ht; omega) (by cases ht; omega)
 have hlen:(Ty.inside t).length<=4000000:=by
  unfold Ty.inside
  rw [List.length_append,List.length_map]
  cases ht
  omega
 (repeat' (first | (refine iF (fun h=>?_) fun h=>?_)<;>try exact cX | refine bX ?_ | intro _))
 refine Or.inr (Or.inl (eX [] (eX _ (eX _ (eX _ (eX _ (eX _ (eX [(1000,1000)] (aN (hL) ?_)))))))))
 refine (aN rfl (aN rfl (aN rfl (aN rfl (aN rfl ?_)))))
 by_cases c1:eB s.defs ⟨t,a⟩ m = 0
 rotate_left
 ·rw [if_pos c1] at hW
  rw [hW]
  (repeat' (first | (refine iF (fun h=>?_) fun h=>?_)<;>try exact cX | refine bX ?_ | intro _))
  exact eX [] (aN rfl wK)
 rw [if_neg (fun h=>h c1)] at hW
 obtain ⟨c2,c3⟩:=FH c1
 have ih:=ih c3
 rw [c1]
 (repeat' (first | (refine iF (fun h=>?_) fun h=>?_)<;>try exact cX | refine bX ?_ | intro _))
 refine Or.inr (Or.inl (eX [] (eX _ (eX _ (eX _ (eX _ (eX _ (eX [(1000,21)] (aN (hN) ?_)))))))))
 refine (aN rfl (aN rfl (aN rfl (aN rfl ?_))))
 (repeat' (first | (refine iF (fun h=>?_) fun h=>?_)<;>try exact cX | refine bX ?_ | intro _))
 refine eX [] (eX [] (eX [(999,21)] (eX (Nat × Int) (eX (fun x=>x.1<=(Ty.inside t).length/\0<=x.2/\x.2<=200/\scan s.defs (bK t a) m = scan s.defs (((Ty.inside t).drop x.1).flatMap fun y=>bK y (a + 1)) x.2) (eX (fun ⟨i,n⟩=>⟨[(0,.pt 1000 0),(2,.i .i64 a),(3,.fn 46 [.np,.pt 1000 0]),(21,.rd .typ (Ty.inside t)),(22,.i .i64 (Ty.inside t).length),(23,.i .i64 i)],[(1000,bM s n)]⟩) (eX (fun x=>(Ty.inside t).length - x.1) (eX (0,m + 1) (aN ⟨Nat.zero_le _,by show 0<=m + 1; omega,c2,hW⟩ (aN ?_ ?_)))))))))
 ·exact wK
 rintro ⟨i,n⟩ ⟨hi,GF,wP,hI⟩
 dsimp only at hi GF wP hI
 refine aN (fun hz=>?_) (fun hz=>?_)
 ·have hi:=gd hz
  have hg:=cB (τ:=.typ) hi
  refine bN2 ?_
  rw [hg]
  have hC:=ih (Ty.inside t)[i] (List.getElem_mem hi) n GF wP
  have hS:=yJ s.defs (bK (Ty.inside t)[i] (a + 1)) n GF wP
  rw [Gg s.defs _ hi] at hI
  (repeat' (first | (refine iF (fun h=>?_) fun h=>?_)<;>try exact cX | refine bX ?_ | intro _))
  refine Or.inr (Or.inl (eX [] (eX _ (eX _ (eX _ (eX _ (eX _ (eX [(1000,1000)] (aN (hC) ?_)))))))))
  refine (aN rfl (aN rfl (aN rfl (aN rfl (aN rfl ?_)))))
  by_cases k1:(scan s.defs (bK (Ty.inside t)[i] (a + 1)) n).1 = 0
  rotate_left
  ·rw [if_pos k1] at hI
   rw [hI]
   (repeat' (first | (refine iF (fun h=>?_) fun h=>?_)<;>try exact cX | refine bX ?_ | intro _))
   exact eX [] (aN rfl wK)
  ·rw [if_neg (fun h=>h k1)] at hI
   rw [k1]
   (repeat' (first | (refine iF (fun h=>?_) fun h=>?_)<;>try exact cX | refine bX ?_ | intro _))
   refine eX [] (eX (i + 1,(scan s.defs (bK (Ty.inside t)[i] (a + 1)) n).2) (aN ⟨hi,hS.1,hS.2.2 k1,hI⟩ (aN ?_ ?_)))
   ·exact wK
   ·(exact Nat.sub_lt_sub_left (by omega) (by omega))
 ·(have hi:=ga hi hz)
  rw [hI,List.drop_eq_nil_of_le (by omega)]
  exact eX [] (aN rfl wK)
theorem NI (hu:HasU8) (s:SchemaR) (t:ab) (ht:TB t) (m a:Int) (h0:0<=m) (h1:m<=200) (h2:0<=a) (h3:a<=20) (ih:a < 20->∀ x ∈ inside t,∀ n:Int,0<=n->n<=200->bx Tryz.prog 59 [.pt 1000 0,.agg (encTyp x),.i .i64 (a + 1),.fn 46 [.np,.pt 1000 0]] [(1000,bM s n)] (.i .i64 (scan s.defs (bK x (a + 1)) n).1) [(1000,bM s (scan s.defs (bK x (a + 1)) n).2)]):bx Tryz.prog 59 [.pt 1000 0,.agg (encTyp t),.i .i64 a,.fn 46 [.np,.pt 1000 0]] [(1000,bM s m)] (.i .i64 (scan s.defs (bK t a) m).1) [(1000,bM s (scan s.defs (bK t a) m).2)] :=
 bL aa Tryz.func59 rfl Tryz.call59 Tryz.results59 Tryz.ntmps59 (Nat.le_of_ble_eq_true rfl) (Nat.le_of_ble_eq_true rfl) (by rfl) (OZ hu s t ht m a h0 h1 h2 h3 ih)
theorem EF {t x:ab} (h:x ∈ Ty.inside t):SizeOf.sizeOf x < SizeOf.sizeOf t:=by
 unfold Ty.inside at h
 obtain ⟨k,lo,hi,tx,tt,ff,n⟩:=t
 rcases List.mem_append.1 h with h | h
 ·have h1:=List.sizeOf_lt_of_mem h
  simp only at h1
  simp only [ab.mk.sizeOf_spec]
  omega
 ·obtain ⟨f,hf,rfl⟩:=List.mem_map.1 h
  have h1:=List.sizeOf_lt_of_mem hf
  obtain ⟨a,b,c,d,e⟩:=f
  simp only [jw.mk.sizeOf_spec] at h1
  simp only [ab.mk.sizeOf_spec]
  omega
theorem J5 (hu:HasU8) (s:SchemaR):∀ (k:Nat) (t:ab),SizeOf.sizeOf t < k->TB t->∀ m a:Int,0<=m->m<=200->0<=a->a<=20->bx Tryz.prog 59 [.pt 1000 0,.agg (encTyp t),.i .i64 a,.fn 46 [.np,.pt 1000 0]] [(1000,bM s m)] (.i .i64 (scan s.defs (bK t a) m).1) [(1000,bM s (scan s.defs (bK t a) m).2)]:=by
 intro k
 induction k with
 | zero=>intro t h; exact absurd h (Nat.not_lt_zero _)
 | succ k ih =>
  intro t h ht m a h0 h1 h2 h3
  exact NI hu s t ht m a h0 h1 h2 h3 fun h4 x hx n GF wP=>ih x (by have:=EF hx; omega) (ht.inside x hx) n (a + 1) GF wP (by omega) (by omega)
def aW (s:SchemaR):List bD:=(s.defs.flatMap fun d=>bK d.t 0)++bK s.root 0
theorem CX (l:List az) (f:az->List bD) (z:List bD) {L:List az} {i:Nat} (h:i < L.length) (m:Int):scan l ((L.drop i).flatMap f++z) m = if (scan l (f L[i]) m).1≠0 then scan l (f L[i]) m else scan l ((L.drop (i + 1)).flatMap f++z) (scan l (f L[i]) m).2:=by
 rw [List.drop_eq_getElem_cons h,List.flatMap_cons,List.append_assoc,rI]
theorem Sr (hu:HasU8) (s:SchemaR) (hd:∀ d ∈ s.defs,TB d.t) (hr:TB s.root) (hl:s.defs.length<=2000000) (m:Int) (h0:0<=m) (h1:m<=200):vc Tryz.prog Γ 35 [0,1,4,6,7,12,13,14,15,24,1000] (Tryz.f45.body.getD .skip) (en Γ [.tmp 4] (.i .i64 (scan s.defs (aW s) m).1) [(1000,bM s (scan s.defs (aW s) m).2)]) ⟨ae 0 [.pt 1000 0,.fn 46 [.np,.pt 1000 0]],[(1000,bM s m)]⟩:=by
 have hA:scan s.defs (aW s) m = scan s.defs ((s.defs.drop 0).flatMap (fun d=>bK d.t 0)++bK s.root 0) m:=rfl
 generalize scan s.defs (aW s) m = R at hA ⊢
 (repeat' (first | (refine iF (fun h=>?_) fun h=>?_)<;>try exact cX | refine bX ?_ | intro _))
 refine eX [] (eX [] (eX [] (eX (Nat × Int) (eX (fun x=>x.1<=s.defs.length/\0<=x.2/\x.2<=200/\R = scan s.defs ((s.defs.drop x.1).flatMap (fun d=>bK d.t 0)++bK s.root 0) x.2) (eX (fun ⟨i,n⟩=>⟨[(0,.pt 1000 0),(1,.fn 46 [.np,.pt 1000 0]),(12,.rd .dfn s.defs),(13,.i .i64 s.defs.length),(14,.i .i64 i)],[(1000,bM s n)]⟩) (eX (fun x=>s.defs.length - x.1) (eX (0,m) (aN ⟨Nat.zero_le _,h0,h1,hA⟩ (aN ?_ ?_)))))))))
 ·exact wK
 rintro ⟨i,n⟩ ⟨hi,GF,wP,hI⟩
 dsimp only at hi GF wP hI
 refine aN (fun hz=>?_) (fun hz=>?_)
 ·have hi:=gd hz
  have hg:=cB (τ:=.dfn) hi
  refine bN2 ?_
  rw [hg]
  have hC:=J5 hu s _ s.defs[i].t (Nat.lt_succ_self _) (hd _ (List.getElem_mem hi)) n 0 GF wP (by decide) (by decide)
  have hS:=yJ s.defs (bK s.defs[i].t 0) n GF wP
  rw [CX s.defs _ _ hi] at hI
  (repeat' (first | (refine iF (fun h=>?_) fun h=>?_)<;>try exact cX | refine bX ?_ | intro _))
  refine Or.inr (Or.inl (eX [] (eX _ (eX _ (eX _ (eX _ (eX _ (eX [(1000,1000)] (aN (hC) ?_)))))))))
  refine (aN rfl (aN rfl (aN rfl (aN rfl (aN rfl ?_)))))
  by_cases k1:(scan s.defs (bK s.defs[i].t 0) n).1 = 0
  rotate_left
  ·rw [if_pos k1] at hI
   rw [hI]
   (repeat' (first | (refine iF (fun h=>?_) fun h=>?_)<;>try exact cX | refine bX ?_ | intro _))
   exact eX [] (aN rfl wK)
  ·rw [if_neg (fun h=>h k1)] at hI
   rw [k1]
   (repeat' (first | (refine iF (fun h=>?_) fun h=>?_)<;>try exact cX | refine bX ?_ | intro _))
   refine eX [] (eX (i + 1,(scan s.defs (bK s.defs[i].t 0) n).2) (aN ⟨hi,hS.1,hS.2.2 k1,hI⟩ (aN ?_ ?_)))
   ·exact wK
   ·(exact Nat.sub_lt_sub_left (by omega) (by omega))
 ·(have hi:=ga hi hz)
  rw [List.drop_eq_nil_of_le (by omega)] at hI
  have hI:R = scan s.defs (bK s.root 0) n:=hI
  have hC:=J5 hu s _ s.root (Nat.lt_succ_self _) hr n 0 GF wP (by decide) (by decide)
  rw [<- hI] at hC
  (repeat' (first | (refine iF (fun h=>?_) fun h=>?_)<;>try exact cX | refine bX ?_ | intro _))
  refine Or.inr (Or.inl (eX [] (eX _ (eX _ (eX _ (eX _ (eX _ (eX [(1000,1000)] (aN (hC) ?_)))))))))
  refine (aN rfl (aN rfl (aN rfl (aN rfl (aN rfl ?_)))))
  exact eX [] (aN rfl wK)
theorem Ra (hu:HasU8) (s:SchemaR) (hd:∀ d ∈ s.defs,TB d.t) (hr:TB s.root) (hl:s.defs.length<=2000000) (m:Int) (h0:0<=m) (h1:m<=200):bx Tryz.prog 45 [.pt 1000 0,.fn 46 [.np,.pt 1000 0]] [(1000,bM s m)] (.i .i64 (scan s.defs (aW s) m).1) [(1000,bM s (scan s.defs (aW s) m).2)] :=
 bL aa Tryz.func45 rfl Tryz.call45 Tryz.results45 Tryz.ntmps45 (Nat.le_of_ble_eq_true rfl) (Nat.le_of_ble_eq_true rfl) (by rfl) (Sr hu s hd hr hl m h0 h1)
end
end Go.Proofs.YtiijpgmpnijidaaGreatDoor
end
section
namespace Go.Proofs.YtiijpgmpnijidaaGreatDoor
open Go Go.SX Go.Ck Go.Vl Go.Ut Go.Ty
set_option maxRecDepth 100000
set_option maxHeartbeats 4000000
def ly (k:Int):Int:=if k = 1 then 127 else if k = 6\/k = 7 then 16 else if k = 8 then 32 else if k = 9\/k = 10 then 64 else 2 ^ (k - 2).toNat
section
variable [G:Globs]
theorem K0 (s:SchemaR) (k:Nat) (h1:k < s.defs.length):vc Tryz.prog Γ 10 [0,1,3] (Tryz.f44.body.getD .skip) (aQ Γ [.tmp 3] (fun v=>v = .s (s.defs.getD k (aD .dfn)).name)) ⟨ae 0 [.i .i64 (k:Int),.rp (aq s)],[]⟩:=by
 (repeat' (first | (refine iF (fun h=>?_) fun h=>?_)<;>try exact cX | refine bX ?_ | intro _))
 rfl
theorem JK (s:SchemaR) (k:Nat) (h1:k < s.defs.length):ar Tryz.prog 44 [.i .i64 (k:Int),.rp (aq s)] (.s (s.defs.getD k (aD .dfn)).name) :=
 ah aa Tryz.func44 rfl Tryz.call44 Tryz.results44 Tryz.ntmps44 (Nat.le_of_ble_eq_true rfl) (K0 s k h1)
theorem OO (t:ab) (h1:1<=t.kind) (h2:t.kind<=10):vc Tryz.prog Γ 19 [1,2,4,5,7,10,12] (Tryz.f85.body.getD .skip) (aQ Γ [.tmp 2] (fun v=>v = .i .i64 (ly t.kind))) ⟨ae 0 [.agg (encTyp t)],[]⟩:=by
 have hk:t.kind = 1\/t.kind = 2\/t.kind = 3\/t.kind = 4\/t.kind = 5\/t.kind = 6\/t.kind = 7\/t.kind = 8\/t.kind = 9\/t.kind = 10:=by omega
 rcases hk with hh | hh | hh | hh | hh | hh | hh | hh | hh | hh
 all_goals rw [hh]
 all_goals (repeat' (first | (refine iF (fun h=>?_) fun h=>?_)<;>try exact cX | refine bX ?_ | intro _))
 all_goals first | rfl | skip
 all_goals (refine aN (by omega) ?_)
 all_goals (repeat' (first | (refine iF (fun h=>?_) fun h=>?_)<;>try exact cX | refine bX ?_ | intro _))
 all_goals rw [hh]
 all_goals rfl
theorem Ey (t:ab) (h1:1<=t.kind) (h2:t.kind<=10):ar Tryz.prog 85 [.agg (encTyp t)] (.i .i64 (ly t.kind)) :=
 ah aa Tryz.func85 rfl Tryz.call85 Tryz.results85 Tryz.ntmps85 (Nat.le_of_ble_eq_true rfl) (OO t h1 h2)
theorem OQ (t:ab):vc Tryz.prog Γ 2 [1] (Tryz.f65.body.getD .skip) (en Γ [] (.bc []) []) ⟨ae 0 [.agg (encTyp t)],[]⟩:=by
 (repeat' (first | (refine iF (fun h=>?_) fun h=>?_)<;>try exact cX | refine bX ?_ | intro _))
 exact eX [] (aN rfl wK)
theorem Nz (t:ab):bx Tryz.prog 65 [.agg (encTyp t)] [] (.bc []) [] :=
 bL aa Tryz.func65 rfl Tryz.call65 Tryz.results65 Tryz.ntmps65 (Nat.le_of_ble_eq_true rfl) (Nat.le_of_ble_eq_true rfl) (by rfl) (OQ t)
theorem OR (t:ab) (h1:1<=t.kind) (h2:t.kind<=10) (a:Int):vc Tryz.prog Γ 7 [1,2,1000] (Tryz.f84.body.getD .skip) (en Γ [] (.bc []) [(1000,[.i .i64 (bits .or .i64 a (ly t.kind))])]) ⟨ae 0 [.agg (encTyp t),.pt 1000 0],[(1000,[.i .i64 a])]⟩:=by
 have hk:=Ey t h1 h2
 (repeat' (first | (refine iF (fun h=>?_) fun h=>?_)<;>try exact cX | refine bX ?_ | intro _))
 refine eX [.tree 3 [0,1,2] (.opt 0 (.opt 1 (.opt 2 .fin .aZ) .aZ) (.opt 1 (.opt 0 (.opt 2 .fin .aZ) (.opt 2 (.opt 0 .fin .aZ) .aZ)) .aZ)),.take 3,.one 4] (aN (by kernel_rfl) ?_)
 refine eX ⟨[(1,.pt 1000 0),(2,.pt 2 0),(3,.i .i64 a),(5,.i .i64 (ly t.kind))],[(1000,[.i .i64 a]),(2,encTyp t)]⟩ (aN ?_ ?_)
 ·repeat' (first | exact trivial | exact Or.inl rfl | refine Or.inl (eX _ (aN hk ?_)) | refine aN ?_ ?_)
 (repeat' (first | (refine iF (fun h=>?_) fun h=>?_)<;>try exact cX | refine bX ?_ | intro _))
 exact eX [] (aN rfl wK)
theorem NA (t:ab) (h1:1<=t.kind) (h2:t.kind<=10) (a:Int):bx Tryz.prog 84 [.agg (encTyp t),.pt 1000 0] [(1000,[.i .i64 a])] (.bc []) [(1000,[.i .i64 (bits .or .i64 a (ly t.kind))])] :=
 bL aa Tryz.func84 rfl Tryz.call84 Tryz.results84 Tryz.ntmps84 (Nat.le_of_ble_eq_true rfl) (Nat.le_of_ble_eq_true rfl) (by rfl) (OR t h1 h2 a)
theorem OS (t:ab) (l:List ab) (hl:l.length<=2000000):vc Tryz.prog Γ 9 [1,2,1000,1001] (Tryz.f69.body.getD .skip) (en Γ [] (.bc []) [(1000,[.vec 1001 .typ (l++[t])])]) ⟨ae 0 [.agg (encTyp t),.pt 1000 0],[(1000,[.vec 1001 .typ l])]⟩:=by
 (repeat' (first | (refine iF (fun h=>?_) fun h=>?_)<;>try exact cX | refine bX ?_ | intro _))
 refine eX [.tree 4 [0,1,2,3] (.opt 0 (.opt 1 (.opt 2 (.opt 3 .fin .aZ) (.opt 3 (.opt 2 .fin .aZ) .aZ)) (.opt 2 (.opt 1 (.opt 3 .fin .aZ) (.opt 3 (.opt 1 .fin .aZ) .aZ)) (.opt 3 (.opt 1 (.opt 2 .fin .aZ) (.opt 2 (.opt 1 .fin .aZ) .aZ)) .aZ))) (.opt 1 (.opt 0 (.opt 2 (.opt 3 .fin .aZ) (.opt 3 (.opt 2 .fin .aZ) .aZ)) (.opt 3 (.opt 0 (.opt 2 .fin .aZ) .aZ) .aZ)) (.opt 3 (.opt 0 (.opt 1 (.opt 2 .fin .aZ) (.opt 2 (.opt 1 .fin .aZ) .aZ)) (.opt 1 (.opt 0 (.opt 2 .fin .aZ) .aZ) .aZ)) .aZ))),.one 4,.take 5,.two 6 7] (aN (by kernel_rfl) ?_)
 refine eX ⟨[(1,.pt 1000 0),(2,.pt 2 0),(3,.vec 1001 .typ l),(4,.agg (encTyp t)),(5,.i .i64 l.length),(6,.vec 6 .typ [⟨0,0,0,[],[],[],[]⟩])],[(1000,[.vec 1001 .typ l]),(2,encTyp t)]⟩ (aN ?_ ?_)
 ·repeat' (first | exact trivial | exact Or.inl rfl | intro _ | refine aN ?_ ?_)
 refine aN (show (l.length + 1) * 112<=140737488355328 by omega) ?_
 (repeat' (first | (refine iF (fun h=>?_) fun h=>?_)<;>try exact cX | refine bX ?_ | intro _))
 refine aN (show (0:Int)<=(l.length:Int)/\(l.length:Int) < ((l++[(⟨0,0,0,[],[],[],[]⟩:ab)]).length:Nat) by rw [List.length_append]; simp only [List.length_cons,List.length_nil]; omega) ?_
 (repeat' (first | (refine iF (fun h=>?_) fun h=>?_)<;>try exact cX | refine bX ?_ | intro _))
 have hE:(l++[(⟨0,0,0,[],[],[],[]⟩:ab)]).set l.length ⟨t.kind,t.lo,t.hi,t.texts,t.t,t.f,t.name⟩ = l++[t]:=by
  rw [zJ,List.set_append_right _ _ (Nat.le_refl _),Nat.sub_self]
  rfl
 refine eX ⟨[(1,.pt 1000 0)],[(1000,[.vec 7 .typ ((l++[(⟨0,0,0,[],[],[],[]⟩:ab)]).set l.length ⟨t.kind,t.lo,t.hi,t.texts,t.t,t.f,t.name⟩)])]⟩ (aN ?_ (aN ?_ ?_))
 ·exact wK
 ·exact wK
 rw [hE]
 (repeat' (first | (refine iF (fun h=>?_) fun h=>?_)<;>try exact cX | refine bX ?_ | intro _))
 exact eX [(7,1001)] (aN rfl wK)
theorem NB (t:ab) (l:List ab) (hl:l.length<=2000000):bx Tryz.prog 69 [.agg (encTyp t),.pt 1000 0] [(1000,[.vec 1001 .typ l])] (.bc []) [(1000,[.vec 1001 .typ (l++[t])])] :=
 bL aa Tryz.func69 rfl Tryz.call69 Tryz.results69 Tryz.ntmps69 (Nat.le_of_ble_eq_true rfl) (Nat.le_of_ble_eq_true rfl) (by rfl) (OS t l hl)
end
end Go.Proofs.YtiijpgmpnijidaaGreatDoor
end
section
namespace Go.SX
variable [Globs]
def Kept (A:Nat) (a a':Act):Prop:=∀ j,j < A->a'.tmps.getD j undef = a.tmps.getD j undef
theorem Kept.refl (A:Nat) (a:Act):Kept A a a:=fun _ _=>rfl
theorem Kept.trans {A:Nat} {a b c:Act} (h:Kept A a b) (h2:Kept A b c):Kept A a c:=fun j hj=>(h2 j hj).trans (h j hj)
def tj (A:Nat) (o:Oper):Bool:=match o.dst with
 | none=>true
 | some d=>Nat.ble A d
theorem px {A:Nat} {o:Oper} (h:tj A o = true) (a:Act) (v:Value):Kept A a (a.put o.dst v):=by
 intro j hj
 unfold tj at h
 cases hd:o.dst with
 | none=>rfl
 | some d =>
  rw [hd] at h
  have h2:A<=d:=Nat.le_of_ble_eq_true (show Nat.ble A d = true from h)
  have da:¬ d = j:=fun e=>absurd (e ▸ h2:A<=j) (Nat.not_le_of_lt hj)
  simp only [Act.put,Array.getD_eq_getD_getElem?,Array.getElem?_setIfInBounds]
  rw [if_neg da]
def iU (A:Nat):Code->Bool
 | .skip=>true
 | .region _ ops _=>ops.toList.all (tj A)
 | .seq x y=>iU A x && iU A y
 | .cond _ x y=>iU A x && iU A y
 | .block _ c=>iU A c
 | .loop c=>iU A c
 | .exit _=>true
 | .ret=>true
 | .label _=>true
 | _=>false
section
variable {P:Program} {N:Nat} {Γ:Ctx} {W0:World} {F:Fr} {X:Nat->Prop} {s:St} {β:Nat->Option Nat} {a:Act} {w:World} {A:Nat} {a0:Act}
def QK (A:Nat) (a0:Act) (Q:Exit->Act->World->Prop) (e:Exit) (a':Act) (w':World):Prop:=Q e a' w'/\(e = .normal->Kept A a0 a')
theorem oi {Q:Exit->Act->World->Prop} (h:LetsOut Q):LetsOut (QK A a0 Q):=by
 obtain ⟨a,w,h⟩:=h
 exact ⟨a,w,h,fun h=>by cases h⟩
theorem EO {o:Oper} {K:Act->World->Prop} {Q:Exit->Act->World->Prop} (hk:Kept A a0 a) (hd:tj A o = true) (hh:o.wp P a w K Q):o.wp P a w (fun a' w'=>K a' w'/\Kept A a0 a') (QK A a0 Q):=by
 unfold Oper.wp at *
 generalize (execOp a.eval o).run P w = r at *
 have hp:∀ v,Kept A a0 (a.put o.dst v):=fun v=>hk.trans (px hd a v)
 cases r with
 | ok n w' =>
  cases n<;>simp only [Oper.upon] at hh ⊢
  all_goals first
   | exact ⟨hh,hp _⟩
   | exact ⟨hh,hk.trans (fun j hj=>(px hd { a with defers:=_ } _ j hj))⟩
   | exact Calls.mono hh (fun e w'' he=>by cases e<;>first | exact ⟨he,hp _⟩ | exact ⟨he,fun h=>by cases h⟩ | exact oi he)
   | exact Rows.mono hh (fun _ _ he=>⟨he,hp _⟩)
 | halt x w'=>cases x<;>simp only [Oper.upon] at hh ⊢ <;> first | exact ⟨hh,fun h=>by cases h⟩ | exact hh
theorem rP {ops:Array Oper} {Q:Exit->Act->World->Prop}:∀ (l:List Oper),(∀ o ∈ l,tj A o = true)->∀ (a:Act) (w:World),Kept A a0 a->wpList P ops Q l a w->wpList P ops (QK A a0 Q) l a w
 | [],_,a,w,hk,h=>⟨h,fun _=>hk⟩
 | o::r,hl,a,w,hk,h=>by
  have hd:=hl o (List.mem_cons_self ..)
  have ih:=rP (ops:=ops) (Q:=Q) r (fun o ho=>hl o (List.mem_cons_of_mem _ ho))
  unfold wpList at h ⊢
  split
  ·rename_i hw
   rw [if_pos hw] at h
   rcases h with h | ⟨h1,h2⟩
   ·exact .inl (Oper.wp_mono (fun a' w' h=>ih a' w' h.2 h.1) (EO hk hd h))
   ·exact .inr ⟨h1,oi h2⟩
  ·rename_i hw
   rw [if_neg hw] at h
   exact ih _ _ (hk.trans (px hd a undef)) h
theorem lN {ops:Array Oper} {md:Region.Mode} {Q:Exit->Act->World->Prop} (hl:∀ (i:Nat) o,ops[i]? = some o->tj A o = true):∀ (fuel:Nat) (listed:Array Bool) (a:Act) (w:World),Kept A a0 a->wpAny P md ops Q fuel listed a w->wpAny P md ops (QK A a0 Q) fuel listed a w
 | 0,listed,a,w,hk,h=>⟨h.1,h.2,fun _=>hk⟩
 | fuel + 1,listed,a,w,hk,h=>by
  refine ⟨fun hr=>⟨h.1 hr,fun _=>hk⟩,fun i hi=>?_⟩
  have h:=h.2 i hi
  unfold wpOp at h ⊢
  cases ho:ops[i]? with
  | none =>
   rw [ho] at h
   exact lN hl fuel _ a w hk h
  | some o =>
   rw [ho] at h
   have hd:=hl i o ho
   simp only at h ⊢
   split
   ·rename_i hw
    rw [if_pos hw] at h
    rcases h with h | ⟨h1,h2⟩
    ·exact .inl (Oper.wp_mono (fun a' w' h=>lN hl fuel _ a' w' h.2 h.1) (EO hk hd h))
    ·exact .inr ⟨h1,oi h2⟩
   ·rename_i hw
    rw [if_neg hw] at h
    exact lN hl fuel _ _ w (hk.trans (px hd a undef)) h
theorem C9 (aY:Γ.bR P) {L:List Nat} (c:Code):∀ (Q:Exit->St->Prop) (Q':Exit->Act->World->Prop) (s:St) (a:Act) (w:World),iU A c = true->(∀ e s a w,Q e s->Inv W0 F X N s a w->Kept A a0 a->Q' e a w)->vc P Γ N L c Q s->Inv W0 F X N s a w->Kept A a0 a->c.wp P Q' a w:=by
 induction c with
 | skip=>intro Q Q' s a w hc hQ h hI hk; exact wp_skip (hQ _ _ _ _ h hI hk)
 | region id ops draw =>
  intro Q Q' s a w hc hQ h hI hk
  have hl:∀ o ∈ ops.toList,tj A o = true:=List.all_eq_true.1 hc
  let Q2:Exit->Act->World->Prop:=fun e a w=>e = .normal/\∃ s',Q .normal s'/\Inv W0 F X N s' a w
  have MD:∀ e a' w',QK A a0 Q2 e a' w'->Q' e a' w':=fun e a' w' ⟨⟨he,s',h1,h2⟩,h3⟩=>by
   subst he
   exact hQ _ _ _ _ h1 h2 (h3 rfl)
  cases draw with
  | true =>
   obtain ⟨pl,sq,h⟩:=(show ∃ pl,mF ops pl = true/\eo P Γ N ops.toList pl [] s fun s=>jl L s (Q .normal) from h)
   simp only [mF,Bool.and_eq_true,decide_eq_true_eq] at sq
   obtain ⟨⟨h1,h2⟩,h3⟩:=sq
   obtain ⟨β,hI⟩:=hI
   have Ug:Inv W0 F X N s a { w with drawn:=w.drawn + 1 }:=⟨β,hI.grow ⟨rfl,rfl,rfl,Nat.le_refl _,fun _ _ _=>rfl⟩⟩
   refine wp_mono (Q:=QK A a0 Q2) (wp_region_any aY.mixed (lN (fun i o ho=>hl o (by rw [<- Array.getElem?_toList] at ho; exact List.mem_of_getElem? ho)) _ _ _ _ hk (yx aY (fun s a w hk ⟨β,hI⟩=>by
    obtain ⟨s',h1,h2⟩:=kf hI hk
    exact ⟨rfl,s',h1,β,h2⟩) (fun c a a' w h=>by cases h.1) h1 pl _ [] s ops.size a _ (by simp) h2 h3 h Ug))) MD
  | false =>
   refine wp_mono (Q:=QK A a0 Q2) (wp_region_list (rP ops.toList hl a w hk ?_)) MD
   have:=mS aY (Q':=Q2) (fun s a w hk ⟨β,hI⟩=>by
    obtain ⟨s',h1,h2⟩:=kf hI hk
    exact ⟨rfl,s',h1,β,h2⟩) ops.toList [] s a w h hI
   simpa using this
 | seq x y ihx ihy =>
  intro Q Q' s a w hc hQ h hI hk
  simp only [iU,Bool.and_eq_true] at hc
  refine wp_seq (ihx _ _ s a w hc.1 (fun e s' a' w' hq bS jq=>?_) h hI hk)
  cases e with
  | normal=>exact ihy Q Q' s' a' w' hc.2 hQ hq bS jq
  | _=>exact hQ _ _ _ _ hq bS jq
 | cond c x y ihx ihy =>
  intro Q Q' s a w hc hQ h hI hk
  simp only [iU,Bool.and_eq_true] at hc
  have h:bG s c fun v=>match v with
   | .b t=>(t = true->vc P Γ N L x Q s)/\(t = false->vc P Γ N L y Q s)
   | _=>False:=h
  rw [aE] at h
  obtain ⟨β,hI⟩:=hI
  have hr:=(aF hI c).1
  cases hv:ev s c with
  | b t =>
   rw [hv] at h hr
   exact wp_cond_split hr.jG (fun ht=>ihx Q Q' s a w hc.1 hQ (h.1 ht) ⟨β,hI⟩ hk) (fun ht=>ihy Q Q' s a w hc.2 hQ (h.2 ht) ⟨β,hI⟩ hk)
  | _=>rw [hv] at h; exact h.elim
 | block id c ih =>
  intro Q Q' s a w hc hQ h hI hk
  refine wp_block (ih _ _ s a w hc (fun e s' a' w' hq bS jq=>?_) h hI hk)
  cases e with
  | exit lu =>
   have hq:bif Nat.beq lu id then Q .normal s' else Q (.exit lu) s':=hq
   cases hb:Nat.beq lu id with
   | true =>
    rw [hb] at hq
    have QF:Q .normal s':=hq
    have e:=Nat.eq_of_beq_eq_true hb
    subst e
    simp only [Exit.inBlock,if_true]
    exact hQ _ _ _ _ QF bS jq
   | false =>
    rw [hb] at hq
    have da:lu≠id:=fun e=>by subst e; rw [Nat.beq_refl] at hb; cases hb
    simp only [Exit.inBlock,da,if_false]; exact hQ _ _ _ _ hq bS jq
  | _=>exact hQ _ _ _ _ hq bS jq
 | loop c ih =>
  intro Q Q' s a w hc hQ h ⟨β,hI⟩ hk
  obtain ⟨cv,cb,rn,h⟩:=(show xy N (vc P Γ N L c) Q s from h)
  obtain ⟨s00,β00,h,HZ⟩:=uv cv hI h
  obtain ⟨s0,sM,h,fS⟩:=mB cb HZ h
  obtain ⟨s1,kD,⟨σ,I,S,μ,x,Um,tY,mo⟩,dg⟩:=eO rn fS h
  refine BM (fun x a w=>(I x/\Inv W0 F X N (S x) a w)/\Kept A a0 a) μ (fun x a w GA=>?_) (x:=x) ⟨⟨Um,kD,dg.wk tY⟩,hk⟩
  refine ih _ _ (S x) a w hc (fun e s' a' w' hq bS jq=>?_) (mo x GA.1.1) GA.1.2 GA.2
  cases e with
  | normal =>
   obtain ⟨rn,hq⟩:=hq
   obtain ⟨bJ,bS⟩:=bS
   obtain ⟨s2,β2,⟨x',h0,h1,h2⟩,fV⟩:=eO rn bS hq
   exact ⟨x',⟨⟨h0,β2,fV.wk h1⟩,jq⟩,h2⟩
  | _=>exact hQ _ _ _ _ hq bS jq
 | exit id=>intro Q Q' s a w _ hQ h hI hk; exact wp_exit (hQ _ _ _ _ h hI hk)
 | ret=>intro Q Q' s a w _ hQ h hI hk; exact wp_ret (hQ _ _ _ _ h hI hk)
 | label l=>intro Q Q' s a w _ hQ h hI hk; exact wp_label (hQ _ _ _ _ h hI hk)
 | _=>intro Q Q' s a w hc; exact absurd hc (by simp [iU])
def HB (Γ:Ctx) (rs:List ResultVar) (r:AV) (j:Nat) (g:AV) (aB:List (Nat × List AV)) (s:St):Prop :=
 Bb Γ s rs (fun v=>aC (Qd v) (v = r))/\∃ rn,jP rn s fun s=>fF s.aj j (fun v=>v = g)/\Tf s aB
def mG (Γ:Ctx) (rs:List ResultVar) (r:AV) (j:Nat) (g:AV) (aB:List (Nat × List AV)) (e:Exit) (s:St):Prop :=
 match e with
 | .normal=>HB Γ rs r j g aB s
 | .ret=>HB Γ rs r j g aB s
 | _=>False
def PG (E:St->Prop) (e:Exit) (s:St):Prop :=
 match e with
 | .normal=>E s
 | .ret=>E s
 | _=>False
theorem vL (aY : Γ.bR P) {f : FuncId} {fn : Func} {c : Code} (hf : P.funcs[f]? = some fn) (hb : fn.body = some c) (cY : ∀ (vs : Array Value) (w : World), (callFunc f vs).run P w = .ok (.enter f vs) w)
  {rs:Array ResultVar} (BS:fn.results = rs) (hN:fn.ntmps = N) {args:List AV} {boxes:List (Nat × List AV)} {r:AV} {j:Nat} {g:AV} {aB:List (Nat × List AV)} {L:List Nat} (hlen:args.length<=N) (tK:1<=N)
  (yc:(aA boxes).all (fun n=>Nat.ble N n) = true) (hj:j < args.length) (ea:iU args.length c = true) {E:St->Prop} (hE:∀ (F:Fr) (X:Nat->Prop) (W0 w:World) (s:St) (β:Nat->Option Nat) (a:Act),ao W0 F X N s β a w->E s->∃ u s1 kD,(results fn a.tmps).run P w = .ok u w/\Im (Own X s1 kD) w r u/\ao W0 F X N s1 kD a w/\look s1.aj j = g/\Tf s1 aB)
  (BT:vc P Γ N L c (PG E) ⟨ae 0 args,boxes⟩):dK P f args boxes r j g aB:=by
 refine ⟨cY,fun F X β w vs p9 iT fS=>?_⟩
 refine calls_of_wp hf hb ?_
 have x9:∀ n,n < vs.length->(vs.toArray++Array.replicate (fn.ntmps - vs.toArray.size) undef).getD n undef = vs.toArray.getD n undef:=fun n hm=>by
  simp only [Array.getD_eq_getD_getElem?]
  rw [Array.getElem?_append_left (by simpa using hm)]
 have Cu:∀ n,(vs.toArray++Array.replicate (fn.ntmps - vs.toArray.size) undef).getD n undef = vs.toArray.getD n undef\/look (ae 0 args) n = .x:=fun n=>by
  by_cases hm:n < vs.length
  ·exact .inl (x9 n hm)
  ·right
   have h1:=dI args 0 n
   rw [Nat.zero_add] at h1
   rw [h1,List.getD_eq_getElem?_getD,List.getElem?_eq_none (by omega)]
   rfl
 have hI:ao w F X N ⟨ae 0 args,boxes⟩ β { tmps:=vs.toArray++Array.replicate (fn.ntmps - vs.toArray.size) undef,defers:=[] } w:=by
  refine ⟨fS.ext,fun n=>?_,?_,fS.boxes,fS.inj,fS.own,fS.defers,fS.mh,fS.fP,fun n hn=>?_,fS.gl⟩
  ·rcases Cu n with h1 | h1
   ·show Rel _ _ _ _ ((vs.toArray++Array.replicate (fn.ntmps - vs.toArray.size) undef).getD n undef)
    rw [h1]; exact fS.aj n
   ·show Rel _ _ _ (look (ae 0 args) n) _
    rw [h1]; exact Rel.x
  ·simp only [Array.size_append,List.size_toArray,Array.size_replicate,hN,p9]
   omega
  ·cases hp:F.fP n with
   | none=>rfl
   | some g =>
    have h1:=bd.2 (iT n g hp)
    have:=Nat.le_of_ble_eq_true (List.all_eq_true.1 yc n h1)
    omega
 refine C9 (W0:=w) (F:=F) (X:=X) (A:=args.length) (a0:={ tmps:=vs.toArray++Array.replicate (fn.ntmps - vs.toArray.size) undef,defers:=[] }) aY c _ _ _ _ _ ea (fun e s a w' hq ⟨bJ,bS⟩ hk=>?_) BT ⟨_,hI⟩ (Kept.refl _ _)
 have key:E s->a.defers = []/\∃ v,(results fn a.tmps).run P w' = .ok v w'/\∃ v' u β'',Ending.returned v = .returned v'/\vs[j]? = some u/\Im (Own X ⟨[(0,g)],aB⟩ β'') w' r v'/\ao w F X 1 ⟨[(0,g)],aB⟩ β'' ⟨#[u],[]⟩ w':=by
  intro h
  obtain ⟨u,s1,kD,k2,k1,dg,h3,tY⟩:=hE F X w w' s bJ a bS h
  have S4:a.tmps.getD j undef = vs[j]'(by omega):=by
   rw [hk j hj]
   show (vs.toArray++Array.replicate (fn.ntmps - vs.toArray.size) undef).getD j undef = _
   rw [x9 j (by omega)]
   have hm:j < vs.length:=by omega
   simp [hm]
  have hd:F.th = []:=fS.defers.symm
  have hr:=dg.aj j
  rw [h3,S4] at hr
  have XT:∀ n ∈ ids g,Nm s1 n:=fun n hn=>.inr (.inl ⟨j,by rw [h3]; exact hn⟩)
  have bP:∀ n,Nm ⟨[(0,g)],aB⟩ n->Nm s1 n:=by
   rintro n (⟨cs,hc⟩ | ⟨q,hq⟩ | ⟨b,cs,hb,c,hc,hn⟩)
   ·obtain ⟨us',iN,_⟩:=eQ tY n cs hc
    exact .inl ⟨us',iN⟩
   ·simp only [look] at hq
    cases hb:Nat.beq 0 q with
    | true=>rw [hb] at hq; exact XT n hq
    | false=>rw [hb] at hq; cases hq
   ·obtain ⟨us',iN,hw⟩:=eQ tY b cs hb
    obtain ⟨g,us2,e,k1,k2,k3⟩:=dg.boxes b us' iN
    obtain ⟨u',X3,jg⟩:=(nJ hw k3).2 c hc n hn
    exact .inr (.inr ⟨b,us',iN,u',X3,jg⟩)
  have hO:∀ k,Own X ⟨[(0,g)],aB⟩ kD k->Own X s1 kD k:=fun k hk=>hk.imp id fun ⟨n,hn,hb⟩=>⟨n,bP n hn,hb⟩
  refine ⟨bS.defers.trans hd,u,k2,u,_,kD,rfl,List.getElem?_eq_getElem (by omega),k1.mono hO,?_⟩
  refine ⟨dg.ext,fun n=>?_,rfl,fun n cs hc=>?_,fun n m g hn hm=>dg.inj n m g (bP n hn) (bP m hm),fun n g hn hg=>dg.own n g (bP n hn) hg,hd.symm,dg.mh,fun n cs g hc hp=>?_,fun n hn=>dg.vV n (by omega),dg.gl⟩
  ·simp only [look]
   cases hb:Nat.beq 0 n with
   | true=>have:=Nat.eq_of_beq_eq_true hb; subst this; exact hr.mono hO
   | false=>exact Rel.x
  ·obtain ⟨us',iN,hw⟩:=eQ tY n cs hc
   obtain ⟨g,us2,e,k1,k2,k3⟩:=dg.boxes n us' iN
   exact ⟨g,us2,e,k1,k2,(nJ hw k3).1.mono fun _ _ _ _ hr=>⟨hr.1.mono hO,hr.2⟩⟩
  ·obtain ⟨us',iN,_⟩:=eQ tY n cs hc
   exact dg.fP n us' g iN hp
 cases e with
 | normal=>exact key hq
 | ret=>exact key hq
 | _=>exact hq.elim
theorem fu (aY : Γ.bR P) {f : FuncId} {fn : Func} {c : Code} (hf : P.funcs[f]? = some fn) (hb : fn.body = some c) (cY : ∀ (vs : Array Value) (w : World), (callFunc f vs).run P w = .ok (.enter f vs) w)
  {rs:Array ResultVar} (BS:fn.results = rs) (hN:fn.ntmps = N) {args:List AV} {boxes:List (Nat × List AV)} {r:AV} {j:Nat} {g:AV} {aB:List (Nat × List AV)} {L:List Nat} (hlen:args.length<=N) (tK:1<=N)
  (yc:(aA boxes).all (fun n=>Nat.ble N n) = true) (hj:j < args.length) (ea:iU args.length c = true) (BT:vc P Γ N L c (mG Γ rs.toList r j g aB) ⟨ae 0 args,boxes⟩):dK P f args boxes r j g aB:=by
 have e:mG Γ rs.toList r j g aB = PG (HB Γ rs.toList r j g aB):=by funext e s; cases e<;>rfl
 rw [e] at BT
 refine vL aY hf hb cY BS hN hlen tK yc hj ea (fun F X W0 w s β a hI h=>?_) BT
 obtain ⟨h,rn,h2⟩:=h
 rw [<- BS] at h
 obtain ⟨v,u,hv,k1,k2⟩:=yD aY hI h
 obtain ⟨hg,rfl⟩:=(af _ _).1 hv
 obtain ⟨s1,kD,⟨h3,tY⟩,dg⟩:=eO rn hI h2
 rw [dA] at h3
 exact ⟨u,s1,kD,k2,Pc hg k1,dg,h3,tY⟩
end
end Go.SX
end
section
namespace Go.Proofs.YtiijpgmpnijidaaGreatDoor
open Go Go.SX Go.Ck Go.Vl Go.Ut Go.Ty
set_option maxRecDepth 100000
set_option maxHeartbeats 4000000
def ze (a:Int) (l:List ab):Int:=l.foldl (fun a t=>bits .or .i64 a (ly t.kind)) a
theorem CH (a:Int) (l m:List ab):ze a (l++m) = ze (ze a l) m:=List.foldl_append ..
def rQ (a:List ab):List ab->List ab
 | []=>a
 | x::r=>a++(x::r)
theorem oN (a l:List ab):rQ a l = a++l:=by
 cases l with
 | nil=>exact (List.append_nil a).symm
 | cons x r=>rfl
theorem zj (a l m:List ab):rQ a (l++m) = rQ (rQ a l) m:=by rw [oN,oN,oN,List.append_assoc]
theorem GW (a l:List ab):(rQ a l).length = a.length + l.length:=by rw [oN,List.length_append]
section
variable [G:Globs]
theorem OD (s:SchemaR) (m:Int) (hl:∀ d ∈ s.defs,CT s.defs d.t/\TB d.t) (k:Nat) (ih:∀ (x:ab) (fs:Go.Ty.Met),CT s.defs x->TB x->dB s.defs x fs < k->fs.length + iQ s.defs fs<=1000->dK Tryz.prog 64 [.rp (bM s m),.agg (encTyp x),.ob 1001 1001 (.mp .str .bool fs),.fn 65 []] [] (.bc []) 2 (.ob 1001 1001 (.mp .str .bool (aI s.defs k x fs).2)) []) (t:ab) (es:Go.Ty.Met) (ht:CT s.defs t) (hb:TB t) (hk:dB s.defs t es < k + 1) (hc:es.length + iQ s.defs es<=1000):vc Tryz.prog Γ 56 [0,2,3,5,9,11,15,21,41,44,45,46,47,1001] (Tryz.f64.body.getD .skip) (mG Γ [] (.bc []) 2 (.ob 1001 1001 (.mp .str .bool (aI s.defs (k + 1) t es).2)) []) ⟨ae 0 [.rp (bM s m),.agg (encTyp t),.ob 1001 1001 (.mp .str .bool es),.fn 65 []],[]⟩:=by
 have hF:aI s.defs (k + 1) t es = if t.kind = 12 then (if met es t.name = true then ([],es) else aI s.defs k (bo s.defs t.name) (meet es t.name)) else if t.kind = 11 then br (aI s.defs k) t.t es else ([t],es):=rfl
 generalize aI s.defs (k + 1) t es = R at hF ⊢
 by_cases c1:t.kind = 12
 ·rw [if_pos c1] at hF
  by_cases c2:met es t.name = true
  ·rw [if_pos c2] at hF
   subst hF
   have c2:(cf (κ:=.str) (τ:=.bool) es t.name).getD false = true:=c2
   (repeat' (first | (refine iF (fun h=>?_) fun h=>?_)<;>try exact cX | refine bX ?_ | intro _))
   ·exact absurd (show (cf (κ:=.str) (τ:=.bool) es t.name).getD false = false by assumption) (by rw [c2]; decide)
   (repeat' (first | (refine iF (fun h=>?_) fun h=>?_)<;>try exact cX | refine bX ?_ | intro _))
   exact aN rfl (eX [] (aN rfl wK))
  rw [if_neg c2] at hF
  subst hF
  have h0:0<=cq s.defs t.name:=by cases ht with | mk _ _ h _=>exact h c1
  have hD:=CU s m t.name
  have c2:(cf (κ:=.str) (τ:=.bool) es t.name).getD false = false:=Bool.eq_false_iff.2 c2
  (repeat' (first | (refine iF (fun h=>?_) fun h=>?_)<;>try exact cX | refine bX ?_ | intro _))
  refine aN (show es.length < 9223372036854775807 by omega) ?_
  (repeat' (first | (refine iF (fun h=>?_) fun h=>?_)<;>try exact cX | refine bX ?_ | intro _))
  refine eX [.fZ [0,1,2,3,4,5,6,7,8,9,10,11,12,13,14],.one 15] (aN (by kernel_rfl) ?_)
  refine eX _ (aN (hD) ?_)
  obtain ⟨g1,g2⟩:=me h0
  have gg:s.defs.getD (cq s.defs t.name).toNat (aD .dfn) = s.defs[(cq s.defs t.name).toNat]:=by rw [List.getD_eq_getElem?_getD,List.getElem?_eq_getElem g1]; rfl
  refine aN ⟨h0,by omega⟩ ?_
  (repeat' (first | (refine iF (fun h=>?_) fun h=>?_)<;>try exact cX | refine bX ?_ | intro _))
  refine Or.inr (Or.inr (Or.inr (Or.inr (Or.inr (eX [] (eX _ (eX _ (eX _ (eX _ (eX _ (eX _ (eX _ (eX [(1001,1001)] (eX [2] (eX [] (aN ((ih (bo s.defs t.name) (meet es t.name) (CT.bo (fun d hd=>(hl d hd).1) h0) (by obtain ⟨d,hd,_,e⟩:=dy h0; rw [<- e]; exact (hl d hd).2) (by have:=jK h0 (es:=es) c2; omega) (by have:=o4 h0 (es:=es) c2; omega))) ?_))))))))))))))))
  refine (aN rfl (aN rfl (aN rfl (aN rfl (aN rfl (aN (aN rfl trivial) ?_))))))
  (repeat' (first | (refine iF (fun h=>?_) fun h=>?_)<;>try exact cX | refine bX ?_ | intro _))
  exact aN rfl (eX [] (aN rfl wK))
 rw [if_neg c1] at hF
 by_cases c3:t.kind = 11
 ·rw [if_pos c3] at hF
  (repeat' (first | (refine iF (fun h=>?_) fun h=>?_)<;>try exact cX | refine bX ?_ | intro _))
  refine eX [] (eX [] (eX [] (eX (Nat × Go.Ty.Met × List ab) (eX (fun x=>x.1<=t.t.length/\(∀ n,met es n = true->met x.2.1 n = true)/\x.2.1.length + iQ s.defs x.2.1<=1000/\(True)/\R = (x.2.2++(br (aI s.defs k) (t.t.drop x.1) x.2.1).1,(br (aI s.defs k) (t.t.drop x.1) x.2.1).2)) (eX (fun ⟨i,fs,pre⟩=>⟨[(0,.rp (bM s m)),(2,.ob 1001 1001 (.mp .str .bool fs)),(3,.fn 65 []),(44,.rd .typ t.t),(45,.i .i64 t.t.length),(46,.i .i64 i)],[]⟩) (eX (fun x=>t.t.length - x.1) (eX (0,es,[]) (aN ⟨Nat.zero_le _,fun _ h=>h,hc,trivial,hF⟩ (aN ?_ ?_)))))))))
  ·exact wK
  rintro ⟨i,fs,pre⟩ ⟨hi,hm,hq,vP,hI⟩
  dsimp only at hi hm hq vP hI
  refine aN (fun hz=>?_) (fun hz=>?_)
  ·have hi:=gd hz
   have hg:=cB (τ:=.typ) hi
   refine bN2 ?_
   rw [hg]
   have hx:=List.getElem_mem hi
   have hp:=ht.part _ hx
   have zd:=tf (fun d hd=>(hl d hd).1) k t.t[i] fs hp
   have Cs:∀ n,met es n = true->met (aI s.defs k t.t[i] fs).2 n = true:=fun n h=>kG s.defs k _ _ n (hm n h)
   skip
   have hC:=ih t.t[i] fs hp (by cases hb with | mk _ _ _ _ _ _ h _=>exact h _ hx) (by have:=jr (l:=s.defs) hx hm; omega) hq
   rw [List.drop_eq_getElem_cons hi,br,<- List.append_assoc] at hI
   have Qx:=(by cases hb; omega:t.t.length<=2000000)
   (repeat' (first | (refine iF (fun h=>?_) fun h=>?_)<;>try exact cX | refine bX ?_ | intro _))
   refine Or.inr (Or.inr (Or.inr (Or.inr (Or.inr (eX [] (eX _ (eX _ (eX _ (eX _ (eX _ (eX _ (eX _ (eX [(1001,1001)] (eX [2] (eX [] (aN (hC) ?_))))))))))))))))
   refine (aN rfl (aN rfl (aN rfl (aN rfl (aN rfl (aN (aN rfl trivial) ?_))))))
   (repeat' (first | (refine iF (fun h=>?_) fun h=>?_)<;>try exact cX | refine bX ?_ | intro _))
   refine eX [] (eX (i + 1,(aI s.defs k t.t[i] fs).2,pre++(aI s.defs k t.t[i] fs).1) (aN ⟨hi,Cs,by dsimp only; omega,trivial,hI⟩ (aN ?_ ?_)))
   ·exact wK
   ·(exact Nat.sub_lt_sub_left (by omega) (by omega))
  ·(have hi:=ga hi hz)
   rw [List.drop_eq_nil_of_le (by omega)] at hI
   have hI:R = (pre++[],fs):=hI
   rw [List.append_nil] at hI
   subst hI
   (repeat' (first | (refine iF (fun h=>?_) fun h=>?_)<;>try exact cX | refine bX ?_ | intro _))
   exact aN rfl (eX [] (aN rfl wK))
 rw [if_neg c3] at hF
 subst hF
 (repeat' (first | (refine iF (fun h=>?_) fun h=>?_)<;>try exact cX | refine bX ?_ | intro _))
 refine Or.inr (Or.inl (eX [] (eX _ (eX _ (eX _ (eX _ (eX _ (eX [] (aN (Nz t) ?_)))))))))
 refine (aN rfl (aN rfl (aN rfl (aN rfl ?_))))
 (repeat' (first | (refine iF (fun h=>?_) fun h=>?_)<;>try exact cX | refine bX ?_ | intro _))
 exact aN rfl (eX [] (aN rfl wK))
theorem Np (s:SchemaR) (m:Int) (hl:∀ d ∈ s.defs,CT s.defs d.t/\TB d.t) (k:Nat) (ih:∀ (x:ab) (fs:Go.Ty.Met),CT s.defs x->TB x->dB s.defs x fs < k->fs.length + iQ s.defs fs<=1000->dK Tryz.prog 64 [.rp (bM s m),.agg (encTyp x),.ob 1001 1001 (.mp .str .bool fs),.fn 65 []] [] (.bc []) 2 (.ob 1001 1001 (.mp .str .bool (aI s.defs k x fs).2)) []) (t:ab) (es:Go.Ty.Met) (ht:CT s.defs t) (hb:TB t) (hk:dB s.defs t es < k + 1) (hc:es.length + iQ s.defs es<=1000):dK Tryz.prog 64 [.rp (bM s m),.agg (encTyp t),.ob 1001 1001 (.mp .str .bool es),.fn 65 []] [] (.bc []) 2 (.ob 1001 1001 (.mp .str .bool (aI s.defs (k + 1) t es).2)) [] :=
 fu aa Tryz.func64 rfl Tryz.call64 Tryz.results64 Tryz.ntmps64 (Nat.le_of_ble_eq_true rfl) (Nat.le_of_ble_eq_true rfl) (by rfl) (Nat.lt_of_lt_of_le (Nat.lt_succ_self _) (Nat.le_of_ble_eq_true rfl)) (by kernel_rfl) (OD s m hl k ih t es ht hb hk hc)
theorem OE (s:SchemaR) (m:Int) (hl:∀ d ∈ s.defs,CT s.defs d.t/\TB d.t) (k:Nat) (ih:∀ (x:ab) (fs:Go.Ty.Met) (a:Int),CT s.defs x->TB x->dB s.defs x fs < k->fs.length + iQ s.defs fs<=1000->dK Tryz.prog 64 [.rp (bM s m),.agg (encTyp x),.ob 1001 1001 (.mp .str .bool fs),.fn 84 [.pt 1000 0]] [(1000,[.i .i64 a])] (.bc []) 2 (.ob 1001 1001 (.mp .str .bool (aI s.defs k x fs).2)) [(1000,[.i .i64 (ze a (aI s.defs k x fs).1)])]) (t:ab) (es:Go.Ty.Met) (a:Int) (ht:CT s.defs t) (hb:TB t) (hk:dB s.defs t es < k + 1) (hc:es.length + iQ s.defs es<=1000):vc Tryz.prog Γ 56 [0,2,3,5,9,11,15,21,41,44,45,46,47,1000,1001] (Tryz.f64.body.getD .skip) (mG Γ [] (.bc []) 2 (.ob 1001 1001 (.mp .str .bool (aI s.defs (k + 1) t es).2)) [(1000,[.i .i64 (ze a (aI s.defs (k + 1) t es).1)])]) ⟨ae 0 [.rp (bM s m),.agg (encTyp t),.ob 1001 1001 (.mp .str .bool es),.fn 84 [.pt 1000 0]],[(1000,[.i .i64 a])]⟩:=by
 have hF:aI s.defs (k + 1) t es = if t.kind = 12 then (if met es t.name = true then ([],es) else aI s.defs k (bo s.defs t.name) (meet es t.name)) else if t.kind = 11 then br (aI s.defs k) t.t es else ([t],es):=rfl
 generalize aI s.defs (k + 1) t es = R at hF ⊢
 by_cases c1:t.kind = 12
 ·rw [if_pos c1] at hF
  by_cases c2:met es t.name = true
  ·rw [if_pos c2] at hF
   subst hF
   have c2:(cf (κ:=.str) (τ:=.bool) es t.name).getD false = true:=c2
   (repeat' (first | (refine iF (fun h=>?_) fun h=>?_)<;>try exact cX | refine bX ?_ | intro _))
   ·exact absurd (show (cf (κ:=.str) (τ:=.bool) es t.name).getD false = false by assumption) (by rw [c2]; decide)
   (repeat' (first | (refine iF (fun h=>?_) fun h=>?_)<;>try exact cX | refine bX ?_ | intro _))
   exact aN rfl (eX [] (aN rfl wK))
  rw [if_neg c2] at hF
  subst hF
  have h0:0<=cq s.defs t.name:=by cases ht with | mk _ _ h _=>exact h c1
  have hD:=CU s m t.name
  have c2:(cf (κ:=.str) (τ:=.bool) es t.name).getD false = false:=Bool.eq_false_iff.2 c2
  (repeat' (first | (refine iF (fun h=>?_) fun h=>?_)<;>try exact cX | refine bX ?_ | intro _))
  refine aN (show es.length < 9223372036854775807 by omega) ?_
  (repeat' (first | (refine iF (fun h=>?_) fun h=>?_)<;>try exact cX | refine bX ?_ | intro _))
  refine eX [.fZ [0,1,2,3,4,5,6,7,8,9,10,11,12,13,14],.one 15] (aN (by kernel_rfl) ?_)
  refine eX _ (aN (hD) ?_)
  obtain ⟨g1,g2⟩:=me h0
  have gg:s.defs.getD (cq s.defs t.name).toNat (aD .dfn) = s.defs[(cq s.defs t.name).toNat]:=by rw [List.getD_eq_getElem?_getD,List.getElem?_eq_getElem g1]; rfl
  refine aN ⟨h0,by omega⟩ ?_
  (repeat' (first | (refine iF (fun h=>?_) fun h=>?_)<;>try exact cX | refine bX ?_ | intro _))
  refine Or.inr (Or.inr (Or.inr (Or.inr (Or.inr (eX [] (eX _ (eX _ (eX _ (eX _ (eX _ (eX _ (eX _ (eX [(1001,1001),(1000,1000)] (eX [2] (eX [] (aN ((ih (bo s.defs t.name) (meet es t.name) a (CT.bo (fun d hd=>(hl d hd).1) h0) (by obtain ⟨d,hd,_,e⟩:=dy h0; rw [<- e]; exact (hl d hd).2) (by have:=jK h0 (es:=es) c2; omega) (by have:=o4 h0 (es:=es) c2; omega))) ?_))))))))))))))))
  refine (aN rfl (aN rfl (aN rfl (aN rfl (aN rfl (aN rfl (aN (aN rfl trivial) ?_)))))))
  (repeat' (first | (refine iF (fun h=>?_) fun h=>?_)<;>try exact cX | refine bX ?_ | intro _))
  exact aN rfl (eX [] (aN rfl wK))
 rw [if_neg c1] at hF
 by_cases c3:t.kind = 11
 ·rw [if_pos c3] at hF
  (repeat' (first | (refine iF (fun h=>?_) fun h=>?_)<;>try exact cX | refine bX ?_ | intro _))
  refine eX [] (eX [] (eX [] (eX (Nat × Go.Ty.Met × List ab) (eX (fun x=>x.1<=t.t.length/\(∀ n,met es n = true->met x.2.1 n = true)/\x.2.1.length + iQ s.defs x.2.1<=1000/\(True)/\R = (x.2.2++(br (aI s.defs k) (t.t.drop x.1) x.2.1).1,(br (aI s.defs k) (t.t.drop x.1) x.2.1).2)) (eX (fun ⟨i,fs,pre⟩=>⟨[(0,.rp (bM s m)),(2,.ob 1001 1001 (.mp .str .bool fs)),(3,.fn 84 [.pt 1000 0]),(44,.rd .typ t.t),(45,.i .i64 t.t.length),(46,.i .i64 i)],[(1000,[.i .i64 (ze a pre)])]⟩) (eX (fun x=>t.t.length - x.1) (eX (0,es,[]) (aN ⟨Nat.zero_le _,fun _ h=>h,hc,trivial,hF⟩ (aN ?_ ?_)))))))))
  ·exact wK
  rintro ⟨i,fs,pre⟩ ⟨hi,hm,hq,vP,hI⟩
  dsimp only at hi hm hq vP hI
  refine aN (fun hz=>?_) (fun hz=>?_)
  ·have hi:=gd hz
   have hg:=cB (τ:=.typ) hi
   refine bN2 ?_
   rw [hg]
   have hx:=List.getElem_mem hi
   have hp:=ht.part _ hx
   have zd:=tf (fun d hd=>(hl d hd).1) k t.t[i] fs hp
   have Cs:∀ n,met es n = true->met (aI s.defs k t.t[i] fs).2 n = true:=fun n h=>kG s.defs k _ _ n (hm n h)
   skip
   have hC:=ih t.t[i] fs (ze a pre) hp (by cases hb with | mk _ _ _ _ _ _ h _=>exact h _ hx) (by have:=jr (l:=s.defs) hx hm; omega) hq
   rw [List.drop_eq_getElem_cons hi,br,<- List.append_assoc] at hI
   have Qx:=(by cases hb; omega:t.t.length<=2000000)
   (repeat' (first | (refine iF (fun h=>?_) fun h=>?_)<;>try exact cX | refine bX ?_ | intro _))
   refine Or.inr (Or.inr (Or.inr (Or.inr (Or.inr (eX [] (eX _ (eX _ (eX _ (eX _ (eX _ (eX _ (eX _ (eX [(1001,1001),(1000,1000)] (eX [2] (eX [] (aN (hC) ?_))))))))))))))))
   refine (aN rfl (aN rfl (aN rfl (aN rfl (aN rfl (aN rfl (aN (aN rfl trivial) ?_)))))))
   (repeat' (first | (refine iF (fun h=>?_) fun h=>?_)<;>try exact cX | refine bX ?_ | intro _))
   refine eX [] (eX (i + 1,(aI s.defs k t.t[i] fs).2,pre++(aI s.defs k t.t[i] fs).1) (aN ⟨hi,Cs,by dsimp only; omega,trivial,hI⟩ (aN ?_ ?_)))
   ·(repeat' (first | exact wA | exact Or.inl (congrArg (AV.i .i64) (CH ..).symm) | refine aN ?_ ?_))
   ·(exact Nat.sub_lt_sub_left (by omega) (by omega))
  ·(have hi:=ga hi hz)
   rw [List.drop_eq_nil_of_le (by omega)] at hI
   have hI:R = (pre++[],fs):=hI
   rw [List.append_nil] at hI
   subst hI
   (repeat' (first | (refine iF (fun h=>?_) fun h=>?_)<;>try exact cX | refine bX ?_ | intro _))
   exact aN rfl (eX [] (aN rfl wK))
 rw [if_neg c3] at hF
 subst hF
 (repeat' (first | (refine iF (fun h=>?_) fun h=>?_)<;>try exact cX | refine bX ?_ | intro _))
 refine Or.inr (Or.inl (eX [] (eX _ (eX _ (eX _ (eX _ (eX _ (eX [(1000,1000)] (aN (NA t (by cases ht with | mk _ h _ _=>exact h.1) (by cases ht with | mk _ h _ _=>omega) a) ?_)))))))))
 refine (aN rfl (aN rfl (aN rfl (aN rfl (aN rfl ?_)))))
 (repeat' (first | (refine iF (fun h=>?_) fun h=>?_)<;>try exact cX | refine bX ?_ | intro _))
 exact aN rfl (eX [] (aN rfl wK))
theorem Nq (s:SchemaR) (m:Int) (hl:∀ d ∈ s.defs,CT s.defs d.t/\TB d.t) (k:Nat) (ih:∀ (x:ab) (fs:Go.Ty.Met) (a:Int),CT s.defs x->TB x->dB s.defs x fs < k->fs.length + iQ s.defs fs<=1000->dK Tryz.prog 64 [.rp (bM s m),.agg (encTyp x),.ob 1001 1001 (.mp .str .bool fs),.fn 84 [.pt 1000 0]] [(1000,[.i .i64 a])] (.bc []) 2 (.ob 1001 1001 (.mp .str .bool (aI s.defs k x fs).2)) [(1000,[.i .i64 (ze a (aI s.defs k x fs).1)])]) (t:ab) (es:Go.Ty.Met) (a:Int) (ht:CT s.defs t) (hb:TB t) (hk:dB s.defs t es < k + 1) (hc:es.length + iQ s.defs es<=1000):dK Tryz.prog 64 [.rp (bM s m),.agg (encTyp t),.ob 1001 1001 (.mp .str .bool es),.fn 84 [.pt 1000 0]] [(1000,[.i .i64 a])] (.bc []) 2 (.ob 1001 1001 (.mp .str .bool (aI s.defs (k + 1) t es).2)) [(1000,[.i .i64 (ze a (aI s.defs (k + 1) t es).1)])] :=
 fu aa Tryz.func64 rfl Tryz.call64 Tryz.results64 Tryz.ntmps64 (Nat.le_of_ble_eq_true rfl) (Nat.le_of_ble_eq_true rfl) (by rfl) (Nat.lt_of_lt_of_le (Nat.lt_succ_self _) (Nat.le_of_ble_eq_true rfl)) (by kernel_rfl) (OE s m hl k ih t es a ht hb hk hc)
theorem OF (s:SchemaR) (m:Int) (hl:∀ d ∈ s.defs,CT s.defs d.t/\TB d.t) (k:Nat) (ih:∀ (x:ab) (fs:Go.Ty.Met) (a:List ab),CT s.defs x->TB x->dB s.defs x fs < k->fs.length + iQ s.defs fs<=1000->a.length + gK x + bY s.defs fs<=100000->dK Tryz.prog 64 [.rp (bM s m),.agg (encTyp x),.ob 1001 1001 (.mp .str .bool fs),.fn 69 [.pt 1000 0]] [(1000,[.vec 1002 .typ a])] (.bc []) 2 (.ob 1001 1001 (.mp .str .bool (aI s.defs k x fs).2)) [(1000,[.vec 1002 .typ (rQ a (aI s.defs k x fs).1)])]) (t:ab) (es:Go.Ty.Met) (a:List ab) (ht:CT s.defs t) (hb:TB t) (hk:dB s.defs t es < k + 1) (hc:es.length + iQ s.defs es<=1000) (hw:a.length + gK t + bY s.defs es<=100000):vc Tryz.prog Γ 56 [0,2,3,5,9,11,15,21,41,44,45,46,47,1000,1001,1002] (Tryz.f64.body.getD .skip) (mG Γ [] (.bc []) 2 (.ob 1001 1001 (.mp .str .bool (aI s.defs (k + 1) t es).2)) [(1000,[.vec 1002 .typ (rQ a (aI s.defs (k + 1) t es).1)])]) ⟨ae 0 [.rp (bM s m),.agg (encTyp t),.ob 1001 1001 (.mp .str .bool es),.fn 69 [.pt 1000 0]],[(1000,[.vec 1002 .typ a])]⟩:=by
 have hF:aI s.defs (k + 1) t es = if t.kind = 12 then (if met es t.name = true then ([],es) else aI s.defs k (bo s.defs t.name) (meet es t.name)) else if t.kind = 11 then br (aI s.defs k) t.t es else ([t],es):=rfl
 generalize aI s.defs (k + 1) t es = R at hF ⊢
 by_cases c1:t.kind = 12
 ·rw [if_pos c1] at hF
  by_cases c2:met es t.name = true
  ·rw [if_pos c2] at hF
   subst hF
   have c2:(cf (κ:=.str) (τ:=.bool) es t.name).getD false = true:=c2
   (repeat' (first | (refine iF (fun h=>?_) fun h=>?_)<;>try exact cX | refine bX ?_ | intro _))
   ·exact absurd (show (cf (κ:=.str) (τ:=.bool) es t.name).getD false = false by assumption) (by rw [c2]; decide)
   (repeat' (first | (refine iF (fun h=>?_) fun h=>?_)<;>try exact cX | refine bX ?_ | intro _))
   exact aN rfl (eX [] (aN rfl wK))
  rw [if_neg c2] at hF
  subst hF
  have h0:0<=cq s.defs t.name:=by cases ht with | mk _ _ h _=>exact h c1
  have hD:=CU s m t.name
  have c2:(cf (κ:=.str) (τ:=.bool) es t.name).getD false = false:=Bool.eq_false_iff.2 c2
  (repeat' (first | (refine iF (fun h=>?_) fun h=>?_)<;>try exact cX | refine bX ?_ | intro _))
  refine aN (show es.length < 9223372036854775807 by omega) ?_
  (repeat' (first | (refine iF (fun h=>?_) fun h=>?_)<;>try exact cX | refine bX ?_ | intro _))
  refine eX [.fZ [0,1,2,3,4,5,6,7,8,9,10,11,12,13,14],.one 15] (aN (by kernel_rfl) ?_)
  refine eX _ (aN (hD) ?_)
  obtain ⟨g1,g2⟩:=me h0
  have gg:s.defs.getD (cq s.defs t.name).toNat (aD .dfn) = s.defs[(cq s.defs t.name).toNat]:=by rw [List.getD_eq_getElem?_getD,List.getElem?_eq_getElem g1]; rfl
  refine aN ⟨h0,by omega⟩ ?_
  (repeat' (first | (refine iF (fun h=>?_) fun h=>?_)<;>try exact cX | refine bX ?_ | intro _))
  refine Or.inr (Or.inr (Or.inr (Or.inr (Or.inr (eX [] (eX _ (eX _ (eX _ (eX _ (eX _ (eX _ (eX _ (eX [(1001,1001),(1000,1000),(1002,1002)] (eX [2] (eX [] (aN ((ih (bo s.defs t.name) (meet es t.name) a (CT.bo (fun d hd=>(hl d hd).1) h0) (by obtain ⟨d,hd,_,e⟩:=dy h0; rw [<- e]; exact (hl d hd).2) (by have:=jK h0 (es:=es) c2; omega) (by have:=o4 h0 (es:=es) c2; omega) (by have:=qM h0 (es:=es) c2; have:=nF t; omega))) ?_))))))))))))))))
  refine (aN rfl (aN rfl (aN rfl (aN rfl (aN rfl (aN rfl (aN (aN rfl trivial) ?_)))))))
  (repeat' (first | (refine iF (fun h=>?_) fun h=>?_)<;>try exact cX | refine bX ?_ | intro _))
  exact aN rfl (eX [] (aN rfl wK))
 rw [if_neg c1] at hF
 by_cases c3:t.kind = 11
 ·rw [if_pos c3] at hF
  (repeat' (first | (refine iF (fun h=>?_) fun h=>?_)<;>try exact cX | refine bX ?_ | intro _))
  refine eX [] (eX [] (eX [] (eX (Nat × Go.Ty.Met × List ab) (eX (fun x=>x.1<=t.t.length/\(∀ n,met es n = true->met x.2.1 n = true)/\x.2.1.length + iQ s.defs x.2.1<=1000/\(a.length + x.2.2.length + cP (t.t.drop x.1) + bY s.defs x.2.1<=100000)/\R = (x.2.2++(br (aI s.defs k) (t.t.drop x.1) x.2.1).1,(br (aI s.defs k) (t.t.drop x.1) x.2.1).2)) (eX (fun ⟨i,fs,pre⟩=>⟨[(0,.rp (bM s m)),(2,.ob 1001 1001 (.mp .str .bool fs)),(3,.fn 69 [.pt 1000 0]),(44,.rd .typ t.t),(45,.i .i64 t.t.length),(46,.i .i64 i)],[(1000,[.vec 1002 .typ (rQ a pre)])]⟩) (eX (fun x=>t.t.length - x.1) (eX (0,es,[]) (aN ⟨Nat.zero_le _,fun _ h=>h,hc,(by have:=nF t; show a.length + 0 + cP t.t + bY s.defs es<=100000; omega),hF⟩ (aN ?_ ?_)))))))))
  ·exact wK
  rintro ⟨i,fs,pre⟩ ⟨hi,hm,hq,vP,hI⟩
  dsimp only at hi hm hq vP hI
  refine aN (fun hz=>?_) (fun hz=>?_)
  ·have hi:=gd hz
   have hg:=cB (τ:=.typ) hi
   refine bN2 ?_
   rw [hg]
   have hx:=List.getElem_mem hi
   have hp:=ht.part _ hx
   have zd:=tf (fun d hd=>(hl d hd).1) k t.t[i] fs hp
   have Cs:∀ n,met es n = true->met (aI s.defs k t.t[i] fs).2 n = true:=fun n h=>kG s.defs k _ _ n (hm n h)
   rw [List.drop_eq_getElem_cons hi,dt] at vP
   have Zp:=xR (fun d hd=>(hl d hd).1) k t.t[i] fs hp
   have hC:=ih t.t[i] fs (rQ a pre) hp (by cases hb with | mk _ _ _ _ _ _ h _=>exact h _ hx) (by have:=jr (l:=s.defs) hx hm; omega) hq (by rw [GW]; omega)
   rw [List.drop_eq_getElem_cons hi,br,<- List.append_assoc] at hI
   have Qx:=(by cases hb; omega:t.t.length<=2000000)
   (repeat' (first | (refine iF (fun h=>?_) fun h=>?_)<;>try exact cX | refine bX ?_ | intro _))
   refine Or.inr (Or.inr (Or.inr (Or.inr (Or.inr (eX [] (eX _ (eX _ (eX _ (eX _ (eX _ (eX _ (eX _ (eX [(1001,1001),(1000,1000),(1002,1002)] (eX [2] (eX [] (aN (hC) ?_))))))))))))))))
   refine (aN rfl (aN rfl (aN rfl (aN rfl (aN rfl (aN rfl (aN (aN rfl trivial) ?_)))))))
   (repeat' (first | (refine iF (fun h=>?_) fun h=>?_)<;>try exact cX | refine bX ?_ | intro _))
   refine eX [] (eX (i + 1,(aI s.defs k t.t[i] fs).2,pre++(aI s.defs k t.t[i] fs).1) (aN ⟨hi,Cs,by dsimp only; omega,by dsimp only; rw [List.length_append]; omega,hI⟩ (aN ?_ ?_)))
   ·(repeat' (first | exact wA | exact Or.inl (congrArg (AV.vec 1002 .typ) (zj ..).symm) | refine aN ?_ ?_))
   ·(exact Nat.sub_lt_sub_left (by omega) (by omega))
  ·(have hi:=ga hi hz)
   rw [List.drop_eq_nil_of_le (by omega)] at hI
   have hI:R = (pre++[],fs):=hI
   rw [List.append_nil] at hI
   subst hI
   (repeat' (first | (refine iF (fun h=>?_) fun h=>?_)<;>try exact cX | refine bX ?_ | intro _))
   exact aN rfl (eX [] (aN rfl wK))
 rw [if_neg c3] at hF
 subst hF
 (repeat' (first | (refine iF (fun h=>?_) fun h=>?_)<;>try exact cX | refine bX ?_ | intro _))
 refine Or.inr (Or.inl (eX [] (eX _ (eX _ (eX _ (eX _ (eX _ (eX [(1000,1000),(1001,1002)] (aN (NB t a (by omega)) ?_)))))))))
 refine (aN rfl (aN rfl (aN rfl (aN rfl (aN rfl ?_)))))
 (repeat' (first | (refine iF (fun h=>?_) fun h=>?_)<;>try exact cX | refine bX ?_ | intro _))
 exact aN rfl (eX [] (aN rfl wK))
theorem Nr (s:SchemaR) (m:Int) (hl:∀ d ∈ s.defs,CT s.defs d.t/\TB d.t) (k:Nat) (ih:∀ (x:ab) (fs:Go.Ty.Met) (a:List ab),CT s.defs x->TB x->dB s.defs x fs < k->fs.length + iQ s.defs fs<=1000->a.length + gK x + bY s.defs fs<=100000->dK Tryz.prog 64 [.rp (bM s m),.agg (encTyp x),.ob 1001 1001 (.mp .str .bool fs),.fn 69 [.pt 1000 0]] [(1000,[.vec 1002 .typ a])] (.bc []) 2 (.ob 1001 1001 (.mp .str .bool (aI s.defs k x fs).2)) [(1000,[.vec 1002 .typ (rQ a (aI s.defs k x fs).1)])]) (t:ab) (es:Go.Ty.Met) (a:List ab) (ht:CT s.defs t) (hb:TB t) (hk:dB s.defs t es < k + 1) (hc:es.length + iQ s.defs es<=1000) (hw:a.length + gK t + bY s.defs es<=100000):dK Tryz.prog 64 [.rp (bM s m),.agg (encTyp t),.ob 1001 1001 (.mp .str .bool es),.fn 69 [.pt 1000 0]] [(1000,[.vec 1002 .typ a])] (.bc []) 2 (.ob 1001 1001 (.mp .str .bool (aI s.defs (k + 1) t es).2)) [(1000,[.vec 1002 .typ (rQ a (aI s.defs (k + 1) t es).1)])] :=
 fu aa Tryz.func64 rfl Tryz.call64 Tryz.results64 Tryz.ntmps64 (Nat.le_of_ble_eq_true rfl) (Nat.le_of_ble_eq_true rfl) (by rfl) (Nat.lt_of_lt_of_le (Nat.lt_succ_self _) (Nat.le_of_ble_eq_true rfl)) (by kernel_rfl) (OF s m hl k ih t es a ht hb hk hc hw)
end
end Go.Proofs.YtiijpgmpnijidaaGreatDoor
end
section
namespace Go.Proofs.YtiijpgmpnijidaaGreatDoor
open Go Go.SX Go.Ck Go.Vl Go.Ut Go.Ty
set_option maxRecDepth 100000
set_option maxHeartbeats 4000000
noncomputable def bp (l:List az) (t:ab):List ab × Go.Ty.Met:=aI l (dB l t [] + 1) t []
structure SB (s:SchemaR):Prop where
 defs:∀ d ∈ s.defs,CT s.defs d.t/\TB d.t
 root:CT s.defs s.root/\TB s.root
 many:s.defs.length<=1000
 types:bY s.defs [] + gK s.root<=50000
theorem mI (w:az->Nat):∀ l:List az,rest w l [] = (l.map w).sum
 | []=>rfl
 | d::r=>by
  unfold rest
  rw [mI w r,List.map_cons,List.sum_cons,if_neg (by intro h; cases h)]
theorem mZ (l:List az):Ty.iQ l [] = l.length:=by
 unfold Ty.iQ
 rw [mI]
 induction l with
 | nil=>rfl
 | cons d r ih=>rw [List.map_cons,List.sum_cons,ih,List.length_cons]; omega
section
variable [G:Globs]
theorem TA {s:SchemaR} (hs:SB s) (m:Int):∀ (k:Nat) (t:ab) (es:Go.Ty.Met),CT s.defs t->TB t->dB s.defs t es < k->es.length + Ty.iQ s.defs es<=1000->dK Tryz.prog 64 [.rp (bM s m),.agg (encTyp t),.ob 1001 1001 (.mp .str .bool es),.fn 65 []] [] (.bc []) 2 (.ob 1001 1001 (.mp .str .bool (aI s.defs k t es).2)) []:=by
 intro k
 induction k with
 | zero=>intro t es _ _ h; exact absurd h (Nat.not_lt_zero _)
 | succ k ih=>exact fun t es h1 h2 h3 h4=>Np s m hs.defs k ih t es h1 h2 h3 h4
theorem TC {s:SchemaR} (hs:SB s) (m:Int):∀ (k:Nat) (t:ab) (es:Go.Ty.Met) (a:Int),CT s.defs t->TB t->dB s.defs t es < k->es.length + Ty.iQ s.defs es<=1000->dK Tryz.prog 64 [.rp (bM s m),.agg (encTyp t),.ob 1001 1001 (.mp .str .bool es),.fn 84 [.pt 1000 0]] [(1000,[.i .i64 a])] (.bc []) 2 (.ob 1001 1001 (.mp .str .bool (aI s.defs k t es).2)) [(1000,[.i .i64 (ze a (aI s.defs k t es).1)])]:=by
 intro k
 induction k with
 | zero=>intro t es a _ _ h; exact absurd h (Nat.not_lt_zero _)
 | succ k ih=>exact fun t es a h1 h2 h3 h4=>Nq s m hs.defs k ih t es a h1 h2 h3 h4
theorem TE {s:SchemaR} (hs:SB s) (m:Int):∀ (k:Nat) (t:ab) (es:Go.Ty.Met) (a:List ab),CT s.defs t->TB t->dB s.defs t es < k->es.length + Ty.iQ s.defs es<=1000->a.length + gK t + bY s.defs es<=100000->dK Tryz.prog 64 [.rp (bM s m),.agg (encTyp t),.ob 1001 1001 (.mp .str .bool es),.fn 69 [.pt 1000 0]] [(1000,[.vec 1002 .typ a])] (.bc []) 2 (.ob 1001 1001 (.mp .str .bool (aI s.defs k t es).2)) [(1000,[.vec 1002 .typ (rQ a (aI s.defs k t es).1)])]:=by
 intro k
 induction k with
 | zero=>intro t es a _ _ h; exact absurd h (Nat.not_lt_zero _)
 | succ k ih=>exact fun t es a h1 h2 h3 h4 h5=>Nr s m hs.defs k ih t es a h1 h2 h3 h4 h5
theorem K1 (s:SchemaR) (hs:SB s) (m:Int) (d:az) (h1:CT s.defs d.t) (h2:TB d.t):vc Tryz.prog Γ 16 [0,3,4,5] (Tryz.f47.body.getD .skip) (aQ Γ [.tmp 4] (fun v=>v = .b (met (bp s.defs d.t).2 d.name))) ⟨ae 0 [.rp (bM s m),.agg (enc .dfn d)],[]⟩:=by
 have hC:=TA hs m (dB s.defs d.t [] + 1) d.t [] h1 h2 (Nat.lt_succ_self _) (by have:=hs.many; rw [mZ]; show 0 + _<=_; omega)
 (repeat' (first | (refine iF (fun h=>?_) fun h=>?_)<;>try exact cX | refine bX ?_ | intro _))
 refine Or.inr (Or.inr (Or.inr (Or.inr (Or.inr (eX [] (eX _ (eX _ (eX _ (eX _ (eX _ (eX _ (eX _ (eX [(1001,6)] (eX [5] (eX [] (aN (hC) ?_))))))))))))))))
 refine (aN rfl (aN rfl (aN rfl (aN rfl (aN rfl (aN (aN rfl trivial) ?_))))))
 (repeat' (first | (refine iF (fun h=>?_) fun h=>?_)<;>try exact cX | refine bX ?_ | intro _))
 rfl
theorem Bg (s:SchemaR) (hs:SB s) (m:Int) (d:az) (h1:CT s.defs d.t) (h2:TB d.t):ar Tryz.prog 47 [.rp (bM s m),.agg (enc .dfn d)] (.b (met (bp s.defs d.t).2 d.name)) :=
 ah aa Tryz.func47 rfl Tryz.call47 Tryz.results47 Tryz.ntmps47 (Nat.le_of_ble_eq_true rfl) (K1 s hs m d h1 h2)
theorem SS (s:SchemaR) (hs:SB s) (m:Int) (t:ab) (h1:CT s.defs t) (h2:TB t):vc Tryz.prog Γ 12 [0,3,4,5] (Tryz.f66.body.getD .skip) (aQ Γ [.tmp 4] (fun v=>v = .i .i64 (ze 0 (bp s.defs t).1))) ⟨ae 0 [.rp (bM s m),.agg (encTyp t)],[]⟩:=by
 have hC:=TC hs m (dB s.defs t [] + 1) t [] 0 h1 h2 (Nat.lt_succ_self _) (by have:=hs.many; rw [mZ]; show 0 + _<=_; omega)
 (repeat' (first | (refine iF (fun h=>?_) fun h=>?_)<;>try exact cX | refine bX ?_ | intro _))
 refine Or.inr (Or.inr (Or.inr (Or.inr (Or.inr (eX [] (eX _ (eX _ (eX _ (eX _ (eX _ (eX _ (eX _ (eX [(1001,8),(1000,5)] (eX [] (eX [] (aN (hC) ?_))))))))))))))))
 refine (aN rfl (aN rfl (aN rfl (aN rfl (aN rfl (aN rfl (aN trivial ?_)))))))
 (repeat' (first | (refine iF (fun h=>?_) fun h=>?_)<;>try exact cX | refine bX ?_ | intro _))
 rfl
theorem Rv (s:SchemaR) (hs:SB s) (m:Int) (t:ab) (h1:CT s.defs t) (h2:TB t):ar Tryz.prog 66 [.rp (bM s m),.agg (encTyp t)] (.i .i64 (ze 0 (bp s.defs t).1)) :=
 ah aa Tryz.func66 rfl Tryz.call66 Tryz.results66 Tryz.ntmps66 (Nat.le_of_ble_eq_true rfl) (SS s hs m t h1 h2)
theorem Lm (s:SchemaR) (hs:SB s) (m:Int) (t:ab) (h1:CT s.defs t) (h2:TB t) (h3:gK t + bY s.defs []<=100000):vc Tryz.prog Γ 12 [0,3,4,5] (Tryz.f50.body.getD .skip) (aQ Γ [.tmp 4] (fun v=>v = .rd .typ (bp s.defs t).1)) ⟨ae 0 [.rp (bM s m),.agg (encTyp t)],[]⟩:=by
 have hC:=TE hs m (dB s.defs t [] + 1) t [] [] h1 h2 (Nat.lt_succ_self _) (by have:=hs.many; rw [mZ]; show 0 + _<=_; omega) (by show 0 + _ + _<=_; omega)
 (repeat' (first | (refine iF (fun h=>?_) fun h=>?_)<;>try exact cX | refine bX ?_ | intro _))
 refine Or.inr (Or.inr (Or.inr (Or.inr (Or.inr (eX [(5,0,11,.typ)] (eX _ (eX _ (eX _ (eX _ (eX _ (eX _ (eX _ (eX [(1001,8),(1000,5),(1002,11)] (eX [] (eX [] (aN (hC) ?_))))))))))))))))
 refine (aN rfl (aN rfl (aN rfl (aN rfl (aN rfl (aN rfl (aN trivial ?_)))))))
 (repeat' (first | (refine iF (fun h=>?_) fun h=>?_)<;>try exact cX | refine bX ?_ | intro _))
 rw [oN,List.nil_append]
 rfl
theorem J3 (s:SchemaR) (hs:SB s) (m:Int) (t:ab) (h1:CT s.defs t) (h2:TB t) (h3:gK t + bY s.defs []<=100000):ar Tryz.prog 50 [.rp (bM s m),.agg (encTyp t)] (.rd .typ (bp s.defs t).1) :=
 ah aa Tryz.func50 rfl Tryz.call50 Tryz.results50 Tryz.ntmps50 (Nat.le_of_ble_eq_true rfl) (Lm s hs m t h1 h2 h3)
noncomputable def Ls (l:List az):Int->List ab->Int
 | _,[]=>0
 | a,x::r=>if bits .and .i64 a (ze 0 (bp l x).1)≠0 then 13 else Ls l (bits .or .i64 a (ze 0 (bp l x).1)) r
noncomputable def jC (l:List az) (t:ab):Int:=if t.kind = 11 then Ls l 0 t.t else 0
theorem OC (s:SchemaR) (hs:SB s) (m:Int) (t:ab) (h1:CT s.defs t) (h2:TB t) (a:Int):vc Tryz.prog Γ 32 [0,4,6,7,9,12,14,15,16,17,25] (Tryz.f48.body.getD .skip) (aQ Γ [.tmp 6] (fun v=>v = .i .i64 (jC s.defs t))) ⟨ae 0 [.rp (bM s m),.agg (encTyp t),.i .i64 a],[]⟩:=by
 unfold jC
 by_cases c1:t.kind = 11
 rotate_left
 ·rw [if_neg c1]
  (repeat' (first | (refine iF (fun h=>?_) fun h=>?_)<;>try exact cX | refine bX ?_ | intro _))
  rfl
 rw [if_pos c1]
 have hA:Ls s.defs 0 t.t = Ls s.defs 0 (t.t.drop 0):=rfl
 generalize Ls s.defs 0 t.t = R at hA ⊢
 (repeat' (first | (refine iF (fun h=>?_) fun h=>?_)<;>try exact cX | refine bX ?_ | intro _))
 refine eX [] (eX [] (eX [] (eX (Nat × Int) (eX (fun x=>x.1<=t.t.length/\R = Ls s.defs x.2 (t.t.drop x.1)) (eX (fun ⟨i,b⟩=>⟨[(0,.rp (bM s m)),(7,.i .i64 b),(14,.rd .typ t.t),(15,.i .i64 t.t.length),(16,.i .i64 i)],[]⟩) (eX (fun x=>t.t.length - x.1) (eX (0,0) (aN ⟨Nat.zero_le _,hA⟩ (aN ?_ ?_)))))))))
 ·exact wK
 rintro ⟨i,b⟩ ⟨hi,hI⟩
 dsimp only at hi hI
 refine aN (fun hz=>?_) (fun hz=>?_)
 ·have hi:=gd hz
  have hg:=cB (τ:=.typ) hi
  refine bN2 ?_
  rw [hg]
  have hx:=List.getElem_mem hi
  have hC:=Rv s hs m t.t[i] (h1.part _ hx) (by cases h2 with | mk _ _ _ _ _ _ h _=>exact h _ hx)
  have Qx:=(by cases h2; omega:t.t.length<=2000000)
  rw [List.drop_eq_getElem_cons hi,Ls] at hI
  generalize ze 0 (bp s.defs t.t[i]).1 = q at hI hC
  (repeat' (first | (refine iF (fun h=>?_) fun h=>?_)<;>try exact cX | refine bX ?_ | intro _))
  refine Or.inl (eX _ (aN (hC) ?_))
  (repeat' (first | (refine iF (fun h=>?_) fun h=>?_)<;>try exact cX | refine bX ?_ | intro _))
  ·rw [if_pos (by assumption)] at hI
   rw [hI]
   rfl
  rw [if_neg (by simpa using ‹bits .and .i64 b q = 0›)] at hI
  (repeat' (first | (refine iF (fun h=>?_) fun h=>?_)<;>try exact cX | refine bX ?_ | intro _))
  refine Or.inl (eX _ (aN (hC) ?_))
  (repeat' (first | (refine iF (fun h=>?_) fun h=>?_)<;>try exact cX | refine bX ?_ | intro _))
  refine eX [] (eX (i + 1,bits .or .i64 b q) (aN ⟨hi,hI⟩ (aN ?_ ?_)))
  ·exact wK
  ·(exact Nat.sub_lt_sub_left (by omega) (by omega))
 ·(have hi:=ga hi hz)
  rw [List.drop_eq_nil_of_le (by omega)] at hI
  rw [hI]
  rfl
theorem Nn (s:SchemaR) (hs:SB s) (m:Int) (t:ab) (h1:CT s.defs t) (h2:TB t) (a:Int):ar Tryz.prog 48 [.rp (bM s m),.agg (encTyp t),.i .i64 a] (.i .i64 (jC s.defs t)) :=
 ah aa Tryz.func48 rfl Tryz.call48 Tryz.results48 Tryz.ntmps48 (Nat.le_of_ble_eq_true rfl) (OC s hs m t h1 h2 a)
end
end Go.Proofs.YtiijpgmpnijidaaGreatDoor
end
section
namespace Go.Proofs.YtiijpgmpnijidaaGreatDoor
open Go Go.SX Go.Ck Go.Vl Go.Ut Go.Ty
set_option maxRecDepth 100000
set_option maxHeartbeats 4000000
noncomputable def eA (l:List az):List bD->Int
 | []=>0
 | p::r=>if jC l p.t≠0 then jC l p.t else eA l r
theorem ri (l:List az) (a b:List bD):eA l (a++b) = if eA l a≠0 then eA l a else eA l b:=by
 induction a with
 | nil=>exact (if_neg (fun h=>h rfl)).symm
 | cons p r ih =>
  rw [List.cons_append,eA,eA]
  by_cases h:jC l p.t≠0
  ·rw [if_pos h,if_pos h,if_pos h]
  ·rw [if_neg h,if_neg h,ih]
theorem Fe (l:List az) (f:ab->List bD) {L:List ab} {i:Nat} (h:i < L.length):eA l ((L.drop i).flatMap f) = if eA l (f L[i])≠0 then eA l (f L[i]) else eA l ((L.drop (i + 1)).flatMap f):=by
 rw [List.drop_eq_getElem_cons h,List.flatMap_cons,ri]
theorem B9 (l:List az) (f:az->List bD) (z:List bD) {L:List az} {i:Nat} (h:i < L.length):eA l ((L.drop i).flatMap f++z) = if eA l (f L[i])≠0 then eA l (f L[i]) else eA l ((L.drop (i + 1)).flatMap f++z):=by
 rw [List.drop_eq_getElem_cons h,List.flatMap_cons,List.append_assoc,ri]
def Gx (l:List bD):Prop:=∀ p ∈ l,p.bT < 20
theorem Gx.part {t x:ab} {a:Int} (h:Gx (bK t a)) (hx:x ∈ Ty.inside t):Gx (bK x (a + 1)):=fun p hp=>h p (by
 rw [dD]
 exact List.mem_cons_of_mem _ (List.mem_flatMap.2 ⟨x,hx,hp⟩))
theorem Gx.top {t:ab} {a:Int} (h:Gx (bK t a)):a < 20:=h ⟨t,a⟩ (by rw [dD]; exact List.mem_cons_self ..)
theorem CT.inside {l:List az} {t:ab} (h:CT l t):∀ x ∈ Ty.inside t,CT l x:=by
 cases h with
 | mk _ _ _ h1=>exact h1
section
variable [G:Globs]
theorem O1 (s:SchemaR) (hs:SB s) (m:Int) (t:ab) (h1:CT s.defs t) (h2:TB t) (a:Int) (h0:0<=a) (hL:Gx (bK t a)) (ih:∀ x ∈ Ty.inside t,ar Tryz.prog 59 [.rp (bM s m),.agg (encTyp x),.i .i64 (a + 1),.fn 48 [.np,.rp (bM s m)]] (.i .i64 (eA s.defs (bK x (a + 1))))):vc Tryz.prog Γ 37 [0,2,3,5,8,9,11,12,18,21,22,23,24,34] (Tryz.f59.body.getD .skip) (aQ Γ [.tmp 8] (fun v=>v = .i .i64 (eA s.defs (bK t a)))) ⟨ae 0 [.rp (bM s m),.agg (encTyp t),.i .i64 a,.fn 48 [.np,.rp (bM s m)]],[]⟩:=by
 have hC:=Nn s hs m t h1 h2 a
 have hW:eA s.defs (bK t a) = if jC s.defs t≠0 then jC s.defs t else eA s.defs ((Ty.inside t).flatMap fun x=>bK x (a + 1)):=by rw [dD,eA]
 have hN:=Bi t (by cases h2; omega) (by cases h2; omega)
 have ha:=hL.top
 have hlen:(Ty.inside t).length<=4000000:=by
  unfold Ty.inside
  rw [List.length_append,List.length_map]
  cases h2
  omega
 generalize eA s.defs (bK t a) = R at hW ⊢
 generalize jC s.defs t = q at hC hW
 (repeat' (first | (refine iF (fun h=>?_) fun h=>?_)<;>try exact cX | refine bX ?_ | intro _))
 refine Or.inl (eX _ (aN (hC) ?_))
 by_cases c1:q = 0
 rotate_left
 ·rw [if_pos c1] at hW
  rw [hW]
  (repeat' (first | (refine iF (fun h=>?_) fun h=>?_)<;>try exact cX | refine bX ?_ | intro _))
  rfl
 rw [if_neg (fun h=>h c1)] at hW
 rw [c1]
 (repeat' (first | (refine iF (fun h=>?_) fun h=>?_)<;>try exact cX | refine bX ?_ | intro _))
 refine Or.inr (Or.inl (eX [] (eX _ (eX _ (eX _ (eX _ (eX _ (eX [(1000,21)] (aN (hN) ?_)))))))))
 refine (aN rfl (aN rfl (aN rfl (aN rfl ?_))))
 (repeat' (first | (refine iF (fun h=>?_) fun h=>?_)<;>try exact cX | refine bX ?_ | intro _))
 refine eX [] (eX [] (eX [(999,21)] (eX Nat (eX (fun i=>i<=(Ty.inside t).length/\R = eA s.defs (((Ty.inside t).drop i).flatMap fun y=>bK y (a + 1))) (eX (fun i=>⟨[(0,.rp (bM s m)),(2,.i .i64 a),(3,.fn 48 [.np,.rp (bM s m)]),(21,.rd .typ (Ty.inside t)),(22,.i .i64 (Ty.inside t).length),(23,.i .i64 i)],[]⟩) (eX (fun i=>(Ty.inside t).length - i) (eX 0 (aN ⟨Nat.zero_le _,hW⟩ (aN ?_ ?_)))))))))
 ·exact wK
 rintro i ⟨hi,hI⟩
 refine aN (fun hz=>?_) (fun hz=>?_)
 ·have hi:=gd hz
  have hg:=cB (τ:=.typ) hi
  refine bN2 ?_
  rw [hg]
  have hC:=ih (Ty.inside t)[i] (List.getElem_mem hi)
  rw [Fe s.defs _ hi] at hI
  generalize eA s.defs (bK (Ty.inside t)[i] (a + 1)) = q at hI hC
  (repeat' (first | (refine iF (fun h=>?_) fun h=>?_)<;>try exact cX | refine bX ?_ | intro _))
  refine Or.inl (eX _ (aN (hC) ?_))
  by_cases k1:q = 0
  rotate_left
  ·rw [if_pos k1] at hI
   rw [hI]
   (repeat' (first | (refine iF (fun h=>?_) fun h=>?_)<;>try exact cX | refine bX ?_ | intro _))
   rfl
  ·rw [if_neg (fun h=>h k1)] at hI
   rw [k1]
   (repeat' (first | (refine iF (fun h=>?_) fun h=>?_)<;>try exact cX | refine bX ?_ | intro _))
   refine eX [] (eX (i + 1) (aN ⟨hi,hI⟩ (aN ?_ ?_)))
   ·exact wK
   ·(exact Nat.sub_lt_sub_left (by omega) (by omega))
 ·(have hi:=ga hi hz)
  rw [hI,List.drop_eq_nil_of_le (by omega)]
  rfl
theorem NJ (s:SchemaR) (hs:SB s) (m:Int) (t:ab) (h1:CT s.defs t) (h2:TB t) (a:Int) (h0:0<=a) (hL:Gx (bK t a)) (ih:∀ x ∈ Ty.inside t,ar Tryz.prog 59 [.rp (bM s m),.agg (encTyp x),.i .i64 (a + 1),.fn 48 [.np,.rp (bM s m)]] (.i .i64 (eA s.defs (bK x (a + 1))))):ar Tryz.prog 59 [.rp (bM s m),.agg (encTyp t),.i .i64 a,.fn 48 [.np,.rp (bM s m)]] (.i .i64 (eA s.defs (bK t a))) :=
 ah aa Tryz.func59 rfl Tryz.call59 Tryz.results59 Tryz.ntmps59 (Nat.le_of_ble_eq_true rfl) (O1 s hs m t h1 h2 a h0 hL ih)
theorem PO {s:SchemaR} (hs:SB s) (m:Int):∀ (k:Nat) (t:ab),SizeOf.sizeOf t < k->CT s.defs t->TB t->∀ a:Int,0<=a->Gx (bK t a)->ar Tryz.prog 59 [.rp (bM s m),.agg (encTyp t),.i .i64 a,.fn 48 [.np,.rp (bM s m)]] (.i .i64 (eA s.defs (bK t a))):=by
 intro k
 induction k with
 | zero=>intro t h; exact absurd h (Nat.not_lt_zero _)
 | succ k ih =>
  intro t h h1 h2 a h0 hL
  exact NJ s hs m t h1 h2 a h0 hL fun x hx=>ih x (by have:=EF hx; omega) (CT.inside h1 x hx) (h2.inside x hx) (a + 1) (by omega) (hL.part hx)
theorem Ss (s:SchemaR) (hs:SB s) (m:Int) (hL:Gx (aW s)):vc Tryz.prog Γ 35 [0,1,4,6,7,12,13,14,15,24] (Tryz.f45.body.getD .skip) (aQ Γ [.tmp 4] (fun v=>v = .i .i64 (eA s.defs (aW s)))) ⟨ae 0 [.rp (bM s m),.fn 48 [.np,.rp (bM s m)]],[]⟩:=by
 have hA:eA s.defs (aW s) = eA s.defs ((s.defs.drop 0).flatMap (fun d=>bK d.t 0)++bK s.root 0):=rfl
 have hn:=hs.many
 generalize eA s.defs (aW s) = R at hA ⊢
 (repeat' (first | (refine iF (fun h=>?_) fun h=>?_)<;>try exact cX | refine bX ?_ | intro _))
 refine eX [] (eX [] (eX [] (eX Nat (eX (fun i=>i<=(s.defs).length/\(R = eA s.defs ((s.defs.drop i).flatMap (fun d=>bK d.t 0)++bK s.root 0))) (eX (fun i=>⟨[(0,.rp (bM s m)),(1,.fn 48 [.np,.rp (bM s m)]),(12,.rd .dfn s.defs),(13,.i .i64 s.defs.length),(14,.i .i64 i)],[]⟩) (eX (fun i=>(s.defs).length - i) (eX 0 (aN ⟨Nat.zero_le _,hA⟩ (aN ?_ ?_)))))))))
 ·exact wK
 rintro i ⟨hi,hI⟩
 refine aN (fun hz=>?_) (fun hz=>?_)
 ·have hi:=gd hz
  have hg:=cB (τ:=.dfn) hi
  refine bN2 ?_
  rw [hg]
  have hd:=List.getElem_mem hi
  have hC:=PO hs m _ s.defs[i].t (Nat.lt_succ_self _) (hs.defs _ hd).1 (hs.defs _ hd).2 0 (by decide) (fun p hp=>hL p (List.mem_append_left _ (List.mem_flatMap.2 ⟨_,hd,hp⟩)))
  rw [B9 s.defs _ _ hi] at hI
  generalize eA s.defs (bK s.defs[i].t 0) = q at hI hC
  (repeat' (first | (refine iF (fun h=>?_) fun h=>?_)<;>try exact cX | refine bX ?_ | intro _))
  refine Or.inl (eX _ (aN (hC) ?_))
  by_cases k1:q = 0
  rotate_left
  ·rw [if_pos k1] at hI
   rw [hI]
   (repeat' (first | (refine iF (fun h=>?_) fun h=>?_)<;>try exact cX | refine bX ?_ | intro _))
   rfl
  ·rw [if_neg (fun h=>h k1)] at hI
   rw [k1]
   (repeat' (first | (refine iF (fun h=>?_) fun h=>?_)<;>try exact cX | refine bX ?_ | intro _))
   refine eX [] (eX (i + 1) (aN ⟨hi,hI⟩ (aN ?_ ?_)))
   ·exact wK
   ·(exact Nat.sub_lt_sub_left (by omega) (by omega))
 ·(have hi:=ga hi hz)
  rw [List.drop_eq_nil_of_le (by omega)] at hI
  have hI:R = eA s.defs (bK s.root 0):=hI
  have hC:=PO hs m _ s.root (Nat.lt_succ_self _) hs.root.1 hs.root.2 0 (by decide) (fun p hp=>hL p (List.mem_append_right _ hp))
  rw [<- hI] at hC
  (repeat' (first | (refine iF (fun h=>?_) fun h=>?_)<;>try exact cX | refine bX ?_ | intro _))
  refine Or.inl (eX _ (aN (hC) ?_))
  rfl
theorem JJ (s:SchemaR) (hs:SB s) (m:Int) (hL:Gx (aW s)):ar Tryz.prog 45 [.rp (bM s m),.fn 48 [.np,.rp (bM s m)]] (.i .i64 (eA s.defs (aW s))) :=
 ah aa Tryz.func45 rfl Tryz.call45 Tryz.results45 Tryz.ntmps45 (Nat.le_of_ble_eq_true rfl) (Ss s hs m hL)
end
end Go.Proofs.YtiijpgmpnijidaaGreatDoor
end
section
namespace Go.Proofs.YtiijpgmpnijidaaGreatDoor
open Go Go.SX Go.Ck Go.Vl Go.Ut Go.Ty
set_option maxRecDepth 100000
set_option maxHeartbeats 4000000
theorem nt {l:List az}:∀ (ps:List bD) (m:Int),m<=200->(scan l ps m).1 = 0->(∀ p ∈ ps,eP l p.t = 0/\p.bT < 20)/\m + ps.length<=200:=by
 intro ps
 induction ps with
 | nil=>intro m h _; exact ⟨fun _ h=>(nomatch h),by show m + 0<=200; omega⟩
 | cons p r ih =>
  intro m hm h
  rw [scan] at h
  by_cases c:eB l p m≠0
  ·rw [if_pos c] at h
   exact absurd h c
  ·rw [if_neg c] at h
   have c:eB l p m = 0:=by omega
   unfold eB at c
   split at c
   ·cases c
   ·split at c
    ·cases c
    ·rename_i h1 h2
     obtain ⟨g1,g2⟩:=ih (m + 1) (by omega) h
     refine ⟨fun q hq=>?_,by rw [List.length_cons]; omega⟩
     rcases List.mem_cons.1 hq with rfl | hq
     ·exact ⟨c,by omega⟩
     ·exact g1 q hq
theorem O8 {l:List az}:∀ (k:Nat) (t:ab),SizeOf.sizeOf t < k->∀ a,(∀ p ∈ bK t a,eP l p.t = 0)->CT l t:=by
 intro k
 induction k with
 | zero=>intro t h; exact absurd h (Nat.not_lt_zero _)
 | succ k ih =>
  intro t h a hp
  have h0:eP l t = 0:=hp ⟨t,a⟩ (by rw [dD]; exact List.mem_cons_self ..)
  unfold eP at h0
  split at h0
  ·cases h0
  rename_i c1
  have c1:dN t:=Decidable.not_not.1 c1
  refine CT.mk t c1.1 (fun hk=>?_) fun x hx=>ih x (by have:=bg hx; omega) (a + 1) fun p h2=>hp p (by rw [dD]; exact List.mem_cons_of_mem _ (List.mem_flatMap.2 ⟨x,hx,h2⟩))
  split at h0
  ·cases h0
  rw [if_neg (show ¬ t.kind = 7 by omega),if_neg (show ¬ t.kind = 10 by omega)] at h0
  split at h0
  ·cases h0
  ·omega
theorem GR (s:SchemaR):(aW s).length = bY s.defs [] + gK s.root:=by
 unfold aW bY gK
 rw [List.length_append,List.length_flatMap,mI]
theorem J8 {s:SchemaR} (hd:∀ d ∈ s.defs,TB d.t) (hr:TB s.root) (hl:s.defs.length<=1000) (h:(scan s.defs (aW s) 0).1 = 0):SB s/\Gx (aW s):=by
 obtain ⟨h1,h2⟩:=nt (aW s) 0 (by decide) h
 refine ⟨⟨fun d h3=>⟨O8 _ d.t (Nat.lt_succ_self _) 0 fun p hp=>(h1 p (List.mem_append_left _ (List.mem_flatMap.2 ⟨d,h3,hp⟩))).1,hd d h3⟩,⟨O8 _ s.root (Nat.lt_succ_self _) 0 fun p hp=>(h1 p (List.mem_append_right _ hp)).1,hr⟩,hl,?_⟩,fun p hp=>(h1 p hp).2⟩
 have:=GR s
 omega
noncomputable def rR (l:List az) (d:az):Bool:=met (bp l d.t).2 d.name
noncomputable def dn (s:SchemaR):Int :=
 if 50 < s.defs.length then 2 else iO (fy none (s.defs.map (·.name))) (iO (scan s.defs (aW s) 0).1 (if s.defs.any (rR s.defs) = true then 11 else eA s.defs (aW s)))
section
variable [G:Globs]
theorem Lk (hu:HasU8) (s:SchemaR) (hd:∀ d ∈ s.defs,TB d.t) (hr:TB s.root):vc Tryz.prog Γ 45 [1,2,3,4,5,7,10,14,21,28,31,32,33,34,39] (Tryz.f25.body.getD .skip) (aQ Γ [.tmp 2] (fun v=>v = .i .i64 (dn s))) ⟨ae 0 [.agg (aq s)],[]⟩:=by
 by_cases c1:50 < s.defs.length
 ·have hR:dn s = 2:=if_pos c1
  rw [hR]
  (repeat' (first | (refine iF (fun h=>?_) fun h=>?_)<;>try exact cX | refine bX ?_ | intro _))
  rfl
 have hR:dn s = iO (fy none (s.defs.map (·.name))) (iO (scan s.defs (aW s) 0).1 (if s.defs.any (rR s.defs) = true then 11 else eA s.defs (aW s))):=if_neg c1
 generalize dn s = R at hR ⊢
 have hN:=JW hu (s.defs.map (·.name)) 44 (aq s) (fun k hk=>by
  rw [List.length_map] at hk
  have h9:=JK s k hk
  have e:(s.defs.map (·.name)).getD k [] = (s.defs.getD k (aD .dfn)).name:=by
   rw [List.getD_eq_getElem?_getD,List.getD_eq_getElem?_getD,List.getElem?_map,List.getElem?_eq_getElem hk]
   rfl
  rw [e]
  exact h9) (by rw [List.length_map]; omega)
 rw [List.length_map] at hN
 have hA:=Ra hu s hd hr (by omega) 0 (by decide) (by decide)
 have hS:=yJ s.defs (aW s) 0 (by decide) (by decide)
 generalize fy none (s.defs.map (·.name)) = n at hN hR
 (repeat' (first | (refine iF (fun h=>?_) fun h=>?_)<;>try exact cX | refine bX ?_ | intro _))
 refine Or.inr (Or.inr (Or.inr (Or.inl (eX [1] (eX _ (aN (hN) ?_))))))
 by_cases c2:n = 0
 rotate_left
 ·rw [bE c2] at hR
  rw [hR]
  (repeat' (first | (refine iF (fun h=>?_) fun h=>?_)<;>try exact cX | refine bX ?_ | intro _))
  rfl
 rw [c2,aL] at hR
 rw [c2]
 (repeat' (first | (refine iF (fun h=>?_) fun h=>?_)<;>try exact cX | refine bX ?_ | intro _))
 refine Or.inr (Or.inl (eX [] (eX _ (eX _ (eX _ (eX _ (eX _ (eX [(1000,10)] (aN (hA) ?_)))))))))
 refine (aN rfl (aN rfl (aN rfl (aN rfl (aN rfl ?_)))))
 by_cases c3:(scan s.defs (aW s) 0).1 = 0
 rotate_left
 ·rw [bE c3] at hR
  rw [hR]
  (repeat' (first | (refine iF (fun h=>?_) fun h=>?_)<;>try exact cX | refine bX ?_ | intro _))
  rfl
 rw [c3,aL] at hR
 obtain ⟨hB,hL⟩:=J8 hd hr (by omega) c3
 rw [c3]
 generalize (scan s.defs (aW s) 0).2 = m at hS
 (repeat' (first | (refine iF (fun h=>?_) fun h=>?_)<;>try exact cX | refine bX ?_ | intro _))
 refine eX [] (eX [] (eX [] (eX Nat (eX (fun i=>i<=s.defs.length/\s.defs.any (rR s.defs) = (s.defs.drop i).any (rR s.defs)) (eX (fun | 0=>⟨[(3,.pt 10 0),(31,.rd .dfn s.defs),(32,.i .i64 s.defs.length),(33,.i .i64 ((0:Nat):Int))],[(10,bM s m)]⟩ | (j + 1)=>⟨[(3,.rp (bM s m)),(31,.rd .dfn s.defs),(32,.i .i64 s.defs.length),(33,.i .i64 ((j + 1:Nat):Int))],[]⟩) (eX (fun i=>s.defs.length - i) (eX 0 (aN ⟨Nat.zero_le _,rfl⟩ (aN ?_ ?_)))))))))
 ·exact wK
 rintro i ⟨hi,hI⟩
 cases i with
 | zero =>
  refine aN (fun hz=>?_) (fun hz=>?_)
  ·have hi:=gd hz
   have hg:=cB (τ:=.dfn) hi
   refine bN2 ?_
   rw [hg]
   have hx:=List.getElem_mem hi
   have hC:ar Tryz.prog 47 [.rp (bM s m),.agg (enc .dfn s.defs[0])] (.b (rR s.defs s.defs[0])):=Bg s hB m s.defs[0] (hB.defs _ hx).1 (hB.defs _ hx).2
   rw [List.drop_eq_getElem_cons hi,List.any_cons] at hI
   generalize rR s.defs s.defs[0] = q at hI hC
   (repeat' (first | (refine iF (fun h=>?_) fun h=>?_)<;>try exact cX | refine bX ?_ | intro _))
   refine Or.inr (Or.inr (Or.inr (Or.inl (eX [10] (eX _ (aN (hC) ?_))))))
   cases q with
   | true =>
    rw [hI,Bool.true_or,if_pos rfl] at hR
    rw [hR]
    (repeat' (first | (refine iF (fun h=>?_) fun h=>?_)<;>try exact cX | refine bX ?_ | intro _))
    rfl
   | false =>
    rw [Bool.false_or] at hI
    (repeat' (first | (refine iF (fun h=>?_) fun h=>?_)<;>try exact cX | refine bX ?_ | intro _))
    refine eX [] (eX (0 + 1) (aN ⟨hi,hI⟩ (aN ?_ ?_)))
    ·exact wK
    ·(exact Nat.sub_lt_sub_left (by omega) (by omega))
  ·(have hi:=ga hi hz)
   rw [List.drop_eq_nil_of_le (by omega)] at hI
   rw [hI,if_neg (by intro h; cases h)] at hR
   have hC:=JJ s hB m hL
   rw [<- hR] at hC
   (repeat' (first | (refine iF (fun h=>?_) fun h=>?_)<;>try exact cX | refine bX ?_ | intro _))
   refine Or.inr (Or.inr (Or.inr (Or.inl (eX [10] (eX _ (aN (hC) ?_))))))
   rfl
 | succ j =>
  refine aN (fun hz=>?_) (fun hz=>?_)
  ·have hi:=gd hz
   have hg:=cB (τ:=.dfn) hi
   refine bN2 ?_
   rw [hg]
   have hx:=List.getElem_mem hi
   have hC:ar Tryz.prog 47 [.rp (bM s m),.agg (enc .dfn s.defs[j + 1])] (.b (rR s.defs s.defs[j + 1])):=Bg s hB m s.defs[j + 1] (hB.defs _ hx).1 (hB.defs _ hx).2
   rw [List.drop_eq_getElem_cons hi,List.any_cons] at hI
   generalize rR s.defs s.defs[j + 1] = q at hI hC
   (repeat' (first | (refine iF (fun h=>?_) fun h=>?_)<;>try exact cX | refine bX ?_ | intro _))
   refine Or.inl (eX _ (aN (hC) ?_))
   cases q with
   | true =>
    rw [hI,Bool.true_or,if_pos rfl] at hR
    rw [hR]
    (repeat' (first | (refine iF (fun h=>?_) fun h=>?_)<;>try exact cX | refine bX ?_ | intro _))
    rfl
   | false =>
    rw [Bool.false_or] at hI
    (repeat' (first | (refine iF (fun h=>?_) fun h=>?_)<;>try exact cX | refine bX ?_ | intro _))
    refine eX [] (eX (j + 1 + 1) (aN ⟨hi,hI⟩ (aN ?_ ?_)))
    ·exact wK
    ·(exact Nat.sub_lt_sub_left (by omega) (by omega))
  ·(have hi:=ga hi hz)
   rw [List.drop_eq_nil_of_le (by omega)] at hI
   rw [hI,if_neg (by intro h; cases h)] at hR
   have hC:=JJ s hB m hL
   rw [<- hR] at hC
   (repeat' (first | (refine iF (fun h=>?_) fun h=>?_)<;>try exact cX | refine bX ?_ | intro _))
   refine Or.inl (eX _ (aN (hC) ?_))
   rfl
theorem J1 (hu:HasU8) (s:SchemaR) (hd:∀ d ∈ s.defs,TB d.t) (hr:TB s.root):ar Tryz.prog 25 [.agg (aq s)] (.i .i64 (dn s)) :=
 ah aa Tryz.func25 rfl Tryz.call25 Tryz.results25 Tryz.ntmps25 (Nat.le_of_ble_eq_true rfl) (Lk hu s hd hr)
end
end Go.Proofs.YtiijpgmpnijidaaGreatDoor
end
section
namespace Go.Proofs.YtiijpgmpnijidaaGreatDoor
open Go Go.SX Go.Ck Go.Vl Go.Ut Go.Ty
set_option maxRecDepth 100000
set_option maxHeartbeats 4000000
theorem Ho {s:SchemaR} (hd:∀ d ∈ s.defs,TB d.t) (hr:TB s.root) (h:dn s = 0):SB s/\Gx (aW s):=by
 unfold dn at h
 split at h
 ·cases h
 have h1:fy none (s.defs.map (·.name)) = 0:=Decidable.byContradiction fun c=>by rw [bE c] at h; exact c h
 rw [h1,aL] at h
 have h2:(scan s.defs (aW s) 0).1 = 0:=Decidable.byContradiction fun c=>by rw [bE c] at h; exact c h
 exact J8 hd hr (by omega) h2
def P1 (a:Int) (k:Nat):Bool:=bits .and .i64 (a.fdiv (2 ^ min k IntKind.i64.bits)) 1 == 1
section
variable [G:Globs]
end
end Go.Proofs.YtiijpgmpnijidaaGreatDoor
end
section
namespace Go.Proofs.YtiijpgmpnijidaaGreatDoor
open Go Go.SX Go.Ck Go.Vl Go.Ut Go.Ty
set_option maxRecDepth 100000
set_option maxHeartbeats 4000000
section
variable [G:Globs]
end
end Go.Proofs.YtiijpgmpnijidaaGreatDoor
end
section
namespace Go.Proofs.YtiijpgmpnijidaaGreatDoor
open Go Go.SX Go.Ck Go.Vl Go.Ut Go.Ty
set_option maxRecDepth 100000
set_option maxHeartbeats 4000000
inductive DN:ab->Prop
 | mk (t:ab):(∀ f ∈ t.f,VN 100000000 f.aD)->(∀ x ∈ Ty.inside t,DN x)->DN t
theorem DN.part {t:ab} (h:DN t):∀ x ∈ t.t,DN x:=by
 cases h with
 | mk _ _ h1=>exact fun x hx=>h1 x (List.mem_append_left _ hx)
theorem td {Q:ab->Prop} {f:ab->Go.Ty.Met->List ab × Go.Ty.Met}:∀ (r:List ab) (es:Go.Ty.Met),(∀ x ∈ r,∀ es,∀ y ∈ (f x es).1,Q y)->∀ y ∈ (br f r es).1,Q y
 | [],_,_,_,hy=>nomatch hy
 | x::r,es,h,y,hy=>by
  rcases List.mem_append.1 hy with hy | hy
  ·exact h x (List.mem_cons_self ..) es y hy
  ·exact td r _ (fun z hz=>h z (List.mem_cons_of_mem _ hz)) y hy
theorem Fh {l:List az} {Q:ab->Prop} (hl:∀ d ∈ l,CT l d.t/\Q d.t) (hQ:∀ t,Q t->∀ x ∈ t.t,Q x):∀ (k:Nat) (t:ab) (es:Go.Ty.Met),CT l t->Q t->∀ y ∈ (aI l k t es).1,Q y:=by
 intro k
 induction k with
 | zero=>intro t es _ _ y hy; exact nomatch hy
 | succ k ih =>
  intro t es ht hq y hy
  unfold aI at hy
  split at hy
  ·rename_i hk
   split at hy
   ·exact nomatch hy
   ·have h0:0<=cq l t.name:=by cases ht with | mk _ _ h _=>exact h hk
    obtain ⟨d,hd,_,e⟩:=dy h0
    exact ih _ _ (CT.bo (fun d hd=>(hl d hd).1) h0) (by rw [<- e]; exact (hl d hd).2) y hy
  ·split at hy
   ·exact td _ _ (fun x hx es=>ih x es (ht.part x hx) (hQ t hq x hx)) y hy
   ·obtain rfl:y = t:=by simpa using hy
    exact hq
section
variable [G:Globs]
end
end Go.Proofs.YtiijpgmpnijidaaGreatDoor
end
section
namespace Go.Proofs.YtiijpgmpnijidaaGreatDoor
open Go Go.SX Go.Ck Go.Vl Go.Ut Go.Ty
set_option maxRecDepth 100000
set_option maxHeartbeats 4000000
section
variable [G:Globs]
end
end Go.Proofs.YtiijpgmpnijidaaGreatDoor
end
section
namespace Go.Proofs.YtiijpgmpnijidaaGreatDoor
open Go Go.SX Go.Ck Go.Vl Go.Ut Go.Ty
set_option maxRecDepth 100000
set_option maxHeartbeats 4000000
section
variable [G:Globs]
end
end Go.Proofs.YtiijpgmpnijidaaGreatDoor
end
section
namespace Go.Proofs.YtiijpgmpnijidaaGreatDoor
open Go Go.SX Go.Ck Go.Vl Go.Ut Go.Ty
set_option maxRecDepth 100000
set_option maxHeartbeats 4000000
theorem qA:∀ a b:aH,(Op.bytesLess a b || a == b) = !Op.bytesLess b a
 | [],[]=>by simp [Op.bytesLess]
 | [],_::_=>by simp [Op.bytesLess]
 | _::_,[]=>by simp [Op.bytesLess]
 | x::a,y::b=>by
  have ih:=qA a b
  rw [Op.bytesLess,Op.bytesLess,List.cons_beq_cons]
  by_cases h:x = y
  ·subst h
   have h1:decide (x < x) = false:=decide_eq_false (UInt8.lt_irrefl x)
   rw [h1,beq_self_eq_true,Bool.false_or,Bool.true_and,Bool.true_and,Bool.false_or,Bool.true_and]
   exact ih
  ·have h1:(x == y) = false:=beq_eq_false_iff_ne.2 h
   have h2:(y == x) = false:=beq_eq_false_iff_ne.2 fun e=>h e.symm
   rw [h1,h2,Bool.false_and,Bool.false_and,Bool.or_false,Bool.or_false,Bool.false_and,Bool.or_false]
   by_cases h3:x < y
   ·rw [decide_eq_true h3,decide_eq_false (UInt8.lt_asymm h3)]
    rfl
   ·have h4 : y < x := by
     rcases UInt8.lt_or_lt_of_ne h with h5 | h5
     ·exact absurd h5 h3
     ·exact h5
    rw [decide_eq_false h3,decide_eq_true h4]
    rfl
section
variable [G:Globs]
theorem BI (s q:aH) (b:Bool):vc Tryz.prog Γ 20 [0,1,2,6,9,12,19] (Tryz.f32.body.getD .skip) (aQ Γ [.tmp 6] (fun v=>v = .i .i64 (dG (if b = true then none else some q) s))) ⟨ae 0 [.s s,.s q,.b b],[]⟩:=by
 by_cases c1:100 < s.length
 ·rw [fW c1]
  (repeat' (first | (refine iF (fun h=>?_) fun h=>?_)<;>try exact cX | refine bX ?_ | intro _))
  all_goals rfl
 by_cases c2:0<=bad s
 ·rw [hY c1 c2]
  (repeat' (first | (refine iF (fun h=>?_) fun h=>?_)<;>try exact cX | refine bX ?_ | intro _))
  refine Or.inl (eX _ (aN (il s) ?_))
  (repeat' (first | (refine iF (fun h=>?_) fun h=>?_)<;>try exact cX | refine bX ?_ | intro _))
  all_goals rfl
 have hk:dG (if b = true then none else some q) s = if b = true then 0 else if Op.bytesLess q s = true then 0 else 14:=by
  unfold dG
  rw [if_neg c1,if_neg c2]
  cases b<;>rfl
 rw [hk]
 have hf:=qA s q
 cases b with
 | true =>
  (repeat' (first | (refine iF (fun h=>?_) fun h=>?_)<;>try exact cX | refine bX ?_ | intro _))
  refine Or.inl (eX _ (aN (il s) ?_))
  (repeat' (first | (refine iF (fun h=>?_) fun h=>?_)<;>try exact cX | refine bX ?_ | intro _))
  all_goals rfl
 | false =>
  (repeat' (first | (refine iF (fun h=>?_) fun h=>?_)<;>try exact cX | refine bX ?_ | intro _))
  refine Or.inl (eX _ (aN (il s) ?_))
  cases hq:Op.bytesLess q s with
  | true =>
   rw [hq] at hf
   (repeat' (first | (refine iF (fun h=>?_) fun h=>?_)<;>try exact cX | refine bX ?_ | intro _))
   all_goals first | rfl | (exfalso; clear hk; simp_all; done)
  | false =>
   rw [hq] at hf
   (repeat' (first | (refine iF (fun h=>?_) fun h=>?_)<;>try exact cX | refine bX ?_ | intro _))
   all_goals first | rfl | (exfalso; clear hk; simp_all; done)
theorem rG (s q:aH) (b:Bool):ar Tryz.prog 32 [.s s,.s q,.b b] (.i .i64 (dG (if b = true then none else some q) s)) :=
 ah aa Tryz.func32 rfl Tryz.call32 Tryz.results32 Tryz.ntmps32 (Nat.le_of_ble_eq_true rfl) (BI s q b)
theorem OG (s:SchemaR) (n:aH) (hl:s.defs.length<=2000000):vc Tryz.prog Γ 21 [1,2,4,5,6,8,9,10,11,18] (Tryz.f56.body.getD .skip) (aQ Γ [.tmp 4] (fun v=>v = .i .i64 (cq s.defs n))) ⟨ae 0 [.agg (aq s),.s n],[]⟩:=by
 (repeat' (first | (refine iF (fun h=>?_) fun h=>?_)<;>try exact cX | refine bX ?_ | intro _))
 refine eX [] (eX [] (eX [] (eX Nat (eX (fun i=>i<=(s.defs).length/\(i<=s.defs.findIdx (fun d=>d.name == n))) (eX (fun i=>⟨[(1,.s n),(8,.rd .dfn s.defs),(9,.i .i64 s.defs.length),(10,.i .i64 i)],[]⟩) (eX (fun i=>(s.defs).length - i) (eX 0 (aN ⟨Nat.zero_le _,(Nat.zero_le _)⟩ (aN ?_ ?_)))))))))
 ·exact wK
 rintro i ⟨hi,hI⟩
 refine aN (fun hz=>?_) (fun hz=>?_)
 ·have hi:=gd hz
  have hg:=cB (τ:=.dfn) hi
  refine bN2 ?_
  rw [hg]
  cases hq:(s.defs[i].name == n) with
  | true =>
   have he:=D3 (q:=fun d=>d.name == n) hi hI hq
   have zd:s.defs[i].name = n:=eq_of_beq hq
   (repeat' (first | (refine iF (fun h=>?_) fun h=>?_)<;>try exact cX | refine bX ?_ | intro _))
   refine congrArg (AV.i .i64) ?_
   unfold cq
   rw [he,if_pos hi]
  | false =>
   have he:=Az (q:=fun d=>d.name == n) hi hI hq
   have zd:¬ s.defs[i].name = n:=ne_of_beq_false hq
   (repeat' (first | (refine iF (fun h=>?_) fun h=>?_)<;>try exact cX | refine bX ?_ | intro _))
   refine eX [] (eX (_ + 1) (aN ⟨hi,he⟩ (aN ?_ ?_)))
   ·exact wK
   ·(exact Nat.sub_lt_sub_left (by omega) (by omega))
 ·(have hi:=ga hi hz)
  refine congrArg (AV.i .i64) ?_
  unfold cq
  rw [if_neg (by omega)]
theorem Ew (s:SchemaR) (n:aH) (hl:s.defs.length<=2000000):ar Tryz.prog 56 [.agg (aq s),.s n] (.i .i64 (cq s.defs n)) :=
 ah aa Tryz.func56 rfl Tryz.call56 Tryz.results56 Tryz.ntmps56 (Nat.le_of_ble_eq_true rfl) (OG s n hl)
theorem Gu (t:ab) (ht:t.t.length<=2000000) (hf:t.f.length<=2000000):vc Tryz.prog Γ 23 [1,2,3,5,10,11,12,13] (Tryz.f24.body.getD .skip) (yz (τ:=.typ) Γ [.tmp 2] 1000 (Ty.inside t) []) ⟨ae 0 [.agg (encTyp t)],[]⟩:=by
 (repeat' (first | (refine iF (fun h=>?_) fun h=>?_)<;>try exact cX | refine bX ?_ | intro _))
 refine aN (show t.t.length * 112<=140737488355328 by omega) ?_
 (repeat' (first | (refine iF (fun h=>?_) fun h=>?_)<;>try exact cX | refine bX ?_ | intro _))
 refine eX [] (eX [] (eX [] (eX Nat (eX (fun i=>i<=(t.f).length/\(0<=i)) (eX (fun i=>⟨[(3,.vec 8 .typ (pr t i)),(10,.rd .eJ t.f),(11,.i .i64 t.f.length),(12,.i .i64 i)],[]⟩) (eX (fun i=>(t.f).length - i) (eX 0 (aN ⟨Nat.zero_le _,(Nat.zero_le _)⟩ (aN ?_ ?_)))))))))
 ·exact wK
 rintro i ⟨hi,hI⟩
 refine aN (fun hz=>?_) (fun hz=>?_)
 ·have hi:=gd hz
  have hg:=cB (τ:=.eJ) hi
  refine bN2 ?_
  rw [hg]
  have hn:=Ax t i
  have hs:=qy hi
  (repeat' (first | (refine iF (fun h=>?_) fun h=>?_)<;>try exact cX | refine bX ?_ | intro _))
  refine aN (show ((pr t i).length + 1) * 112<=140737488355328 by omega) ?_
  (repeat' (first | (refine iF (fun h=>?_) fun h=>?_)<;>try exact cX | refine bX ?_ | intro _))
  refine eX [(20,8)] (eX (_ + 1) (aN ⟨hi,Nat.zero_le _⟩ (aN ?_ ?_)))
  ·dsimp only
   rw [hs,zJ]
   exact wK
  ·(exact Nat.sub_lt_sub_left (by omega) (by omega))
 ·(have hi:=ga hi hz)
  have he:pr t i = Ty.inside t:=Aw hi
  rw [he]
  refine Or.inl ?_
  refine eX [(8,1000)] (aN rfl wK)
theorem Gf (t:ab) (ht:t.t.length<=2000000) (hf:t.f.length<=2000000):bx Tryz.prog 24 [.agg (encTyp t)] [] (.vec 1000 .typ (Ty.inside t)) [] :=
 lh aa Tryz.func24 rfl Tryz.call24 Tryz.results24 Tryz.ntmps24 (Nat.le_of_ble_eq_true rfl) (Nat.le_of_ble_eq_true rfl) (by rfl) (by rfl) (Gu t ht hf)
end
end Go.Proofs.YtiijpgmpnijidaaGreatDoor
end
section
namespace Go.Proofs.YtiijpgmpnijidaaGreatDoor
open Go Go.SX Go.Ck Go.Vl Go.Ut Go.Ty
set_option maxRecDepth 100000
set_option maxHeartbeats 4000000
def bC (a k:Int):Bool:=if k<=3 then a == 1 || a == k + 2 else if k = 4 then a == 1 || (a == 6 || a == 7) else if k = 5 then a == 1 || a == 8 else a == 1 || (a == 9 || a == 10)
section
variable [G:Globs]
theorem OX (t:ab) (k:Int) (h0:0<=k) (h1:k<=6):vc Tryz.prog Γ 63 [1,2,4,5,6,23,38,48] (Tryz.f35.body.getD .skip) (aQ Γ [.tmp 4] (fun v=>v = .b (bC t.kind k))) ⟨ae 0 [.agg (encTyp t),.i .i64 k],[]⟩:=by
 have hk:k = 0\/k = 1\/k = 2\/k = 3\/k = 4\/k = 5\/k = 6:=by omega
 rcases hk with rfl | rfl | rfl | rfl | rfl | rfl | rfl
 ·by_cases c1:t.kind = 1
  ·have hr:bC t.kind 0 = true:=by rw [c1]; rfl
   rw [hr]
   (repeat' (first | (refine iF (fun h=>?_) fun h=>?_)<;>try exact cX | refine bX ?_ | intro _))
   refine eX [.fZ [0,1,2,3,4,5,6,7,8,9,10,11,12] [17]] (aN (by kernel_rfl) ?_)
   (repeat' (first | (refine iF (fun h=>?_) fun h=>?_)<;>try exact cX | refine bX ?_ | intro _))
   all_goals rfl
  by_cases c2:t.kind = 2
  ·have hr:bC t.kind 0 = true:=by rw [c2]; rfl
   rw [hr]
   (repeat' (first | (refine iF (fun h=>?_) fun h=>?_)<;>try exact cX | refine bX ?_ | intro _))
   refine eX [.fZ [0,1,2,3,4,5,6,7,8,9,10,11,12] [17]] (aN (by kernel_rfl) ?_)
   (repeat' (first | (refine iF (fun h=>?_) fun h=>?_)<;>try exact cX | refine bX ?_ | intro _))
   refine aN (aN (show (0:Int)<=0 by decide) (show (0:Int) < 4 by decide)) ?_
   (repeat' (first | (refine iF (fun h=>?_) fun h=>?_)<;>try exact cX | refine bX ?_ | intro _))
   refine congrArg AV.b ?_
   show (t.kind == 2) = true
   exact beq_iff_eq.2 c2
  have hr:bC t.kind 0 = false:=by
   show (t.kind == 1 || t.kind == 2) = false
   rw [beq_eq_false_iff_ne.2 c1,beq_eq_false_iff_ne.2 c2]
   rfl
  rw [hr]
  (repeat' (first | (refine iF (fun h=>?_) fun h=>?_)<;>try exact cX | refine bX ?_ | intro _))
  refine eX [.fZ [0,1,2,3,4,5,6,7,8,9,10,11,12] [17]] (aN (by kernel_rfl) ?_)
  (repeat' (first | (refine iF (fun h=>?_) fun h=>?_)<;>try exact cX | refine bX ?_ | intro _))
  refine aN (aN (show (0:Int)<=0 by decide) (show (0:Int) < 4 by decide)) ?_
  (repeat' (first | (refine iF (fun h=>?_) fun h=>?_)<;>try exact cX | refine bX ?_ | intro _))
  refine congrArg AV.b ?_
  show (t.kind == 2) = false
  exact beq_eq_false_iff_ne.2 c2
 ·by_cases c1:t.kind = 1
  ·have hr:bC t.kind 1 = true:=by rw [c1]; rfl
   rw [hr]
   (repeat' (first | (refine iF (fun h=>?_) fun h=>?_)<;>try exact cX | refine bX ?_ | intro _))
   refine eX [.fZ [0,1,2,3,4,5,6,7,8,9,10,11,12] [17]] (aN (by kernel_rfl) ?_)
   (repeat' (first | (refine iF (fun h=>?_) fun h=>?_)<;>try exact cX | refine bX ?_ | intro _))
   all_goals rfl
  by_cases c3:t.kind = 3
  ·have hr:bC t.kind 1 = true:=by rw [c3]; rfl
   rw [hr]
   (repeat' (first | (refine iF (fun h=>?_) fun h=>?_)<;>try exact cX | refine bX ?_ | intro _))
   refine eX [.fZ [0,1,2,3,4,5,6,7,8,9,10,11,12] [17]] (aN (by kernel_rfl) ?_)
   (repeat' (first | (refine iF (fun h=>?_) fun h=>?_)<;>try exact cX | refine bX ?_ | intro _))
   refine aN (aN (show (0:Int)<=1 by decide) (show (1:Int) < 4 by decide)) ?_
   (repeat' (first | (refine iF (fun h=>?_) fun h=>?_)<;>try exact cX | refine bX ?_ | intro _))
   refine congrArg AV.b ?_
   show (t.kind == 3) = true
   exact beq_iff_eq.2 c3
  have hr:bC t.kind 1 = false:=by
   show (t.kind == 1 || t.kind == 3) = false
   rw [beq_eq_false_iff_ne.2 c1,beq_eq_false_iff_ne.2 c3]
   rfl
  rw [hr]
  (repeat' (first | (refine iF (fun h=>?_) fun h=>?_)<;>try exact cX | refine bX ?_ | intro _))
  refine eX [.fZ [0,1,2,3,4,5,6,7,8,9,10,11,12] [17]] (aN (by kernel_rfl) ?_)
  (repeat' (first | (refine iF (fun h=>?_) fun h=>?_)<;>try exact cX | refine bX ?_ | intro _))
  refine aN (aN (show (0:Int)<=1 by decide) (show (1:Int) < 4 by decide)) ?_
  (repeat' (first | (refine iF (fun h=>?_) fun h=>?_)<;>try exact cX | refine bX ?_ | intro _))
  refine congrArg AV.b ?_
  show (t.kind == 3) = false
  exact beq_eq_false_iff_ne.2 c3
 ·by_cases c1:t.kind = 1
  ·have hr:bC t.kind 2 = true:=by rw [c1]; rfl
   rw [hr]
   (repeat' (first | (refine iF (fun h=>?_) fun h=>?_)<;>try exact cX | refine bX ?_ | intro _))
   refine eX [.fZ [0,1,2,3,4,5,6,7,8,9,10,11,12] [17]] (aN (by kernel_rfl) ?_)
   (repeat' (first | (refine iF (fun h=>?_) fun h=>?_)<;>try exact cX | refine bX ?_ | intro _))
   all_goals rfl
  by_cases c4:t.kind = 4
  ·have hr:bC t.kind 2 = true:=by rw [c4]; rfl
   rw [hr]
   (repeat' (first | (refine iF (fun h=>?_) fun h=>?_)<;>try exact cX | refine bX ?_ | intro _))
   refine eX [.fZ [0,1,2,3,4,5,6,7,8,9,10,11,12] [17]] (aN (by kernel_rfl) ?_)
   (repeat' (first | (refine iF (fun h=>?_) fun h=>?_)<;>try exact cX | refine bX ?_ | intro _))
   refine aN (aN (show (0:Int)<=2 by decide) (show (2:Int) < 4 by decide)) ?_
   (repeat' (first | (refine iF (fun h=>?_) fun h=>?_)<;>try exact cX | refine bX ?_ | intro _))
   refine congrArg AV.b ?_
   show (t.kind == 4) = true
   exact beq_iff_eq.2 c4
  have hr:bC t.kind 2 = false:=by
   show (t.kind == 1 || t.kind == 4) = false
   rw [beq_eq_false_iff_ne.2 c1,beq_eq_false_iff_ne.2 c4]
   rfl
  rw [hr]
  (repeat' (first | (refine iF (fun h=>?_) fun h=>?_)<;>try exact cX | refine bX ?_ | intro _))
  refine eX [.fZ [0,1,2,3,4,5,6,7,8,9,10,11,12] [17]] (aN (by kernel_rfl) ?_)
  (repeat' (first | (refine iF (fun h=>?_) fun h=>?_)<;>try exact cX | refine bX ?_ | intro _))
  refine aN (aN (show (0:Int)<=2 by decide) (show (2:Int) < 4 by decide)) ?_
  (repeat' (first | (refine iF (fun h=>?_) fun h=>?_)<;>try exact cX | refine bX ?_ | intro _))
  refine congrArg AV.b ?_
  show (t.kind == 4) = false
  exact beq_eq_false_iff_ne.2 c4
 ·by_cases c1:t.kind = 1
  ·have hr:bC t.kind 3 = true:=by rw [c1]; rfl
   rw [hr]
   (repeat' (first | (refine iF (fun h=>?_) fun h=>?_)<;>try exact cX | refine bX ?_ | intro _))
   refine eX [.fZ [0,1,2,3,4,5,6,7,8,9,10,11,12] [17]] (aN (by kernel_rfl) ?_)
   (repeat' (first | (refine iF (fun h=>?_) fun h=>?_)<;>try exact cX | refine bX ?_ | intro _))
   all_goals rfl
  by_cases c5:t.kind = 5
  ·have hr:bC t.kind 3 = true:=by rw [c5]; rfl
   rw [hr]
   (repeat' (first | (refine iF (fun h=>?_) fun h=>?_)<;>try exact cX | refine bX ?_ | intro _))
   refine eX [.fZ [0,1,2,3,4,5,6,7,8,9,10,11,12] [17]] (aN (by kernel_rfl) ?_)
   (repeat' (first | (refine iF (fun h=>?_) fun h=>?_)<;>try exact cX | refine bX ?_ | intro _))
   refine aN (aN (show (0:Int)<=3 by decide) (show (3:Int) < 4 by decide)) ?_
   (repeat' (first | (refine iF (fun h=>?_) fun h=>?_)<;>try exact cX | refine bX ?_ | intro _))
   refine congrArg AV.b ?_
   show (t.kind == 5) = true
   exact beq_iff_eq.2 c5
  have hr:bC t.kind 3 = false:=by
   show (t.kind == 1 || t.kind == 5) = false
   rw [beq_eq_false_iff_ne.2 c1,beq_eq_false_iff_ne.2 c5]
   rfl
  rw [hr]
  (repeat' (first | (refine iF (fun h=>?_) fun h=>?_)<;>try exact cX | refine bX ?_ | intro _))
  refine eX [.fZ [0,1,2,3,4,5,6,7,8,9,10,11,12] [17]] (aN (by kernel_rfl) ?_)
  (repeat' (first | (refine iF (fun h=>?_) fun h=>?_)<;>try exact cX | refine bX ?_ | intro _))
  refine aN (aN (show (0:Int)<=3 by decide) (show (3:Int) < 4 by decide)) ?_
  (repeat' (first | (refine iF (fun h=>?_) fun h=>?_)<;>try exact cX | refine bX ?_ | intro _))
  refine congrArg AV.b ?_
  show (t.kind == 5) = false
  exact beq_eq_false_iff_ne.2 c5
 ·by_cases c1:t.kind = 1
  ·have hr:bC t.kind 4 = true:=by rw [c1]; rfl
   rw [hr]
   (repeat' (first | (refine iF (fun h=>?_) fun h=>?_)<;>try exact cX | refine bX ?_ | intro _))
   all_goals rfl
  by_cases c6:t.kind = 6
  ·have hr:bC t.kind 4 = true:=by rw [c6]; rfl
   rw [hr]
   (repeat' (first | (refine iF (fun h=>?_) fun h=>?_)<;>try exact cX | refine bX ?_ | intro _))
   all_goals rfl
  by_cases c7:t.kind = 7
  ·have hr:bC t.kind 4 = true:=by rw [c7]; rfl
   rw [hr]
   (repeat' (first | (refine iF (fun h=>?_) fun h=>?_)<;>try exact cX | refine bX ?_ | intro _))
   show AV.b (t.kind == 7) = AV.b true
   rw [beq_iff_eq.2 c7]
  have hr:bC t.kind 4 = false:=by
   show (t.kind == 1 || (t.kind == 6 || t.kind == 7)) = false
   rw [beq_eq_false_iff_ne.2 c1,beq_eq_false_iff_ne.2 c6,beq_eq_false_iff_ne.2 c7]
   rfl
  rw [hr]
  (repeat' (first | (refine iF (fun h=>?_) fun h=>?_)<;>try exact cX | refine bX ?_ | intro _))
  show AV.b (t.kind == 7) = AV.b false
  rw [beq_eq_false_iff_ne.2 c7]
 ·by_cases c1:t.kind = 1
  ·have hr:bC t.kind 5 = true:=by rw [c1]; rfl
   rw [hr]
   (repeat' (first | (refine iF (fun h=>?_) fun h=>?_)<;>try exact cX | refine bX ?_ | intro _))
   all_goals rfl
  by_cases c8:t.kind = 8
  ·have hr:bC t.kind 5 = true:=by rw [c8]; rfl
   rw [hr]
   (repeat' (first | (refine iF (fun h=>?_) fun h=>?_)<;>try exact cX | refine bX ?_ | intro _))
   show AV.b (t.kind == 8) = AV.b true
   rw [beq_iff_eq.2 c8]
  have hr:bC t.kind 5 = false:=by
   show (t.kind == 1 || t.kind == 8) = false
   rw [beq_eq_false_iff_ne.2 c1,beq_eq_false_iff_ne.2 c8]
   rfl
  rw [hr]
  (repeat' (first | (refine iF (fun h=>?_) fun h=>?_)<;>try exact cX | refine bX ?_ | intro _))
  show AV.b (t.kind == 8) = AV.b false
  rw [beq_eq_false_iff_ne.2 c8]
 ·by_cases c1:t.kind = 1
  ·have hr:bC t.kind 6 = true:=by rw [c1]; rfl
   rw [hr]
   (repeat' (first | (refine iF (fun h=>?_) fun h=>?_)<;>try exact cX | refine bX ?_ | intro _))
   all_goals rfl
  by_cases c9:t.kind = 9
  ·have hr:bC t.kind 6 = true:=by rw [c9]; rfl
   rw [hr]
   (repeat' (first | (refine iF (fun h=>?_) fun h=>?_)<;>try exact cX | refine bX ?_ | intro _))
   all_goals rfl
  by_cases c10:t.kind = 10
  ·have hr:bC t.kind 6 = true:=by rw [c10]; rfl
   rw [hr]
   (repeat' (first | (refine iF (fun h=>?_) fun h=>?_)<;>try exact cX | refine bX ?_ | intro _))
   show AV.b (t.kind == 10) = AV.b true
   rw [beq_iff_eq.2 c10]
  have hr:bC t.kind 6 = false:=by
   show (t.kind == 1 || (t.kind == 9 || t.kind == 10)) = false
   rw [beq_eq_false_iff_ne.2 c1,beq_eq_false_iff_ne.2 c9,beq_eq_false_iff_ne.2 c10]
   rfl
  rw [hr]
  (repeat' (first | (refine iF (fun h=>?_) fun h=>?_)<;>try exact cX | refine bX ?_ | intro _))
  show AV.b (t.kind == 10) = AV.b false
  rw [beq_eq_false_iff_ne.2 c10]
theorem EA (t:ab) (k:Int) (h0:0<=k) (h1:k<=6):ar Tryz.prog 35 [.agg (encTyp t),.i .i64 k] (.b (bC t.kind k)) :=
 ah aa Tryz.func35 rfl Tryz.call35 Tryz.results35 Tryz.ntmps35 (Nat.le_of_ble_eq_true rfl) (OX t k h0 h1)
end
end Go.Proofs.YtiijpgmpnijidaaGreatDoor
end
section
namespace Go.Proofs.YtiijpgmpnijidaaGreatDoor
open Go Go.SX Go.Ck Go.Vl Go.Ut Go.Ty
set_option maxRecDepth 100000
set_option maxHeartbeats 4000000
theorem nj {a:Nat} (h:a < 128):(BitVec.ofInt 64 (a:Int)).toNat = a:=by
 rw [BitVec.toNat_ofInt]
 omega
theorem I9 {a b:Nat} (ha:a < 128) (hb:b < 128):bits .or .i64 (a:Int) (b:Int) = ((a ||| b:Nat):Int)/\a ||| b < 128:=by
 have h:a ||| b < 2 ^ 7:=Nat.or_lt_two_pow (n:=7) ha hb
 refine ⟨?_,h⟩
 show IntKind.i64.wrap ((BitVec.ofInt 64 (a:Int) ||| BitVec.ofInt 64 (b:Int)).toNat:Nat) = _
 rw [BitVec.toNat_or,nj ha,nj hb,IntKind.wrap_i64]
 generalize a ||| b = c at h ⊢
 omega
theorem Dm {a b:Nat} (ha:a < 128) (hb:b < 128):bits .and .i64 (a:Int) (b:Int) = ((a &&& b:Nat):Int)/\a &&& b < 128:=by
 have h:a &&& b < 2 ^ 7:=Nat.and_lt_two_pow (n:=7) a hb
 refine ⟨?_,h⟩
 show IntKind.i64.wrap ((BitVec.ofInt 64 (a:Int) &&& BitVec.ofInt 64 (b:Int)).toNat:Nat) = _
 rw [BitVec.toNat_and,nj ha,nj hb,IntKind.wrap_i64]
 generalize a &&& b = c at h ⊢
 omega
def kN (k:Int):Nat:=(ly k).toNat
theorem ub {k:Int} (h:1<=k/\k<=10):ly k = (kN k:Nat)/\kN k < 128/\∀ j,j < 7->(kN k).testBit j = bC k (j:Int):=by
 have hk:k = 1\/k = 2\/k = 3\/k = 4\/k = 5\/k = 6\/k = 7\/k = 8\/k = 9\/k = 10:=by omega
 rcases hk with rfl | rfl | rfl | rfl | rfl | rfl | rfl | rfl | rfl | rfl<;>exact ⟨by decide,by decide,by decide⟩
def Q0 (a:Nat) (l:List ab):Nat:=l.foldl (fun a t=>a ||| kN t.kind) a
theorem Ek:∀ (l:List ab),(∀ y ∈ l,lx y)->∀ a:Nat,a < 128->ze (a:Int) l = (Q0 a l:Nat)/\Q0 a l < 128/\∀ j,j < 7->(Q0 a l).testBit j = (a.testBit j || l.any fun y=>bC y.kind (j:Int))
 | [],_,a,ha=>⟨rfl,ha,fun j _=>by rw [List.any_nil,Bool.or_false]; rfl⟩
 | x::r,h,a,ha=>by
  obtain ⟨h1,h2,h3⟩:=ub (h x (List.mem_cons_self ..))
  have h4:=I9 ha h2
  obtain ⟨g1,g2,g3⟩:=Ek r (fun y hy=>h y (List.mem_cons_of_mem _ hy)) (a ||| kN x.kind) h4.2
  refine ⟨?_,g2,fun j hj=>?_⟩
  ·show ze (bits .or .i64 (a:Int) (ly x.kind)) r = _
   rw [h1,h4.1]
   exact g1
  ·show (Q0 (a ||| kN x.kind) r).testBit j = _
   rw [g3 j hj,Nat.testBit_or,h3 j hj,List.any_cons,Bool.or_assoc]
theorem G0 {a:Nat} (ha:a < 128) {j:Nat} (hj:j < 7):P1 (a:Int) j = a.testBit j:=by
 unfold P1
 have e:min j IntKind.i64.bits = j:=Nat.min_eq_left (show j<=64 by omega)
 have e2:((a:Int).fdiv (2 ^ j)) = ((a / 2 ^ j:Nat):Int):=by
  rw [Int.fdiv_eq_ediv_of_nonneg _ (Int.le_of_lt (Int.pow_pos (by decide))),Int.natCast_ediv,Int.natCast_pow]
  rfl
 have h2:a / 2 ^ j < 128:=Nat.lt_of_le_of_lt (Nat.div_le_self _ _) ha
 rw [e,e2,show (1:Int) = ((1:Nat):Int) from rfl,(Dm h2 (by decide)).1,Nat.and_one_is_mod,Nat.testBit_eq_decide_div_mod_eq]
 generalize a / 2 ^ j % 2 = c
 by_cases h:c = 1
 ·rw [h]; rfl
 ·rw [decide_eq_false h,beq_eq_false_iff_ne]
  omega
noncomputable def tl (l:List az) (x:ab) (j:Nat):Bool:=(bp l x).1.any fun y=>bC y.kind (j:Int)
theorem Dy {l:List az}:∀ (L:List ab),(∀ x ∈ L,∀ y ∈ (bp l x).1,lx y)->∀ A:Nat,A < 128->(Ls l (A:Int) L = 13/\∃ j,j < 7/\1 < (if A.testBit j = true then 1 else 0) + L.countP (fun x=>tl l x j))\/(Ls l (A:Int) L = 0/\∀ j,j < 7->(if A.testBit j = true then 1 else 0) + L.countP (fun x=>tl l x j)<=1)
 | [],_,A,_=>.inr ⟨rfl,fun j _=>by rw [List.countP_nil]; split<;>omega⟩
 | x::r,h,A,hA=>by
  obtain ⟨h1,h2,h3⟩:=Ek (bp l x).1 (h x (List.mem_cons_self ..)) 0 (by decide)
  have hb:∀ j,j < 7->(Q0 0 (bp l x).1).testBit j = tl l x j:=fun j hj=>by rw [h3 j hj,Nat.zero_testBit,Bool.false_or]; rfl
  have h1:ze 0 (bp l x).1 = (Q0 0 (bp l x).1:Nat):=h1
  rw [Ls,h1]
  generalize Q0 0 (bp l x).1 = B at h1 h2 h3 hb
  obtain ⟨a1,a2⟩:=Dm hA h2
  obtain ⟨o1,o2⟩:=I9 hA h2
  rw [a1,o1]
  by_cases c:A &&& B = 0
  ·rw [if_neg (by rw [c]; decide)]
   have oG:∀ j,A.testBit j = true->B.testBit j = true->False:=fun j p q=>by
    have:(A &&& B).testBit j = true:=by rw [Nat.testBit_and,p,q]; rfl
    rw [c,Nat.zero_testBit] at this
    cases this
   have key:∀ j,j < 7->(if (A ||| B).testBit j = true then 1 else 0) + r.countP (fun x=>tl l x j) = (if A.testBit j = true then 1 else 0) + (x::r).countP (fun x=>tl l x j):=fun j hj=>by
    rw [List.countP_cons,Nat.testBit_or,<- hb j hj]
    cases p:A.testBit j with
    | true =>
     cases q:B.testBit j with
     | true=>exact (oG j p q).elim
     | false=>simp
    | false =>
     cases q:B.testBit j with
     | true=>simp; omega
     | false=>simp
   rcases Dy r (fun y hy=>h y (List.mem_cons_of_mem _ hy)) (A ||| B) o2 with ⟨g1,j,hj,g2⟩ | ⟨g1,g2⟩
   ·exact .inl ⟨g1,j,hj,by rw [<- key j hj]; exact g2⟩
   ·exact .inr ⟨g1,fun j hj=>by rw [<- key j hj]; exact g2 j hj⟩
  ·rw [if_pos (by omega)]
   obtain ⟨j,hj⟩:=Nat.exists_testBit_of_ne_zero c
   rw [Nat.testBit_and,Bool.and_eq_true] at hj
   have YQ:j < 7:=by
    refine Nat.lt_of_not_le fun h7=>?_
    have:=Nat.testBit_lt_two_pow (x:=A) (i:=j) (Nat.lt_of_lt_of_le hA (Nat.pow_le_pow_right (n:=2) (by decide) h7))
    rw [hj.1] at this
    cases this
   refine .inl ⟨rfl,j,YQ,?_⟩
   rw [List.countP_cons,<- hb j YQ,if_pos hj.1,if_pos hj.2]
   omega
noncomputable def Fi (l:List az) (t:ab):Bool:=decide (t.kind = 11) && (List.range 7).any fun j=>decide (1 < t.t.countP fun x=>tl l x j)
theorem B8 {l:List az} (hl:∀ d ∈ l,CT l d.t) {t:ab} (ht:CT l t):jC l t = if Fi l t = true then 13 else 0:=by
 unfold jC Fi
 by_cases c:t.kind = 11
 ·rw [if_pos c,decide_eq_true c,Bool.true_and]
  rcases Dy (l:=l) t.t (fun x hx y hy=>ql hl _ x [] (ht.part x hx) y hy) 0 (by decide) with ⟨g1,j,hj,g2⟩ | ⟨g1,g2⟩
  ·rw [Nat.zero_testBit] at g2
   have:((List.range 7).any fun j=>decide (1 < t.t.countP fun x=>tl l x j)) = true:=List.any_eq_true.2 ⟨j,List.mem_range.2 hj,decide_eq_true (by simpa using g2)⟩
   rw [this,if_pos rfl]
   exact g1
  ·have : ((List.range 7).any fun j => decide (1 < t.t.countP fun x => tl l x j)) = false := by
    rw [List.any_eq_false]
    intro j hj
    have:=g2 j (List.mem_range.1 hj)
    rw [Nat.zero_testBit] at this
    simp at this ⊢
    exact this
   rw [this,if_neg (by decide)]
   exact g1
 ·rw [if_neg c,decide_eq_false c,Bool.false_and,if_neg (by decide)]
theorem s7 {l:List az} (hl:∀ d ∈ l,CT l d.t):∀ ps:List bD,(∀ p ∈ ps,CT l p.t)->eA l ps = if (ps.any fun p=>Fi l p.t) = true then 13 else 0
 | [],_=>by rw [eA,List.any_nil,if_neg (by decide)]
 | p::r,h=>by
  rw [eA,B8 hl (h p (List.mem_cons_self ..)),List.any_cons,s7 hl r fun q hq=>h q (List.mem_cons_of_mem _ hq)]
  cases Fi l p.t with
  | true=>simp
  | false=>simp
theorem Hu {l:List az}:∀ (k:Nat) (t:ab),SizeOf.sizeOf t < k->CT l t->∀ a,∀ p ∈ bK t a,CT l p.t:=by
 intro k
 induction k with
 | zero=>intro t h; exact absurd h (Nat.not_lt_zero _)
 | succ k ih =>
  intro t h ht a p hp
  rw [dD] at hp
  rcases List.mem_cons.1 hp with rfl | hp
  ·exact ht
  ·obtain ⟨x,hx,hp⟩:=List.mem_flatMap.1 hp
   exact ih x (by have:=bg hx; omega) (CT.inside ht x hx) _ p hp
theorem xV {s:SchemaR} (hs:SB s):∀ p ∈ aW s,CT s.defs p.t:=by
 intro p hp
 unfold aW at hp
 rcases List.mem_append.1 hp with hp | hp
 ·obtain ⟨d,hd,hp⟩:=List.mem_flatMap.1 hp
  exact Hu _ d.t (Nat.lt_succ_self _) (hs.defs d hd).1 _ p hp
 ·exact Hu _ s.root (Nat.lt_succ_self _) hs.root.1 _ p hp
end Go.Proofs.YtiijpgmpnijidaaGreatDoor
end
section
namespace Go.Proofs.YtiijpgmpnijidaaGreatDoor
open Go Go.SX Go.Ck Go.Vl Go.Ut Go.Ty
set_option maxRecDepth 100000
set_option maxHeartbeats 4000000
theorem HE (x:ab) (a:Int):(⟨⟨x.kind,x.lo,x.hi,x.texts,x.t,x.f,x.name⟩,a⟩:bD) = ⟨x,a⟩:=by cases x; rfl
def GK (l:List az):List bD:=l.map fun d=>⟨d.t,0⟩
theorem Je {l:List az} {i:Nat} (h:i < l.length):GK (l.take (i + 1)) = GK (l.take i)++[⟨l[i].t,0⟩]:=by
 unfold GK
 rw [List.take_add_one,List.getElem?_eq_getElem h,List.map_append]
 rfl
theorem ET (s:SchemaR):aW s = tD (GK s.defs++[⟨s.root,0⟩]):=by
 unfold aW tD GK
 rw [List.flatMap_append,List.flatMap_map,List.flatMap_singleton]
def kids (x:bD):List bD:=(Ty.inside x.t).map fun y=>⟨y,x.bT + 1⟩
theorem FF {x:bD} {i:Nat} (h:i < (Ty.inside x.t).length):((Ty.inside x.t).take (i + 1)).map (fun y=>(⟨y,x.bT + 1⟩:bD)) = ((Ty.inside x.t).take i).map (fun y=>(⟨y,x.bT + 1⟩:bD))++[⟨(Ty.inside x.t)[i],x.bT + 1⟩]:=by
 rw [List.take_add_one,List.getElem?_eq_getElem h,List.map_append]
 rfl
section
variable [G:Globs]
theorem SE (s:SchemaR) (hd:∀ d ∈ s.defs,TB d.t) (hr:TB s.root) (hn:s.defs.length<=2000000):vc Tryz.prog Γ 78 [1,2,3,4,6,7,8,9,10,12,14,15,16,17,40,58,59,60,61] (Tryz.f12.body.getD .skip) (aQ Γ [.tmp 2,.tmp 3] (fun v=>v = .bc [.rd .typ (((aW s).take 201).map (·.t)),.rd .int (((aW s).take 201).map (·.bT))])) ⟨ae 0 [.agg (aq s)],[]⟩:=by
 have hA:=ET s
 generalize aW s = A at hA ⊢
 (repeat' (first | (refine iF (fun h=>?_) fun h=>?_)<;>try exact cX | refine bX ?_ | intro _))
 refine eX [(4,4,.fK)] (eX [] (eX [] (eX Nat (eX (fun i=>i<=(s.defs).length) (eX (fun i=>⟨[(1,.pt 1 0),(4,.vec 4 .fK (GK (s.defs.take i))),(14,.rd .dfn s.defs),(15,.i .i64 s.defs.length),(16,.i .i64 i)],[(1,aq s)]⟩) (eX (fun i=>(s.defs).length - i) (eX 0 (aN (Nat.zero_le _) (aN ?_ ?_)))))))))
 ·exact wK
 rintro i hi
 refine aN (fun hz=>?_) (fun hz=>?_)
 ·have hi:=gd hz
  have hg:=cB (τ:=.dfn) hi
  refine bN2 ?_
  rw [hg]
  (repeat' (first | (refine iF (fun h=>?_) fun h=>?_)<;>try exact cX | refine bX ?_ | intro _))
  refine aN (show ((GK (s.defs.take i)).length + 1) * 120<=140737488355328 by unfold GK; rw [List.length_map,List.length_take]; omega) ?_
  (repeat' (first | (refine iF (fun h=>?_) fun h=>?_)<;>try exact cX | refine bX ?_ | intro _))
  refine eX [(25,4)] (eX (i + 1) (aN hi (aN ?_ ?_)))
  ·dsimp only
   rw [HE,Je hi]
   exact wK
  ·(exact Nat.sub_lt_sub_left (by omega) (by omega))
 (have hi:=ga hi hz)
 subst hi
 rw [List.take_length]
 (repeat' (first | (refine iF (fun h=>?_) fun h=>?_)<;>try exact cX | refine bX ?_ | intro _))
 refine aN (show ((GK s.defs).length + 1) * 120<=140737488355328 by unfold GK; rw [List.length_map]; omega) ?_
 (repeat' (first | (refine iF (fun h=>?_) fun h=>?_)<;>try exact cX | refine bX ?_ | intro _))
 rw [HE]
 refine eX [(7,7,.typ),(8,8,.int)] (eX [] (eX [(32,4)] (eX (List bD × List bD) (eX (fun q=>q.2++tD q.1 = A/\q.2.length<=201/\q.1.length<=2000001 + 4000000 * q.2.length/\∀ p ∈ q.1,TB p.t/\0<=p.bT/\p.bT<=q.2.length) (eX (fun ⟨l,all⟩=>⟨[(4,.vec 4 .fK l),(7,.vec 7 .typ (all.map (·.t))),(8,.vec 8 .int (all.map (·.bT)))],[]⟩) (eX (fun q=>201 - q.2.length) (eX (GK s.defs++[(⟨s.root,0⟩:bD)],[]) (aN ⟨hA.symm,(by decide:0<=201),by unfold GK; simp only [List.length_append,List.length_map,List.length_cons,List.length_nil]; omega,fun p hp=>?_⟩ (aN ?_ ?_)))))))))
 ·rcases List.mem_append.1 hp with hp | hp
  ·obtain ⟨d,h1,rfl⟩:=List.mem_map.1 hp
   exact ⟨hd d h1,Int.le_refl _,Int.le_refl _⟩
  ·obtain rfl:=List.mem_singleton.1 hp
   exact ⟨hr,Int.le_refl _,Int.le_refl _⟩
 ·exact wK
 rintro ⟨l,all⟩ ⟨hI,zb,oa,hp⟩
 dsimp only at hI zb oa hp
 have fin:∀ h:l = []\/all.length = 201,(.bc [.rd .typ (all.map (·.t)),.rd .int (all.map (·.bT))]:AV) = .bc [.rd .typ ((A.take 201).map (·.t)),.rd .int ((A.take 201).map (·.bT))]:=fun h=>by rw [<- HT hI zb h]
 cases l with
 | nil =>
  (repeat' (first | (refine iF (fun h=>?_) fun h=>?_)<;>try exact cX | refine bX ?_ | intro _))
  all_goals exact fin (.inl rfl)
 | cons x r =>
  by_cases WD:all.length<=200
  rotate_left
  ·(repeat' (first | (refine iF (fun h=>?_) fun h=>?_)<;>try exact cX | refine bX ?_ | intro _))
   all_goals exact fin (.inr (by omega))
  obtain ⟨MQ,X6,At⟩:=hp x (List.mem_cons_self ..)
  rw [Cj] at hI
  have hW:=Gf x.t (by cases MQ; omega) (by cases MQ; omega)
  have ix:(Ty.inside x.t).length<=4000000:=by
   unfold Ty.inside
   rw [List.length_append,List.length_map]
   cases MQ
   omega
  rw [List.length_cons] at oa
  (repeat' (first | (refine iF (fun h=>?_) fun h=>?_)<;>try exact cX | refine bX ?_ | intro _))
  refine aN ⟨by decide,by rw [List.length_cons]; omega⟩ ?_
  (repeat' (first | (refine iF (fun h=>?_) fun h=>?_)<;>try exact cX | refine bX ?_ | intro _))
  refine aN ⟨by decide,by rw [List.length_cons]; omega⟩ ?_
  (repeat' (first | (refine iF (fun h=>?_) fun h=>?_)<;>try exact cX | refine bX ?_ | intro _))
  refine eX [.take 0,.take 1,.take 5,.take 6,.tree 5 [2,3,4,7,8] (.opt 2 (.opt 3 (.opt 4 (.opt 7 (.opt 8 .fin .aZ) .aZ) (.opt 7 (.opt 4 (.opt 8 .fin .aZ) (.opt 8 (.opt 4 .fin .aZ) .aZ)) .aZ)) (.opt 7 (.opt 3 (.opt 4 (.opt 8 .fin .aZ) (.opt 8 (.opt 4 .fin .aZ) .aZ)) (.opt 8 (.opt 3 (.opt 4 .fin .aZ) .aZ) .aZ)) .aZ)) (.opt 7 (.opt 2 (.opt 3 (.opt 4 (.opt 8 .fin .aZ) (.opt 8 (.opt 4 .fin .aZ) .aZ)) (.opt 8 (.opt 3 (.opt 4 .fin .aZ) .aZ) .aZ)) (.opt 8 (.opt 2 (.opt 3 (.opt 4 .fin .aZ) .aZ) .aZ) .aZ)) .aZ)),.one 9,.fZ [10,11]] (aN (by kernel_rfl) ?_)
  refine eX ⟨[(4,.vs 4 .fK (x::r) 1),(9,.pt 9 0),(50,.vec 50 .typ (all.map (·.t)++[⟨x.t.kind,x.t.lo,x.t.hi,x.t.texts,x.t.t,x.t.f,x.t.name⟩])),(51,.vec 8 .int (all.map (·.bT))),(54,.vec 54 .int [x.bT])],[(9,enc .fK x)]⟩ (aN ?_ ?_)
  ·repeat' (first | exact trivial | exact Or.inl rfl | (refine aN (Go.Ty.LG (by (try simp only [List.length_append,List.length_cons,List.length_nil,List.length_map,List.length_take,List.length_drop]); omega) (Nat.le_of_ble_eq_true rfl)) ?_) | intro _ | refine aN ?_ ?_)
  dsimp only
  rw [zJ]
  (repeat' (first | (refine iF (fun h=>?_) fun h=>?_)<;>try exact cX | refine bX ?_ | intro _))
  (refine aN (Go.Ty.LG (by (try simp only [List.length_append,List.length_cons,List.length_nil,List.length_map,List.length_take,List.length_drop]); omega) (Nat.le_of_ble_eq_true rfl)) ?_)
  refine Or.inr (Or.inl (eX [] (eX _ (eX _ (eX _ (eX _ (eX _ (eX [(1000,58)] (aN (hW) ?_)))))))))
  refine (aN rfl (aN rfl (aN rfl (aN rfl ?_))))
  (repeat' (first | (refine iF (fun h=>?_) fun h=>?_)<;>try exact cX | refine bX ?_ | intro _))
  refine eX [(10,10,.fK)] (eX [] (eX [(999,58)] (eX Nat (eX (fun i=>i<=((Ty.inside x.t)).length) (eX (fun i=>⟨[(4,.vs 4 .fK (x::r) 1),(7,.vec 50 .typ (all.map (·.t)++[x.t])),(8,.vec 55 .int (all.map (·.bT)++[x.bT])),(9,.pt 9 0),(10,.vec 10 .fK (((Ty.inside x.t).take i).map fun y=>⟨y,x.bT + 1⟩)),(58,.rd .typ (Ty.inside x.t)),(59,.i .i64 (Ty.inside x.t).length),(60,.i .i64 i)],[(9,enc .fK x)]⟩) (eX (fun i=>((Ty.inside x.t)).length - i) (eX 0 (aN (Nat.zero_le _) (aN ?_ ?_)))))))))
  ·exact wK
  rintro i hi
  refine aN (fun hz=>?_) (fun hz=>?_)
  ·have hi:=gd hz
   have hg:=cB (τ:=.typ) hi
   refine bN2 ?_
   rw [hg]
   (repeat' (first | (refine iF (fun h=>?_) fun h=>?_)<;>try exact cX | refine bX ?_ | intro _))
   (refine aN (Go.Ty.LG (by (try simp only [List.length_append,List.length_cons,List.length_nil,List.length_map,List.length_take,List.length_drop]); omega) (Nat.le_of_ble_eq_true rfl)) ?_)
   (repeat' (first | (refine iF (fun h=>?_) fun h=>?_)<;>try exact cX | refine bX ?_ | intro _))
   refine eX [(71,10)] (eX (i + 1) (aN hi (aN ?_ ?_)))
   ·dsimp only
    rw [HE,FF hi]
    exact wK
   ·(exact Nat.sub_lt_sub_left (by omega) (by omega))
  (have hi:=ga hi hz)
  subst hi
  rw [List.take_length]
  (repeat' (first | (refine iF (fun h=>?_) fun h=>?_)<;>try exact cX | refine bX ?_ | intro _))
  (refine aN (Go.Ty.LG (by (try simp only [List.length_append,List.length_cons,List.length_nil,List.length_map,List.length_take,List.length_drop]); omega) (Nat.le_of_ble_eq_true rfl)) ?_)
  (repeat' (first | (refine iF (fun h=>?_) fun h=>?_)<;>try exact cX | refine bX ?_ | intro _))
  refine eX [(75,4),(50,7),(55,8)] (eX (kids x++r,all++[x]) (aN ⟨?_,?_,?_,?_⟩ (aN ?_ ?_)))
  ·rw [List.append_assoc]
   exact hI
  ·rw [List.length_append]
   exact Nat.succ_le_succ WD
  ·show (kids x++r).length<=2000001 + 4000000 * (all++[x]).length
   unfold kids
   rw [List.length_append,List.length_map,List.length_append,List.length_cons,List.length_nil]
   omega
  ·intro p hq
   show TB p.t/\0<=p.bT/\p.bT<=((all++[x]).length:Nat)
   rw [List.length_append,List.length_cons,List.length_nil]
   rcases List.mem_append.1 hq with hq | hq
   ·obtain ⟨y,hy,rfl⟩:=List.mem_map.1 hq
    exact ⟨MQ.inside y hy,by show 0<=x.bT + 1; omega,by show x.bT + 1<=_; omega⟩
   ·obtain ⟨g1,g2,g3⟩:=hp p (List.mem_cons_of_mem _ hq)
    exact ⟨g1,g2,by omega⟩
  ·dsimp only
   rw [List.map_append,List.map_append]
   exact wK
  ·show 201 - (all++[x]).length < 201 - all.length
   rw [List.length_append,List.length_cons,List.length_nil]
   omega
theorem yG (s:SchemaR) (hd:∀ d ∈ s.defs,TB d.t) (hr:TB s.root) (hn:s.defs.length<=2000000):ar Tryz.prog 12 [.agg (aq s)] (.bc [.rd .typ (((aW s).take 201).map (·.t)),.rd .int (((aW s).take 201).map (·.bT))]) :=
 ah aa Tryz.func12 rfl Tryz.call12 Tryz.results12 Tryz.ntmps12 (Nat.le_of_ble_eq_true rfl) (SE s hd hr hn)
end
end Go.Proofs.YtiijpgmpnijidaaGreatDoor
end
section
namespace Go.SX
variable [Globs]
theorem bx.cy {P : Program} {f : FuncId} {args args' : List AV} {boxes B0 : List (Nat × List AV)} {r : AV} {aB : List (Nat × List AV)} (h : bx P f args boxes r aB) (id : Nat)
  (he:(⟨ae 0 args',B0⟩:St).cy id = ⟨ae 0 args,boxes⟩) (hl:args'.length = args.length) (hb:aA B0 = aA boxes):bx P f args' B0 r aB :=
 ⟨h.1,fun F X β w vs h1 h2 hI=>h.2 F X β w vs (h1.trans hl) (fun n g hg=>by
  have:=bd.2 (h2 n g hg)
  rw [hb] at this
  exact bd.1 this) (by
  have:=hI.cy id
  rw [he] at this
  exact this)⟩
end Go.SX
end
section
namespace Go.SX
variable [Globs]
structure Gy (P:Program) (Γ:Ctx) (N:Nat) (ops:List Oper) (l:List Oper) (s:St) (Q:St->Prop):Prop where
 ok:∀ (W0:World) (F:Fr) (X:Nat->Prop) (Q':Exit->Act->World->Prop) (a:Act) (w:World),(∀ s a w,Q s->Inv W0 F X N s a w->Q' .normal a w)->Inv W0 F X N s a w->wpList P ops.toArray Q' l a w
section
variable {P:Program} {N:Nat} {Γ:Ctx} {L:List Nat} {s:St} {W0:World} {F:Fr} {X:Nat->Prop}
theorem Gm (aY : Γ.bR P) {ops : List Oper} {Q : St -> Prop} {Q' : Exit -> Act -> World -> Prop} {l2 : List Oper} (hQ : ∀ s a w, Q s -> Inv W0 F X N s a w -> wpList P ops.toArray Q' l2 a w) (l : List Oper) :
  ∀ (known:List Nat) (s:St) (a:Act) (w:World),rO P Γ N ops l known s Q->Inv W0 F X N s a w->wpList P ops.toArray Q' (l++l2) a w:=by
 induction l with
 | nil=>intro known s a w h hI; exact hQ s a w h hI
 | cons o r ih =>
  intro known s a w h ⟨β,hI⟩
  simp only [rO,uJ] at h
  rw [List.cons_append]
  cases hg:o.guard with
  | none =>
   rw [hg] at h
   exact wpList_plain hg fun K hK=>nR aY hI h fun s' a' w' h1 h2=>hK _ _ (ih known s' a' w' h1 h2)
  | some p =>
   obtain ⟨j,want⟩:=p
   rw [hg] at h
   obtain ⟨oj,hj,h⟩:=(bA _ _ _).1 h
   obtain ⟨d,hd,h⟩:=(cn _ _).1 h
   refine wpList_step fun K hK=>?_
   rcases ml hI hj hd h with ⟨s',bS,hy,h⟩ | ⟨s',bS,hy,h⟩
   ·rw [if_pos (by simp [Region.wanted,hg,hy])]
    exact nR aY bS h fun s' a' w' h1 h2=>hK _ _ (ih _ s' a' w' h1 h2)
   ·rw [if_neg (by simp [Region.wanted,hg]; exact hy)]
    obtain ⟨s2,h1,h2⟩:=iI bS (ca.refl _ w) h (kX _ _)
    exact hK _ _ (ih _ s2 _ _ h1 ⟨β,h2⟩)
theorem Gy.gF (aY:Γ.bR P) {ops l:List Oper} {Q:St->Prop} (h:rO P Γ N ops l [] s Q):Gy P Γ N ops l s Q:=⟨fun _ _ _ _ a w hQ hI=>mS aY hQ l [] s a w h hI⟩
theorem Gy.cut (aY:Γ.bR P) {ops l:List Oper} {Q:St->Prop} (k:Nat) (σ:Type) (I:σ->Prop) (S:σ->St) (h:rO P Γ N ops (l.take k) [] s fun s'=>∃ v,I v/\Wk s' (S v)) (h2:∀ v,I v->Gy P Γ N ops (l.drop k) (S v) Q):Gy P Γ N ops l s Q:=⟨fun W0 F X Q' a w hQ hI=>by
 have:=Gm (Q':=Q') (l2:=l.drop k) aY (fun s' a' w' ⟨v,hv,hw⟩ ⟨β,bS⟩=>(h2 v hv).ok W0 F X Q' a' w' hQ ⟨β,bS.wk hw⟩) (l.take k) [] s a w h hI
 rw [List.take_append_drop] at this
 exact this⟩
theorem dU.region {id:Nat} {ops:Array Oper} {Q:Exit->St->Prop} (h:Gy P Γ N ops.toList ops.toList s fun s=>jl L s (Q .normal)):dU P Γ N L (.region id ops false) Q s:=⟨fun W0 F X Q' a w hQ hI=>wp_region_list (by
 have:=h.ok W0 F X Q' a w (fun s a w hk ⟨β,hI⟩=>by
  obtain ⟨s',h1,h2⟩:=kf hI hk
  exact hQ .normal s' a w h1 ⟨β,h2⟩) hI
 simpa using this)⟩
end
end Go.SX
end
section
namespace Go.Proofs.YtiijpgmpnijidaaGreatDoor
open Go Go.SX Go.Ck Go.Vl Go.Ut Go.Ty
set_option maxRecDepth 100000
set_option maxHeartbeats 4000000
theorem CG (t:ab):dN t↔(1<=t.kind/\t.kind<=12)/\((t.kind = 4\/t.kind = 6\/t.kind = 8)\/(t.lo = 0/\t.hi = 0))/\(t.kind = 7\/t.texts.length = 0)/\((t.kind = 8\/t.kind = 9)->t.t.length = 1)/\((t.kind = 8\/t.kind = 9)\/t.kind = 11\/t.t.length = 0)/\(t.kind = 10\/t.f.length = 0)/\(t.kind = 12\/t.name = []):=by
 cases t
 exact I4 ..
section
variable [G:Globs]
theorem Vy (l:List Int) (hl:l.length<=100) (t:ab):vc Tryz.prog Γ 17 [0,1,3,5,6,7,8,9,15,1000] (Tryz.f55.body.getD .skip) (en Γ [.tmp 3] (.b (l.any fun k=>t.kind == k)) [(1000,encTyp t)]) ⟨ae 0 [.rd .int l,.pt 1000 0],[(1000,encTyp t)]⟩:=by
 (repeat' (first | (refine iF (fun h=>?_) fun h=>?_)<;>try exact cX | refine bX ?_ | intro _))
 refine eX [] (eX [] (eX [] (eX Nat (eX (fun i=>i<=(l).length/\((l.any fun k=>t.kind == k) = (l.drop i).any fun k=>t.kind == k)) (eX (fun i=>⟨[(1,.pt 1000 0),(6,.rd .int l),(7,.i .i64 l.length),(8,.i .i64 i)],[(1000,encTyp t)]⟩) (eX (fun i=>(l).length - i) (eX 0 (aN ⟨Nat.zero_le _,rfl⟩ (aN ?_ ?_)))))))))
 ·exact wK
 rintro i ⟨hi,hI⟩
 refine aN (fun hz=>?_) (fun hz=>?_)
 ·have hi:=gd hz
  have hg:=cB (τ:=.int) hi
  refine bN2 ?_
  rw [hg]
  rw [List.drop_eq_getElem_cons hi,List.any_cons] at hI
  cases hq:(t.kind == l[i]) with
  | true =>
   rw [hq,Bool.true_or] at hI
   rw [hI]
   have zd:t.kind = l[i]:=eq_of_beq hq
   (repeat' (first | (refine iF (fun h=>?_) fun h=>?_)<;>try exact cX | refine bX ?_ | intro _))
   exact eX [] (aN rfl wK)
  | false =>
   rw [hq,Bool.false_or] at hI
   have zd:¬ t.kind = l[i]:=ne_of_beq_false hq
   (repeat' (first | (refine iF (fun h=>?_) fun h=>?_)<;>try exact cX | refine bX ?_ | intro _))
   refine eX [] (eX (_ + 1) (aN ⟨hi,hI⟩ (aN ?_ ?_)))
   ·exact wK
   ·(exact Nat.sub_lt_sub_left (by omega) (by omega))
 ·(have hi:=ga hi hz)
  rw [List.drop_eq_nil_of_le (by omega)] at hI
  rw [hI]
  exact eX [] (aN rfl wK)
theorem Vi (l:List Int) (hl:l.length<=100) (t:ab):bx Tryz.prog 55 [.rd .int l,.pt 1000 0] [(1000,encTyp t)] (.b (l.any fun k=>t.kind == k)) [(1000,encTyp t)] :=
 bL aa Tryz.func55 rfl Tryz.call55 Tryz.results55 Tryz.ntmps55 (Nat.le_of_ble_eq_true rfl) (Nat.le_of_ble_eq_true rfl) (by rfl) (Vy l hl t)
theorem uZ (l:List Int) (hl:l.length<=100) (t:ab) (b:Bool) (h:(l.any fun k=>t.kind == k) = b):bx Tryz.prog 55 [.vec 1001 .int l,.pt 1000 0] [(1000,encTyp t)] (.b b) [(1000,encTyp t)]:=h ▸ (Vi l hl t).cy 1001 rfl rfl rfl
theorem Nx (t:ab):bx Tryz.prog 55 [.vec 1001 .int [4,6,8],.pt 1000 0] [(1000,encTyp t)] (.b (decide (t.kind = 4\/t.kind = 6\/t.kind = 8))) [(1000,encTyp t)]:=uZ _ (by decide) t _ (by rw [Bool.eq_iff_iff]; simp)
theorem Vh (t:ab):bx Tryz.prog 55 [.vec 1001 .int [7],.pt 1000 0] [(1000,encTyp t)] (.b (decide (t.kind = 7))) [(1000,encTyp t)]:=uZ _ (by decide) t _ (by rw [Bool.eq_iff_iff]; simp)
theorem Rn (t:ab):bx Tryz.prog 55 [.vec 1001 .int [8,9],.pt 1000 0] [(1000,encTyp t)] (.b (decide (t.kind = 8\/t.kind = 9))) [(1000,encTyp t)]:=uZ _ (by decide) t _ (by rw [Bool.eq_iff_iff]; simp)
theorem JR (t:ab):bx Tryz.prog 55 [.vec 1001 .int [8,9,11],.pt 1000 0] [(1000,encTyp t)] (.b (decide (t.kind = 8\/t.kind = 9\/t.kind = 11))) [(1000,encTyp t)]:=uZ _ (by decide) t _ (by rw [Bool.eq_iff_iff]; simp)
theorem Rk (t:ab):bx Tryz.prog 55 [.vec 1001 .int [10],.pt 1000 0] [(1000,encTyp t)] (.b (decide (t.kind = 10))) [(1000,encTyp t)]:=uZ _ (by decide) t _ (by rw [Bool.eq_iff_iff]; simp)
theorem Rl (t:ab):bx Tryz.prog 55 [.vec 1001 .int [12],.pt 1000 0] [(1000,encTyp t)] (.b (decide (t.kind = 12))) [(1000,encTyp t)]:=uZ _ (by decide) t _ (by rw [Bool.eq_iff_iff]; simp)
theorem Rm (t:ab):bx Tryz.prog 55 [.vec 1001 .int [6,8],.pt 1000 0] [(1000,encTyp t)] (.b (decide (t.kind = 6\/t.kind = 8))) [(1000,encTyp t)]:=uZ _ (by decide) t _ (by rw [Bool.eq_iff_iff]; simp)
theorem BJ (hu:HasU8) (s:SchemaR) (t:ab) (hb:TB t) (hn:s.defs.length<=2000000):dU Tryz.prog Γ 194 [2,3,4,5,6,7,8,9,10,11,12,21,93,108,110,111,116,120,122,123,124,125,131,143,145,150,152,153,154,155,166,172,183,187,193] (Tryz.f33.body.getD .skip) (aQ Γ [.tmp 4] (fun v=>v = .i .i64 (eP s.defs t))) ⟨ae 0 [.agg (aq s),.agg (encTyp t)],[]⟩:=by
 generalize hQ:eP s.defs t = R
 have gQ:¬ dN t->AV.i .i64 10 = AV.i .i64 R:=fun h=>by rw [<- hQ,eP,if_pos h]
 refine dU.seq (by first | exact aa | exact Ctx.aO aa _) ?_
 refine dU.seq (by first | exact aa | exact Ctx.aO aa _) ?_
 refine dU.cut (by first | exact aa | exact Ctx.aO aa _) Unit (fun _=>1<=t.kind/\t.kind<=12) (fun _=>⟨[(2,.pt 2 0),(3,.pt 3 0),(5,.fn 55 [.pt 3 0])],[(2,aq s),(3,encTyp t)]⟩) ?_ ?_
 ·(repeat' (first | (refine iF (fun h=>?_) fun h=>?_)<;>try exact cX | refine bX ?_ | intro _))
  all_goals first | (exact gQ fun h=>by obtain ⟨g1,_⟩:=(CG t).1 h; omega) | (refine eX () (aN (by omega) ?_); exact wK)
 intro _ k1
 refine dU.TG Unit (fun _=>dN t) (fun _=>⟨[(2,.pt 2 0),(3,.pt 3 0),(5,.fn 55 [.pt 3 0])],[(2,aq s),(3,encTyp t)]⟩) ?_ ?_
 ·have vM : dN t ↔ ¬ (((t.lo ≠ 0 \/ t.hi ≠ 0) /\ ¬ (t.kind = 4 \/ t.kind = 6 \/ t.kind = 8)) \/ (0 < t.texts.length /\ ¬ t.kind = 7) \/ (t.t.length ≠ 1 /\ (t.kind = 8 \/ t.kind = 9)) \/ (0 < t.t.length /\ ¬ (t.kind = 8 \/ t.kind = 9 \/ t.kind = 11)) \/ (0 < t.f.length /\ ¬ t.kind = 10) \/ (t.name ≠ [] /\ ¬ t.kind = 12)) := by
   rw [CG]
   by_cases QD:t.name = []
   ·simp only [eq_true QD,not_true_eq_false,not_false_eq_true,ne_eq,false_and,true_and,or_false,or_true,and_true]
    omega
   ·simp only [eq_false QD,not_true_eq_false,not_false_eq_true,ne_eq,false_and,true_and,or_false,or_true,and_true]
    omega
  refine dU.Vs (dU.region ?_)
  refine Gy.cut aa 14 Bool (fun b=>b = true↔(((t.lo≠0\/t.hi≠0)/\¬ (t.kind = 4\/t.kind = 6\/t.kind = 8)))) (fun b=>⟨[(2,.pt 2 0),(3,.pt 3 0),(5,.fn 55 [.pt 3 0]),(35,.b b)],[(2,aq s),(3,encTyp t)]⟩) ?_ ?_
  ·(repeat' (first | (refine iF (fun h=>?_) fun h=>?_)<;>try exact cX | (intro _) | (refine Or.inr (Or.inl (eX [] (eX _ (eX _ (eX _ (eX _ (eX _ (eX [(1000,3),(1001,32)] (aN (Nx t) ?_))))))))); refine (aN rfl (aN rfl (aN rfl (aN rfl (aN rfl ?_))))))))
   all_goals (refine eX _ (aN ?_ wK))
   all_goals (first | (simp only [beq_iff_eq,bne_iff_ne,beq_eq_false_iff_ne,bne_eq_false_iff_eq,decide_eq_true_eq,decide_eq_false_iff_not,Bool.not_eq_true',Bool.not_eq_false',Bool.not_true,Bool.not_false,ne_eq,Decidable.not_not,gt_iff_lt,ge_iff_le,Int.not_lt,Int.not_le,Bool.cond_true,Bool.cond_false,cond_true,cond_false,Int.reduceBNe,Int.reduceBEq,Int.reduceLT,Int.reduceLE,Int.reduceEq,Int.reduceNe,not_true_eq_false,not_false_eq_true,Bool.false_eq_true,Bool.true_eq_false,reduceCtorEq,Bool.and_eq_true,Bool.or_eq_true,Bool.and_eq_false_iff,Bool.or_eq_false_iff,Bool.true_and,Bool.and_true,Bool.false_and,Bool.and_false,Bool.or_false,Bool.false_or,Bool.or_true,Bool.true_or]; omega) | (simp_all; done) | (simp_all; omega))
  intro b hb
  refine Gy.cut aa 12 Bool (fun b=>b = true↔(((t.lo≠0\/t.hi≠0)/\¬ (t.kind = 4\/t.kind = 6\/t.kind = 8))\/(0 < t.texts.length/\¬ t.kind = 7))) (fun b=>⟨[(2,.pt 2 0),(3,.pt 3 0),(5,.fn 55 [.pt 3 0]),(47,.b b)],[(2,aq s),(3,encTyp t)]⟩) ?_ ?_
  ·(repeat' (first | (refine iF (fun h=>?_) fun h=>?_)<;>try exact cX | (intro _) | (refine Or.inr (Or.inl (eX [] (eX _ (eX _ (eX _ (eX _ (eX _ (eX [(1000,3),(1001,43)] (aN (Vh t) ?_))))))))); refine (aN rfl (aN rfl (aN rfl (aN rfl (aN rfl ?_))))))))
   all_goals (refine eX _ (aN ?_ wK))
   all_goals (first | (simp only [beq_iff_eq,bne_iff_ne,beq_eq_false_iff_ne,bne_eq_false_iff_eq,decide_eq_true_eq,decide_eq_false_iff_not,Bool.not_eq_true',Bool.not_eq_false',Bool.not_true,Bool.not_false,ne_eq,Decidable.not_not,gt_iff_lt,ge_iff_le,Int.not_lt,Int.not_le,Bool.cond_true,Bool.cond_false,cond_true,cond_false,Int.reduceBNe,Int.reduceBEq,Int.reduceLT,Int.reduceLE,Int.reduceEq,Int.reduceNe,not_true_eq_false,not_false_eq_true,Bool.false_eq_true,Bool.true_eq_false,reduceCtorEq,Bool.and_eq_true,Bool.or_eq_true,Bool.and_eq_false_iff,Bool.or_eq_false_iff,Bool.true_and,Bool.and_true,Bool.false_and,Bool.and_false,Bool.or_false,Bool.false_or,Bool.or_true,Bool.true_or]; omega) | (simp_all; done) | (simp_all; omega))
  intro b hb
  refine Gy.cut aa 11 Bool (fun b=>b = true↔(((t.lo≠0\/t.hi≠0)/\¬ (t.kind = 4\/t.kind = 6\/t.kind = 8))\/(0 < t.texts.length/\¬ t.kind = 7)\/(t.t.length≠1/\(t.kind = 8\/t.kind = 9)))) (fun b=>⟨[(2,.pt 2 0),(3,.pt 3 0),(5,.fn 55 [.pt 3 0]),(58,.b b)],[(2,aq s),(3,encTyp t)]⟩) ?_ ?_
  ·(repeat' (first | (refine iF (fun h=>?_) fun h=>?_)<;>try exact cX | (intro _) | (refine Or.inr (Or.inl (eX [] (eX _ (eX _ (eX _ (eX _ (eX _ (eX [(1000,3),(1001,55)] (aN (Rn t) ?_))))))))); refine (aN rfl (aN rfl (aN rfl (aN rfl (aN rfl ?_))))))))
   all_goals (refine eX _ (aN ?_ wK))
   all_goals (first | (simp only [beq_iff_eq,bne_iff_ne,beq_eq_false_iff_ne,bne_eq_false_iff_eq,decide_eq_true_eq,decide_eq_false_iff_not,Bool.not_eq_true',Bool.not_eq_false',Bool.not_true,Bool.not_false,ne_eq,Decidable.not_not,gt_iff_lt,ge_iff_le,Int.not_lt,Int.not_le,Bool.cond_true,Bool.cond_false,cond_true,cond_false,Int.reduceBNe,Int.reduceBEq,Int.reduceLT,Int.reduceLE,Int.reduceEq,Int.reduceNe,not_true_eq_false,not_false_eq_true,Bool.false_eq_true,Bool.true_eq_false,reduceCtorEq,Bool.and_eq_true,Bool.or_eq_true,Bool.and_eq_false_iff,Bool.or_eq_false_iff,Bool.true_and,Bool.and_true,Bool.false_and,Bool.and_false,Bool.or_false,Bool.false_or,Bool.or_true,Bool.true_or]; omega) | (simp_all; done) | (simp_all; omega))
  intro b hb
  refine Gy.cut aa 12 Bool (fun b=>b = true↔(((t.lo≠0\/t.hi≠0)/\¬ (t.kind = 4\/t.kind = 6\/t.kind = 8))\/(0 < t.texts.length/\¬ t.kind = 7)\/(t.t.length≠1/\(t.kind = 8\/t.kind = 9))\/(0 < t.t.length/\¬ (t.kind = 8\/t.kind = 9\/t.kind = 11)))) (fun b=>⟨[(2,.pt 2 0),(3,.pt 3 0),(5,.fn 55 [.pt 3 0]),(70,.b b)],[(2,aq s),(3,encTyp t)]⟩) ?_ ?_
  ·(repeat' (first | (refine iF (fun h=>?_) fun h=>?_)<;>try exact cX | (intro _) | (refine Or.inr (Or.inl (eX [] (eX _ (eX _ (eX _ (eX _ (eX _ (eX [(1000,3),(1001,66)] (aN (JR t) ?_))))))))); refine (aN rfl (aN rfl (aN rfl (aN rfl (aN rfl ?_))))))))
   all_goals (refine eX _ (aN ?_ wK))
   all_goals (first | (simp only [beq_iff_eq,bne_iff_ne,beq_eq_false_iff_ne,bne_eq_false_iff_eq,decide_eq_true_eq,decide_eq_false_iff_not,Bool.not_eq_true',Bool.not_eq_false',Bool.not_true,Bool.not_false,ne_eq,Decidable.not_not,gt_iff_lt,ge_iff_le,Int.not_lt,Int.not_le,Bool.cond_true,Bool.cond_false,cond_true,cond_false,Int.reduceBNe,Int.reduceBEq,Int.reduceLT,Int.reduceLE,Int.reduceEq,Int.reduceNe,not_true_eq_false,not_false_eq_true,Bool.false_eq_true,Bool.true_eq_false,reduceCtorEq,Bool.and_eq_true,Bool.or_eq_true,Bool.and_eq_false_iff,Bool.or_eq_false_iff,Bool.true_and,Bool.and_true,Bool.false_and,Bool.and_false,Bool.or_false,Bool.false_or,Bool.or_true,Bool.true_or]; omega) | (simp_all; done) | (simp_all; omega))
  intro b hb
  refine Gy.cut aa 12 Bool (fun b=>b = true↔(((t.lo≠0\/t.hi≠0)/\¬ (t.kind = 4\/t.kind = 6\/t.kind = 8))\/(0 < t.texts.length/\¬ t.kind = 7)\/(t.t.length≠1/\(t.kind = 8\/t.kind = 9))\/(0 < t.t.length/\¬ (t.kind = 8\/t.kind = 9\/t.kind = 11))\/(0 < t.f.length/\¬ t.kind = 10))) (fun b=>⟨[(2,.pt 2 0),(3,.pt 3 0),(5,.fn 55 [.pt 3 0]),(82,.b b)],[(2,aq s),(3,encTyp t)]⟩) ?_ ?_
  ·(repeat' (first | (refine iF (fun h=>?_) fun h=>?_)<;>try exact cX | (intro _) | (refine Or.inr (Or.inl (eX [] (eX _ (eX _ (eX _ (eX _ (eX _ (eX [(1000,3),(1001,78)] (aN (Rk t) ?_))))))))); refine (aN rfl (aN rfl (aN rfl (aN rfl (aN rfl ?_))))))))
   all_goals (refine eX _ (aN ?_ wK))
   all_goals (first | (simp only [beq_iff_eq,bne_iff_ne,beq_eq_false_iff_ne,bne_eq_false_iff_eq,decide_eq_true_eq,decide_eq_false_iff_not,Bool.not_eq_true',Bool.not_eq_false',Bool.not_true,Bool.not_false,ne_eq,Decidable.not_not,gt_iff_lt,ge_iff_le,Int.not_lt,Int.not_le,Bool.cond_true,Bool.cond_false,cond_true,cond_false,Int.reduceBNe,Int.reduceBEq,Int.reduceLT,Int.reduceLE,Int.reduceEq,Int.reduceNe,not_true_eq_false,not_false_eq_true,Bool.false_eq_true,Bool.true_eq_false,reduceCtorEq,Bool.and_eq_true,Bool.or_eq_true,Bool.and_eq_false_iff,Bool.or_eq_false_iff,Bool.true_and,Bool.and_true,Bool.false_and,Bool.and_false,Bool.or_false,Bool.false_or,Bool.or_true,Bool.true_or]; omega) | (simp_all; done) | (simp_all; omega))
  intro b hb
  refine Gy.gF aa ?_
  by_cases QD:t.name = []
  all_goals (repeat' (first | (refine iF (fun h=>?_) fun h=>?_)<;>try exact cX | (intro _) | (refine Or.inr (Or.inl (eX [] (eX _ (eX _ (eX _ (eX _ (eX _ (eX [(1000,3),(1001,89)] (aN (Rl t) ?_))))))))); refine (aN rfl (aN rfl (aN rfl (aN rfl (aN rfl ?_))))))))
  all_goals refine dU.gF (by first | exact aa | exact Ctx.aO aa _) ?_
  all_goals (repeat' (first | (refine iF (fun h=>?_) fun h=>?_)<;>try exact cX | refine bX ?_ | intro _))
  all_goals clear hQ hu hn
  all_goals first | (refine gQ fun h9=>?_; have g:=vM.1 h9; clear vM gQ; first | omega | grind) | (refine eX () (aN (vM.2 fun g=>?_) wK); clear vM gQ; first | omega | grind)
 intro _ k2
 have o9:R = if t.hi < t.lo\/(t.kind≠4/\t.lo < 0) then 7 else if t.kind = 7 then kx t.texts else if t.kind = 10 then iw t.f else if t.kind = 12 then (if cq s.defs t.name < 0 then 8 else 0) else 0:=by
  rw [<- hQ,eP,if_neg (fun h=>h k2)]
 have zd:=(CG t).1 k2
 have h7:(t.hi < t.lo\/(t.kind≠4/\t.lo < 0))->AV.i .i64 7 = AV.i .i64 R:=fun h=>by rw [o9,if_pos h]
 refine dU.cut (by first | exact aa | exact Ctx.aO aa _) Unit (fun _=>¬ (t.hi < t.lo\/(t.kind≠4/\t.lo < 0))) (fun _=>⟨[(2,.pt 2 0),(3,.pt 3 0)],[(2,aq s),(3,encTyp t)]⟩) ?_ ?_
 ·obtain ⟨_,zd,_⟩:=zd
  clear hQ o9 k2 hu hb hn gQ
  (repeat' (first | (refine iF (fun h=>?_) fun h=>?_)<;>try exact cX | (intro _) | (refine Or.inr (Or.inl (eX [] (eX _ (eX _ (eX _ (eX _ (eX _ (eX [(1000,3),(1001,101)] (aN (Rm t) ?_))))))))); refine (aN rfl (aN rfl (aN rfl (aN rfl (aN rfl ?_))))))))
  all_goals first | (refine h7 ?_; omega) | (refine eX () (aN ?_ wK); omega)
 intro _ k3
 rw [if_neg k3] at o9
 clear h7 gQ hQ zd k2
 refine dU.gF (by first | exact aa | exact Ctx.aO aa _) ?_
 by_cases c1:t.kind = 7
 ·rw [if_pos c1] at o9
  unfold kx at o9
  by_cases c2:t.texts.length = 0
  ·rw [if_pos c2] at o9
   have c2:t.texts = []:=List.eq_nil_of_length_eq_zero c2
   rw [o9]
   (repeat' (first | (refine iF (fun h=>?_) fun h=>?_)<;>try exact cX | refine bX ?_ | intro _))
   rfl
  have c2n:¬ t.texts = []:=fun e=>c2 (by rw [e]; rfl)
  rw [if_neg c2] at o9
  by_cases c3:200 < t.texts.length
  ·rw [if_pos c3] at o9
   rw [o9]
   (repeat' (first | (refine iF (fun h=>?_) fun h=>?_)<;>try exact cX | refine bX ?_ | intro _))
   rfl
  rw [if_neg c3] at o9
  (repeat' (first | (refine iF (fun h=>?_) fun h=>?_)<;>try exact cX | refine bX ?_ | intro _))
  refine eX [] (eX [] (eX [] (eX Nat (eX (fun i=>i<=(t.texts).length/\(R = pT (dR t.texts i) (t.texts.drop i))) (eX (fun i=>⟨[(3,.pt 3 0),(122,.rd .str t.texts),(123,.i .i64 t.texts.length),(124,.i .i64 i)],[(3,encTyp t)]⟩) (eX (fun i=>(t.texts).length - i) (eX 0 (aN ⟨Nat.zero_le _,o9⟩ (aN ?_ ?_)))))))))
  ·exact wK
  rintro i ⟨hi,hI⟩
  refine aN (fun hz=>?_) (fun hz=>?_)
  ·have hi:=gd hz
   have hg:=cB (τ:=.str) hi
   refine bN2 ?_
   rw [hg]
   have hB:=il t.texts[i]
   (repeat' (first | (refine iF (fun h=>?_) fun h=>?_)<;>try exact cX | refine bX ?_ | intro _))
   refine Or.inl (eX _ (aN (hB) ?_))
   by_cases b1:0<=bad t.texts[i]
   ·have hF:C7 (dR t.texts i) t.texts[i] = 3:=if_pos b1
    rw [pU hi (by rw [hF]; decide),hF] at hI
    rw [hI]
    (repeat' (first | (refine iF (fun h=>?_) fun h=>?_)<;>try exact cX | refine bX ?_ | intro _))
    rfl
   by_cases h0:0 < i
   ·have XE:dR t.texts i = some (t.texts.getD (i - 1) []):=if_pos h0
    have hF:C7 (dR t.texts i) t.texts[i] = if Op.bytesLess (t.texts.getD (i - 1) []) t.texts[i] = true then 0 else 14:=by
     unfold C7
     rw [if_neg b1,XE]
    have x8:t.texts.getD (i - 1) [] = t.texts.getD ((i:Int) - 1).toNat (aD .str):=by rw [show ((i:Int) - 1).toNat = i - 1 by omega]
    rw [x8] at hF
    have GD:=qA t.texts[i] (t.texts.getD ((i:Int) - 1).toNat (aD .str))
    by_cases hq:Op.bytesLess (t.texts.getD ((i:Int) - 1).toNat (aD .str)) t.texts[i] = true
    ·rw [if_pos hq] at hF
     rw [yQ hi hF] at hI
     rw [hq] at GD
     (repeat' (first | (refine iF (fun h=>?_) fun h=>?_)<;>try exact cX | refine bX ?_ | intro _))
     ·exfalso
      clear hI o9 hF
      simp_all
     (repeat' (first | (refine iF (fun h=>?_) fun h=>?_)<;>try exact cX | refine bX ?_ | intro _))
     refine eX [] (eX (i + 1) (aN ⟨hi,hI⟩ (aN ?_ ?_)))
     ·exact wK
     ·(exact Nat.sub_lt_sub_left (by omega) (by omega))
    ·rw [if_neg hq] at hF
     rw [pU hi (by rw [hF]; decide),hF] at hI
     rw [Bool.eq_false_iff.2 hq] at GD
     rw [hI]
     (repeat' (first | (refine iF (fun h=>?_) fun h=>?_)<;>try exact cX | refine bX ?_ | intro _))
     ·rfl
     ·exfalso
      clear hI o9 hF
      simp_all
   ·have XE:dR t.texts i = none:=if_neg h0
    have hF:C7 (dR t.texts i) t.texts[i] = 0:=by
     unfold C7
     rw [if_neg b1,XE]
    rw [yQ hi hF] at hI
    (repeat' (first | (refine iF (fun h=>?_) fun h=>?_)<;>try exact cX | refine bX ?_ | intro _))
    refine eX [] (eX (i + 1) (aN ⟨hi,hI⟩ (aN ?_ ?_)))
    ·exact wK
    ·(exact Nat.sub_lt_sub_left (by omega) (by omega))
  ·(have hi:=ga hi hz)
   rw [EH (by omega)] at hI
   rw [hI]
   (repeat' (first | (refine iF (fun h=>?_) fun h=>?_)<;>try exact cX | refine bX ?_ | intro _))
   rfl
 rw [if_neg c1] at o9
 by_cases c4:t.kind = 10
 ·rw [if_pos c4] at o9
  unfold iw at o9
  by_cases c2:200 < t.f.length
  ·rw [if_pos c2] at o9
   rw [o9]
   (repeat' (first | (refine iF (fun h=>?_) fun h=>?_)<;>try exact cX | refine bX ?_ | intro _))
   rfl
  rw [if_neg c2] at o9
  (repeat' (first | (refine iF (fun h=>?_) fun h=>?_)<;>try exact cX | refine bX ?_ | intro _))
  refine eX [] (eX [] (eX [] (eX Nat (eX (fun i=>i<=(t.f).length/\(R = lW (iB t.f i) (t.f.drop i))) (eX (fun i=>⟨[(8,.s (if 0 < i then (t.f.getD (i - 1) default).name else [])),(152,.rd .eJ t.f),(153,.i .i64 t.f.length),(154,.i .i64 i)],[]⟩) (eX (fun i=>(t.f).length - i) (eX 0 (aN ⟨Nat.zero_le _,o9⟩ (aN ?_ ?_)))))))))
  ·exact wK
  rintro i ⟨hi,hI⟩
  refine aN (fun hz=>?_) (fun hz=>?_)
  ·have hi:=gd hz
   have hg:=cB (τ:=.eJ) hi
   refine bN2 ?_
   rw [hg]
   obtain ⟨hv,hs⟩:=(by cases hb with | mk _ _ _ _ _ h _ _=>exact h _ (List.getElem_mem hi):VB t.f[i].aD/\(cu t.f[i].aD).2<=1000000000)
   have hF:zR (iB t.f i) t.f[i] = iO (dG (iB t.f i) t.f[i].name) (iO (dE t.f[i].aD 0 0).1 (if t.f[i].du = false/\eg t.f[i].aD zeroV≠0 then 10 else 0)):=rfl
   have hN:=rG t.f[i].name (if 0 < i then (t.f.getD (i - 1) default).name else []) ((i:Int) == 0)
   have Mr:(if ((i:Int) == 0) = true then none else some (if 0 < i then (t.f.getD (i - 1) default).name else [])) = iB t.f i:=by
    unfold iB
    by_cases h0:0 < i
    ·rw [if_neg (by rw [beq_iff_eq]; omega),if_pos h0,if_pos h0]
    ·rw [if_pos (by rw [beq_iff_eq]; omega),if_neg h0]
   rw [Mr] at hN
   have hC:=Ex t.f[i].aD hv hs
   rw [<- O7] at hC
   have hP:=ar.arg (args':=[.agg (ai t.f[i].aD),.agg [.i .i64 0,.i .i64 0,.i .u64 0,.s [],.nl,.nl]]) (CW t.f[i].aD zeroV hv (.mk zeroV ⟨by decide,by decide⟩ ⟨by decide,by decide⟩ ⟨by decide,by decide⟩ (fun _ h=>nomatch h) (fun _ h=>nomatch h))) (by exact rL)
   have V8:(if 0 < i + 1 then (t.f.getD (i + 1 - 1) default).name else []) = t.f[i].name:=by
    rw [if_pos (by omega),Nat.add_sub_cancel,List.getD_eq_getElem?_getD,List.getElem?_eq_getElem hi]
    rfl
   (repeat' (first | (refine iF (fun h=>?_) fun h=>?_)<;>try exact cX | refine bX ?_ | intro _))
   refine Or.inl (eX _ (aN (hN) ?_))
   by_cases k1:dG (iB t.f i) t.f[i].name = 0
   rotate_left
   ·rw [bE k1] at hF
    rw [kI hi (by rw [hF]; exact k1),hF] at hI
    rw [hI]
    (repeat' (first | (refine iF (fun h=>?_) fun h=>?_)<;>try exact cX | refine bX ?_ | intro _))
    rfl
   rw [k1,aL] at hF
   rw [k1]
   (repeat' (first | (refine iF (fun h=>?_) fun h=>?_)<;>try exact cX | refine bX ?_ | intro _))
   refine Or.inl (eX _ (aN (hC) ?_))
   by_cases k2:(dE t.f[i].aD 0 0).1 = 0
   rotate_left
   ·rw [bE k2] at hF
    rw [kI hi (by rw [hF]; exact k2),hF] at hI
    rw [hI]
    (repeat' (first | (refine iF (fun h=>?_) fun h=>?_)<;>try exact cX | refine bX ?_ | intro _))
    rfl
   rw [k2,aL] at hF
   rw [k2]
   cases hd:t.f[i].du with
   | true =>
    rw [hd,if_neg (fun h=>by cases h.1)] at hF
    rw [xY hi hF] at hI
    (repeat' (first | (refine iF (fun h=>?_) fun h=>?_)<;>try exact cX | refine bX ?_ | intro _))
    refine eX [] (eX (i + 1) (aN ⟨hi,hI⟩ (aN ?_ ?_)))
    ·dsimp only
     rw [V8]
     exact wK
    ·(exact Nat.sub_lt_sub_left (by omega) (by omega))
   | false =>
    by_cases k3:eg t.f[i].aD zeroV = 0
    ·rw [if_neg (fun h=>h.2 k3)] at hF
     rw [xY hi hF] at hI
     rw [decide_eq_true k3] at hP
     (repeat' (first | (refine iF (fun h=>?_) fun h=>?_)<;>try exact cX | refine bX ?_ | intro _))
     refine Or.inl (eX _ (aN (hP) ?_))
     (repeat' (first | (refine iF (fun h=>?_) fun h=>?_)<;>try exact cX | refine bX ?_ | intro _))
     refine eX [] (eX (i + 1) (aN ⟨hi,hI⟩ (aN ?_ ?_)))
     ·dsimp only
      rw [V8]
      exact wK
     ·(exact Nat.sub_lt_sub_left (by omega) (by omega))
    ·rw [if_pos ⟨hd,k3⟩] at hF
     rw [kI hi (by rw [hF]; decide),hF] at hI
     rw [decide_eq_false k3] at hP
     rw [hI]
     (repeat' (first | (refine iF (fun h=>?_) fun h=>?_)<;>try exact cX | refine bX ?_ | intro _))
     refine Or.inl (eX _ (aN (hP) ?_))
     (repeat' (first | (refine iF (fun h=>?_) fun h=>?_)<;>try exact cX | refine bX ?_ | intro _))
     rfl
  ·(have hi:=ga hi hz)
   rw [DF (by omega)] at hI
   rw [hI]
   (repeat' (first | (refine iF (fun h=>?_) fun h=>?_)<;>try exact cX | refine bX ?_ | intro _))
   rfl
 rw [if_neg c4] at o9
 by_cases c5:t.kind = 12
 ·rw [if_pos c5] at o9
  have hD:=Ew s t.name hn
  by_cases c6:cq s.defs t.name < 0
  ·rw [if_pos c6] at o9
   rw [o9]
   (repeat' (first | (refine iF (fun h=>?_) fun h=>?_)<;>try exact cX | refine bX ?_ | intro _))
   refine Or.inl (eX _ (aN (hD) ?_))
   (repeat' (first | (refine iF (fun h=>?_) fun h=>?_)<;>try exact cX | refine bX ?_ | intro _))
   rfl
  ·rw [if_neg c6] at o9
   rw [o9]
   (repeat' (first | (refine iF (fun h=>?_) fun h=>?_)<;>try exact cX | refine bX ?_ | intro _))
   refine Or.inl (eX _ (aN (hD) ?_))
   (repeat' (first | (refine iF (fun h=>?_) fun h=>?_)<;>try exact cX | refine bX ?_ | intro _))
   rfl
 rw [if_neg c5] at o9
 rw [o9]
 (repeat' (first | (refine iF (fun h=>?_) fun h=>?_)<;>try exact cX | refine bX ?_ | intro _))
 rfl
theorem Bm (hu:HasU8) (s:SchemaR) (t:ab) (hb:TB t) (hn:s.defs.length<=2000000):ar Tryz.prog 33 [.agg (aq s),.agg (encTyp t)] (.i .i64 (eP s.defs t)) :=
 jj aa Tryz.func33 rfl Tryz.call33 Tryz.results33 Tryz.ntmps33 (Nat.le_of_ble_eq_true rfl) (BJ hu s t hb hn) aa
end
end Go.Proofs.YtiijpgmpnijidaaGreatDoor
end
section
namespace Go.Proofs.YtiijpgmpnijidaaGreatDoor
open Go Go.SX Go.Ck Go.Vl Go.Ut Go.Ty
set_option maxRecDepth 100000
set_option maxHeartbeats 4000000
section
variable [G:Globs]
theorem Gr (s:SchemaR) (hd:∀ d ∈ s.defs,CT s.defs d.t/\TB d.t) (hm:s.defs.length<=1000) (t:ab) (ht:CT s.defs t) (hb:TB t) (hw:gK t + bY s.defs []<=100000):vc Tryz.prog Γ 58 [2,3,4,5,6,7,8,9,15,22,27,34,40,1000,1001] (Tryz.f34.body.getD .skip) (en Γ [.tmp 4,.tmp 5] (.bc [.ob 1000 1000 (.mp .str .bool (bp s.defs t).2),.vec 1001 .typ (bp s.defs t).1]) []) ⟨ae 0 [.agg (aq s),.agg (encTyp t)],[]⟩:=by
 have hK:bp s.defs t = (([]:List ab)++(br (aI s.defs (dB s.defs t [] + 1)) ([t].drop 0) []).1,(br (aI s.defs (dB s.defs t [] + 1)) ([t].drop 0) []).2):=by
  show aI s.defs (dB s.defs t [] + 1) t [] = (((aI s.defs (dB s.defs t [] + 1) t []).1++[]),_)
  rw [List.append_nil]
  rfl
 have hN:pV s.defs ([t].drop 0) [] < dB s.defs t [] + 1:=by
  show pV s.defs [t] [] < _
  rw [M5]
  exact Nat.lt_succ_self _
 generalize dB s.defs t [] = k at hK hN
 generalize bp s.defs t = R at hK ⊢
 (repeat' (first | (refine iF (fun h=>?_) fun h=>?_)<;>try exact cX | refine bX ?_ | intro _))
 refine eX [(7,7,.typ)] (eX [] (eX [(12,8),(10,6)] (eX (List ab × Nat × Go.Ty.Met × List ab) (eX (fun q=>q.2.1<=q.1.length/\R = (q.2.2.2++(br (aI s.defs (k + 1)) (q.1.drop q.2.1) q.2.2.1).1,(br (aI s.defs (k + 1)) (q.1.drop q.2.1) q.2.2.1).2)/\pV s.defs (q.1.drop q.2.1) q.2.2.1 < k + 1/\(∀ x ∈ q.1.drop q.2.1,CT s.defs x/\TB x)/\cP (q.1.drop q.2.1) + q.2.2.2.length + bY s.defs q.2.2.1<=100000/\q.2.2.1.length + Ty.iQ s.defs q.2.2.1<=1000) (eX (fun ⟨l,j,es,pre⟩=>⟨[(2,.pt 2 0),(6,.ob 6 6 (.mp .str .bool es)),(7,.vec 7 .typ pre),(8,.vs 8 .typ l j)],[(2,aq s)]⟩) (eX (fun q=>pV s.defs (q.1.drop q.2.1) q.2.2.1) (eX ([t],0,[],[]) (aN ⟨Nat.zero_le _,hK,hN,?_,?_,?_⟩ (aN ?_ ?_)))))))))
 ·intro x hx
  have hx:x ∈ [t]:=hx
  obtain rfl:=List.mem_singleton.1 hx
  exact ⟨ht,hb⟩
 ·show cP [t] + 0 + bY s.defs []<=100000
  rw [dt]
  show gK t + 0 + 0 + bY s.defs []<=100000
  omega
 ·show 0 + Ty.iQ s.defs []<=1000
  rw [mZ]
  omega
 ·rw [zJ]
  exact wK
 rintro ⟨l,j,es,pre⟩ ⟨hj,hI,hN,hT,hS,hM⟩
 dsimp only at hj hI hN hT hS hM
 intro _ _
 refine aN (fun hz=>?_) (fun hz=>?_)
 rotate_left
 ·have hz:l.drop j = []:=List.drop_eq_nil_of_le (by have:¬ (0:Int) < ((l.length - j:Nat):Int):=of_decide_eq_false hz; omega)
  rw [hz] at hI
  have hI:R = (pre,es):=by rw [hI]; show (pre++[],es) = _; rw [List.append_nil]
  subst hI
  (repeat' (first | (refine iF (fun h=>?_) fun h=>?_)<;>try exact cX | refine bX ?_ | intro _))
  exact eX [(6,1000),(7,1001)] (aN rfl wK)
 have Pn:j < l.length:=by have:(0:Int) < ((l.length - j:Nat):Int):=of_decide_eq_true hz; omega
 have eD:=List.drop_eq_getElem_cons Pn
 rw [eD] at hI hN hT hS
 obtain ⟨hx,MQ⟩:=hT l[j] (List.mem_cons_self ..)
 have hr:∀ y ∈ l.drop (j + 1),CT s.defs y/\TB y:=fun y hy=>hT y (List.mem_cons_of_mem _ hy)
 have hg:l.getD (j + Int.toNat 0) (aD .typ) = l[j]:=by
  show l.getD (j + 0) _ = _
  rw [Nat.add_zero,List.getD_eq_getElem?_getD,List.getElem?_eq_getElem Pn]
  rfl
 rw [dt] at hS
 have pj:=yR l[j]
 have hlen:=ug (l.drop (j + 1))
 rw [List.length_drop] at hlen
 refine aN ⟨by decide,by omega⟩ ?_
 (conv=>whnf)
 rw [hg]
 by_cases c1:l[j].kind = 11
 ·rw [Lq (fun d h=>(hd d h).1) hx hN c1] at hI
  have hsp:=nF l[j]
  have hsa:=Bv l[j].t (l.drop (j + 1))
  have hlt:=ug l[j].t
  (repeat' (first | (refine iF (fun h=>?_) fun h=>?_)<;>try exact cX | refine bX ?_ | intro _))
  (refine aN (Go.Ty.LG (by (try simp only [List.length_append,List.length_cons,List.length_nil,List.length_map,List.length_take,List.length_drop]); omega) (Nat.le_of_ble_eq_true rfl)) ?_)
  (refine aN (Go.Ty.LG (by (try simp only [List.length_append,List.length_cons,List.length_nil,List.length_map,List.length_take,List.length_drop]); omega) (Nat.le_of_ble_eq_true rfl)) ?_)
  (repeat' (first | (refine iF (fun h=>?_) fun h=>?_)<;>try exact cX | refine bX ?_ | intro _))
  refine eX [(33,8)] (eX (l[j].t++l.drop (j + 1),0,es,pre) (aN ⟨Nat.zero_le _,hI,Nat.lt_of_lt_of_le xx (Nat.le_of_lt hN),fun y hy=>?_,?_,hM⟩ (aN ?_ ?_)))
  ·rcases List.mem_append.1 hy with hy | hy
   ·exact ⟨hx.part y hy,MQ.inside y (List.mem_append_left _ hy)⟩
   ·exact hr y hy
  ·show cP (l[j].t++l.drop (j + 1)) + pre.length + bY s.defs es<=100000
   omega
  ·exact wK
  ·show pV s.defs (l[j].t++l.drop (j + 1)) es < pV s.defs (l.drop j) es
   rw [eD]
   exact xx
 by_cases c2:l[j].kind = 12
 rotate_left
 ·rw [O4 c2 c1] at hI
  (repeat' (first | (refine iF (fun h=>?_) fun h=>?_)<;>try exact cX | refine bX ?_ | intro _))
  (refine aN (Go.Ty.LG (by (try simp only [List.length_append,List.length_cons,List.length_nil,List.length_map,List.length_take,List.length_drop]); omega) (Nat.le_of_ble_eq_true rfl)) ?_)
  (repeat' (first | (refine iF (fun h=>?_) fun h=>?_)<;>try exact cX | refine bX ?_ | intro _))
  refine eX [(26,7)] (eX (l,j + 1,es,pre++[l[j]]) (aN ⟨Pn,?_,Nat.lt_of_lt_of_le pW (Nat.le_of_lt hN),hr,?_,hM⟩ (aN ?_ ?_)))
  ·rw [hI]
   show (_,_) = (_,_)
   rw [List.append_assoc]
   rfl
  ·show cP (l.drop (j + 1)) + (pre++[l[j]]).length + bY s.defs es<=100000
   rw [List.length_append,List.length_cons,List.length_nil]
   omega
  ·dsimp only
   rw [zJ]
   exact wK
  ·show pV s.defs (l.drop (j + 1)) es < pV s.defs (l.drop j) es
   rw [eD]
   exact pW
 by_cases c3:met es l[j].name = true
 ·rw [SV c2 c3] at hI
  have c3:(cf (κ:=.str) (τ:=.bool) es l[j].name).getD false = true:=c3
  (repeat' (first | (refine iF (fun h=>?_) fun h=>?_)<;>try exact cX | refine bX ?_ | intro _))
  ·exact absurd (show (cf (κ:=.str) (τ:=.bool) es l[j].name).getD false = false by assumption) (by rw [c3]; decide)
  (repeat' (first | (refine iF (fun h=>?_) fun h=>?_)<;>try exact cX | refine bX ?_ | intro _))
  refine eX [] (eX (l,j + 1,es,pre) (aN ⟨Pn,hI,Nat.lt_of_lt_of_le pW (Nat.le_of_lt hN),hr,?_,hM⟩ (aN ?_ ?_)))
  ·show cP (l.drop (j + 1)) + pre.length + bY s.defs es<=100000
   omega
  ·exact wK
  ·show pV s.defs (l.drop (j + 1)) es < pV s.defs (l.drop j) es
   rw [eD]
   exact pW
 ·have c3:met es l[j].name = false:=by simpa using c3
  rw [O3 (fun d h=>(hd d h).1) hx hN c2 c3] at hI
  have h0:0<=cq s.defs l[j].name:=by cases hx with | mk _ _ h _=>exact h c2
  have hD:=Ew s l[j].name (by omega)
  have c4:(cf (κ:=.str) (τ:=.bool) es l[j].name).getD false = false:=c3
  have hrf:=qM h0 (es:=es) c3
  have hcr:=o4 h0 (es:=es) c3
  (repeat' (first | (refine iF (fun h=>?_) fun h=>?_)<;>try exact cX | refine bX ?_ | intro _))
  refine aN (show es.length < 9223372036854775807 by omega) ?_
  (repeat' (first | (refine iF (fun h=>?_) fun h=>?_)<;>try exact cX | refine bX ?_ | intro _))
  refine eX [.take 0,.take 3,.take 10,.fZ [1,2,4,5,6,7,8],.one 9,.one 11,.take 12] (aN (by kernel_rfl) ?_)
  refine eX _ (aN (hD) ?_)
  obtain ⟨g1,g2⟩:=me h0
  have gg:s.defs.getD (cq s.defs l[j].name).toNat (aD .dfn) = s.defs[(cq s.defs l[j].name).toNat]:=by rw [List.getD_eq_getElem?_getD,List.getElem?_eq_getElem g1]; rfl
  refine aN ⟨h0,by omega⟩ ?_
  (repeat' (first | (refine iF (fun h=>?_) fun h=>?_)<;>try exact cX | refine bX ?_ | intro _))
  (refine aN (Go.Ty.LG (by (try simp only [List.length_append,List.length_cons,List.length_nil,List.length_map,List.length_take,List.length_drop]); omega) (Nat.le_of_ble_eq_true rfl)) ?_)
  (repeat' (first | (refine iF (fun h=>?_) fun h=>?_)<;>try exact cX | refine bX ?_ | intro _))
  refine eX [(55,8)] (eX (bo s.defs l[j].name::l.drop (j + 1),0,meet es l[j].name,pre) (aN ⟨Nat.zero_le _,hI,Nat.lt_trans (BK hx c2 c3) hN,fun y hy=>?_,?_,?_⟩ (aN ?_ ?_)))
  ·rcases List.mem_cons.1 hy with rfl | hy
   ·refine ⟨CT.bo (fun d h=>(hd d h).1) h0,?_⟩
    obtain ⟨d,h1,_,e⟩:=dy h0
    rw [<- e]
    exact (hd d h1).2
   ·exact hr y hy
  ·show cP (bo s.defs l[j].name::l.drop (j + 1)) + pre.length + bY s.defs (meet es l[j].name)<=100000
   rw [dt]
   omega
  ·show (meet es l[j].name).length + Ty.iQ s.defs (meet es l[j].name)<=1000
   omega
  ·dsimp only
   rw [zJ]
   exact wK
  ·show pV s.defs (bo s.defs l[j].name::l.drop (j + 1)) (meet es l[j].name) < pV s.defs (l.drop j) es
   rw [eD]
   exact BK hx c2 c3
theorem qQ (s:SchemaR) (hd:∀ d ∈ s.defs,CT s.defs d.t/\TB d.t) (hm:s.defs.length<=1000) (t:ab) (ht:CT s.defs t) (hb:TB t) (hw:gK t + bY s.defs []<=100000):bx Tryz.prog 34 [.agg (aq s),.agg (encTyp t)] [] (.bc [.ob 1000 1000 (.mp .str .bool (bp s.defs t).2),.vec 1001 .typ (bp s.defs t).1]) [] :=
 bL aa Tryz.func34 rfl Tryz.call34 Tryz.results34 Tryz.ntmps34 (Nat.le_of_ble_eq_true rfl) (Nat.le_of_ble_eq_true rfl) (by rfl) (Gr s hd hm t ht hb hw)
theorem Gq (s:SchemaR) (hd:∀ d ∈ s.defs,CT s.defs d.t/\TB d.t) (hm:s.defs.length<=1000) (t:ab) (ht:CT s.defs t) (hb:TB t) (hw:gK t + bY s.defs []<=100000):vc Tryz.prog Γ 14 [2,3,4,6] (Tryz.f22.body.getD .skip) (aQ Γ [.tmp 4] (fun v=>v = .rd .typ (bp s.defs t).1)) ⟨ae 0 [.agg (aq s),.agg (encTyp t)],[]⟩:=by
 have hR:=qQ s hd hm t ht hb hw
 (repeat' (first | (refine iF (fun h=>?_) fun h=>?_)<;>try exact cX | refine bX ?_ | intro _))
 refine Or.inr (Or.inl (eX [] (eX _ (eX _ (eX _ (eX _ (eX _ (eX [(1000,11),(1001,12)] (aN (hR) ?_)))))))))
 refine (aN rfl (aN rfl (aN rfl (aN rfl ?_))))
 (repeat' (first | (refine iF (fun h=>?_) fun h=>?_)<;>try exact cX | refine bX ?_ | intro _))
 rfl
theorem qP (s:SchemaR) (hd:∀ d ∈ s.defs,CT s.defs d.t/\TB d.t) (hm:s.defs.length<=1000) (t:ab) (ht:CT s.defs t) (hb:TB t) (hw:gK t + bY s.defs []<=100000):ar Tryz.prog 22 [.agg (aq s),.agg (encTyp t)] (.rd .typ (bp s.defs t).1) :=
 ah aa Tryz.func22 rfl Tryz.call22 Tryz.results22 Tryz.ntmps22 (Nat.le_of_ble_eq_true rfl) (Gq s hd hm t ht hb hw)
end
end Go.Proofs.YtiijpgmpnijidaaGreatDoor
end
section
namespace Go.Proofs.YtiijpgmpnijidaaGreatDoor
open Go Go.SX Go.Ck Go.Vl Go.Ut Go.Ty
set_option maxRecDepth 100000
set_option maxHeartbeats 20000000
theorem A3 {Q:ab->Prop} (hQ:∀ t,Q t->∀ x ∈ Ty.inside t,Q x):∀ (k:Nat) (t:ab),SizeOf.sizeOf t < k->Q t->∀ a,∀ p ∈ bK t a,Q p.t:=by
 intro k
 induction k with
 | zero=>intro t h; exact absurd h (Nat.not_lt_zero _)
 | succ k ih =>
  intro t h ht a p hp
  rw [dD] at hp
  rcases List.mem_cons.1 hp with rfl | hp
  ·exact ht
  ·obtain ⟨x,hx,hp⟩:=List.mem_flatMap.1 hp
   exact ih x (by have:=bg hx; omega) (hQ t ht x hx) _ p hp
theorem oM {Q:ab->Prop} (hQ:∀ t,Q t->∀ x ∈ Ty.inside t,Q x) {s:SchemaR} (hd:∀ d ∈ s.defs,Q d.t) (hr:Q s.root):∀ p ∈ aW s,Q p.t:=by
 intro p hp
 unfold aW at hp
 rcases List.mem_append.1 hp with hp | hp
 ·obtain ⟨d,h1,hp⟩:=List.mem_flatMap.1 hp
  exact A3 hQ _ d.t (Nat.lt_succ_self _) (hd d h1) _ p hp
 ·exact A3 hQ _ s.root (Nat.lt_succ_self _) hr _ p hp
theorem vt {l:List ab} {x:ab} (h:x ∈ l):gK x<=cP l:=by
 induction l with
 | nil=>exact nomatch h
 | cons y r ih =>
  rw [dt]
  rcases List.mem_cons.1 h with rfl | h
  ·omega
  ·have:=ih h
   omega
theorem mP {t x:ab} (h:x ∈ Ty.inside t):gK x < gK t:=by
 rw [vu t]
 have:=vt h
 omega
theorem EI {l:List az} {d:az} (h:d ∈ l):gK d.t<=bY l []:=by
 unfold bY
 rw [mI]
 induction l with
 | nil=>exact nomatch h
 | cons y r ih =>
  rw [List.map_cons,List.sum_cons]
  rcases List.mem_cons.1 h with rfl | h
  ·omega
  ·have:=ih h
   omega
theorem sH {s:SchemaR}:∀ p ∈ aW s,gK p.t<=bY s.defs [] + gK s.root:=oM (Q:=fun t=>gK t<=bY s.defs [] + gK s.root) (fun t ht x hx=>by have:=mP hx; omega) (fun d hd=>by have:=EI hd; omega) (by omega)
theorem NK {l:List az} {A:List bD} {i:Nat} (h:i < A.length):(scan l (A.drop i) (i:Int)).1 = if eB l A[i] (i:Int)≠0 then eB l A[i] (i:Int) else (scan l (A.drop (i + 1)) ((i + 1:Nat):Int)).1:=by
 rw [List.drop_eq_getElem_cons h,scan]
 by_cases c:eB l A[i] (i:Int)≠0
 ·rw [if_pos c,if_pos c]
 ·rw [if_neg c,if_neg c]
  rfl
section
variable [G:Globs]
theorem v7 (hu:HasU8) (s:SchemaR) (hd:∀ d ∈ s.defs,TB d.t) (hr:TB s.root) (hn:s.defs.length<=2000000):vc Tryz.prog Γ 139 [1,2,3,4,5,6,7,8,9,10,11,13,14,17,18,19,21,23,24,26,30,32,33,34,35,46,56,57,58,59,64,69,74,78,79,80,81,94,96,97,98,99,104,105,106,109,110,111,112,121,122,123,124,129,136] (Tryz.f18.body.getD .skip) (aQ Γ [.tmp 2] (fun v=>v = .i .i64 (dn s))) ⟨ae 0 [.agg (aq s)],[]⟩:=by
 by_cases c1:50 < s.defs.length
 ·have hR:dn s = 2:=if_pos c1
  rw [hR]
  (repeat' (first | (refine iF (fun h=>?_) fun h=>?_)<;>try exact cX | refine bX ?_ | intro _))
  rfl
 have hR:dn s = iO (fy none (s.defs.map (·.name))) (iO (scan s.defs (aW s) 0).1 (if s.defs.any (rR s.defs) = true then 11 else eA s.defs (aW s))):=if_neg c1
 generalize dn s = R at hR ⊢
 have QC:(s.defs.map (·.name)).length = s.defs.length:=List.length_map ..
 (repeat' (first | (refine iF (fun h=>?_) fun h=>?_)<;>try exact cX | refine bX ?_ | intro _))
 refine eX [] (eX [] (eX [] (eX Nat (eX (fun i=>i<=(s.defs).length/\(fy none (s.defs.map (·.name)) = fy (dR (s.defs.map (·.name)) i) ((s.defs.map (·.name)).drop i))) (eX (fun i=>⟨[(1,.pt 1 0),(3,.s (if 0 < i then (s.defs.map (·.name)).getD (i - 1) [] else [])),(32,.rd .dfn s.defs),(33,.i .i64 s.defs.length),(34,.i .i64 i)],[(1,aq s)]⟩) (eX (fun i=>(s.defs).length - i) (eX 0 (aN ⟨Nat.zero_le _,rfl⟩ (aN ?_ ?_)))))))))
 ·exact wK
 rintro i ⟨hi,hI⟩
 refine aN (fun hz=>?_) (fun hz=>?_)
 ·have hi:=gd hz
  have hg:=cB (τ:=.dfn) hi
  refine bN2 ?_
  rw [hg]
  have Ai:i < (s.defs.map (·.name)).length:=by omega
  have S7:(s.defs.map (·.name))[i] = s.defs[i].name:=by rw [List.getElem_map]
  have hN:=rG s.defs[i].name (if 0 < i then (s.defs.map (·.name)).getD (i - 1) [] else []) ((i:Int) == 0)
  have Mr:(if ((i:Int) == 0) = true then none else some (if 0 < i then (s.defs.map (·.name)).getD (i - 1) [] else [])) = dR (s.defs.map (·.name)) i:=by
   unfold dR
   by_cases h0:0 < i
   ·rw [if_neg (by rw [beq_iff_eq]; omega),if_pos h0,if_pos h0]
   ·rw [if_pos (by rw [beq_iff_eq]; omega),if_neg h0]
  rw [Mr] at hN
  have V8:(if 0 < i + 1 then (s.defs.map (·.name)).getD (i + 1 - 1) [] else []) = s.defs[i].name:=by
   rw [if_pos (by omega),Nat.add_sub_cancel,List.getD_eq_getElem?_getD,List.getElem?_eq_getElem Ai,<- S7]
   rfl
  (repeat' (first | (refine iF (fun h=>?_) fun h=>?_)<;>try exact cX | refine bX ?_ | intro _))
  refine Or.inl (eX _ (aN (hN) ?_))
  by_cases k1:dG (dR (s.defs.map (·.name)) i) s.defs[i].name = 0
  rotate_left
  ·rw [jM Ai (by rw [S7]; exact k1),S7] at hI
   rw [hI,bE k1] at hR
   rw [hR]
   (repeat' (first | (refine iF (fun h=>?_) fun h=>?_)<;>try exact cX | refine bX ?_ | intro _))
   rfl
  rw [uw Ai (by rw [S7]; exact k1)] at hI
  rw [k1]
  (repeat' (first | (refine iF (fun h=>?_) fun h=>?_)<;>try exact cX | refine bX ?_ | intro _))
  refine eX [] (eX (i + 1) (aN ⟨hi,hI⟩ (aN ?_ ?_)))
  ·dsimp only
   rw [V8]
   exact wK
  ·(exact Nat.sub_lt_sub_left (by omega) (by omega))
 (have hi:=ga hi hz)
 rw [yl (by omega)] at hI
 rw [hI,aL] at hR
 clear hI
 have hG:=yG s hd hr hn
 have XV:(scan s.defs ((aW s).take 201) 0).1 = (scan s.defs (aW s) 0).1:=congrArg Prod.fst (Gh s.defs (aW s) 0 (by decide))
 have bO:=fun h=>nt (l:=s.defs) (aW s) 0 (by decide) h
 have gw:∀ p ∈ (aW s).take 201,TB p.t:=fun p hp=>oM (Q:=TB) (fun t ht x hx=>ht.inside x hx) hd hr p (List.mem_of_mem_take hp)
 have hAl:((aW s).take 201).length<=201:=List.length_take_le ..
 generalize hA:(aW s).take 201 = A at XV hG gw hAl
 rw [<- XV] at hR
 have Fz:(A.map (·.t)).length = A.length:=List.length_map ..
 have Xz:(A.map (·.bT)).length = A.length:=List.length_map ..
 (repeat' (first | (refine iF (fun h=>?_) fun h=>?_)<;>try exact cX | refine bX ?_ | intro _))
 refine Or.inl (eX _ (aN (hG) ?_))
 (repeat' (first | (refine iF (fun h=>?_) fun h=>?_)<;>try exact cX | refine bX ?_ | intro _))
 refine eX [] (eX [] (eX [] (eX Nat (eX (fun i=>i<=((A.map (·.t))).length/\((scan s.defs A 0).1 = (scan s.defs (A.drop i) (i:Int)).1)) (eX (fun i=>⟨[(1,.pt 1 0),(7,.rd .typ (A.map (·.t))),(8,.rd .int (A.map (·.bT))),(56,.rd .typ (A.map (·.t))),(57,.i .i64 (A.map (·.t)).length),(58,.i .i64 i)],[(1,aq s)]⟩) (eX (fun i=>((A.map (·.t))).length - i) (eX 0 (aN ⟨Nat.zero_le _,rfl⟩ (aN ?_ ?_)))))))))
 ·exact wK
 rintro i ⟨hi,hI⟩
 refine aN (fun hz=>?_) (fun hz=>?_)
 ·have hi:=gd hz
  have hg:=cB (τ:=.typ) hi
  refine bN2 ?_
  rw [hg]
  have Pm:i < A.length:=by omega
  have eT:(A.map (·.t))[i] = A[i].t:=by rw [List.getElem_map]
  have y9:(A.map (·.bT)).getD (i:Int).toNat (aD .int) = A[i].bT:=by
   show (A.map (·.bT)).getD i 0 = _
   rw [List.getD_eq_getElem?_getD,List.getElem?_eq_getElem (by omega),List.getElem_map]
   rfl
  have V0:@Eq Int ((A.map (·.bT)).getD i (aD .int)) A[i].bT:=y9
  rw [eT]
  have Lt:=Bm hu s A[i].t (gw _ (List.getElem_mem Pm)) hn
  rw [NK Pm] at hI
  have hL:eB s.defs A[i] (i:Int) = if 200 < (i:Int) + 1 then 2 else if 20<=A[i].bT then 5 else eP s.defs A[i].t:=rfl
  by_cases b1:200 < (i:Int) + 1
  ·rw [if_pos b1] at hL
   rw [hL,if_pos (by decide)] at hI
   rw [hI,bE (by decide)] at hR
   rw [hR]
   (repeat' (first | (refine iF (fun h=>?_) fun h=>?_)<;>try exact cX | refine bX ?_ | intro _))
   rfl
  rw [if_neg b1] at hL
  by_cases b2:20<=A[i].bT
  ·rw [if_pos b2] at hL
   rw [hL,if_pos (by decide)] at hI
   rw [hI,bE (by decide)] at hR
   rw [hR]
   (repeat' (first | (refine iF (fun h=>?_) fun h=>?_)<;>try exact cX | refine bX ?_ | intro _))
   rfl
  rw [if_neg b2] at hL
  by_cases b3:eP s.defs A[i].t = 0
  rotate_left
  ·rw [hL,if_pos b3] at hI
   rw [hI,bE b3] at hR
   rw [hR]
   (repeat' (first | (refine iF (fun h=>?_) fun h=>?_)<;>try exact cX | refine bX ?_ | intro _))
   refine Or.inl (eX _ (aN (Lt) ?_))
   (repeat' (first | (refine iF (fun h=>?_) fun h=>?_)<;>try exact cX | refine bX ?_ | intro _))
   rfl
  ·rw [hL,if_neg (fun h=>h b3)] at hI
   rw [b3] at Lt
   (repeat' (first | (refine iF (fun h=>?_) fun h=>?_)<;>try exact cX | refine bX ?_ | intro _))
   refine Or.inl (eX _ (aN (Lt) ?_))
   (repeat' (first | (refine iF (fun h=>?_) fun h=>?_)<;>try exact cX | refine bX ?_ | intro _))
   refine eX [] (eX (i + 1) (aN ⟨by omega,hI⟩ (aN ?_ ?_)))
   ·exact wK
   ·(exact Nat.sub_lt_sub_left (by omega) (by omega))
 (have hi:=ga hi hz)
 rw [List.drop_eq_nil_of_le (by omega)] at hI
 have hI:(scan s.defs A 0).1 = 0:=hI
 rw [hI,aL] at hR
 have IB:(scan s.defs (aW s) 0).1 = 0:=XV ▸ hI
 obtain ⟨hB,hL⟩:=J8 hd hr (by omega) IB
 obtain rfl:A = aW s:=by rw [<- hA,List.take_of_length_le (by have:=(bO IB).2; omega)]
 (repeat' (first | (refine iF (fun h=>?_) fun h=>?_)<;>try exact cX | refine bX ?_ | intro _))
 refine eX [] (eX [] (eX [] (eX Nat (eX (fun i=>i<=(s.defs).length/\(s.defs.any (rR s.defs) = (s.defs.drop i).any (rR s.defs))) (eX (fun i=>⟨[(1,.pt 1 0),(7,.rd .typ ((aW s).map (·.t))),(78,.rd .dfn s.defs),(79,.i .i64 s.defs.length),(80,.i .i64 i)],[(1,aq s)]⟩) (eX (fun i=>(s.defs).length - i) (eX 0 (aN ⟨Nat.zero_le _,rfl⟩ (aN ?_ ?_)))))))))
 ·exact wK
 rintro i ⟨hi,hI⟩
 refine aN (fun hz=>?_) (fun hz=>?_)
 ·have hi:=gd hz
  have hg:=cB (τ:=.dfn) hi
  refine bN2 ?_
  rw [hg]
  have hx:=List.getElem_mem hi
  have WN:=qQ s hB.defs hB.many s.defs[i].t (hB.defs _ hx).1 (hB.defs _ hx).2 (by have:=EI hx; have:=hB.types; omega)
  have hC:rR s.defs s.defs[i] = (cf (κ:=.str) (τ:=.bool) (bp s.defs s.defs[i].t).2 s.defs[i].name).getD false:=rfl
  rw [List.drop_eq_getElem_cons hi,List.any_cons,hC] at hI
  (repeat' (first | (refine iF (fun h=>?_) fun h=>?_)<;>try exact cX | refine bX ?_ | intro _))
  refine Or.inr (Or.inl (eX [] (eX _ (eX _ (eX _ (eX _ (eX _ (eX [(1000,89),(1001,90)] (aN (WN) ?_)))))))))
  refine (aN rfl (aN rfl (aN rfl (aN rfl ?_))))
  (repeat' (first | (refine iF (fun h=>?_) fun h=>?_)<;>try exact cX | refine bX ?_ | intro _))
  ·have hq:(cf (κ:=.str) (τ:=.bool) (bp s.defs s.defs[i].t).2 s.defs[i].name).getD false = true:=by assumption
   rw [hq,Bool.true_or] at hI
   rw [hI,if_pos rfl] at hR
   rw [hR]
   (repeat' (first | (refine iF (fun h=>?_) fun h=>?_)<;>try exact cX | refine bX ?_ | intro _))
   rfl
  ·have hq:(cf (κ:=.str) (τ:=.bool) (bp s.defs s.defs[i].t).2 s.defs[i].name).getD false = false:=by assumption
   rw [hq,Bool.false_or] at hI
   (repeat' (first | (refine iF (fun h=>?_) fun h=>?_)<;>try exact cX | refine bX ?_ | intro _))
   refine eX [] (eX (i + 1) (aN ⟨hi,hI⟩ (aN ?_ ?_)))
   ·exact wK
   ·(exact Nat.sub_lt_sub_left (by omega) (by omega))
 (have hi:=ga hi hz)
 rw [List.drop_eq_nil_of_le (by omega)] at hI
 rw [hI,if_neg (by intro h; cases h),s7 (fun d h=>(hB.defs d h).1) (aW s) (xV hB)] at hR
 have hR:R = if ((aW s).drop 0).any (fun p=>Fi s.defs p.t) = true then 13 else 0:=hR
 clear hI
 (repeat' (first | (refine iF (fun h=>?_) fun h=>?_)<;>try exact cX | refine bX ?_ | intro _))
 refine eX [] (eX [] (eX [] (eX Nat (eX (fun i=>i<=(((aW s).map (·.t))).length/\(R = if ((aW s).drop i).any (fun p=>Fi s.defs p.t) = true then 13 else 0)) (eX (fun i=>⟨[(1,.pt 1 0),(96,.rd .typ ((aW s).map (·.t))),(97,.i .i64 ((aW s).map (·.t)).length),(98,.i .i64 i)],[(1,aq s)]⟩) (eX (fun i=>(((aW s).map (·.t))).length - i) (eX 0 (aN ⟨Nat.zero_le _,hR⟩ (aN ?_ ?_)))))))))
 ·exact wK
 rintro i ⟨hi,hI⟩
 refine aN (fun hz=>?_) (fun hz=>?_)
 ·have hi:=gd hz
  have hg:=cB (τ:=.typ) hi
  refine bN2 ?_
  rw [hg]
  have Pm:i < (aW s).length:=by omega
  have eT:((aW s).map (·.t))[i] = (aW s)[i].t:=by rw [List.getElem_map]
  rw [eT]
  have hx:=List.getElem_mem Pm
  have Zr:=xV hB _ hx
  have U1:=gw _ hx
  have hxn:=sH _ hx
  rw [List.drop_eq_getElem_cons Pm,List.any_cons] at hI
  generalize (aW s)[i].t = t at hI Zr U1 hxn
  have VX:Fi s.defs t = (decide (t.kind = 11) && (List.range 7).any fun j=>decide (1 < t.t.countP fun x=>tl s.defs x j)):=rfl
  by_cases k1:t.kind = 11
  rotate_left
  ·rw [VX,decide_eq_false k1,Bool.false_and,Bool.false_or] at hI
   (repeat' (first | (refine iF (fun h=>?_) fun h=>?_)<;>try exact cX | refine bX ?_ | intro _))
   refine eX [] (eX (i + 1) (aN ⟨by omega,hI⟩ (aN ?_ ?_)))
   ·exact wK
   ·(exact Nat.sub_lt_sub_left (by omega) (by omega))
  rw [decide_eq_true k1,Bool.true_and] at VX
  (repeat' (first | (refine iF (fun h=>?_) fun h=>?_)<;>try exact cX | refine bX ?_ | intro _))
  refine eX [] (eX [] (eX [] (eX Nat (eX (fun k=>k<=7/\∀ j,j < k->¬ 1 < t.t.countP fun x=>tl s.defs x j) (eX (fun k=>⟨[(1,.pt 1 0),(17,.pt 17 0),(96,.rd .typ ((aW s).map (·.t))),(97,.i .i64 ((aW s).map (·.t)).length),(98,.i .i64 i),(105,.i .i64 k)],[(1,aq s),(17,encTyp t)]⟩) (eX (fun k=>7 - k) (eX 0 (aN ⟨by decide,fun j h=>absurd h (Nat.not_lt_zero _)⟩ (aN ?_ ?_)))))))))
  ·exact wK
  rintro k ⟨hk,hK⟩
  refine aN (fun hz=>?_) (fun hz=>?_)
  ·have V2:k < 7:=by have:(k:Int) < 7:=of_decide_eq_true hz; omega
   have X1:=(by cases U1; omega:t.t.length<=2000000)
   (repeat' (first | (refine iF (fun h=>?_) fun h=>?_)<;>try exact cX | refine bX ?_ | intro _))
   refine eX [] (eX [] (eX [] (eX (Nat × Nat) (eX (fun q=>q.1<=t.t.length/\q.2 + (t.t.drop q.1).countP (fun x=>tl s.defs x k) = t.t.countP (fun x=>tl s.defs x k)) (eX (fun ⟨u,m⟩=>⟨[(1,.pt 1 0),(17,.pt 17 0),(18,.i .i64 k),(19,.i .i64 (m:Int)),(96,.rd .typ ((aW s).map (·.t))),(97,.i .i64 ((aW s).map (·.t)).length),(98,.i .i64 i),(105,.i .i64 k),(109,.rd .typ t.t),(110,.i .i64 t.t.length),(111,.i .i64 u)],[(1,aq s),(17,encTyp t)]⟩) (eX (fun q=>t.t.length - q.1) (eX (0,0) (aN ⟨Nat.zero_le _,Nat.zero_add _⟩ (aN ?_ ?_)))))))))
   ·exact wK
   rintro ⟨u,m⟩ ⟨hu,hM⟩
   dsimp only at hu hM
   have hmb:m<=2000000:=by have:=List.countP_le_length (p:=fun x=>tl s.defs x k) (l:=t.t); omega
   refine aN (fun ID=>?_) (fun ID=>?_)
   ·have hu:=gd ID
    have hg:=cB (τ:=.typ) hu
    have U0:=List.getElem_mem hu
    have ix:t.t[u] ∈ Ty.inside t:=List.mem_append_left _ U0
    have X8:=Zr.part _ U0
    have MS:=U1.inside _ ix
    have hyn:=mP ix
    have hty:=hB.types
    have WN:=qQ s hB.defs hB.many t.t[u] X8 MS (by have:=yC (w:=fun d=>gK d.t) (l:=s.defs) (es:=[]) (fs:=[]) fun _ h=>h; omega)
    have Iq:=ql (fun d hd=>(hB.defs d hd).1) (dB s.defs t.t[u] [] + 1) t.t[u] [] X8
    rw [List.drop_eq_getElem_cons hu,List.countP_cons] at hM
    have UU:tl s.defs t.t[u] k = (bp s.defs t.t[u]).1.any fun y=>bC y.kind (k:Int):=rfl
    have hlen:=xR (fun d hd=>(hB.defs d hd).1) (dB s.defs t.t[u] [] + 1) t.t[u] [] X8
    have hlen:(bp s.defs t.t[u]).1.length<=200000:=by
     have:(bp s.defs t.t[u]).1.length + _<=_:=hlen
     omega
    have Iq:∀ y ∈ (bp s.defs t.t[u]).1,lx y:=Iq
    refine bN2 ?_
    rw [hg]
    (repeat' (first | (refine iF (fun h=>?_) fun h=>?_)<;>try exact cX | refine bX ?_ | intro _))
    refine Or.inr (Or.inl (eX [] (eX _ (eX _ (eX _ (eX _ (eX _ (eX [(1000,119),(1001,120)] (aN (WN) ?_)))))))))
    refine (aN rfl (aN rfl (aN rfl (aN rfl ?_))))
    generalize (bp s.defs t.t[u]).1 = ps at UU hlen Iq
    (repeat' (first | (refine iF (fun h=>?_) fun h=>?_)<;>try exact cX | refine bX ?_ | intro _))
    refine eX [] (eX [] (eX [(999,120)] (eX (Nat × Nat) (eX (fun q=>q.1<=ps.length/\q.2<=1/\tl s.defs t.t[u] k = (decide (q.2 = 1) || (ps.drop q.1).any fun y=>bC y.kind (k:Int))) (eX (fun ⟨v,b⟩=>⟨[(1,.pt 1 0),(17,.pt 17 0),(18,.i .i64 k),(19,.i .i64 (m:Int)),(24,.i .i64 (b:Int)),(96,.rd .typ ((aW s).map (·.t))),(97,.i .i64 ((aW s).map (·.t)).length),(98,.i .i64 i),(105,.i .i64 k),(109,.rd .typ t.t),(110,.i .i64 t.t.length),(111,.i .i64 u),(121,.rd .typ ps),(122,.i .i64 ps.length),(123,.i .i64 v)],[(1,aq s),(17,encTyp t)]⟩) (eX (fun q=>ps.length - q.1) (eX (0,0) (aN ⟨Nat.zero_le _,Nat.zero_le _,UU⟩ (aN ?_ ?_)))))))))
    ·exact wK
    rintro ⟨v,b⟩ ⟨hv,Lu,hV⟩
    dsimp only at hv hV Lu
    refine aN (fun X9=>?_) (fun X9=>?_)
    ·have hv:=gd X9
     have hg:=cB (τ:=.typ) hv
     have hT:=EA ps[v] (k:Int) (by omega) (by omega)
     rw [List.drop_eq_getElem_cons hv,List.any_cons] at hV
     generalize bC ps[v].kind (k:Int) = q at hV hT
     refine bN2 ?_
     rw [hg]
     (repeat' (first | (refine iF (fun h=>?_) fun h=>?_)<;>try exact cX | refine bX ?_ | intro _))
     refine Or.inl (eX _ (aN (hT) ?_))
     cases q with
     | true =>
      rw [Bool.true_or,Bool.or_true] at hV
      (repeat' (first | (refine iF (fun h=>?_) fun h=>?_)<;>try exact cX | refine bX ?_ | intro _))
      refine eX [] (eX (v + 1,1) (aN ⟨hv,Nat.le_refl _,hV⟩ (aN ?_ ?_)))
      ·exact wK
      ·(exact Nat.sub_lt_sub_left (by omega) (by omega))
     | false =>
      rw [Bool.false_or] at hV
      (repeat' (first | (refine iF (fun h=>?_) fun h=>?_)<;>try exact cX | refine bX ?_ | intro _))
      refine eX [] (eX (v + 1,b) (aN ⟨hv,Lu,hV⟩ (aN ?_ ?_)))
      ·exact wK
      ·(exact Nat.sub_lt_sub_left (by omega) (by omega))
    ·have hv:=ga hv X9
     rw [List.drop_eq_nil_of_le (by omega),List.any_nil,Bool.or_false] at hV
     rw [hV] at hM
     have hM:m + b + (t.t.drop (u + 1)).countP (fun x=>tl s.defs x k) = t.t.countP (fun x=>tl s.defs x k):=by
      rcases (show b = 0\/b = 1 by omega) with rfl | rfl
      ·rw [if_neg (fun h=>absurd (of_decide_eq_true h) (by omega))] at hM
       omega
      ·rw [if_pos (decide_eq_true rfl)] at hM
       omega
     (repeat' (first | (refine iF (fun h=>?_) fun h=>?_)<;>try exact cX | refine bX ?_ | intro _))
     refine eX [] (eX (u + 1,m + b) (aN ⟨hu,hM⟩ (aN ?_ ?_)))
     ·exact wK
     ·(exact Nat.sub_lt_sub_left (by omega) (by omega))
   ·have hu:=ga hu ID
    rw [List.drop_eq_nil_of_le (by omega),List.countP_nil,Nat.add_zero] at hM
    by_cases k2:1 < m
    ·have : Fi s.defs t = true := by
      rw [VX]
      exact List.any_eq_true.2 ⟨k,List.mem_range.2 V2,decide_eq_true (by rw [<- hM]; exact k2)⟩
     rw [this,Bool.true_or,if_pos rfl] at hI
     rw [hI]
     (repeat' (first | (refine iF (fun h=>?_) fun h=>?_)<;>try exact cX | refine bX ?_ | intro _))
     rfl
    ·(repeat' (first | (refine iF (fun h=>?_) fun h=>?_)<;>try exact cX | refine bX ?_ | intro _))
     have DO:∀ j,j < k + 1->¬ 1 < t.t.countP fun x=>tl s.defs x j:=fun j hj=>by
      rcases Nat.lt_succ_iff_lt_or_eq.1 hj with h1 | rfl
      ·exact hK j h1
      ·rw [<- hM]; exact k2
     refine eX [] (eX (k + 1) (aN ⟨V2,DO⟩ (aN ?_ ?_)))
     ·exact wK
     ·(exact Nat.sub_lt_sub_left (by omega) (by omega))
  ·have V2:k = 7:=by have:¬ (k:Int) < 7:=of_decide_eq_false hz; omega
   have:Fi s.defs t = false:=by
    rw [VX,List.any_eq_false]
    intro j hj
    rw [decide_eq_true_eq]
    exact hK j (by rw [V2]; exact List.mem_range.1 hj)
   rw [this,Bool.false_or] at hI
   (repeat' (first | (refine iF (fun h=>?_) fun h=>?_)<;>try exact cX | refine bX ?_ | intro _))
   refine eX [] (eX (i + 1) (aN ⟨by omega,hI⟩ (aN ?_ ?_)))
   ·exact wK
   ·(exact Nat.sub_lt_sub_left (by omega) (by omega))
 (have hi:=ga hi hz)
 rw [List.drop_eq_nil_of_le (by omega)] at hI
 have hI:R = 0:=hI
 rw [hI]
 (repeat' (first | (refine iF (fun h=>?_) fun h=>?_)<;>try exact cX | refine bX ?_ | intro _))
 rfl
theorem vX (hu:HasU8) (s:SchemaR) (hd:∀ d ∈ s.defs,TB d.t) (hr:TB s.root) (hn:s.defs.length<=2000000):ar Tryz.prog 18 [.agg (aq s)] (.i .i64 (dn s)) :=
 ah aa Tryz.func18 rfl Tryz.call18 Tryz.results18 Tryz.ntmps18 (Nat.le_of_ble_eq_true rfl) (v7 hu s hd hr hn)
end
end Go.Proofs.YtiijpgmpnijidaaGreatDoor
end
section
namespace Go.Proofs.YtiijpgmpnijidaaGreatDoor
open Go Go.SX Go.Ck Go.Vl Go.Ut Go.Ty
set_option maxRecDepth 100000
set_option maxHeartbeats 4000000
def lb (n lo hi:Int):Bool:=decide (lo<=n) && decide (n<=hi)
def iH (ps:List ab) (k:Int):Option ab:=ps.find? fun y=>bC y.kind k
def kJ (fl:List gL) (k:aH):Option gL:=fl.find? fun f=>f.name == k
def xD (full:Bool) (f:gL):Bool:=(!f.opt && !f.du) || (full && f.du)
def ji (full:Bool) (fl:List gL) (E:List kA):Bool:=fl.any fun f=>xD full f && decide (AA E (iC f.name) < 0)
mutual
noncomputable def ef (l:List az) (full:Bool):aT->ab->List jy × Bool
 | ⟨k,n,f,s,L,E⟩,t=>match iH (bp l t).1 k with
  | none=>([],true)
  | some x =>
   if x.kind = 4 then ([],!lb n x.lo x.hi) else if x.kind = 6 then ([],!lb ((cK s).length:Nat) x.lo x.hi) else if x.kind = 7 then ([],!(x.texts.any fun y=>y == s))
   else if x.kind = 8 then (if lb (L.length:Nat) x.lo x.hi = true then Dd l full L (x.t.getD 0 (aD .typ)) 0 else ([],true))
   else if x.kind = 9 then Dg l full E (x.t.getD 0 (aD .typ)) else if x.kind = 10 then pX l full E x.f (ji full x.f E) else ([],false)
noncomputable def Dd (l:List az) (full:Bool):List aT->ab->Nat->List jy × Bool
 | [],_,_=>([],false)
 | v::r,t,i=>if (ef l full v t).2 = true then (⟨[],(i:Int)⟩::(ef l full v t).1,true) else Dd l full r t (i + 1)
noncomputable def Dg (l:List az) (full:Bool):List (aH × aT)->ab->List jy × Bool
 | [],_=>([],false)
 | p::r,t=>if (Tg l full p t).2 = true then (⟨p.1,-1⟩::(Tg l full p t).1,true) else Dg l full r t
noncomputable def pX (l:List az) (full:Bool):List (aH × aT)->List gL->Bool->List jy × Bool
 | [],_,m=>([],m)
 | p::r,fl,m=>match kJ fl p.1 with
  | none=>([⟨p.1,-1⟩],true)
  | some f=>if (Tg l full p f.t).2 = true then (⟨p.1,-1⟩::(Tg l full p f.t).1,true) else pX l full r fl m
noncomputable def Tg (l:List az) (full:Bool):aH × aT->ab->List jy × Bool
 | (_,v),t=>ef l full v t
end
theorem yV (l:List az) (full:Bool) (p:aH × aT) (t:ab):Tg l full p t = ef l full p.2 t:=by
 obtain ⟨k,v⟩:=p
 rw [Tg]
noncomputable def pG (l:List az) (full:Bool) (x:ab) (v:aT):List jy × Bool :=
 if x.kind = 4 then ([],!lb v.n x.lo x.hi) else if x.kind = 6 then ([],!lb ((cK v.s).length:Nat) x.lo x.hi) else if x.kind = 7 then ([],!(x.texts.any fun y=>y == v.s))
 else if x.kind = 8 then (if lb (v.l.length:Nat) x.lo x.hi = true then Dd l full v.l (x.t.getD 0 (aD .typ)) 0 else ([],true))
 else if x.kind = 9 then Dg l full v.e (x.t.getD 0 (aD .typ)) else if x.kind = 10 then pX l full v.e x.f (ji full x.f v.e) else ([],false)
theorem Dh (l : List az) (full : Bool) (v : aT) (t : ab) : ef l full v t = match iH (bp l t).1 v.kind with
  | none=>([],true)
  | some x=>pG l full x v:=by
 obtain ⟨k,n,f,s,L,E⟩:=v
 rw [ef]
 rfl
theorem BN (l:List az) (full:Bool) {L:List aT} {t:ab} {i:Nat} (h:i < L.length):Dd l full (L.drop i) t i = if (ef l full L[i] t).2 = true then (⟨[],(i:Int)⟩::(ef l full L[i] t).1,true) else Dd l full (L.drop (i + 1)) t (i + 1):=by
 rw [List.drop_eq_getElem_cons h,Dd]
theorem BO (l:List az) (full:Bool) {E:List kA} {t:ab} {i:Nat} (h:i < E.length):Dg l full (E.drop i) t = if (ef l full E[i].2 t).2 = true then (⟨E[i].1,-1⟩::(ef l full E[i].2 t).1,true) else Dg l full (E.drop (i + 1)) t:=by
 rw [List.drop_eq_getElem_cons h,Dg,yV]
theorem BP (l : List az) (full : Bool) {E : List kA} {fl : List gL} {m : Bool} {i : Nat} (h : i < E.length) : pX l full (E.drop i) fl m = match kJ fl E[i].1 with
  | none=>([⟨E[i].1,-1⟩],true)
  | some f=>if (ef l full E[i].2 f.t).2 = true then (⟨E[i].1,-1⟩::(ef l full E[i].2 f.t).1,true) else pX l full (E.drop (i + 1)) fl m:=by
 rw [List.drop_eq_getElem_cons h,pX]
 cases kJ fl E[i].1 with
 | none=>rfl
 | some f=>simp only [yV]
inductive GV:Nat->aT->Prop
 | mk (d:Nat) (v:aT):VB v->(0<=v.kind/\v.kind<=6)->bad v.s < 0->(v.s.length<=4000/\v.l.length<=200/\v.e.length<=200)->(∀ x ∈ v.l,GV d x)->(∀ p ∈ v.e,GV d p.2)->GV (d + 1) v
theorem zr {a:Int}:∀ (l:List aT) (m:Int),(fb l a m).1 = 0->∀ x ∈ l,∃ m',(dE x a m').1 = 0
 | [],_,_,x,hx=>nomatch hx
 | y::r,m,h,x,hx=>by
  rw [fb] at h
  cases hy:dE y a m with
  | mk e m1 =>
   rw [hy] at h
   by_cases c:e = 0
   ·simp only [c,ne_eq,not_true_eq_false,if_false] at h
    rcases List.mem_cons.1 hx with rfl | hx
    ·exact ⟨m,by rw [hy]; exact c⟩
    ·exact zr r m1 h x hx
   ·simp only [ne_eq,c,not_false_eq_true,if_true] at h
theorem TP:∀ (k:Nat) (v:aT),SizeOf.sizeOf v < k->VB v->∀ (d:Nat) (a m:Int),a + d = 20->(dE v a m).1 = 0->GV d v:=by
 intro k
 induction k with
 | zero=>intro v h; exact absurd h (Nat.not_lt_zero _)
 | succ k ih =>
  intro v h hb d a m hd hc
  rw [xP] at hc
  by_cases c1:2000 < m + 1
  ·rw [if_pos c1] at hc; exact absurd (show (2:Int) = 0 from hc) (by decide)
  rw [if_neg c1] at hc
  by_cases c2:qK v a≠0
  ·rw [if_pos c2] at hc; exact absurd hc c2
  rw [if_neg c2] at hc
  have c2:qK v a = 0:=Decidable.not_not.1 c2
  rw [AX] at c2
  by_cases c3:20<=a
  ·rw [if_pos c3] at c2; exact absurd c2 (by decide)
  rw [if_neg c3] at c2
  unfold n0 at c2
  by_cases c4:b9 v
  ·rw [if_pos c4] at c2; exact absurd c2 (by decide)
  rw [if_neg c4] at c2
  by_cases c5:4000 < v.s.length\/200 < v.l.length\/200 < v.e.length
  ·rw [if_pos c5] at c2; exact absurd c2 (by decide)
  rw [if_neg c5] at c2
  by_cases c6:0<=bad v.s
  ·rw [if_pos c6] at c2; exact absurd c2 (by decide)
  obtain ⟨d,rfl⟩:∃ e,d = e + 1:=⟨d - 1,by omega⟩
  have gw:=zr (partsOf v) (m + 1) hc
  have hbb:=hb
  cases hb with
  | mk _ b1 b2 b3 b4 b5 =>
   refine .mk d v hbb ⟨?_,?_⟩ (by omega) ⟨by omega,by omega,by omega⟩ (fun x hx=>?_) (fun p hp=>?_)
   ·exact Int.not_lt.1 fun h9=>c4 (.inl (.inl h9))
   ·exact Int.not_lt.1 fun h9=>c4 (.inl (.inr h9))
   ·obtain ⟨m',hm⟩:=gw x (List.mem_append_left _ hx)
    have h1:=List.sizeOf_lt_of_mem hx
    obtain ⟨a1,a2,a3,a4,a5,a6⟩:=v
    simp only at h1
    simp only [aT.mk.sizeOf_spec] at h
    exact ih x (by omega) (b4 x hx) d (a + 1) m' (by omega) hm
   ·obtain ⟨m',hm⟩:=gw p.2 (List.mem_append_right _ (List.mem_map.2 ⟨p,hp,rfl⟩))
    have h1:=List.sizeOf_lt_of_mem hp
    obtain ⟨a1,a2,a3,a4,a5,a6⟩:=v
    obtain ⟨q,w⟩:=p
    simp only [Prod.mk.sizeOf_spec] at h1
    simp only [aT.mk.sizeOf_spec] at h
    exact ih w (by omega) (b5 _ hp) d (a + 1) m' (by omega) hm
theorem Qe {v:aT} (hb:VB v) (h:(dE v 0 0).1 = 0):GV 20 v:=TP _ v (Nat.lt_succ_self _) hb 20 0 0 (by decide) h
/-! what a bR schema holds -/
theorem uP:∀ (k:Nat) (t:ab),SizeOf.sizeOf t < k->∀ a,∀ p ∈ bK t a,∀ x ∈ Ty.inside p.t,∃ q ∈ bK t a,q.t = x:=by
 intro k
 induction k with
 | zero=>intro t h; exact absurd h (Nat.not_lt_zero _)
 | succ k ih =>
  intro t h a p hp x hx
  rw [dD] at hp ⊢
  rcases List.mem_cons.1 hp with rfl | hp
  ·exact ⟨⟨x,a + 1⟩,List.mem_cons_of_mem _ (List.mem_flatMap.2 ⟨x,hx,by rw [dD]; exact List.mem_cons_self ..⟩),rfl⟩
  ·obtain ⟨y,hy,hp⟩:=List.mem_flatMap.1 hp
   obtain ⟨q,hq,e⟩:=ih y (by have:=bg hy; omega) _ p hp x hx
   exact ⟨q,List.mem_cons_of_mem _ (List.mem_flatMap.2 ⟨y,hy,hq⟩),e⟩
def dz (s:SchemaR) (t:ab):Prop:=∃ p ∈ aW s,p.t = t
theorem fe {s:SchemaR} {t:ab} (h:dz s t):∀ x ∈ Ty.inside t,dz s x:=by
 intro x hx
 obtain ⟨p,hp,rfl⟩:=h
 unfold aW at hp
 rcases List.mem_append.1 hp with hp | hp
 ·obtain ⟨d,hd,hp⟩:=List.mem_flatMap.1 hp
  obtain ⟨q,hq,e⟩:=uP _ d.t (Nat.lt_succ_self _) _ p hp x hx
  exact ⟨q,List.mem_append_left _ (List.mem_flatMap.2 ⟨d,hd,hq⟩),e⟩
 ·obtain ⟨q,hq,e⟩:=uP _ s.root (Nat.lt_succ_self _) _ p hp x hx
  exact ⟨q,List.mem_append_right _ hq,e⟩
theorem eb (s:SchemaR):dz s s.root:=⟨⟨s.root,0⟩,List.mem_append_right _ (by rw [dD]; exact List.mem_cons_self ..),rfl⟩
theorem gx {s:SchemaR} {d:az} (h:d ∈ s.defs):dz s d.t:=⟨⟨d.t,0⟩,List.mem_append_left _ (List.mem_flatMap.2 ⟨d,h,by rw [dD]; exact List.mem_cons_self ..⟩),rfl⟩
structure GS (s:SchemaR):Prop where
 sb:SB s
 tb:∀ t,dz s t->TB t
 ok:∀ t,dz s t->eP s.defs t = 0
 cl:∀ t,dz s t->Fi s.defs t = false
theorem HV {s:SchemaR} (hd:∀ d ∈ s.defs,TB d.t) (hr:TB s.root) (h:dn s = 0):GS s:=by
 obtain ⟨hB,_⟩:=Ho hd hr h
 unfold dn at h
 split at h
 ·cases h
 have h1:fy none (s.defs.map (·.name)) = 0:=Decidable.byContradiction fun c=>by rw [bE c] at h; exact c h
 rw [h1,aL] at h
 have h2:(scan s.defs (aW s) 0).1 = 0:=Decidable.byContradiction fun c=>by rw [bE c] at h; exact c h
 rw [h2,aL] at h
 split at h
 ·cases h
 rw [s7 (fun d h=>(hB.defs d h).1) (aW s) (xV hB)] at h
 obtain ⟨hz,_⟩:=nt (aW s) 0 (by decide) h2
 refine ⟨hB,fun t ⟨p,hp,e⟩=>e ▸ oM (Q:=TB) (fun t ht x hx=>ht.inside x hx) hd hr p hp,fun t ⟨p,hp,e⟩=>e ▸ (hz p hp).1,fun t ⟨p,hp,e⟩=>?_⟩
 cases hc:Fi s.defs t with
 | false=>rfl
 | true =>
  have:((aW s).any fun p=>Fi s.defs p.t) = true:=List.any_eq_true.2 ⟨p,hp,by rw [e]; exact hc⟩
  rw [this,if_pos rfl] at h
  cases h
theorem GS.ct {s:SchemaR} (h:GS s) {t:ab} (ht:dz s t):CT s.defs t:=by
 obtain ⟨p,hp,e⟩:=ht
 exact e ▸ xV h.sb p hp
theorem GS.num {s:SchemaR} (h:GS s) {t:ab} (ht:dz s t):gK t + bY s.defs []<=100000:=by
 obtain ⟨p,hp,e⟩:=ht
 have h1:=sH p hp
 have h2:=h.sb.types
 rw [e] at h1
 omega
theorem GS.parts {s:SchemaR} (h:GS s) {t:ab} (ht:dz s t):∀ y ∈ (bp s.defs t).1,lx y/\dz s y:=fun y hy =>
 ⟨ql (fun d hd=>(h.sb.defs d hd).1) (dB s.defs t [] + 1) t [] (h.ct ht) y hy,Fh (Q:=dz s) (fun d hd=>⟨(h.sb.defs d hd).1,gx hd⟩) (fun t ht x hx=>fe ht x (List.mem_append_left _ hx)) (dB s.defs t [] + 1) t [] (h.ct ht) ht y hy⟩
theorem GS.len {s:SchemaR} (h:GS s) {t:ab} (ht:dz s t):(bp s.defs t).1.length<=100000:=by
 have h1:=xR (fun d hd=>(h.sb.defs d hd).1) (dB s.defs t [] + 1) t [] (h.ct ht)
 have h1:(bp s.defs t).1.length + _<=_:=h1
 have:=h.num ht
 omega
theorem GS.one {s:SchemaR} (h:GS s) {t:ab} (ht:dz s t) {k:Int} (h0:0<=k) (h6:k<=6):(bp s.defs t).1.countP (fun y=>bC y.kind k)<=1:=by
 refine Hp (Q:=dz s) (fun d hd=>⟨(h.sb.defs d hd).1,gx hd⟩) (fun t ht x hx=>fe ht x (List.mem_append_left _ hx)) (fun t ht hk=>?_) (dB s.defs t [] + 1) t [] (h.ct ht) ht
 have hc:=h.cl t ht
 unfold Fi at hc
 rw [decide_eq_true hk,Bool.true_and,List.any_eq_false] at hc
 have:=hc k.toNat (List.mem_range.2 (by omega))
 rw [decide_eq_true_eq] at this
 refine Nat.le_of_not_lt fun h9=>this ?_
 refine Nat.lt_of_lt_of_le h9 (Nat.le_of_eq ?_)
 have e:((k.toNat:Nat):Int) = k:=by omega
 unfold tl
 rw [e]
 rfl
def rz (p:ab->Bool) (z:ab):List ab->ab
 | []=>z
 | x::r=>rz p (if p x = true then x else z) r
theorem ud {p:ab->Bool}:∀ (r:List ab) (z:ab),r.countP p = 0->rz p z r = z
 | [],_,_=>rfl
 | x::r,z,h=>by
  rw [List.countP_cons] at h
  have h1:¬ p x = true:=fun e=>by rw [if_pos e] at h; omega
  rw [rz,if_neg h1]
  exact ud r z (by omega)
theorem uc {p:ab->Bool}:∀ (r:List ab) (z:ab),r.countP p<=1->rz p z r = (r.find? p).getD z
 | [],_,_=>rfl
 | x::r,z,h=>by
  rw [List.countP_cons] at h
  rw [rz,List.find?_cons]
  cases hx:p x with
  | true =>
   rw [hx,if_pos rfl] at h
   rw [if_pos rfl]
   exact ud r x (by omega)
  | false =>
   rw [hx,if_neg (by decide)] at h
   rw [if_neg (by decide)]
   exact uc r z (by omega)
/-! fields -/
theorem tq:∀ (l:List gL) (q:Option aH),lW q l = 0->(l.Pairwise fun f g=>Op.bytesLess f.name g.name = true)/\(∀ k,q = some k->∀ f ∈ l,Op.bytesLess k f.name = true)/\∀ f ∈ l,(dE f.aD 0 0).1 = 0
 | [],_,_=>⟨List.Pairwise.nil,(fun _ _ f hf=>nomatch hf),fun f hf=>nomatch hf⟩
 | x::r,q,h=>by
  rw [lW] at h
  obtain ⟨h1,h2⟩:=Up.AZ h
  unfold zR at h1
  obtain ⟨h1,h5⟩:=Up.AZ h1
  obtain ⟨h5,_⟩:=Up.AZ h5
  obtain ⟨h3,h4,h6⟩:=tq r (some x.name) h2
  refine ⟨List.Pairwise.cons (fun f hf=>h4 x.name rfl f hf) h3,fun k hk=>?_,fun f hf=>?_⟩
  ·subst hk
   have hx:Op.bytesLess k x.name = true:=by
    unfold dG at h1
    split at h1
    ·cases h1
    split at h1
    ·cases h1
    simp only at h1
    split at h1
    ·assumption
    ·cases h1
   intro f hf
   rcases List.mem_cons.1 hf with rfl | hf
   ·exact hx
   ·exact Up.oh hx (h4 x.name rfl f hf)
  ·rcases List.mem_cons.1 hf with rfl | hf
   ·exact h5
   ·exact h6 f hf
theorem GS.TJ {s:SchemaR} (h:GS s) {t:ab} (ht:dz s t) (hk:t.kind = 10):lW none t.f = 0:=by
 have h1:=h.ok t ht
 unfold eP at h1
 split at h1
 ·cases h1
 split at h1
 ·cases h1
 have h1:iw t.f = 0:=by
  rw [if_neg (show ¬ t.kind = 7 by omega)] at h1
  first | exact h1 | (rw [if_pos hk] at h1; exact h1)
 unfold iw at h1
 split at h1
 ·cases h1
 ·exact h1
def BR (l:List gL) (k:aH):Int:=if l.findIdx (fun f=>f.name == k) < l.length then (l.findIdx (fun f=>f.name == k):Nat) else -1
theorem x0 (k:aH):∀ l:List gL,(l.findIdx (fun f=>f.name == k) < l.length->kJ l k = some (l.getD (l.findIdx fun f=>f.name == k) (aD .eJ)))/\(¬ l.findIdx (fun f=>f.name == k) < l.length->kJ l k = none)
 | []=>⟨fun h=>absurd h (Nat.not_lt_zero _),fun _=>rfl⟩
 | x::r=>by
  obtain ⟨h1,h2⟩:=x0 k r
  unfold kJ at h1 h2 ⊢
  rw [List.findIdx_cons,List.find?_cons]
  cases hx:(x.name == k) with
  | true=>exact ⟨fun _=>rfl,fun h=>absurd (Nat.zero_lt_succ _) h⟩
  | false =>
   simp only [cond_false,List.length_cons,Nat.add_lt_add_iff_right]
   exact ⟨fun h=>by rw [h1 h]; rfl,fun h=>h2 h⟩
theorem HP {l:List gL} {k:aH} (h:BR l k < 0):kJ l k = none:=(x0 k l).2 fun h9=>by
 unfold BR at h
 rw [if_pos h9] at h
 omega
theorem HQ {l:List gL} {k:aH} (h:¬ BR l k < 0):0<=BR l k/\BR l k < (l.length:Int)/\kJ l k = some (l.getD (BR l k).toNat (aD .eJ))/\l.getD (BR l k).toNat (aD .eJ) ∈ l:=by
 by_cases h9:l.findIdx (fun f=>f.name == k) < l.length
 ·have e:BR l k = ((l.findIdx fun f=>f.name == k:Nat):Int):=if_pos h9
  rw [e]
  refine ⟨by omega,by omega,(x0 k l).1 h9,?_⟩
  rw [Int.toNat_natCast,List.getD_eq_getElem?_getD,List.getElem?_eq_getElem h9]
  exact List.getElem_mem h9
 ·exact absurd (by unfold BR; rw [if_neg h9]; decide) h
end Go.Proofs.YtiijpgmpnijidaaGreatDoor
end
section
namespace Go.Proofs.YtiijpgmpnijidaaGreatDoor
open Go Go.SX Go.Ck Go.Vl Go.Ut Go.Ty
set_option maxRecDepth 100000
set_option maxHeartbeats 8000000
def oe (s:SchemaR) (full:Bool):List AV:=aq s++[.b full]
theorem HR {α:Type} {l:List α} {q:α->Bool} {i:Nat} (hi:i < l.length) (hf:i<=l.findIdx q) (h:q l[i] = true):l.findIdx q = i:=by
 refine Nat.le_antisymm (Nat.le_of_not_lt fun hlt=>?_) hf
 have:=List.not_of_lt_findIdx hlt
 rw [h] at this
 cases this
theorem DM {α:Type} {l:List α} {q:α->Bool} {i:Nat} (hi:i < l.length) (hf:i<=l.findIdx q) (h:q l[i] = false):i + 1<=l.findIdx q:=by
 rcases Nat.lt_or_ge i (l.findIdx q) with h1 | h1
 ·exact h1
 ·have he:l.findIdx q = i:=Nat.le_antisymm h1 hf
  have:=List.findIdx_getElem (xs:=l) (p:=q) (w:=by rw [he]; exact hi)
  simp only [he] at this
  rw [h] at this
  cases this
section
variable [G:Globs]
theorem SC (s:SchemaR) (hs:GS s) (t:ab) (ht:dz s t):vc Tryz.prog Γ 10 [2,3,4,7] (Tryz.f29.body.getD .skip) (aQ Γ [.tmp 4] (fun v=>v = .rd .typ (bp s.defs t).1)) ⟨ae 0 [.agg (aq s),.agg (encTyp t)],[]⟩:=by
 have hP:=J3 s hs.sb 0 t (hs.ct ht) (hs.tb t ht) (hs.num ht)
 (repeat' (first | (refine iF (fun h=>?_) fun h=>?_)<;>try exact cX | refine bX ?_ | intro _))
 refine Or.inr (Or.inr (Or.inr (Or.inl (eX [7] (eX _ (aN (hP) ?_))))))
 (repeat' (first | (refine iF (fun h=>?_) fun h=>?_)<;>try exact cX | refine bX ?_ | intro _))
 rfl
theorem JQ (s:SchemaR) (hs:GS s) (t:ab) (ht:dz s t):ar Tryz.prog 29 [.agg (aq s),.agg (encTyp t)] (.rd .typ (bp s.defs t).1) :=
 ah aa Tryz.func29 rfl Tryz.call29 Tryz.results29 Tryz.ntmps29 (Nat.le_of_ble_eq_true rfl) (SC s hs t ht)
theorem Ll (t:ab) (h1:lx t) (k:Int) (h0:0<=k) (h6:k<=6):vc Tryz.prog Γ 11 [1,2,4] (Tryz.f67.body.getD .skip) (aQ Γ [.tmp 4] (fun v=>v = .b (bC t.kind k))) ⟨ae 0 [.agg (encTyp t),.i .i64 k],[]⟩:=by
 have hK:=Ey t h1.1 h1.2
 obtain ⟨g1,g2,g3⟩:=ub h1
 have hb:=G0 g2 (j:=k.toNat) (by omega)
 rw [g3 k.toNat (by omega),<- g1,show ((k.toNat:Nat):Int) = k by omega] at hb
 unfold P1 at hb
 (repeat' (first | (refine iF (fun h=>?_) fun h=>?_)<;>try exact cX | refine bX ?_ | intro _))
 refine Or.inl (eX _ (aN (hK) ?_))
 refine aN h0 ?_
 rw [<- hb]
 (repeat' (first | (refine iF (fun h=>?_) fun h=>?_)<;>try exact cX | refine bX ?_ | intro _))
 rfl
theorem J2 (t:ab) (h1:lx t) (k:Int) (h0:0<=k) (h6:k<=6):ar Tryz.prog 67 [.agg (encTyp t),.i .i64 k] (.b (bC t.kind k)) :=
 ah aa Tryz.func67 rfl Tryz.call67 Tryz.results67 Tryz.ntmps67 (Nat.le_of_ble_eq_true rfl) (Ll t h1 k h0 h6)
theorem OB (n lo hi:Int):vc Tryz.prog Γ 15 [0,1,2,6] (Tryz.f86.body.getD .skip) (aQ Γ [.tmp 6] (fun v=>v = .b (lb n lo hi))) ⟨ae 0 [.i .i64 n,.i .i64 lo,.i .i64 hi],[]⟩:=by
 unfold lb
 by_cases c1:lo<=n
 ·by_cases c2:n<=hi
  ·rw [decide_eq_true c1,decide_eq_true c2]
   (repeat' (first | (refine iF (fun h=>?_) fun h=>?_)<;>try exact cX | refine bX ?_ | intro _))
   all_goals (show AV.b _ = AV.b _; simp [c1,c2])
  ·rw [decide_eq_true c1,decide_eq_false c2]
   (repeat' (first | (refine iF (fun h=>?_) fun h=>?_)<;>try exact cX | refine bX ?_ | intro _))
   all_goals (show AV.b _ = AV.b _; simp [c1,c2])
 ·rw [decide_eq_false c1]
  (repeat' (first | (refine iF (fun h=>?_) fun h=>?_)<;>try exact cX | refine bX ?_ | intro _))
  all_goals (show AV.b _ = AV.b _; simp [c1])
theorem yE (n lo hi:Int):ar Tryz.prog 86 [.i .i64 n,.i .i64 lo,.i .i64 hi] (.b (lb n lo hi)) :=
 ah aa Tryz.func86 rfl Tryz.call86 Tryz.results86 Tryz.ntmps86 (Nat.le_of_ble_eq_true rfl) (OB n lo hi)
theorem SO (f:gL) (p:kA):vc Tryz.prog Γ 9 [1,2,3] (Tryz.f109.body.getD .skip) (aQ Γ [.tmp 3] (fun v=>v = .b (f.name == p.1))) ⟨ae 0 [.agg (enc .eJ f),.rp (enc .dZ p)],[]⟩:=by
 (repeat' (first | (refine iF (fun h=>?_) fun h=>?_)<;>try exact cX | refine bX ?_ | intro _))
 rfl
theorem Rt (f:gL) (p:kA):ar Tryz.prog 109 [.agg (enc .eJ f),.rp (enc .dZ p)] (.b (f.name == p.1)) :=
 ah aa Tryz.func109 rfl Tryz.call109 Tryz.results109 Tryz.ntmps109 (Nat.le_of_ble_eq_true rfl) (SO f p)
theorem VC (l:List gL) (hl:l.length<=2000000) (p:kA):vc Tryz.prog Γ 19 [0,1,4,5,7,8,9,16] (Tryz.f108.body.getD .skip) (aQ Γ [.tmp 4] (fun v=>v = .i .i64 (BR l p.1))) ⟨ae 0 [.rd .eJ l,.fn 109 [.rp (enc .dZ p)]],[]⟩:=by
 (repeat' (first | (refine iF (fun h=>?_) fun h=>?_)<;>try exact cX | refine bX ?_ | intro _))
 refine eX [] (eX [] (eX [] (eX Nat (eX (fun i=>i<=(l).length/\(i<=l.findIdx (fun f=>f.name == p.1))) (eX (fun i=>⟨[(0,.rd .eJ l),(1,.fn 109 [.rp (enc .dZ p)]),(7,.i .i64 l.length),(8,.i .i64 i)],[]⟩) (eX (fun i=>(l).length - i) (eX 0 (aN ⟨Nat.zero_le _,(Nat.zero_le _)⟩ (aN ?_ ?_)))))))))
 ·exact wK
 rintro i ⟨hi,hI⟩
 refine aN (fun hz=>?_) (fun hz=>?_)
 ·have hi:=gd hz
  have hg:=cB (τ:=.eJ) hi
  have hD:=Rt l[i] p
  refine bN2 ?_
  rw [hg]
  (repeat' (first | (refine iF (fun h=>?_) fun h=>?_)<;>try exact cX | refine bX ?_ | intro _))
  refine Or.inl (eX _ (aN (hD) ?_))
  cases hq:(l[i].name == p.1) with
  | true =>
   have he:=HR (q:=fun f:gL=>f.name == p.1) hi hI hq
   (repeat' (first | (refine iF (fun h=>?_) fun h=>?_)<;>try exact cX | refine bX ?_ | intro _))
   refine congrArg (AV.i .i64) ?_
   unfold BR
   rw [he,if_pos hi]
  | false =>
   have he:=DM (q:=fun f:gL=>f.name == p.1) hi hI hq
   (repeat' (first | (refine iF (fun h=>?_) fun h=>?_)<;>try exact cX | refine bX ?_ | intro _))
   refine eX [] (eX (i + 1) (aN ⟨hi,he⟩ (aN ?_ ?_)))
   ·exact wK
   ·(exact Nat.sub_lt_sub_left (by omega) (by omega))
 ·(have hi:=ga hi hz)
  refine congrArg (AV.i .i64) ?_
  unfold BR
  rw [if_neg (by omega)]
theorem Vk (l:List gL) (hl:l.length<=2000000) (p:kA):ar Tryz.prog 108 [.rd .eJ l,.fn 109 [.rp (enc .dZ p)]] (.i .i64 (BR l p.1)) :=
 ah aa Tryz.func108 rfl Tryz.call108 Tryz.results108 Tryz.ntmps108 (Nat.le_of_ble_eq_true rfl) (VC l hl p)
theorem VD (l:List aH) (hl:l.length<=2000000) (k:aH):vc Tryz.prog Γ 19 [0,1,4,5,7,8,9,16] (Tryz.f107.body.getD .skip) (aQ Γ [.tmp 4] (fun v=>v = .i .i64 (if l.findIdx (fun x=>x == k) < l.length then (l.findIdx (fun x=>x == k):Nat) else -1))) ⟨ae 0 [.rd .str l,.s k],[]⟩:=by
 (repeat' (first | (refine iF (fun h=>?_) fun h=>?_)<;>try exact cX | refine bX ?_ | intro _))
 refine eX [] (eX [] (eX [] (eX Nat (eX (fun i=>i<=(l).length/\(i<=l.findIdx (fun x=>x == k))) (eX (fun i=>⟨[(0,.rd .str l),(1,.s k),(7,.i .i64 l.length),(8,.i .i64 i)],[]⟩) (eX (fun i=>(l).length - i) (eX 0 (aN ⟨Nat.zero_le _,(Nat.zero_le _)⟩ (aN ?_ ?_)))))))))
 ·exact wK
 rintro i ⟨hi,hI⟩
 refine aN (fun hz=>?_) (fun hz=>?_)
 ·have hi:=gd hz
  have hg:=cB (τ:=.str) hi
  refine bN2 ?_
  rw [hg]
  cases hq:(l[i] == k) with
  | true =>
   have he:=HR (q:=fun x:aH=>x == k) hi hI hq
   have zd:k = l[i]:=(eq_of_beq hq).symm
   (repeat' (first | (refine iF (fun h=>?_) fun h=>?_)<;>try exact cX | refine bX ?_ | intro _))
   refine congrArg (AV.i .i64) ?_
   rw [he,if_pos hi]
  | false =>
   have he:=DM (q:=fun x:aH=>x == k) hi hI hq
   have zd:¬ k = l[i]:=fun e=>ne_of_beq_false hq e.symm
   (repeat' (first | (refine iF (fun h=>?_) fun h=>?_)<;>try exact cX | refine bX ?_ | intro _))
   refine eX [] (eX (i + 1) (aN ⟨hi,he⟩ (aN ?_ ?_)))
   ·exact wK
   ·(exact Nat.sub_lt_sub_left (by omega) (by omega))
 ·(have hi:=ga hi hz)
  refine congrArg (AV.i .i64) ?_
  rw [if_neg (by omega)]
theorem Vm (l:List aH) (hl:l.length<=2000000) (k:aH):ar Tryz.prog 107 [.rd .str l,.s k] (.i .i64 (if l.findIdx (fun x=>x == k) < l.length then (l.findIdx (fun x=>x == k):Nat) else -1)) :=
 ah aa Tryz.func107 rfl Tryz.call107 Tryz.results107 Tryz.ntmps107 (Nat.le_of_ble_eq_true rfl) (VD l hl k)
theorem SG (l:List aH) (hl:l.length<=2000000) (k:aH):vc Tryz.prog Γ 9 [0,1,4] (Tryz.f88.body.getD .skip) (aQ Γ [.tmp 4] (fun v=>v = .b (l.any fun x=>x == k))) ⟨ae 0 [.rd .str l,.s k],[]⟩:=by
 have hC:=Vm l hl k
 have hR:(decide (0<=(if l.findIdx (fun x=>x == k) < l.length then ((l.findIdx (fun x=>x == k):Nat):Int) else -1))) = l.any fun x=>x == k:=by
  by_cases h:l.findIdx (fun x=>x == k) < l.length
  ·rw [if_pos h]
   have:=List.findIdx_lt_length.1 h
   rw [decide_eq_true (Int.natCast_nonneg _)]
   exact (List.any_eq_true.2 this).symm
  ·rw [if_neg h]
   have h9:¬ ∃ x,x ∈ l/\(x == k) = true:=fun e=>h (List.findIdx_lt_length.2 e)
   have:(l.any fun x=>x == k) = false:=by
    rw [List.any_eq_false]
    exact fun x hx e=>h9 ⟨x,hx,e⟩
   rw [this]
   rfl
 generalize (if l.findIdx (fun x=>x == k) < l.length then ((l.findIdx (fun x=>x == k):Nat):Int) else -1) = r at hC hR
 rw [<- hR]
 (repeat' (first | (refine iF (fun h=>?_) fun h=>?_)<;>try exact cX | refine bX ?_ | intro _))
 refine Or.inl (eX _ (aN (hC) ?_))
 (repeat' (first | (refine iF (fun h=>?_) fun h=>?_)<;>try exact cX | refine bX ?_ | intro _))
 rfl
theorem Rj (l:List aH) (hl:l.length<=2000000) (k:aH):ar Tryz.prog 88 [.rd .str l,.s k] (.b (l.any fun x=>x == k)) :=
 ah aa Tryz.func88 rfl Tryz.call88 Tryz.results88 Tryz.ntmps88 (Nat.le_of_ble_eq_true rfl) (SG l hl k)
end
end Go.Proofs.YtiijpgmpnijidaaGreatDoor
end
section
namespace Go.Proofs.YtiijpgmpnijidaaGreatDoor
open Go Go.SX Go.Ck Go.Vl Go.Ut Go.Ty
set_option maxRecDepth 100000
set_option maxHeartbeats 8000000
theorem EP {l:List az} {full:Bool} {d:Nat} {t:ab}:∀ (L:List aT) (i:Nat),(∀ x ∈ L,(ef l full x t).1.length<=d)->(Dd l full L t i).1.length<=d + 1
 | [],_,_=>by rw [Dd]; exact Nat.zero_le _
 | x::r,i,h=>by
  rw [Dd]
  split
  ·exact Nat.succ_le_succ (h x (List.mem_cons_self ..))
  ·exact EP r (i + 1) fun y hy=>h y (List.mem_cons_of_mem _ hy)
theorem ER {l:List az} {full:Bool} {d:Nat} {t:ab}:∀ (E:List kA),(∀ p ∈ E,(ef l full p.2 t).1.length<=d)->(Dg l full E t).1.length<=d + 1
 | [],_=>by rw [Dg]; exact Nat.zero_le _
 | p::r,h=>by
  rw [Dg,yV]
  split
  ·exact Nat.succ_le_succ (h p (List.mem_cons_self ..))
  ·exact ER r fun y hy=>h y (List.mem_cons_of_mem _ hy)
theorem ES {l:List az} {full:Bool} {d:Nat} {fl:List gL} {m:Bool}:∀ (E:List kA),(∀ p ∈ E,∀ t,(ef l full p.2 t).1.length<=d)->(pX l full E fl m).1.length<=d + 1
 | [],_=>by rw [pX]; exact Nat.zero_le _
 | p::r,h=>by
  rw [pX]
  split
  ·exact Nat.succ_le_succ (Nat.zero_le _)
  ·rw [yV]
   split
   ·exact Nat.succ_le_succ (h p (List.mem_cons_self ..) _)
   ·exact ES r fun y hy=>h y (List.mem_cons_of_mem _ hy)
theorem q8 (l:List az) (full:Bool):∀ (d:Nat) (v:aT),GV d v->∀ t,(ef l full v t).1.length<=d:=by
 intro d
 induction d with
 | zero=>intro v h; exact nomatch h
 | succ d ih =>
  intro v h t
  cases h with
  | mk _ _ _ _ _ _ h1 h2 =>
   rw [Dh]
   split
   ·exact Nat.zero_le _
   ·unfold pG
    split
    ·exact Nat.zero_le _
    split
    ·exact Nat.zero_le _
    split
    ·exact Nat.zero_le _
    split
    ·split
     ·exact EP _ _ fun x hx=>ih x (h1 x hx) _
     ·exact Nat.zero_le _
    split
    ·exact ER _ fun p hp=>ih p.2 (h2 p hp) _
    split
    ·exact ES _ fun p hp t=>ih p.2 (h2 p hp) t
    ·exact Nat.zero_le _
section
variable [G:Globs]
theorem VE (s:SchemaR) (full:Bool) (z:aT) (t:ab) (p:jy) (hl:(ef s.defs full z t).1.length<=100) (hW:ar Tryz.prog 49 [.rp (oe s full),.agg (encTyp t),.agg (ai z)] (.bc [.rd .ch (ef s.defs full z t).1,.b (ef s.defs full z t).2])):vc Tryz.prog Γ 26 [0,5,6,7,8,9,10,11,19] (Tryz.f89.body.getD .skip) (aQ Γ [.tmp 8,.tmp 9] (fun v=>RL v (.bc [.rd .ch (if (ef s.defs full z t).2 = true then p::(ef s.defs full z t).1 else (ef s.defs full z t).1),.b (ef s.defs full z t).2]))) ⟨ae 0 [.rp (oe s full),.agg (encTyp t),.agg (ai z),.agg (enc .ch p)],[]⟩:=by
 generalize (ef s.defs full z t).1 = q at hl hW ⊢
 generalize (ef s.defs full z t).2 = b at hW ⊢
 (repeat' (first | (refine iF (fun h=>?_) fun h=>?_)<;>try exact cX | refine bX ?_ | intro _))
 refine Or.inl (eX _ (aN (hW) ?_))
 cases b with
 | true =>
  rw [if_pos rfl]
  (repeat' (first | (refine iF (fun h=>?_) fun h=>?_)<;>try exact cX | refine bX ?_ | intro _))
  (refine aN (Go.Ty.LG (by (try simp only [List.length_append,List.length_cons,List.length_nil,List.length_map,List.length_take,List.length_drop]); omega) (Nat.le_of_ble_eq_true rfl)) ?_)
  (repeat' (first | (refine iF (fun h=>?_) fun h=>?_)<;>try exact cX | refine bX ?_ | intro _))
  exact rL
 | false =>
  rw [if_neg (by decide)]
  (repeat' (first | (refine iF (fun h=>?_) fun h=>?_)<;>try exact cX | refine bX ?_ | intro _))
  exact rL
theorem JS (s:SchemaR) (full:Bool) (z:aT) (t:ab) (p:jy) (hl:(ef s.defs full z t).1.length<=100) (hW:ar Tryz.prog 49 [.rp (oe s full),.agg (encTyp t),.agg (ai z)] (.bc [.rd .ch (ef s.defs full z t).1,.b (ef s.defs full z t).2])):ar Tryz.prog 89 [.rp (oe s full),.agg (encTyp t),.agg (ai z),.agg (enc .ch p)] (.bc [.rd .ch (if (ef s.defs full z t).2 = true then p::(ef s.defs full z t).1 else (ef s.defs full z t).1),.b (ef s.defs full z t).2]) :=
 ee aa Tryz.func89 rfl Tryz.call89 Tryz.results89 Tryz.ntmps89 (Nat.le_of_ble_eq_true rfl) (VE s full z t p hl hW)
theorem SI (s:SchemaR) (hs:GS s) (full:Bool) (d:Nat) (hd:d<=50) (x:ab) (hx:dz s x) (z:aT) (hv:GV (d + 1) z) (ih:∀ u,GV d u->∀ y,dz s y->ar Tryz.prog 49 [.rp (oe s full),.agg (encTyp y),.agg (ai u)] (.bc [.rd .ch (ef s.defs full u y).1,.b (ef s.defs full u y).2])):vc Tryz.prog Γ 84 [0,1,5,6,7,9,10,11,12,13,15,16,18,19,20,21,31,47,50,51,52,53,82] (Tryz.f90.body.getD .skip) (aQ Γ [.tmp 6,.tmp 7] (fun v=>RL v (.bc [.rd .ch (pX s.defs full z.e x.f (ji full x.f z.e)).1,.b (pX s.defs full z.e x.f (ji full x.f z.e)).2]))) ⟨ae 0 [.rp (oe s full),.rd .eJ x.f,.agg (ai z)],[]⟩:=by
 have hA:pX s.defs full z.e x.f (ji full x.f z.e) = pX s.defs full (z.e.drop 0) x.f (ji full x.f z.e):=rfl
 generalize pX s.defs full z.e x.f (ji full x.f z.e) = R at hA ⊢
 have GD:=(by cases hs.tb x hx; omega:x.f.length<=2000000)
 have W9:=(by cases hv; omega:z.e.length<=200)
 have GI:=(by cases hv; assumption:∀ p ∈ z.e,GV d p.2)
 (repeat' (first | (refine iF (fun h=>?_) fun h=>?_)<;>try exact cX | refine bX ?_ | intro _))
 refine eX [] (eX [] (eX [] (eX Nat (eX (fun i=>i<=(z.e).length/\(R = pX s.defs full (z.e.drop i) x.f (ji full x.f z.e))) (eX (fun i=>⟨[(0,.rp (oe s full)),(1,.rd .eJ x.f),(5,.pt 5 0),(18,.rd .dZ z.e),(19,.i .i64 z.e.length),(20,.i .i64 i)],[(5,ai z)]⟩) (eX (fun i=>(z.e).length - i) (eX 0 (aN ⟨Nat.zero_le _,hA⟩ (aN ?_ ?_)))))))))
 ·exact wK
 rintro i ⟨hi,hI⟩
 refine aN (fun hz=>?_) (fun hz=>?_)
 ·have hi:=gd hz
  have hg:=cB (τ:=.dZ) hi
  refine bN2 ?_
  rw [hg]
  have hF:=Vk x.f GD z.e[i]
  have x8:=GI _ (List.getElem_mem hi)
  rw [BP s.defs full hi] at hI
  (repeat' (first | (refine iF (fun h=>?_) fun h=>?_)<;>try exact cX | refine bX ?_ | intro _))
  refine Or.inr (Or.inr (Or.inr (Or.inl (eX [9] (eX _ (aN (hF) ?_))))))
  by_cases c1:BR x.f z.e[i].1 < 0
  ·rw [HP c1] at hI
   rw [hI]
   (repeat' (first | (refine iF (fun h=>?_) fun h=>?_)<;>try exact cX | refine bX ?_ | intro _))
   exact rL
  obtain ⟨f0,f1,f2,f3⟩:=HQ c1
  rw [f2] at hI
  obtain ⟨f,YN⟩:∃ f,f = x.f.getD (BR x.f z.e[i].1).toNat (aD .eJ):=⟨_,rfl⟩
  rw [<- YN] at f3 hI
  dsimp only at hI
  have Xc:dz s f.t:=fe hx f.t (List.mem_append_right _ (List.mem_map.2 ⟨f,f3,rfl⟩))
  have Cm:=JS s full z.e[i].2 f.t ⟨z.e[i].1,-1⟩ (by have:=q8 s.defs full d _ x8 f.t; omega) (ih _ x8 _ Xc)
  (repeat' (first | (refine iF (fun h=>?_) fun h=>?_)<;>try exact cX | refine bX ?_ | intro _))
  refine eX [.fZ [0,1,2,3,4,5,6,7,8,9,10,11,12,13,14]] (aN (by kernel_rfl) ?_)
  refine aN ⟨f0,f1⟩ ?_
  subst YN
  refine eX _ (aN (Cm) ?_)
  generalize ef s.defs full z.e[i].2 (x.f.getD (BR x.f z.e[i].1).toNat (aD .eJ)).t = q at hI ⊢
  cases hq:q.2 with
  | true =>
   rw [hq,if_pos rfl] at hI
   rw [hI,if_pos rfl]
   (repeat' (first | (refine iF (fun h=>?_) fun h=>?_)<;>try exact cX | refine bX ?_ | intro _))
   exact rL
  | false =>
   rw [hq,if_neg (by decide)] at hI
   (repeat' (first | (refine iF (fun h=>?_) fun h=>?_)<;>try exact cX | refine bX ?_ | intro _))
   refine eX [] (eX (i + 1) (aN ⟨hi,hI⟩ (aN ?_ ?_)))
   ·exact wK
   ·(exact Nat.sub_lt_sub_left (by omega) (by omega))
 (have hi:=ga hi hz)
 rw [List.drop_eq_nil_of_le (by omega),pX] at hI
 subst hI
 have hM:ji full x.f z.e = (x.f.drop 0).any fun f=>xD full f && decide (AA z.e (iC f.name) < 0):=rfl
 generalize ji full x.f z.e = m at hM ⊢
 (repeat' (first | (refine iF (fun h=>?_) fun h=>?_)<;>try exact cX | refine bX ?_ | intro _))
 refine eX [] (eX [] (eX [] (eX Nat (eX (fun j=>j<=(x.f).length/\(m = (x.f.drop j).any fun f=>xD full f && decide (AA z.e (iC f.name) < 0))) (eX (fun j=>⟨[(0,.rp (oe s full)),(5,.pt 5 0),(50,.rd .eJ x.f),(51,.i .i64 x.f.length),(52,.i .i64 j)],[(5,ai z)]⟩) (eX (fun j=>(x.f).length - j) (eX 0 (aN ⟨Nat.zero_le _,hM⟩ (aN ?_ ?_)))))))))
 ·exact wK
 rintro j ⟨hi,hI⟩
 refine aN (fun hz=>?_) (fun hz=>?_)
 ·rename_i i0 DS IB za
  have hi:=gd hz
  have hg:=cB (τ:=.eJ) hi
  refine bN2 ?_
  rw [hg]
  have VR:=Rh z.e x.f[j].name
  (conv=>whnf)
  rw [List.drop_eq_getElem_cons hi,List.any_cons] at hI
  have GB:xD full x.f[j] = ((!x.f[j].opt && !x.f[j].du) || (full && x.f[j].du)):=rfl
  by_cases hk:xD full x.f[j] = true
  ·rw [hk,Bool.true_and] at hI
   rw [hk] at GB
   by_cases UZ:AA z.e (iC x.f[j].name) < 0
   ·rw [decide_eq_true UZ,Bool.true_or] at hI
    rw [hI]
    cases ho:x.f[j].opt<;>cases hh:x.f[j].du<;>cases full<;>first | (rw [ho,hh] at GB; exact absurd GB (by decide)) | skip
    all_goals (repeat' (first | (refine iF (fun h=>?_) fun h=>?_)<;>try exact cX | refine bX ?_ | intro _))
    all_goals refine Or.inl (eX _ (aN VR ?_))
    all_goals (repeat' (first | (refine iF (fun h=>?_) fun h=>?_)<;>try exact cX | refine bX ?_ | intro _))
    all_goals exact rL
   ·rw [decide_eq_false UZ,Bool.false_or] at hI
    cases ho:x.f[j].opt<;>cases hh:x.f[j].du<;>cases full<;>first | (rw [ho,hh] at GB; exact absurd GB (by decide)) | skip
    all_goals (repeat' (first | (refine iF (fun h=>?_) fun h=>?_)<;>try exact cX | refine bX ?_ | intro _))
    all_goals refine Or.inl (eX _ (aN VR ?_))
    all_goals (repeat' (first | (refine iF (fun h=>?_) fun h=>?_)<;>try exact cX | refine bX ?_ | intro _))
    all_goals refine eX [] (eX (j + 1) (aN ⟨hi,hI⟩ (aN ?_ ?_)))
    all_goals first | (exact Nat.sub_lt_sub_left (by omega) (by omega)) | exact wK
  ·have hk:xD full x.f[j] = false:=Bool.eq_false_iff.2 hk
   rw [hk,Bool.false_and,Bool.false_or] at hI
   rw [hk] at GB
   cases ho:x.f[j].opt<;>cases hh:x.f[j].du<;>cases full<;>first | (rw [ho,hh] at GB; exact absurd GB (by decide)) | skip
   all_goals (repeat' (first | (refine iF (fun h=>?_) fun h=>?_)<;>try exact cX | refine bX ?_ | intro _))
   all_goals refine eX [] (eX (j + 1) (aN ⟨hi,hI⟩ (aN ?_ ?_)))
   all_goals first | (exact Nat.sub_lt_sub_left (by omega) (by omega)) | exact wK
 (have hi:=ga hi hz)
 rw [List.drop_eq_nil_of_le (by omega),List.any_nil] at hI
 rw [hI]
 (repeat' (first | (refine iF (fun h=>?_) fun h=>?_)<;>try exact cX | refine bX ?_ | intro _))
 exact rL
theorem Rp (s:SchemaR) (hs:GS s) (full:Bool) (d:Nat) (hd:d<=50) (x:ab) (hx:dz s x) (z:aT) (hv:GV (d + 1) z) (ih:∀ u,GV d u->∀ y,dz s y->ar Tryz.prog 49 [.rp (oe s full),.agg (encTyp y),.agg (ai u)] (.bc [.rd .ch (ef s.defs full u y).1,.b (ef s.defs full u y).2])):ar Tryz.prog 90 [.rp (oe s full),.rd .eJ x.f,.agg (ai z)] (.bc [.rd .ch (pX s.defs full z.e x.f (ji full x.f z.e)).1,.b (pX s.defs full z.e x.f (ji full x.f z.e)).2]) :=
 ee aa Tryz.func90 rfl Tryz.call90 Tryz.results90 Tryz.ntmps90 (Nat.le_of_ble_eq_true rfl) (SI s hs full d hd x hx z hv ih)
end
end Go.Proofs.YtiijpgmpnijidaaGreatDoor
end
section
namespace Go.Proofs.YtiijpgmpnijidaaGreatDoor
open Go Go.SX Go.Ck Go.Vl Go.Ut Go.Ty
set_option maxRecDepth 100000
set_option maxHeartbeats 8000000
theorem GS.Ei {s:SchemaR} (hs:GS s) {x:ab} (hx:dz s x) (hk:x.kind = 8\/x.kind = 9):∃ h:0 < x.t.length,x.t.getD 0 (SX.aD .typ) = x.t[0]/\dz s x.t[0]/\x.t.length = 1:=by
 have h1:=hs.ok x hx
 unfold eP at h1
 split at h1
 ·cases h1
 rename_i h2
 have h3:dN x:=Decidable.not_not.1 h2
 have h4:=h3.2.2.2.1 hk
 have h5:0 < x.t.length:=by omega
 refine ⟨h5,?_,fe hx _ (List.mem_append_left _ (List.getElem_mem h5)),h4⟩
 rw [List.getD_eq_getElem?_getD,List.getElem?_eq_getElem h5]
 rfl
section
variable [G:Globs]
theorem ON (hu:HasU8) (s:SchemaR) (hs:GS s) (full:Bool) (d:Nat) (hd:d<=50) (x:ab) (hx:dz s x) (z:aT) (hv:GV (d + 1) z) (ih:∀ u,GV d u->∀ y,dz s y->ar Tryz.prog 49 [.rp (oe s full),.agg (encTyp y),.agg (ai u)] (.bc [.rd .ch (ef s.defs full u y).1,.b (ef s.defs full u y).2])):vc Tryz.prog Γ 123 [0,4,5,6,7,8,10,11,12,13,15,16,17,19,20,30,46,54,64,66,67,68,69,85,88,91,92,93,94,111,114] (Tryz.f68.body.getD .skip) (aQ Γ [.tmp 6,.tmp 7] (fun v=>RL v (.bc [.rd .ch (pG s.defs full x z).1,.b (pG s.defs full x z).2]))) ⟨ae 0 [.rp (oe s full),.agg (encTyp x),.agg (ai z)],[]⟩:=by
 have hA:pG s.defs full x z = if x.kind = 4 then ([],!lb z.n x.lo x.hi) else if x.kind = 6 then ([],!lb ((cK z.s).length:Nat) x.lo x.hi) else if x.kind = 7 then ([],!(x.texts.any fun y=>y == z.s))
  else if x.kind = 8 then (if lb (z.l.length:Nat) x.lo x.hi = true then Dd s.defs full z.l (x.t.getD 0 (SX.aD .typ)) 0 else ([],true))
  else if x.kind = 9 then Dg s.defs full z.e (x.t.getD 0 (SX.aD .typ)) else if x.kind = 10 then pX s.defs full z.e x.f (ji full x.f z.e) else ([],false):=rfl
 generalize pG s.defs full x z = R at hA ⊢
 have hb:=hs.tb x hx
 have hlen:=(by cases hv; assumption:z.s.length<=4000/\z.l.length<=200/\z.e.length<=200)
 have gN:=(by cases hv; assumption:bad z.s < 0)
 have BU:=(by cases hv; assumption:∀ u ∈ z.l,GV d u)
 have Ya:=(by cases hv; assumption:∀ p ∈ z.e,GV d p.2)
 by_cases c4:x.kind = 4
 ·rw [if_pos c4] at hA
  subst hA
  have hB:=yE z.n x.lo x.hi
  (repeat' (first | (refine iF (fun h=>?_) fun h=>?_)<;>try exact cX | refine bX ?_ | intro _))
  refine Or.inl (eX _ (aN (hB) ?_))
  (repeat' (first | (refine iF (fun h=>?_) fun h=>?_)<;>try exact cX | refine bX ?_ | intro _))
  exact rL
 rw [if_neg c4] at hA
 by_cases c6:x.kind = 6
 ·rw [if_pos c6] at hA
  subst hA
  have hU:=Nk hu z.s (by omega)
  rw [if_neg (by omega)] at hU
  have hB:=yE ((cK z.s).length:Nat) x.lo x.hi
  (repeat' (first | (refine iF (fun h=>?_) fun h=>?_)<;>try exact cX | refine bX ?_ | intro _))
  refine Or.inl (eX _ (aN (hU) ?_))
  (repeat' (first | (refine iF (fun h=>?_) fun h=>?_)<;>try exact cX | refine bX ?_ | intro _))
  refine Or.inl (eX _ (aN (hB) ?_))
  (repeat' (first | (refine iF (fun h=>?_) fun h=>?_)<;>try exact cX | refine bX ?_ | intro _))
  exact rL
 rw [if_neg c6] at hA
 by_cases c7:x.kind = 7
 ·rw [if_pos c7] at hA
  subst hA
  have hH:=Rj x.texts (by cases hb; omega) z.s
  (repeat' (first | (refine iF (fun h=>?_) fun h=>?_)<;>try exact cX | refine bX ?_ | intro _))
  refine Or.inl (eX _ (aN (hH) ?_))
  (repeat' (first | (refine iF (fun h=>?_) fun h=>?_)<;>try exact cX | refine bX ?_ | intro _))
  exact rL
 rw [if_neg c7] at hA
 by_cases c8:x.kind = 8
 ·rw [if_pos c8] at hA
  obtain ⟨q0,q1,q2,q3⟩:=hs.Ei hx (.inl c8)
  rw [<- q1] at q2
  generalize hE:x.t.getD 0 (SX.aD .typ) = E at hA q2
  have hB:=yE (z.l.length:Nat) x.lo x.hi
  generalize lb (z.l.length:Nat) x.lo x.hi = b at hA hB
  cases b with
  | false =>
   rw [if_neg (by decide)] at hA
   subst hA
   (repeat' (first | (refine iF (fun h=>?_) fun h=>?_)<;>try exact cX | refine bX ?_ | intro _))
   refine Or.inl (eX _ (aN (hB) ?_))
   (repeat' (first | (refine iF (fun h=>?_) fun h=>?_)<;>try exact cX | refine bX ?_ | intro _))
   exact rL
  | true =>
   rw [if_pos rfl] at hA
   (repeat' (first | (refine iF (fun h=>?_) fun h=>?_)<;>try exact cX | refine bX ?_ | intro _))
   refine Or.inl (eX _ (aN (hB) ?_))
   (repeat' (first | (refine iF (fun h=>?_) fun h=>?_)<;>try exact cX | refine bX ?_ | intro _))
   refine eX [] (eX [] (eX [] (eX Nat (eX (fun i=>i<=(z.l).length/\(R = Dd s.defs full (z.l.drop i) E i)) (eX (fun i=>⟨[(0,.rp (oe s full)),(4,.pt 4 0),(66,.rd .val z.l),(67,.i .i64 z.l.length),(68,.i .i64 i)],[(4,encTyp x)]⟩) (eX (fun i=>(z.l).length - i) (eX 0 (aN ⟨Nat.zero_le _,hA⟩ (aN ?_ ?_)))))))))
   ·exact wK
   rintro i ⟨hi,hI⟩
   refine aN (fun hz=>?_) (fun hz=>?_)
   ·have hi:=gd hz
    have hg:=cB (τ:=.val) hi
    refine bN2 ?_
    rw [hg]
    have x8:=BU _ (List.getElem_mem hi)
    have Cm:=JS s full z.l[i] E ⟨[],(i:Int)⟩ (by have:=q8 s.defs full d _ x8 E; omega) (ih _ x8 _ q2)
    rw [BN s.defs full hi] at hI
    generalize ef s.defs full z.l[i] E = q at hI Cm
    subst hE
    (repeat' (first | (refine iF (fun h=>?_) fun h=>?_)<;>try exact cX | refine bX ?_ | intro _))
    refine eX [.fZ [0,1,2,3,4,5,6,7,8,9,10,11,12,13]] (aN (by kernel_rfl) ?_)
    refine aN ⟨by decide,by omega⟩ ?_
    refine eX _ (aN (Cm) ?_)
    cases hq:q.2 with
    | true =>
     rw [hq,if_pos rfl] at hI
     rw [hI,if_pos rfl]
     (repeat' (first | (refine iF (fun h=>?_) fun h=>?_)<;>try exact cX | refine bX ?_ | intro _))
     exact rL
    | false =>
     rw [hq,if_neg (by decide)] at hI
     (repeat' (first | (refine iF (fun h=>?_) fun h=>?_)<;>try exact cX | refine bX ?_ | intro _))
     refine eX [] (eX (i + 1) (aN ⟨hi,hI⟩ (aN ?_ ?_)))
     ·exact wK
     ·(exact Nat.sub_lt_sub_left (by omega) (by omega))
   (have hi:=ga hi hz)
   rw [List.drop_eq_nil_of_le (by omega),Dd] at hI
   subst hI
   (repeat' (first | (refine iF (fun h=>?_) fun h=>?_)<;>try exact cX | refine bX ?_ | intro _))
   exact rL
 rw [if_neg c8] at hA
 by_cases c9:x.kind = 9
 ·rw [if_pos c9] at hA
  obtain ⟨q0,q1,q2,q3⟩:=hs.Ei hx (.inr c9)
  rw [<- q1] at q2
  generalize hE:x.t.getD 0 (SX.aD .typ) = E at hA q2
  (repeat' (first | (refine iF (fun h=>?_) fun h=>?_)<;>try exact cX | refine bX ?_ | intro _))
  refine eX [] (eX [] (eX [] (eX Nat (eX (fun i=>i<=(z.e).length/\(R = Dg s.defs full (z.e.drop i) E)) (eX (fun i=>⟨[(0,.rp (oe s full)),(4,.pt 4 0),(91,.rd .dZ z.e),(92,.i .i64 z.e.length),(93,.i .i64 i)],[(4,encTyp x)]⟩) (eX (fun i=>(z.e).length - i) (eX 0 (aN ⟨Nat.zero_le _,hA⟩ (aN ?_ ?_)))))))))
  ·exact wK
  rintro i ⟨hi,hI⟩
  refine aN (fun hz=>?_) (fun hz=>?_)
  ·have hi:=gd hz
   have hg:=cB (τ:=.dZ) hi
   refine bN2 ?_
   rw [hg]
   have x8:=Ya _ (List.getElem_mem hi)
   have Cm:=JS s full z.e[i].2 E ⟨z.e[i].1,-1⟩ (by have:=q8 s.defs full d _ x8 E; omega) (ih _ x8 _ q2)
   rw [BO s.defs full hi] at hI
   generalize ef s.defs full z.e[i].2 E = q at hI Cm
   subst hE
   (repeat' (first | (refine iF (fun h=>?_) fun h=>?_)<;>try exact cX | refine bX ?_ | intro _))
   refine eX [.fZ [0,1,2,3,4,5,6,7,8,9,10,11,12,13,14,15]] (aN (by kernel_rfl) ?_)
   refine aN ⟨by decide,by omega⟩ ?_
   refine eX _ (aN (Cm) ?_)
   cases hq:q.2 with
   | true =>
    rw [hq,if_pos rfl] at hI
    rw [hI,if_pos rfl]
    (repeat' (first | (refine iF (fun h=>?_) fun h=>?_)<;>try exact cX | refine bX ?_ | intro _))
    exact rL
   | false =>
    rw [hq,if_neg (by decide)] at hI
    (repeat' (first | (refine iF (fun h=>?_) fun h=>?_)<;>try exact cX | refine bX ?_ | intro _))
    refine eX [] (eX (i + 1) (aN ⟨hi,hI⟩ (aN ?_ ?_)))
    ·exact wK
    ·(exact Nat.sub_lt_sub_left (by omega) (by omega))
  (have hi:=ga hi hz)
  rw [List.drop_eq_nil_of_le (by omega),Dg] at hI
  subst hI
  (repeat' (first | (refine iF (fun h=>?_) fun h=>?_)<;>try exact cX | refine bX ?_ | intro _))
  exact rL
 rw [if_neg c9] at hA
 by_cases c10:x.kind = 10
 ·rw [if_pos c10] at hA
  subst hA
  have hR:=Rp s hs full d hd x hx z hv ih
  (repeat' (first | (refine iF (fun h=>?_) fun h=>?_)<;>try exact cX | refine bX ?_ | intro _))
  refine Or.inl (eX _ (aN (hR) ?_))
  (repeat' (first | (refine iF (fun h=>?_) fun h=>?_)<;>try exact cX | refine bX ?_ | intro _))
  exact rL
 rw [if_neg c10] at hA
 subst hA
 (repeat' (first | (refine iF (fun h=>?_) fun h=>?_)<;>try exact cX | refine bX ?_ | intro _))
 exact rL
theorem Ny (hu:HasU8) (s:SchemaR) (hs:GS s) (full:Bool) (d:Nat) (hd:d<=50) (x:ab) (hx:dz s x) (z:aT) (hv:GV (d + 1) z) (ih:∀ u,GV d u->∀ y,dz s y->ar Tryz.prog 49 [.rp (oe s full),.agg (encTyp y),.agg (ai u)] (.bc [.rd .ch (ef s.defs full u y).1,.b (ef s.defs full u y).2])):ar Tryz.prog 68 [.rp (oe s full),.agg (encTyp x),.agg (ai z)] (.bc [.rd .ch (pG s.defs full x z).1,.b (pG s.defs full x z).2]) :=
 ee aa Tryz.func68 rfl Tryz.call68 Tryz.results68 Tryz.ntmps68 (Nat.le_of_ble_eq_true rfl) (ON hu s hs full d hd x hx z hv ih)
theorem La (s:SchemaR) (hs:GS s) (full:Bool) (t:ab) (ht:dz s t) (z:aT) (h0:0<=z.kind) (h6:z.kind<=6) (hp:∀ x,dz s x->ar Tryz.prog 68 [.rp (oe s full),.agg (encTyp x),.agg (ai z)] (.bc [.rd .ch (pG s.defs full x z).1,.b (pG s.defs full x z).2])):vc Tryz.prog Γ 32 [0,4,5,6,7,9,15,16,17,18,24] (Tryz.f49.body.getD .skip) (aQ Γ [.tmp 6,.tmp 7] (fun v=>RL v (.bc [.rd .ch (ef s.defs full z t).1,.b (ef s.defs full z t).2]))) ⟨ae 0 [.rp (oe s full),.agg (encTyp t),.agg (ai z)],[]⟩:=by
 have hA:=Dh s.defs full z t
 have VS:=JQ s hs t ht
 have tW:=hs.parts ht
 have hlen:=hs.len ht
 generalize ef s.defs full z t = R at hA ⊢
 generalize (bp s.defs t).1 = ps at hA VS tW hlen
 have hA:R = match iH (ps.drop 0) z.kind with
  | none=>([],true)
  | some x=>pG s.defs full x z:=hA
 (repeat' (first | (refine iF (fun h=>?_) fun h=>?_)<;>try exact cX | refine bX ?_ | intro _))
 refine eX [.take 0,.take 1,.take 2,.take 7,.fZ [3,4,5],.take 6] (aN (by kernel_rfl) ?_)
 refine eX _ (aN (VS) ?_)
 (repeat' (first | (refine iF (fun h=>?_) fun h=>?_)<;>try exact cX | refine bX ?_ | intro _))
 refine eX [] (eX [] (eX [] (eX Nat (eX (fun i=>i<=(ps).length/\(R = match iH (ps.drop i) z.kind with | none=>([],true) | some x=>pG s.defs full x z)) (eX (fun i=>⟨[(0,.rp (oe s full)),(5,.pt 5 0),(15,.rd .typ ps),(16,.i .i64 ps.length),(17,.i .i64 i)],[(5,ai z)]⟩) (eX (fun i=>(ps).length - i) (eX 0 (aN ⟨Nat.zero_le _,hA⟩ (aN ?_ ?_)))))))))
 ·exact wK
 rintro i ⟨hi,hI⟩
 refine aN (fun hz=>?_) (fun hz=>?_)
 ·have hi:=gd hz
  have hg:=cB (τ:=.typ) hi
  refine bN2 ?_
  rw [hg]
  obtain ⟨g1,g2⟩:=tW _ (List.getElem_mem hi)
  have hT:=J2 ps[i] g1 z.kind h0 h6
  have hPx:=hp ps[i] g2
  have wR:iH (ps.drop i) z.kind = if bC ps[i].kind z.kind = true then some ps[i] else iH (ps.drop (i + 1)) z.kind:=by
   unfold iH
   rw [List.drop_eq_getElem_cons hi,List.find?_cons]
   cases bC ps[i].kind z.kind<;>rfl
  rw [wR] at hI
  (repeat' (first | (refine iF (fun h=>?_) fun h=>?_)<;>try exact cX | refine bX ?_ | intro _))
  refine Or.inl (eX _ (aN (hT) ?_))
  cases hq:bC ps[i].kind z.kind with
  | true =>
   rw [hq,if_pos rfl] at hI
   dsimp only at hI
   rw [hI]
   (repeat' (first | (refine iF (fun h=>?_) fun h=>?_)<;>try exact cX | refine bX ?_ | intro _))
   refine Or.inl (eX _ (aN (hPx) ?_))
   (repeat' (first | (refine iF (fun h=>?_) fun h=>?_)<;>try exact cX | refine bX ?_ | intro _))
   exact rL
  | false =>
   rw [hq,if_neg (by decide)] at hI
   (repeat' (first | (refine iF (fun h=>?_) fun h=>?_)<;>try exact cX | refine bX ?_ | intro _))
   refine eX [] (eX (i + 1) (aN ⟨hi,hI⟩ (aN ?_ ?_)))
   ·exact wK
   ·(exact Nat.sub_lt_sub_left (by omega) (by omega))
 (have hi:=ga hi hz)
 rw [List.drop_eq_nil_of_le (by omega)] at hI
 have hI:R = ([],true):=hI
 rw [hI]
 (repeat' (first | (refine iF (fun h=>?_) fun h=>?_)<;>try exact cX | refine bX ?_ | intro _))
 exact rL
theorem JT (s:SchemaR) (hs:GS s) (full:Bool) (t:ab) (ht:dz s t) (z:aT) (h0:0<=z.kind) (h6:z.kind<=6) (hp:∀ x,dz s x->ar Tryz.prog 68 [.rp (oe s full),.agg (encTyp x),.agg (ai z)] (.bc [.rd .ch (pG s.defs full x z).1,.b (pG s.defs full x z).2])):ar Tryz.prog 49 [.rp (oe s full),.agg (encTyp t),.agg (ai z)] (.bc [.rd .ch (ef s.defs full z t).1,.b (ef s.defs full z t).2]) :=
 ee aa Tryz.func49 rfl Tryz.call49 Tryz.results49 Tryz.ntmps49 (Nat.le_of_ble_eq_true rfl) (La s hs full t ht z h0 h6 hp)
theorem AB (hu:HasU8) {s:SchemaR} (hs:GS s) (full:Bool):∀ (d:Nat),d<=50->∀ z:aT,GV d z->∀ t,dz s t->ar Tryz.prog 49 [.rp (oe s full),.agg (encTyp t),.agg (ai z)] (.bc [.rd .ch (ef s.defs full z t).1,.b (ef s.defs full z t).2]):=by
 intro d
 induction d with
 | zero=>intro _ z h; exact nomatch h
 | succ d ih =>
  intro hd z hz t ht
  have hk:=(by cases hz; assumption:0<=z.kind/\z.kind<=6)
  exact JT s hs full t ht z hk.1 hk.2 fun x hx=>Ny hu s hs full d (by omega) x hx z hz fun u hu y hy=>ih (by omega) u hu y hy
end
end Go.Proofs.YtiijpgmpnijidaaGreatDoor
end
