/-
  A part of a proof: plain laws and walks, one after the other. No conditions.
-/
import Derived.Test.YtiijpgmpnijidaaGreatDoorSe5
set_option linter.constructorNameAsVariable false
set_option linter.unusedVariables false
set_option linter.unusedSimpArgs false
set_option linter.unusedSectionVars false
section
namespace Go.Proofs.YtiijpgmpnijidaaGreatDoor
open Go Go.SX Go.Ck Go.Vl Go.Ut Go.Ty
set_option maxRecDepth 100000
set_option maxHeartbeats 8000000
def Te (t:ab):List ab:=(bK t 0).map (·.t)
theorem El:∀ (k:Nat) (t:ab),SizeOf.sizeOf t < k->∀ a,(bK t a).map (·.t) = Te t:=by
 intro k
 induction k with
 | zero=>intro t h; exact absurd h (Nat.not_lt_zero _)
 | succ k ih =>
  intro t h a
  unfold Te
  rw [dD t a,dD t 0,List.map_cons,List.map_cons,List.map_flatMap,List.map_flatMap]
  refine congrArg (List.cons t) ?_
  rw [List.flatMap_def,List.flatMap_def]
  refine congrArg List.flatten (List.map_congr_left fun x hx=>?_)
  have hs:SizeOf.sizeOf x < k:=by have:=bg hx; omega
  rw [ih x hs,ih x hs]
theorem Sl (t:ab):Te t = t::(Ty.inside t).flatMap Te:=by
 unfold Te
 rw [dD t 0,List.map_cons,List.map_flatMap]
 refine congrArg (List.cons t) ?_
 rw [List.flatMap_def,List.flatMap_def]
 exact congrArg List.flatten (List.map_congr_left fun x hx=>El _ x (Nat.lt_succ_self _) _)
noncomputable def Eh (l:List az) (t:ab):Bool:=t.f.all fun f=>!(f.du && (ef l true f.aD f.t).2)
noncomputable def fa (l:List az) (t:ab):Bool:=(Te t).all (Eh l)
theorem sQ {α β:Type} (p:β->Bool) (f:α->List β):∀ l:List α,(l.flatMap f).all p = l.all fun x=>(f x).all p
 | []=>rfl
 | x::r=>by rw [List.flatMap_cons,List.all_append,List.all_cons,sQ p f r]
theorem zh {α:Type} (p q:α->Bool):∀ l:List α,(l.all p && l.all q) = l.all fun x=>p x && q x
 | []=>rfl
 | x::r=>by
  rw [List.all_cons,List.all_cons,List.all_cons,<- zh p q r]
  cases p x<;>cases q x<;>cases r.all p<;>rfl
noncomputable def Cg (l:List az) (f:gL):Bool:=!(f.du && (ef l true f.aD f.t).2) && fa l f.t
theorem LJ (l:List az) (t:ab):fa l t = (t.t.all (fa l) && t.f.all (Cg l)):=by
 have h1:fa l t = (Eh l t && (Ty.inside t).all (fa l)):=by
  unfold fa
  rw [Sl t,List.all_cons,sQ]
 have h2:(Ty.inside t).all (fa l) = (t.t.all (fa l) && t.f.all fun f=>fa l f.t):=by
  unfold Ty.inside
  rw [List.all_append,List.all_map]
  rfl
 have h3:t.f.all (Cg l) = (Eh l t && t.f.all fun f=>fa l f.t):=by
  unfold Eh
  rw [zh]
  rfl
 rw [h1,h2,h3]
 cases Eh l t<;>cases t.t.all (fa l)<;>rfl
noncomputable def fk (s:SchemaR):Int:=iO (dn s) (if ((aW s).all fun p=>Eh s.defs p.t) = true then 0 else 12)
theorem PW (s:SchemaR):((aW s).all fun p=>Eh s.defs p.t) = (s.defs.all (fun d=>fa s.defs d.t) && fa s.defs s.root):=by
 have key:∀ t a,((bK t a).all fun p=>Eh s.defs p.t) = fa s.defs t:=fun t a=>by
  unfold fa
  rw [<- El _ t (Nat.lt_succ_self _) a,List.all_map]
  rfl
 unfold aW
 rw [List.all_append,sQ,key]
 refine congrArg (fun b=>b && _) ?_
 exact congrArg s.defs.all (funext fun d=>key d.t 0)
theorem GS.gv {s:SchemaR} (hs:GS s) {t:ab} (ht:dz s t) {f:gL} (hf:f ∈ t.f):GV 20 f.aD:=by
 have hk:t.kind = 10:=by
  have h1:=hs.ok t ht
  unfold eP at h1
  split at h1
  ·cases h1
  rename_i h2
  have h3:dN t:=Decidable.not_not.1 h2
  rcases h3.2.2.2.2.2.1 with h4 | h4
  ·exact h4
  ·rw [h4] at hf
   exact nomatch hf
 obtain ⟨_,_,h3⟩:=tq t.f none (hs.TJ ht hk)
 refine Qe ?_ (h3 f hf)
 cases hs.tb t ht with
 | mk _ _ _ _ _ h _ _=>exact (h f hf).1
section
variable [G:Globs]
theorem SH (hu:HasU8) (s:SchemaR) (hs:GS s) (t:ab) (ht:dz s t) (ih:∀ x ∈ Ty.inside t,ar Tryz.prog 26 [.rp (oe s true),.agg (encTyp x)] (.b (fa s.defs x))):vc Tryz.prog Γ 48 [0,3,4,6,8,10,12,13,14,15,21,24,25,26,27,31,41,46] (Tryz.f26.body.getD .skip) (aQ Γ [.tmp 4] (fun v=>v = .b (fa s.defs t))) ⟨ae 0 [.rp (oe s true),.agg (encTyp t)],[]⟩:=by
 have hA:fa s.defs t = ((t.t.drop 0).all (fa s.defs) && t.f.all (Cg s.defs)):=LJ s.defs t
 generalize fa s.defs t = R at hA ⊢
 have hl:=(by cases hs.tb t ht; omega:t.t.length<=2000000/\t.f.length<=2000000)
 (repeat' (first | (refine iF (fun h=>?_) fun h=>?_)<;>try exact cX | refine bX ?_ | intro _))
 refine eX [] (eX [] (eX [] (eX Nat (eX (fun i=>i<=(t.t).length/\(R = ((t.t.drop i).all (fa s.defs) && t.f.all (Cg s.defs)))) (eX (fun i=>⟨[(0,.rp (oe s true)),(3,.pt 3 0),(12,.rd .typ t.t),(13,.i .i64 t.t.length),(14,.i .i64 i)],[(3,encTyp t)]⟩) (eX (fun i=>(t.t).length - i) (eX 0 (aN ⟨Nat.zero_le _,hA⟩ (aN ?_ ?_)))))))))
 ·exact wK
 rintro i ⟨hi,hI⟩
 refine aN (fun hz=>?_) (fun hz=>?_)
 ·have hi:=gd hz
  have hg:=cB (τ:=.typ) hi
  refine bN2 ?_
  rw [hg]
  have hC:=ih t.t[i] (List.mem_append_left _ (List.getElem_mem hi))
  rw [List.drop_eq_getElem_cons hi,List.all_cons] at hI
  generalize fa s.defs t.t[i] = q at hI hC
  (repeat' (first | (refine iF (fun h=>?_) fun h=>?_)<;>try exact cX | refine bX ?_ | intro _))
  refine Or.inl (eX _ (aN (hC) ?_))
  cases q with
  | true =>
   rw [Bool.true_and] at hI
   (repeat' (first | (refine iF (fun h=>?_) fun h=>?_)<;>try exact cX | refine bX ?_ | intro _))
   refine eX [] (eX (i + 1) (aN ⟨hi,hI⟩ (aN ?_ ?_)))
   ·exact wK
   ·(exact Nat.sub_lt_sub_left (by omega) (by omega))
  | false =>
   rw [Bool.false_and,Bool.false_and] at hI
   rw [hI]
   (repeat' (first | (refine iF (fun h=>?_) fun h=>?_)<;>try exact cX | refine bX ?_ | intro _))
   rfl
 (have hi:=ga hi hz)
 rw [List.drop_eq_nil_of_le (by omega),List.all_nil,Bool.true_and] at hI
 have hI:R = (t.f.drop 0).all (Cg s.defs):=hI
 (repeat' (first | (refine iF (fun h=>?_) fun h=>?_)<;>try exact cX | refine bX ?_ | intro _))
 refine eX [] (eX [] (eX [] (eX Nat (eX (fun j=>j<=(t.f).length/\(R = (t.f.drop j).all (Cg s.defs))) (eX (fun j=>⟨[(0,.rp (oe s true)),(24,.rd .eJ t.f),(25,.i .i64 t.f.length),(26,.i .i64 j)],[]⟩) (eX (fun j=>(t.f).length - j) (eX 0 (aN ⟨Nat.zero_le _,hI⟩ (aN ?_ ?_)))))))))
 ·exact wK
 rintro j ⟨hi,hI⟩
 refine aN (fun hz=>?_) (fun hz=>?_)
 ·rename_i i0 DS IB za fS
  have hi:=gd hz
  have hg:=cB (τ:=.eJ) hi
  have hm:=List.getElem_mem hi
  have ix:t.f[j].t ∈ Ty.inside t:=List.mem_append_right _ (List.mem_map.2 ⟨_,hm,rfl⟩)
  have hC:=ih t.f[j].t ix
  have hW:=AB hu hs true 20 (by decide) t.f[j].aD (hs.gv ht hm) t.f[j].t (fe ht _ ix)
  rw [List.drop_eq_getElem_cons hi,List.all_cons] at hI
  have Lw:Cg s.defs t.f[j] = (!(t.f[j].du && (ef s.defs true t.f[j].aD t.f[j].t).2) && fa s.defs t.f[j].t):=rfl
  generalize fa s.defs t.f[j].t = q at hC Lw
  generalize ef s.defs true t.f[j].aD t.f[j].t = w at hW Lw
  obtain ⟨w1,w2⟩:=w
  dsimp only at hW Lw
  refine bN2 ?_
  rw [hg]
  (conv=>whnf)
  cases hh:t.f[j].du with
  | true =>
   rw [hh,Bool.true_and] at Lw
   (repeat' (first | (refine iF (fun h=>?_) fun h=>?_)<;>try exact cX | refine bX ?_ | intro _))
   refine Or.inl (eX _ (aN (hW) ?_))
   cases w2 with
   | true =>
    rw [Bool.not_true,Bool.false_and] at Lw
    rw [Lw,Bool.false_and] at hI
    rw [hI]
    (repeat' (first | (refine iF (fun h=>?_) fun h=>?_)<;>try exact cX | refine bX ?_ | intro _))
    rfl
   | false =>
    rw [Bool.not_false,Bool.true_and] at Lw
    rw [Lw] at hI
    (repeat' (first | (refine iF (fun h=>?_) fun h=>?_)<;>try exact cX | refine bX ?_ | intro _))
    refine Or.inl (eX _ (aN (hC) ?_))
    cases q with
    | true =>
     rw [Bool.true_and] at hI
     (repeat' (first | (refine iF (fun h=>?_) fun h=>?_)<;>try exact cX | refine bX ?_ | intro _))
     refine eX [] (eX (j + 1) (aN ⟨hi,hI⟩ (aN ?_ ?_)))
     ·exact wK
     ·(exact Nat.sub_lt_sub_left (by omega) (by omega))
    | false =>
     rw [Bool.false_and] at hI
     rw [hI]
     (repeat' (first | (refine iF (fun h=>?_) fun h=>?_)<;>try exact cX | refine bX ?_ | intro _))
     rfl
  | false =>
   rw [hh,Bool.false_and,Bool.not_false,Bool.true_and] at Lw
   rw [Lw] at hI
   (repeat' (first | (refine iF (fun h=>?_) fun h=>?_)<;>try exact cX | refine bX ?_ | intro _))
   refine Or.inl (eX _ (aN (hC) ?_))
   cases q with
   | true =>
    rw [Bool.true_and] at hI
    (repeat' (first | (refine iF (fun h=>?_) fun h=>?_)<;>try exact cX | refine bX ?_ | intro _))
    refine eX [] (eX (j + 1) (aN ⟨hi,hI⟩ (aN ?_ ?_)))
    ·exact wK
    ·(exact Nat.sub_lt_sub_left (by omega) (by omega))
   | false =>
    rw [Bool.false_and] at hI
    rw [hI]
    (repeat' (first | (refine iF (fun h=>?_) fun h=>?_)<;>try exact cX | refine bX ?_ | intro _))
    rfl
 (have hi:=ga hi hz)
 rw [List.drop_eq_nil_of_le (by omega),List.all_nil] at hI
 rw [hI]
 (repeat' (first | (refine iF (fun h=>?_) fun h=>?_)<;>try exact cX | refine bX ?_ | intro _))
 rfl
theorem Ro (hu:HasU8) (s:SchemaR) (hs:GS s) (t:ab) (ht:dz s t) (ih:∀ x ∈ Ty.inside t,ar Tryz.prog 26 [.rp (oe s true),.agg (encTyp x)] (.b (fa s.defs x))):ar Tryz.prog 26 [.rp (oe s true),.agg (encTyp t)] (.b (fa s.defs t)) :=
 ah aa Tryz.func26 rfl Tryz.call26 Tryz.results26 Tryz.ntmps26 (Nat.le_of_ble_eq_true rfl) (SH hu s hs t ht ih)
theorem nh (hu:HasU8) {s:SchemaR} (hs:GS s):∀ (k:Nat) (t:ab),SizeOf.sizeOf t < k->dz s t->ar Tryz.prog 26 [.rp (oe s true),.agg (encTyp t)] (.b (fa s.defs t)):=by
 intro k
 induction k with
 | zero=>intro t h; exact absurd h (Nat.not_lt_zero _)
 | succ k ih =>
  intro t h ht
  exact Ro hu s hs t ht fun x hx=>ih x (by have:=bg hx; omega) (fe ht x hx)
end
end Go.Proofs.YtiijpgmpnijidaaGreatDoor
end
section
namespace Go.Proofs.YtiijpgmpnijidaaGreatDoor
open Go Go.SX Go.Ck Go.Vl Go.Ut Go.Ty
set_option maxRecDepth 100000
set_option maxHeartbeats 8000000
section
variable [G:Globs]
theorem K7 (hu:HasU8) (s:SchemaR) (hd:∀ d ∈ s.defs,TB d.t) (hr:TB s.root) (hn:s.defs.length<=2000000):vc Tryz.prog Γ 33 [1,2,3,4,6,10,14,16,17,18,19,26,32] (Tryz.f13.body.getD .skip) (aQ Γ [.tmp 2] (fun v=>v = .i .i64 (fk s))) ⟨ae 0 [.agg (aq s)],[]⟩:=by
 have hC:=J1 hu s hd hr
 have hR:fk s = iO (dn s) (if ((aW s).all fun p=>Eh s.defs p.t) = true then 0 else 12):=rfl
 generalize fk s = R at hR ⊢
 by_cases c1:dn s = 0
 rotate_left
 ·rw [bE c1] at hR
  rw [hR]
  (repeat' (first | (refine iF (fun h=>?_) fun h=>?_)<;>try exact cX | refine bX ?_ | intro _))
  refine Or.inl (eX _ (aN (hC) ?_))
  (repeat' (first | (refine iF (fun h=>?_) fun h=>?_)<;>try exact cX | refine bX ?_ | intro _))
  rfl
 have hs:=HV hd hr c1
 rw [c1,aL,PW] at hR
 rw [c1] at hC
 have hR:R = if ((s.defs.drop 0).all (fun d=>fa s.defs d.t) && fa s.defs s.root) = true then 0 else 12:=hR
 (repeat' (first | (refine iF (fun h=>?_) fun h=>?_)<;>try exact cX | refine bX ?_ | intro _))
 refine Or.inl (eX _ (aN (hC) ?_))
 (repeat' (first | (refine iF (fun h=>?_) fun h=>?_)<;>try exact cX | refine bX ?_ | intro _))
 refine eX [] (eX [] (eX [] (eX Nat (eX (fun i=>i<=s.defs.length/\R = if ((s.defs.drop i).all (fun d=>fa s.defs d.t) && fa s.defs s.root) = true then 0 else 12) (eX (fun | 0=>⟨[(1,.pt 1 0),(4,.pt 14 0),(16,.rd .dfn s.defs),(17,.i .i64 s.defs.length),(18,.i .i64 ((0:Nat):Int))],[(1,aq s),(14,oe s true)]⟩ | (j + 1)=>⟨[(1,.pt 1 0),(4,.rp (oe s true)),(16,.rd .dfn s.defs),(17,.i .i64 s.defs.length),(18,.i .i64 ((j + 1:Nat):Int))],[(1,aq s)]⟩) (eX (fun i=>s.defs.length - i) (eX 0 (aN ⟨Nat.zero_le _,hR⟩ (aN ?_ ?_)))))))))
 ·exact wK
 rintro i ⟨hi,hI⟩
 cases i with
 | zero =>
  refine aN (fun hz=>?_) (fun hz=>?_)
  ·have hi:=gd hz
   have hg:=cB (τ:=.dfn) hi
   refine bN2 ?_
   rw [hg]
   have hx:=List.getElem_mem hi
   have hD:=nh hu hs _ s.defs[0].t (Nat.lt_succ_self _) (gx hx)
   rw [List.drop_eq_getElem_cons hi,List.all_cons] at hI
   generalize fa s.defs s.defs[0].t = q at hI hD
   (repeat' (first | (refine iF (fun h=>?_) fun h=>?_)<;>try exact cX | refine bX ?_ | intro _))
   refine Or.inr (Or.inr (Or.inr (Or.inl (eX [14] (eX _ (aN (hD) ?_))))))
   cases q with
   | false =>
    rw [Bool.false_and,Bool.false_and,if_neg (by decide)] at hI
    rw [hI]
    (repeat' (first | (refine iF (fun h=>?_) fun h=>?_)<;>try exact cX | refine bX ?_ | intro _))
    rfl
   | true =>
    rw [Bool.true_and] at hI
    (repeat' (first | (refine iF (fun h=>?_) fun h=>?_)<;>try exact cX | refine bX ?_ | intro _))
    refine eX [] (eX (0 + 1) (aN ⟨hi,hI⟩ (aN ?_ ?_)))
    ·exact wK
    ·(exact Nat.sub_lt_sub_left (by omega) (by omega))
  ·(have hi:=ga hi hz)
   have hD:=nh hu hs _ s.root (Nat.lt_succ_self _) (eb s)
   rw [List.drop_eq_nil_of_le (by omega),List.all_nil,Bool.true_and] at hI
   generalize fa s.defs s.root = q at hI hD
   (repeat' (first | (refine iF (fun h=>?_) fun h=>?_)<;>try exact cX | refine bX ?_ | intro _))
   refine Or.inr (Or.inr (Or.inr (Or.inl (eX [14] (eX _ (aN (hD) ?_))))))
   cases q with
   | false =>
    rw [if_neg (by decide)] at hI
    rw [hI]
    (repeat' (first | (refine iF (fun h=>?_) fun h=>?_)<;>try exact cX | refine bX ?_ | intro _))
    rfl
   | true =>
    rw [if_pos rfl] at hI
    rw [hI]
    (repeat' (first | (refine iF (fun h=>?_) fun h=>?_)<;>try exact cX | refine bX ?_ | intro _))
    rfl
 | succ j =>
  refine aN (fun hz=>?_) (fun hz=>?_)
  ·have hi:=gd hz
   have hg:=cB (τ:=.dfn) hi
   refine bN2 ?_
   rw [hg]
   have hx:=List.getElem_mem hi
   have hD:=nh hu hs _ s.defs[j + 1].t (Nat.lt_succ_self _) (gx hx)
   rw [List.drop_eq_getElem_cons hi,List.all_cons] at hI
   generalize fa s.defs s.defs[j + 1].t = q at hI hD
   (repeat' (first | (refine iF (fun h=>?_) fun h=>?_)<;>try exact cX | refine bX ?_ | intro _))
   refine Or.inl (eX _ (aN (hD) ?_))
   cases q with
   | false =>
    rw [Bool.false_and,Bool.false_and,if_neg (by decide)] at hI
    rw [hI]
    (repeat' (first | (refine iF (fun h=>?_) fun h=>?_)<;>try exact cX | refine bX ?_ | intro _))
    rfl
   | true =>
    rw [Bool.true_and] at hI
    (repeat' (first | (refine iF (fun h=>?_) fun h=>?_)<;>try exact cX | refine bX ?_ | intro _))
    refine eX [] (eX (j + 1 + 1) (aN ⟨hi,hI⟩ (aN ?_ ?_)))
    ·exact wK
    ·(exact Nat.sub_lt_sub_left (by omega) (by omega))
  ·(have hi:=ga hi hz)
   have hD:=nh hu hs _ s.root (Nat.lt_succ_self _) (eb s)
   rw [List.drop_eq_nil_of_le (by omega),List.all_nil,Bool.true_and] at hI
   generalize fa s.defs s.root = q at hI hD
   (repeat' (first | (refine iF (fun h=>?_) fun h=>?_)<;>try exact cX | refine bX ?_ | intro _))
   refine Or.inl (eX _ (aN (hD) ?_))
   cases q with
   | false =>
    rw [if_neg (by decide)] at hI
    rw [hI]
    (repeat' (first | (refine iF (fun h=>?_) fun h=>?_)<;>try exact cX | refine bX ?_ | intro _))
    rfl
   | true =>
    rw [if_pos rfl] at hI
    rw [hI]
    (repeat' (first | (refine iF (fun h=>?_) fun h=>?_)<;>try exact cX | refine bX ?_ | intro _))
    rfl
theorem uY (hu:HasU8) (s:SchemaR) (hd:∀ d ∈ s.defs,TB d.t) (hr:TB s.root) (hn:s.defs.length<=2000000):ar Tryz.prog 13 [.agg (aq s)] (.i .i64 (fk s)) :=
 ah aa Tryz.func13 rfl Tryz.call13 Tryz.results13 Tryz.ntmps13 (Nat.le_of_ble_eq_true rfl) (K7 hu s hd hr hn)
end
end Go.Proofs.YtiijpgmpnijidaaGreatDoor
end
section
namespace Go.Proofs.YtiijpgmpnijidaaGreatDoor
open Go Go.SX Go.Ck Go.Vl Go.Ut Go.Ty
set_option maxRecDepth 100000
set_option maxHeartbeats 8000000
theorem Mm {l:List gL} (h:lW none l = 0) {i j:Nat} (ME:i < j) (hj:j < l.length):l[i].name≠l[j].name:=by
 obtain ⟨h1,_,_⟩:=tq l none h
 exact Up.uh (List.pairwise_iff_getElem.1 h1 i j (by omega) hj ME)
theorem HI {l:List gL} {k:aH} {i:Nat} (hi:i < l.length) (hk:l[i].name = k) (hb:∀ j,j < i->∀ h:j < l.length,l[j].name≠k):kJ l k = some l[i]:=by
 have e:l.findIdx (fun f=>f.name == k) = i:=(List.findIdx_eq hi).2 ⟨beq_iff_eq.2 hk,fun j hj=>beq_eq_false_iff_ne.2 (hb j hj (by omega))⟩
 rw [(x0 k l).1 (by rw [e]; exact hi),e,List.getD_eq_getElem?_getD,List.getElem?_eq_getElem hi]
 rfl
theorem HJ {l:List gL} {k:aH} (hb:∀ j,∀ h:j < l.length,l[j].name≠k):kJ l k = none:=by
 unfold kJ
 rw [List.find?_eq_none]
 intro x hx
 obtain ⟨j,hj,rfl⟩:=List.getElem_of_mem hx
 rw [beq_iff_eq]
 exact hb j hj
section
variable [G:Globs]
theorem VF (s:SchemaR) (full:Bool) (z:aT) (t:ab) (p:jy) (hl:(ef s.defs full z t).1.length<=100) (hW:ar Tryz.prog 19 [.agg (aq s),.agg (encTyp t),.agg (ai z),.b full] (.bc [.rd .ch (ef s.defs full z t).1,.b (ef s.defs full z t).2])):vc Tryz.prog Γ 25 [3,4,5,6,7,8,9,10,11] (Tryz.f36.body.getD .skip) (aQ Γ [.tmp 8,.tmp 9] (fun v=>RL v (.bc [.rd .ch (p::(ef s.defs full z t).1),.b (ef s.defs full z t).2]))) ⟨ae 0 [.agg (encTyp t),.agg (ai z),.agg (enc .ch p),.rp (aq s),.rp [.b full]],[]⟩:=by
 generalize ef s.defs full z t = q at hl hW ⊢
 (repeat' (first | (refine iF (fun h=>?_) fun h=>?_)<;>try exact cX | refine bX ?_ | intro _))
 refine Or.inl (eX _ (aN (hW) ?_))
 (repeat' (first | (refine iF (fun h=>?_) fun h=>?_)<;>try exact cX | refine bX ?_ | intro _))
 (refine aN (Go.Ty.LG (by (try simp only [List.length_append,List.length_cons,List.length_nil,List.length_map,List.length_take,List.length_drop]); omega) (Nat.le_of_ble_eq_true rfl)) ?_)
 (repeat' (first | (refine iF (fun h=>?_) fun h=>?_)<;>try exact cX | refine bX ?_ | intro _))
 exact rL
theorem JZ (s:SchemaR) (full:Bool) (z:aT) (t:ab) (p:jy) (hl:(ef s.defs full z t).1.length<=100) (hW:ar Tryz.prog 19 [.agg (aq s),.agg (encTyp t),.agg (ai z),.b full] (.bc [.rd .ch (ef s.defs full z t).1,.b (ef s.defs full z t).2])):ar Tryz.prog 36 [.agg (encTyp t),.agg (ai z),.agg (enc .ch p),.rp (aq s),.rp [.b full]] (.bc [.rd .ch (p::(ef s.defs full z t).1),.b (ef s.defs full z t).2]) :=
 ee aa Tryz.func36 rfl Tryz.call36 Tryz.results36 Tryz.ntmps36 (Nat.le_of_ble_eq_true rfl) (VF s full z t p hl hW)
theorem SP (s:SchemaR) (hs:GS s) (full:Bool) (d:Nat) (hd:d<=50) (x:ab) (hx:dz s x) (hk:x.kind = 10) (z:aT) (hv:GV (d + 1) z) (ih:∀ u,GV d u->∀ y,dz s y->ar Tryz.prog 19 [.agg (aq s),.agg (encTyp y),.agg (ai u),.b full] (.bc [.rd .ch (ef s.defs full u y).1,.b (ef s.defs full u y).2])):vc Tryz.prog Γ 87 [0,2,3,5,8,9,11,12,14,15,16,18,20,21,22,23,26,27,28,29,36,49,53,59,60,61,62,70,85] (Tryz.f38.body.getD .skip) (aQ Γ [.tmp 8,.tmp 9] (fun v=>RL v (.bc [.rd .ch (pX s.defs full z.e x.f (ji full x.f z.e)).1,.b (pX s.defs full z.e x.f (ji full x.f z.e)).2]))) ⟨ae 0 [.rd .eJ x.f,.agg (ai z),.b full,.fn 36 [.rp (aq s),.rp [.b full]]],[]⟩:=by
 have hA:pX s.defs full z.e x.f (ji full x.f z.e) = pX s.defs full (z.e.drop 0) x.f (ji full x.f z.e):=rfl
 generalize pX s.defs full z.e x.f (ji full x.f z.e) = R at hA ⊢
 have GD:=(by cases hs.tb x hx; omega:x.f.length<=2000000)
 have W9:=(by cases hv; omega:z.e.length<=200)
 have GI:=(by cases hv; assumption:∀ p ∈ z.e,GV d p.2)
 have da:=fun {i j:Nat}=>Mm (i:=i) (j:=j) (hs.TJ hx hk)
 (repeat' (first | (refine iF (fun h=>?_) fun h=>?_)<;>try exact cX | refine bX ?_ | intro _))
 refine eX [] (eX [] (eX [] (eX Nat (eX (fun i=>i<=(z.e).length/\(R = pX s.defs full (z.e.drop i) x.f (ji full x.f z.e))) (eX (fun i=>⟨[(0,.rd .eJ x.f),(2,.b full),(3,.fn 36 [.rp (aq s),.rp [.b full]]),(5,.pt 5 0),(20,.rd .dZ z.e),(21,.i .i64 z.e.length),(22,.i .i64 i)],[(5,ai z)]⟩) (eX (fun i=>(z.e).length - i) (eX 0 (aN ⟨Nat.zero_le _,hA⟩ (aN ?_ ?_)))))))))
 ·exact wK
 rintro i ⟨hi,hI⟩
 refine aN (fun hz=>?_) (fun hz=>?_)
 ·have hi:=gd hz
  have hg:=cB (τ:=.dZ) hi
  refine bN2 ?_
  rw [hg]
  have x8:=GI _ (List.getElem_mem hi)
  rw [BP s.defs full hi] at hI
  (repeat' (first | (refine iF (fun h=>?_) fun h=>?_)<;>try exact cX | refine bX ?_ | intro _))
  refine eX [] (eX [] (eX [] (eX (Nat × Bool) (eX (fun q=>q.1<=x.f.length/\((q.2 = false/\∀ j,j < q.1->∀ h:j < x.f.length,x.f[j].name≠z.e[i].1)\/(q.2 = true/\(∀ j,q.1<=j->∀ h:j < x.f.length,x.f[j].name≠z.e[i].1)/\∃ f,kJ x.f z.e[i].1 = some f/\(ef s.defs full z.e[i].2 f.t).2 = false))) (eX (fun ⟨j,b⟩=>⟨[(0,.rd .eJ x.f),(2,.b full),(3,.fn 36 [.rp (aq s),.rp [.b full]]),(5,.pt 5 0),(11,.pt 11 0),(12,.b b),(20,.rd .dZ z.e),(21,.i .i64 z.e.length),(22,.i .i64 i),(26,.rd .eJ x.f),(27,.i .i64 x.f.length),(28,.i .i64 j)],[(5,ai z),(11,enc .dZ z.e[i])]⟩) (eX (fun q=>x.f.length - q.1) (eX (0,false) (aN ⟨Nat.zero_le _,.inl ⟨rfl,fun j h=>absurd h (Nat.not_lt_zero _)⟩⟩ (aN ?_ ?_)))))))))
  ·exact wK
  rintro ⟨j,b⟩ ⟨hj,hJ⟩
  dsimp only at hj hJ
  refine aN (fun ID=>?_) (fun ID=>?_)
  ·have hj:=gd ID
   have hg:=cB (τ:=.eJ) hj
   refine bN2 ?_
   rw [hg]
   have Xc:dz s x.f[j].t:=fe hx _ (List.mem_append_right _ (List.mem_map.2 ⟨_,List.getElem_mem hj,rfl⟩))
   have Cm:=JZ s full z.e[i].2 x.f[j].t ⟨z.e[i].1,-1⟩ (by have:=q8 s.defs full d _ x8 x.f[j].t; omega) (ih _ x8 _ Xc)
   by_cases hq:x.f[j].name = z.e[i].1
   ·have hJ1 : b = false /\ ∀ j', j' < j -> ∀ h : j' < x.f.length, x.f[j'].name ≠ z.e[i].1 := by
     rcases hJ with h | ⟨_,h,_⟩
     ·exact h
     ·exact absurd hq (h j (Nat.le_refl _) hj)
    have VZ:=HI hj hq hJ1.2
    have WL:∀ j',j + 1<=j'->∀ h:j' < x.f.length,x.f[j'].name≠z.e[i].1:=fun j' h1 h2=>by
     rw [<- hq]
     exact (da (by omega) h2).symm
    rw [VZ] at hI
    dsimp only at hI
    (repeat' (first | (refine iF (fun h=>?_) fun h=>?_)<;>try exact cX | refine bX ?_ | intro _))
    refine Or.inl (eX _ (aN (Cm) ?_))
    cases hw:(ef s.defs full z.e[i].2 x.f[j].t).2 with
    | true =>
     rw [hw,if_pos rfl] at hI
     rw [hI]
     (repeat' (first | (refine iF (fun h=>?_) fun h=>?_)<;>try exact cX | refine bX ?_ | intro _))
     exact rL
    | false =>
     (repeat' (first | (refine iF (fun h=>?_) fun h=>?_)<;>try exact cX | refine bX ?_ | intro _))
     refine eX [] (eX (j + 1,true) (aN ⟨hj,.inr ⟨rfl,WL,_,VZ,hw⟩⟩ (aN ?_ ?_)))
     ·exact wK
     ·(exact Nat.sub_lt_sub_left (by omega) (by omega))
   ·have WL : (b = false /\ ∀ j', j' < j + 1 -> ∀ h : j' < x.f.length, x.f[j'].name ≠ z.e[i].1) \/ (b = true /\ (∀ j', j + 1<=j' -> ∀ h : j' < x.f.length, x.f[j'].name ≠ z.e[i].1) /\ ∃ f, kJ x.f z.e[i].1 = some f /\ (ef s.defs full z.e[i].2 f.t).2 = false) := by
     rcases hJ with ⟨h1,h2⟩ | ⟨h1,h2,h3⟩
     ·refine .inl ⟨h1,fun j' hj' h=>?_⟩
      rcases Nat.lt_succ_iff_lt_or_eq.1 hj' with h4 | rfl
      ·exact h2 j' h4 h
      ·exact hq
     ·exact .inr ⟨h1,fun j' hj' h=>h2 j' (by omega) h,h3⟩
    (repeat' (first | (refine iF (fun h=>?_) fun h=>?_)<;>try exact cX | refine bX ?_ | intro _))
    refine eX [] (eX (j + 1,b) (aN ⟨hj,WL⟩ (aN ?_ ?_)))
    ·exact wK
    ·(exact Nat.sub_lt_sub_left (by omega) (by omega))
  ·have hj:=ga hj ID
   rcases hJ with ⟨rfl,h2⟩ | ⟨rfl,_,f,h3,h4⟩
   ·rw [HJ fun j' h=>h2 j' (by omega) h] at hI
    rw [hI]
    (repeat' (first | (refine iF (fun h=>?_) fun h=>?_)<;>try exact cX | refine bX ?_ | intro _))
    exact rL
   ·rw [h3] at hI
    dsimp only at hI
    rw [h4,if_neg (by decide)] at hI
    (repeat' (first | (refine iF (fun h=>?_) fun h=>?_)<;>try exact cX | refine bX ?_ | intro _))
    refine eX [] (eX (i + 1) (aN ⟨hi,hI⟩ (aN ?_ ?_)))
    ·exact wK
    ·(exact Nat.sub_lt_sub_left (by omega) (by omega))
 (have hi:=ga hi hz)
 rw [List.drop_eq_nil_of_le (by omega),pX] at hI
 subst hI
 have hM:ji full x.f z.e = (x.f.drop 0).any fun f=>xD full f && decide (AA z.e (iC f.name) < 0):=rfl
 generalize ji full x.f z.e = m at hM ⊢
 (repeat' (first | (refine iF (fun h=>?_) fun h=>?_)<;>try exact cX | refine bX ?_ | intro _))
 refine eX [] (eX [] (eX [] (eX Nat (eX (fun j=>j<=(x.f).length/\(m = (x.f.drop j).any fun f=>xD full f && decide (AA z.e (iC f.name) < 0))) (eX (fun j=>⟨[(2,.b full),(5,.pt 5 0),(59,.rd .eJ x.f),(60,.i .i64 x.f.length),(61,.i .i64 j)],[(5,ai z)]⟩) (eX (fun j=>(x.f).length - j) (eX 0 (aN ⟨Nat.zero_le _,hM⟩ (aN ?_ ?_)))))))))
 ·exact wK
 rintro j ⟨hi,hI⟩
 refine aN (fun hz=>?_) (fun hz=>?_)
 ·rename_i i0 DS IB za
  have hi:=gd hz
  have hg:=cB (τ:=.eJ) hi
  refine bN2 ?_
  rw [hg]
  have VR:=Nu z.e x.f[j].name
  rw [List.drop_eq_getElem_cons hi,List.any_cons] at hI
  have GB:xD full x.f[j] = ((!x.f[j].opt && !x.f[j].du) || (full && x.f[j].du)):=rfl
  (conv=>whnf)
  (repeat' (first | (refine iF (fun h=>?_) fun h=>?_)<;>try exact cX | refine bX ?_ | intro _))
  refine Or.inl (eX _ (aN (VR) ?_))
  by_cases UZ:AA z.e (iC x.f[j].name) < 0
  rotate_left
  ·rw [decide_eq_false UZ,Bool.and_false,Bool.false_or] at hI
   (repeat' (first | (refine iF (fun h=>?_) fun h=>?_)<;>try exact cX | refine bX ?_ | intro _))
   refine eX [] (eX (j + 1) (aN ⟨hi,hI⟩ (aN ?_ ?_)))
   ·exact wK
   ·(exact Nat.sub_lt_sub_left (by omega) (by omega))
  rw [decide_eq_true UZ,Bool.and_true] at hI
  cases ho:x.f[j].opt<;>cases hh:x.f[j].du<;>cases full<;>(rw [ho,hh] at GB; simp only [Bool.not_true,Bool.not_false,Bool.and_true,Bool.and_false,Bool.or_true,Bool.or_false,Bool.true_and,Bool.false_and,Bool.true_or,Bool.false_or] at GB; rw [GB] at hI)
  all_goals first | rw [Bool.true_or] at hI | rw [Bool.false_or] at hI
  all_goals first
   | (rw [hI]; (repeat' (first | (refine iF (fun h=>?_) fun h=>?_)<;>try exact cX | refine bX ?_ | intro _)); (repeat' (first | exact Or.inl rfl | exact trivial | exact Or.inr ⟨rfl,_,rfl⟩ | refine aN ?_ ?_)); done)
   | ((repeat' (first | (refine iF (fun h=>?_) fun h=>?_)<;>try exact cX | refine bX ?_ | intro _)); refine eX [] (eX (j + 1) (aN ⟨hi,hI⟩ (aN wK (by (exact Nat.sub_lt_sub_left (by omega) (by omega)))))))
 (have hi:=ga hi hz)
 rw [List.drop_eq_nil_of_le (by omega),List.any_nil] at hI
 rw [hI]
 (repeat' (first | (refine iF (fun h=>?_) fun h=>?_)<;>try exact cX | refine bX ?_ | intro _))
 exact rL
theorem Ru (s:SchemaR) (hs:GS s) (full:Bool) (d:Nat) (hd:d<=50) (x:ab) (hx:dz s x) (hk:x.kind = 10) (z:aT) (hv:GV (d + 1) z) (ih:∀ u,GV d u->∀ y,dz s y->ar Tryz.prog 19 [.agg (aq s),.agg (encTyp y),.agg (ai u),.b full] (.bc [.rd .ch (ef s.defs full u y).1,.b (ef s.defs full u y).2])):ar Tryz.prog 38 [.rd .eJ x.f,.agg (ai z),.b full,.fn 36 [.rp (aq s),.rp [.b full]]] (.bc [.rd .ch (pX s.defs full z.e x.f (ji full x.f z.e)).1,.b (pX s.defs full z.e x.f (ji full x.f z.e)).2]) :=
 ee aa Tryz.func38 rfl Tryz.call38 Tryz.results38 Tryz.ntmps38 (Nat.le_of_ble_eq_true rfl) (SP s hs full d hd x hx hk z hv ih)
end
end Go.Proofs.YtiijpgmpnijidaaGreatDoor
end
section
namespace Go.Proofs.YtiijpgmpnijidaaGreatDoor
open Go Go.SX Go.Ck Go.Vl Go.Ut Go.Ty
set_option maxRecDepth 100000
set_option maxHeartbeats 20000000
def vC:ab:=⟨0,0,0,[],[],[],[]⟩
section
variable [G:Globs]
theorem Lj (s:SchemaR) (hs:GS s) (full:Bool) (d:Nat) (hd:d<=50) (t:ab) (ht:dz s t) (z:aT) (hv:GV (d + 1) z) (ih:∀ u,GV d u->∀ y,dz s y->ar Tryz.prog 19 [.agg (aq s),.agg (encTyp y),.agg (ai u),.b full] (.bc [.rd .ch (ef s.defs full u y).1,.b (ef s.defs full u y).2])):vc Tryz.prog Γ 163 [4,5,6,7,8,9,10,12,13,14,16,17,18,19,20,21,23,24,25,28,29,30,31,37,42,43,45,59,75,78,79,80,81,87,89,103,105,106,107,108,124,127,130,131,132,133,150,153] (Tryz.f19.body.getD .skip) (aQ Γ [.tmp 8,.tmp 9] (fun v=>RL v (.bc [.rd .ch (ef s.defs full z t).1,.b (ef s.defs full z t).2]))) ⟨ae 0 [.agg (aq s),.agg (encTyp t),.agg (ai z),.b full],[]⟩:=by
 have hA:=Dh s.defs full z t
 have H0:=qP s hs.sb.defs hs.sb.many t (hs.ct ht) (hs.tb t ht) (hs.num ht)
 have tW:=hs.parts ht
 have hlen:=hs.len ht
 have V4:=(by cases hv; assumption:0<=z.kind/\z.kind<=6)
 have hls:=(by cases hv; assumption:z.s.length<=4000/\z.l.length<=200/\z.e.length<=200)
 have gN:=(by cases hv; assumption:bad z.s < 0)
 have BU:=(by cases hv; assumption:∀ u ∈ z.l,GV d u)
 have Ya:=(by cases hv; assumption:∀ p ∈ z.e,GV d p.2)
 have fx:=hs.one ht V4.1 V4.2
 generalize ef s.defs full z t = R at hA ⊢
 generalize (bp s.defs t).1 = ps at hA H0 tW hlen fx
 have hL:=uc ps vC fx
 have hL:(iH ps z.kind).getD vC = rz (fun y=>bC y.kind z.kind) vC (ps.drop 0):=hL.symm
 (repeat' (first | (refine iF (fun h=>?_) fun h=>?_)<;>try exact cX | refine bX ?_ | intro _))
 refine Or.inr (Or.inr (Or.inr (Or.inl (eX [4,7] (eX _ (aN (H0) ?_))))))
 (repeat' (first | (refine iF (fun h=>?_) fun h=>?_)<;>try exact cX | refine bX ?_ | intro _))
 refine eX [] (eX [] (eX [] (eX (Nat × ab) (eX (fun q=>q.1<=ps.length/\(iH ps z.kind).getD vC = rz (fun y=>bC y.kind z.kind) q.2 (ps.drop q.1)) (eX (fun ⟨i,p⟩=>⟨[(4,.rp (aq s)),(6,.pt 6 0),(7,.rp [.b full]),(10,.pt 10 0),(28,.rd .typ ps),(29,.i .i64 ps.length),(30,.i .i64 i)],[(6,ai z),(10,encTyp p)]⟩) (eX (fun q=>ps.length - q.1) (eX (0,vC) (aN ⟨Nat.zero_le _,hL⟩ (aN ?_ ?_)))))))))
 ·exact wK
 rintro ⟨i,p⟩ ⟨hi,hI⟩
 dsimp only at hi hI
 refine aN (fun hz=>?_) (fun hz=>?_)
 ·have hi:=gd hz
  have hg:=cB (τ:=.typ) hi
  refine bN2 ?_
  rw [hg]
  obtain ⟨g1,g2⟩:=tW _ (List.getElem_mem hi)
  have hT:=EA ps[i] z.kind V4.1 V4.2
  rw [List.drop_eq_getElem_cons hi,rz] at hI
  (repeat' (first | (refine iF (fun h=>?_) fun h=>?_)<;>try exact cX | refine bX ?_ | intro _))
  refine Or.inl (eX _ (aN (hT) ?_))
  cases hq:bC ps[i].kind z.kind with
  | true =>
   rw [hq,if_pos rfl] at hI
   (repeat' (first | (refine iF (fun h=>?_) fun h=>?_)<;>try exact cX | refine bX ?_ | intro _))
   refine eX [] (eX (i + 1,ps[i]) (aN ⟨hi,hI⟩ (aN ?_ ?_)))
   ·exact wK
   ·(exact Nat.sub_lt_sub_left (by omega) (by omega))
  | false =>
   rw [hq,if_neg (by decide)] at hI
   (repeat' (first | (refine iF (fun h=>?_) fun h=>?_)<;>try exact cX | refine bX ?_ | intro _))
   refine eX [] (eX (i + 1,p) (aN ⟨hi,hI⟩ (aN ?_ ?_)))
   ·exact wK
   ·(exact Nat.sub_lt_sub_left (by omega) (by omega))
 (have hi:=ga hi hz)
 rw [List.drop_eq_nil_of_le (by omega)] at hI
 have hI:(iH ps z.kind).getD vC = p:=hI
 cases wR:iH ps z.kind with
 | none =>
  rw [wR] at hI hA
  have hI:vC = p:=hI
  subst hI
  have hA:R = ([],true):=hA
  subst hA
  (repeat' (first | (refine iF (fun h=>?_) fun h=>?_)<;>try exact cX | refine bX ?_ | intro _))
  exact rL
 | some x =>
  rw [wR] at hI hA
  have hI:x = p:=hI
  subst hI
  have U0:x ∈ ps:=List.mem_of_find?_eq_some wR
  obtain ⟨Zb,hx⟩:=tW x U0
  have Po:1<=x.kind:=Zb.1
  have Zz:x.kind<=10:=Zb.2
  have hA:R = if x.kind = 4 then ([],!lb z.n x.lo x.hi) else if x.kind = 6 then ([],!lb ((cK z.s).length:Nat) x.lo x.hi) else if x.kind = 7 then ([],!(x.texts.any fun y=>y == z.s))
   else if x.kind = 8 then (if lb (z.l.length:Nat) x.lo x.hi = true then Dd s.defs full z.l (x.t.getD 0 (SX.aD .typ)) 0 else ([],true))
   else if x.kind = 9 then Dg s.defs full z.e (x.t.getD 0 (SX.aD .typ)) else if x.kind = 10 then pX s.defs full z.e x.f (ji full x.f z.e) else ([],false):=hA
  have hb:=hs.tb x hx
  clear H0 tW hlen fx hL wR U0
  have bw:∀ n:Int,(!lb n x.lo x.hi) = (decide (n < x.lo) || decide (x.hi < n)):=fun n=>by
   unfold lb
   by_cases h1:n < x.lo
   ·rw [decide_eq_true h1,decide_eq_false (by omega)]; rfl
   ·by_cases h2:x.hi < n
    ·rw [decide_eq_false h1,decide_eq_true h2,decide_eq_true (by omega),decide_eq_false (by omega)]; rfl
    ·rw [decide_eq_false h1,decide_eq_false h2,decide_eq_true (by omega),decide_eq_true (by omega)]; rfl
  by_cases c4:x.kind = 4
  ·rw [if_pos c4,bw] at hA
   by_cases h1:z.n < x.lo
   ·rw [decide_eq_true h1,Bool.true_or] at hA
    subst hA
    (repeat' (first | (refine iF (fun h=>?_) fun h=>?_)<;>try exact cX | refine bX ?_ | intro _))
    refine eX [.fZ [0,1,2,3,4,5,6,7,8,9,10,11,12,13]] (aN (by kernel_rfl) ?_)
    (repeat' (first | (refine iF (fun h=>?_) fun h=>?_)<;>try exact cX | refine bX ?_ | intro _))
    exact rL
   ·rw [decide_eq_false h1,Bool.false_or] at hA
    subst hA
    (repeat' (first | (refine iF (fun h=>?_) fun h=>?_)<;>try exact cX | refine bX ?_ | intro _))
    refine eX [.fZ [0,1,2,3,4,5,6,7,8,9,10,11,12,13]] (aN (by kernel_rfl) ?_)
    (repeat' (first | (refine iF (fun h=>?_) fun h=>?_)<;>try exact cX | refine bX ?_ | intro _))
    exact rL
  rw [if_neg c4] at hA
  by_cases c6:x.kind = 6
  ·rw [if_pos c6,bw] at hA
   have hS:=Gb z.s (by omega) gN
   by_cases h1:(((cK z.s).length:Nat):Int) < x.lo
   ·rw [decide_eq_true h1,Bool.true_or] at hA
    subst hA
    (repeat' (first | (refine iF (fun h=>?_) fun h=>?_)<;>try exact cX | refine bX ?_ | intro _))
    refine Or.inl (eX _ (aN (hS) ?_))
    (repeat' (first | (refine iF (fun h=>?_) fun h=>?_)<;>try exact cX | refine bX ?_ | intro _))
    refine eX [.fZ [0,1,2,3,4,5,6,7,8,9,10,11]] (aN (by kernel_rfl) ?_)
    (repeat' (first | (refine iF (fun h=>?_) fun h=>?_)<;>try exact cX | refine bX ?_ | intro _))
    exact rL
   ·rw [decide_eq_false h1,Bool.false_or] at hA
    subst hA
    (repeat' (first | (refine iF (fun h=>?_) fun h=>?_)<;>try exact cX | refine bX ?_ | intro _))
    refine Or.inl (eX _ (aN (hS) ?_))
    (repeat' (first | (refine iF (fun h=>?_) fun h=>?_)<;>try exact cX | refine bX ?_ | intro _))
    refine eX [.fZ [0,1,2,3,4,5,6,7,8,9,10,11]] (aN (by kernel_rfl) ?_)
    (repeat' (first | (refine iF (fun h=>?_) fun h=>?_)<;>try exact cX | refine bX ?_ | intro _))
    exact rL
  rw [if_neg c6] at hA
  by_cases c7:x.kind = 7
  ·rw [if_pos c7] at hA
   have hl:=(by cases hb; omega:x.texts.length<=2000000)
   have hA:R = ([],!((x.texts.drop 0).any fun y=>y == z.s)):=hA
   (repeat' (first | (refine iF (fun h=>?_) fun h=>?_)<;>try exact cX | refine bX ?_ | intro _))
   refine eX [] (eX [] (eX [] (eX Nat (eX (fun j=>j<=(x.texts).length/\(R = ([],!((x.texts.drop j).any fun y=>y == z.s)))) (eX (fun j=>⟨[(6,.pt 6 0),(78,.rd .str x.texts),(79,.i .i64 x.texts.length),(80,.i .i64 j)],[(6,ai z)]⟩) (eX (fun j=>(x.texts).length - j) (eX 0 (aN ⟨Nat.zero_le _,hA⟩ (aN ?_ ?_)))))))))
   ·exact wK
   rintro j ⟨hi,hI⟩
   refine aN (fun hz=>?_) (fun hz=>?_)
   ·rename_i i0 p0 DS IB za
    have hi:=gd hz
    have hg:=cB (τ:=.str) hi
    refine bN2 ?_
    rw [hg]
    rw [List.drop_eq_getElem_cons hi,List.any_cons] at hI
    cases hq:(x.texts[j] == z.s) with
    | true =>
     have zd:x.texts[j] = z.s:=eq_of_beq hq
     rw [hq,Bool.true_or] at hI
     rw [hI]
     (repeat' (first | (refine iF (fun h=>?_) fun h=>?_)<;>try exact cX | refine bX ?_ | intro _))
     exact rL
    | false =>
     have zd:¬ x.texts[j] = z.s:=ne_of_beq_false hq
     rw [hq,Bool.false_or] at hI
     (repeat' (first | (refine iF (fun h=>?_) fun h=>?_)<;>try exact cX | refine bX ?_ | intro _))
     refine eX [] (eX (j + 1) (aN ⟨hi,hI⟩ (aN ?_ ?_)))
     ·exact wK
     ·(exact Nat.sub_lt_sub_left (by omega) (by omega))
   (have hi:=ga hi hz)
   rw [List.drop_eq_nil_of_le (by omega),List.any_nil] at hI
   rw [hI]
   (repeat' (first | (refine iF (fun h=>?_) fun h=>?_)<;>try exact cX | refine bX ?_ | intro _))
   exact rL
  rw [if_neg c7] at hA
  by_cases c8:x.kind = 8
  ·rw [if_pos c8] at hA
   obtain ⟨q0,q1,q2,q3⟩:=hs.Ei hx (.inl c8)
   rw [<- q1] at q2
   generalize hE:x.t.getD 0 (SX.aD .typ) = E at hA q2
   have bw2:=bw (z.l.length:Nat)
   cases VW:lb (z.l.length:Nat) x.lo x.hi with
   | false =>
    rw [VW,if_neg (by decide)] at hA
    rw [VW,Bool.not_false] at bw2
    subst hA
    by_cases h1:((z.l.length:Nat):Int) < x.lo
    ·(repeat' (first | (refine iF (fun h=>?_) fun h=>?_)<;>try exact cX | refine bX ?_ | intro _))
     exact rL
    ·have h2 : x.hi < ((z.l.length : Nat) : Int) := by
      rw [decide_eq_false h1,Bool.false_or] at bw2
      exact of_decide_eq_true bw2.symm
     (repeat' (first | (refine iF (fun h=>?_) fun h=>?_)<;>try exact cX | refine bX ?_ | intro _))
     exact rL
   | true =>
    rw [VW,if_pos rfl] at hA
    rw [VW,Bool.not_true] at bw2
    have h1:¬ ((z.l.length:Nat):Int) < x.lo:=fun h=>by rw [decide_eq_true h,Bool.true_or] at bw2; cases bw2
    have h2:¬ x.hi < ((z.l.length:Nat):Int):=fun h=>by rw [decide_eq_true h,Bool.or_true] at bw2; cases bw2
    (repeat' (first | (refine iF (fun h=>?_) fun h=>?_)<;>try exact cX | refine bX ?_ | intro _))
    refine eX [] (eX [] (eX [] (eX Nat (eX (fun j=>j<=(z.l).length/\(R = Dd s.defs full (z.l.drop j) E j)) (eX (fun j=>⟨[(10,.pt 10 0),(13,.fn 36 [.rp (aq s),.rp [.b full]]),(105,.rd .val z.l),(106,.i .i64 z.l.length),(107,.i .i64 j)],[(10,encTyp x)]⟩) (eX (fun j=>(z.l).length - j) (eX 0 (aN ⟨Nat.zero_le _,hA⟩ (aN ?_ ?_)))))))))
    ·exact wK
    rintro j ⟨hi,hI⟩
    refine aN (fun hz=>?_) (fun hz=>?_)
    ·rename_i i0 p0 DS IB za
     have hi:=gd hz
     have hg:=cB (τ:=.val) hi
     refine bN2 ?_
     rw [hg]
     have x8:=BU _ (List.getElem_mem hi)
     have Cm:=JZ s full z.l[j] E ⟨[],(j:Int)⟩ (by have:=q8 s.defs full d _ x8 E; omega) (ih _ x8 _ q2)
     rw [BN s.defs full hi] at hI
     generalize ef s.defs full z.l[j] E = q at hI Cm
     subst hE
     (repeat' (first | (refine iF (fun h=>?_) fun h=>?_)<;>try exact cX | refine bX ?_ | intro _))
     refine eX [.fZ [0,1,2,3,4,5,6,7,8,9,10,11,12,13]] (aN (by kernel_rfl) ?_)
     refine aN ⟨by decide,by omega⟩ ?_
     refine eX _ (aN (Cm) ?_)
     cases hq:q.2 with
     | true =>
      rw [hq,if_pos rfl] at hI
      rw [hI]
      (repeat' (first | (refine iF (fun h=>?_) fun h=>?_)<;>try exact cX | refine bX ?_ | intro _))
      exact rL
     | false =>
      rw [hq,if_neg (by decide)] at hI
      (repeat' (first | (refine iF (fun h=>?_) fun h=>?_)<;>try exact cX | refine bX ?_ | intro _))
      refine eX [] (eX (j + 1) (aN ⟨hi,hI⟩ (aN ?_ ?_)))
      ·exact wK
      ·(exact Nat.sub_lt_sub_left (by omega) (by omega))
    (have hi:=ga hi hz)
    rw [List.drop_eq_nil_of_le (by omega),Dd] at hI
    subst hI
    (repeat' (first | (refine iF (fun h=>?_) fun h=>?_)<;>try exact cX | refine bX ?_ | intro _))
    exact rL
  rw [if_neg c8] at hA
  by_cases c9:x.kind = 9
  ·rw [if_pos c9] at hA
   obtain ⟨q0,q1,q2,q3⟩:=hs.Ei hx (.inr c9)
   rw [<- q1] at q2
   generalize hE:x.t.getD 0 (SX.aD .typ) = E at hA q2
   (repeat' (first | (refine iF (fun h=>?_) fun h=>?_)<;>try exact cX | refine bX ?_ | intro _))
   refine eX [] (eX [] (eX [] (eX Nat (eX (fun j=>j<=(z.e).length/\(R = Dg s.defs full (z.e.drop j) E)) (eX (fun j=>⟨[(10,.pt 10 0),(13,.fn 36 [.rp (aq s),.rp [.b full]]),(130,.rd .dZ z.e),(131,.i .i64 z.e.length),(132,.i .i64 j)],[(10,encTyp x)]⟩) (eX (fun j=>(z.e).length - j) (eX 0 (aN ⟨Nat.zero_le _,hA⟩ (aN ?_ ?_)))))))))
   ·exact wK
   rintro j ⟨hi,hI⟩
   refine aN (fun hz=>?_) (fun hz=>?_)
   ·rename_i i0 p0 DS IB za
    have hi:=gd hz
    have hg:=cB (τ:=.dZ) hi
    refine bN2 ?_
    rw [hg]
    have x8:=Ya _ (List.getElem_mem hi)
    have Cm:=JZ s full z.e[j].2 E ⟨z.e[j].1,-1⟩ (by have:=q8 s.defs full d _ x8 E; omega) (ih _ x8 _ q2)
    rw [BO s.defs full hi] at hI
    generalize ef s.defs full z.e[j].2 E = q at hI Cm
    subst hE
    (repeat' (first | (refine iF (fun h=>?_) fun h=>?_)<;>try exact cX | refine bX ?_ | intro _))
    refine eX [.fZ [0,1,2,3,4,5,6,7,8,9,10,11,12,13,14,15]] (aN (by kernel_rfl) ?_)
    refine aN ⟨by decide,by omega⟩ ?_
    refine eX _ (aN (Cm) ?_)
    cases hq:q.2 with
    | true =>
     rw [hq,if_pos rfl] at hI
     rw [hI]
     (repeat' (first | (refine iF (fun h=>?_) fun h=>?_)<;>try exact cX | refine bX ?_ | intro _))
     exact rL
    | false =>
     rw [hq,if_neg (by decide)] at hI
     (repeat' (first | (refine iF (fun h=>?_) fun h=>?_)<;>try exact cX | refine bX ?_ | intro _))
     refine eX [] (eX (j + 1) (aN ⟨hi,hI⟩ (aN ?_ ?_)))
     ·exact wK
     ·(exact Nat.sub_lt_sub_left (by omega) (by omega))
   (have hi:=ga hi hz)
   rw [List.drop_eq_nil_of_le (by omega),Dg] at hI
   subst hI
   (repeat' (first | (refine iF (fun h=>?_) fun h=>?_)<;>try exact cX | refine bX ?_ | intro _))
   exact rL
  rw [if_neg c9] at hA
  by_cases c10:x.kind = 10
  ·rw [if_pos c10] at hA
   subst hA
   have hR:=Ru s hs full d hd x hx c10 z hv ih
   (repeat' (first | (refine iF (fun h=>?_) fun h=>?_)<;>try exact cX | refine bX ?_ | intro _))
   refine Or.inl (eX _ (aN (hR) ?_))
   (repeat' (first | (refine iF (fun h=>?_) fun h=>?_)<;>try exact cX | refine bX ?_ | intro _))
   exact rL
  rw [if_neg c10] at hA
  subst hA
  (repeat' (first | (refine iF (fun h=>?_) fun h=>?_)<;>try exact cX | refine bX ?_ | intro _))
  exact rL
theorem J0 (s:SchemaR) (hs:GS s) (full:Bool) (d:Nat) (hd:d<=50) (t:ab) (ht:dz s t) (z:aT) (hv:GV (d + 1) z) (ih:∀ u,GV d u->∀ y,dz s y->ar Tryz.prog 19 [.agg (aq s),.agg (encTyp y),.agg (ai u),.b full] (.bc [.rd .ch (ef s.defs full u y).1,.b (ef s.defs full u y).2])):ar Tryz.prog 19 [.agg (aq s),.agg (encTyp t),.agg (ai z),.b full] (.bc [.rd .ch (ef s.defs full z t).1,.b (ef s.defs full z t).2]) :=
 ee aa Tryz.func19 rfl Tryz.call19 Tryz.results19 Tryz.ntmps19 (Nat.le_of_ble_eq_true rfl) (Lj s hs full d hd t ht z hv ih)
theorem Be {s:SchemaR} (hs:GS s) (full:Bool):∀ (d:Nat),d<=50->∀ z:aT,GV d z->∀ t,dz s t->ar Tryz.prog 19 [.agg (aq s),.agg (encTyp t),.agg (ai z),.b full] (.bc [.rd .ch (ef s.defs full z t).1,.b (ef s.defs full z t).2]):=by
 intro d
 induction d with
 | zero=>intro _ z h; exact nomatch h
 | succ d ih =>
  intro hd z hz t ht
  exact J0 s hs full d (by omega) t ht z hz fun u hu y hy=>ih (by omega) u hu y hy
end
end Go.Proofs.YtiijpgmpnijidaaGreatDoor
end
section
namespace Go.Proofs.YtiijpgmpnijidaaGreatDoor
open Go Go.SX Go.Ck Go.Vl Go.Ut Go.Ty
set_option maxRecDepth 100000
set_option maxHeartbeats 8000000
theorem l4 {s:SchemaR} (h:dn s = 0):(aW s).length<=200:=by
 unfold dn at h
 split at h
 ·cases h
 have h1:fy none (s.defs.map (·.name)) = 0:=Decidable.byContradiction fun c=>by rw [bE c] at h; exact c h
 rw [h1,aL] at h
 have h2:(scan s.defs (aW s) 0).1 = 0:=Decidable.byContradiction fun c=>by rw [bE c] at h; exact c h
 have:=(nt (aW s) 0 (by decide) h2).2
 omega
section
variable [G:Globs]
theorem yU (hu:HasU8) (s:SchemaR) (hd:∀ d ∈ s.defs,TB d.t) (hr:TB s.root) (hn:s.defs.length<=2000000):vc Tryz.prog Γ 49 [1,2,3,4,7,9,11,15,22,23,24,25,29,30,31,32,36,46] (Tryz.f7.body.getD .skip) (aQ Γ [.tmp 2] (fun v=>v = .i .i64 (fk s))) ⟨ae 0 [.agg (aq s)],[]⟩:=by
 have hC:=vX hu s hd hr hn
 have hG:=yG s hd hr hn
 have hR:fk s = iO (dn s) (if ((aW s).all fun p=>Eh s.defs p.t) = true then 0 else 12):=rfl
 generalize fk s = R at hR ⊢
 by_cases c1:dn s = 0
 rotate_left
 ·rw [bE c1] at hR
  rw [hR]
  (repeat' (first | (refine iF (fun h=>?_) fun h=>?_)<;>try exact cX | refine bX ?_ | intro _))
  refine Or.inl (eX _ (aN (hC) ?_))
  (repeat' (first | (refine iF (fun h=>?_) fun h=>?_)<;>try exact cX | refine bX ?_ | intro _))
  rfl
 have hs:=HV hd hr c1
 have Mu:=l4 c1
 rw [List.take_of_length_le (by omega)] at hG
 rw [c1,aL] at hR
 rw [c1] at hC
 have hR:R = if ((aW s).drop 0).all (fun p=>Eh s.defs p.t) = true then 0 else 12:=hR
 have ix:∀ p ∈ aW s,dz s p.t:=fun p hp=>⟨p,hp,rfl⟩
 generalize aW s = A at hG hR Mu ix
 have Fz:(A.map (·.t)).length = A.length:=List.length_map ..
 (repeat' (first | (refine iF (fun h=>?_) fun h=>?_)<;>try exact cX | refine bX ?_ | intro _))
 refine Or.inl (eX _ (aN (hC) ?_))
 (repeat' (first | (refine iF (fun h=>?_) fun h=>?_)<;>try exact cX | refine bX ?_ | intro _))
 refine Or.inl (eX _ (aN (hG) ?_))
 (repeat' (first | (refine iF (fun h=>?_) fun h=>?_)<;>try exact cX | refine bX ?_ | intro _))
 refine eX [] (eX [] (eX [] (eX Nat (eX (fun i=>i<=((A.map (·.t))).length/\(R = if (A.drop i).all (fun p=>Eh s.defs p.t) = true then 0 else 12)) (eX (fun i=>⟨[(1,.pt 1 0),(22,.rd .typ (A.map (·.t))),(23,.i .i64 (A.map (·.t)).length),(24,.i .i64 i)],[(1,aq s)]⟩) (eX (fun i=>((A.map (·.t))).length - i) (eX 0 (aN ⟨Nat.zero_le _,hR⟩ (aN ?_ ?_)))))))))
 ·exact wK
 rintro i ⟨hi,hI⟩
 refine aN (fun hz=>?_) (fun hz=>?_)
 ·have hi:=gd hz
  have hg:=cB (τ:=.typ) hi
  refine bN2 ?_
  rw [hg]
  have Pm:i < A.length:=by omega
  have eT:(A.map (·.t))[i] = A[i].t:=by rw [List.getElem_map]
  rw [eT]
  have cw:=ix _ (List.getElem_mem Pm)
  rw [List.drop_eq_getElem_cons Pm,List.all_cons] at hI
  generalize A[i].t = t at hI cw
  have VT:=hI
  clear hI
  have rr:Eh s.defs t = (t.f.drop 0).all fun f=>!(f.du && (ef s.defs true f.aD f.t).2):=rfl
  have X1:=(by cases hs.tb t cw; omega:t.f.length<=2000000)
  (repeat' (first | (refine iF (fun h=>?_) fun h=>?_)<;>try exact cX | refine bX ?_ | intro _))
  refine eX [] (eX [] (eX [] (eX Nat (eX (fun j=>j<=(t.f).length/\(Eh s.defs t = (t.f.drop j).all fun f=>!(f.du && (ef s.defs true f.aD f.t).2))) (eX (fun j=>⟨[(1,.pt 1 0),(22,.rd .typ (A.map (·.t))),(23,.i .i64 (A.map (·.t)).length),(24,.i .i64 i),(29,.rd .eJ t.f),(30,.i .i64 t.f.length),(31,.i .i64 j)],[(1,aq s)]⟩) (eX (fun j=>(t.f).length - j) (eX 0 (aN ⟨Nat.zero_le _,rr⟩ (aN ?_ ?_)))))))))
  ·exact wK
  rintro j ⟨hi,hI⟩
  refine aN (fun hz=>?_) (fun hz=>?_)
  ·have hj:=gd hz
   have hg:=cB (τ:=.eJ) hj
   have hm:=List.getElem_mem hj
   have hW:=Be hs true 20 (by decide) t.f[j].aD (hs.gv cw hm) t.f[j].t (fe cw _ (List.mem_append_right _ (List.mem_map.2 ⟨_,hm,rfl⟩)))
   rw [List.drop_eq_getElem_cons hj,List.all_cons] at hI
   generalize ef s.defs true t.f[j].aD t.f[j].t = w at hW hI
   obtain ⟨w1,w2⟩:=w
   dsimp only at hW hI
   refine bN2 ?_
   rw [hg]
   (conv=>whnf)
   cases hh:t.f[j].du with
   | true =>
    rw [hh,Bool.true_and] at hI
    (repeat' (first | (refine iF (fun h=>?_) fun h=>?_)<;>try exact cX | refine bX ?_ | intro _))
    refine Or.inl (eX _ (aN (hW) ?_))
    cases w2 with
    | true =>
     rw [Bool.not_true,Bool.false_and] at hI
     rw [hI,Bool.false_and,if_neg (by decide)] at VT
     rw [VT]
     (repeat' (first | (refine iF (fun h=>?_) fun h=>?_)<;>try exact cX | refine bX ?_ | intro _))
     rfl
    | false =>
     rw [Bool.not_false,Bool.true_and] at hI
     (repeat' (first | (refine iF (fun h=>?_) fun h=>?_)<;>try exact cX | refine bX ?_ | intro _))
     refine eX [] (eX (j + 1) (aN ⟨hj,hI⟩ (aN ?_ ?_)))
     ·exact wK
     ·(exact Nat.sub_lt_sub_left (by omega) (by omega))
   | false =>
    rw [hh,Bool.false_and,Bool.not_false,Bool.true_and] at hI
    (repeat' (first | (refine iF (fun h=>?_) fun h=>?_)<;>try exact cX | refine bX ?_ | intro _))
    refine eX [] (eX (j + 1) (aN ⟨hj,hI⟩ (aN ?_ ?_)))
    ·exact wK
    ·(exact Nat.sub_lt_sub_left (by omega) (by omega))
  ·have hj:=ga hi hz
   rw [List.drop_eq_nil_of_le (by omega),List.all_nil] at hI
   rw [hI,Bool.true_and] at VT
   (repeat' (first | (refine iF (fun h=>?_) fun h=>?_)<;>try exact cX | refine bX ?_ | intro _))
   refine eX [] (eX (i + 1) (aN ⟨by omega,VT⟩ (aN ?_ ?_)))
   ·exact wK
   ·(exact Nat.sub_lt_sub_left (by omega) (by omega))
 (have hi:=ga hi hz)
 rw [List.drop_eq_nil_of_le (by omega),List.all_nil,if_pos rfl] at hI
 rw [hI]
 (repeat' (first | (refine iF (fun h=>?_) fun h=>?_)<;>try exact cX | refine bX ?_ | intro _))
 rfl
theorem yH (hu:HasU8) (s:SchemaR) (hd:∀ d ∈ s.defs,TB d.t) (hr:TB s.root) (hn:s.defs.length<=2000000):ar Tryz.prog 7 [.agg (aq s)] (.i .i64 (fk s)) :=
 ah aa Tryz.func7 rfl Tryz.call7 Tryz.results7 Tryz.ntmps7 (Nat.le_of_ble_eq_true rfl) (yU hu s hd hr hn)
end
end Go.Proofs.YtiijpgmpnijidaaGreatDoor
end
section
namespace Go.Proofs.YtiijpgmpnijidaaGreatDoor
open Go Go.SX Go.Ck Go.Vl Go.Ut Go.Ty
set_option maxRecDepth 100000
set_option maxHeartbeats 4000000
structure SF (s:SchemaR):Prop where
 gs:GS s
 gt:∀ t,dz s t->GT s.defs t
 nm:∀ d ∈ s.defs,0<=cq s.defs d.name/\bo s.defs d.name = d.t
 n:s.defs.length<=50
 nl:∀ d ∈ s.defs,d.name.length<=100
 all:(aW s).length<=200
theorem Kc {s:SchemaR} (hd:∀ d ∈ s.defs,TB d.t) (hr:TB s.root) (h:fk s = 0):SF s:=by
 have hc:dn s = 0:=by
  unfold fk at h
  by_cases c:dn s = 0
  ·exact c
  ·rw [bE c] at h; exact absurd h c
 have hg:=HV hd hr hc
 have ha:=l4 hc
 refine ⟨hg,fun t ht=>Pd (U:=dz s) (fun t ht=>⟨hg.ct ht,hg.ok t ht⟩) (fun t ht=>fe ht) _ t (Nat.lt_succ_self _) ht,?_,?_,?_,ha⟩
 ·unfold dn at hc
  split at hc
  ·cases hc
  have h1:fy none (s.defs.map (·.name)) = 0:=Decidable.byContradiction fun c=>by rw [bE c] at hc; exact c hc
  exact fun d hd=>Hw h1 hd
 ·unfold dn at hc
  split at hc
  ·cases hc
  ·omega
 ·unfold dn at hc
  split at hc
  ·cases hc
  have h1:fy none (s.defs.map (·.name)) = 0:=Decidable.byContradiction fun c=>by rw [bE c] at hc; exact c hc
  exact fun d hd=>Ef _ _ h1 _ (List.mem_map_of_mem hd)
theorem SF.name {s:SchemaR} (h:SF s) {t:ab} (ht:dz s t) (k:t.kind = 12):t.name.length<=100:=by
 obtain ⟨d,hd,hn,_⟩:=dy ((h.gt t ht).name k)
 rw [<- hn]
 exact h.nl d hd
theorem SF.Ts {s:SchemaR} (h:SF s):∀ d ∈ s.defs,gK d.t<=201:=fun d hd=>by
 have h1:(bK d.t 0).length<=((s.defs.flatMap fun d=>bK d.t 0)).length:=by
  obtain ⟨a,b,e⟩:=List.append_of_mem hd
  rw [e,List.flatMap_append,List.flatMap_cons,List.length_append,List.length_append]
  omega
 have h2:=h.all
 unfold aW at h2
 rw [List.length_append] at h2
 show (bK d.t 0).length<=201
 omega
noncomputable abbrev dS (s:SchemaR):a7:=LD s.defs (vF s.defs (aG []) + 1) []
theorem SF.dS {s:SchemaR} (h:SF s):Go.Ty.Fair s.defs 201 (aG (dS s))/\kZ s.defs (aG (dS s)) :=
 AF (fun d hd=>h.gt _ (gx hd)) h.nm h.Ts (Nat.le_refl _) h.n _ [] (Nat.lt_succ_self _) (by rw [AL]; exact wH _ _)
section
variable [G:Globs]
theorem OV (hu:HasU8) (s:SchemaR) (hd:∀ d ∈ s.defs,TB d.t) (hr:TB s.root) (hn:s.defs.length<=2000000):vc Tryz.prog Γ 15 [1,2,3,4,8] (Tryz.f5.body.getD .skip) (aQ Γ [.tmp 2,.tmp 3] (fun v=>v = .bc [.i .i64 (if fk s≠0 then 0 else bm (aG (dS s)) s.root),.i .i64 (fk s)])) ⟨ae 0 [.agg (aq s)],[]⟩:=by
 by_cases h:fk s = 0
 ·have hs:=Kc hd hr h
  have hf:=uY hu s hd hr hn
  obtain ⟨hF,hS⟩:=hs.dS
  have hK:=Ez s 201 (fun d hd=>hs.gt _ (gx hd)) hs.nm hs.Ts (Nat.le_refl _) hs.n
  have hR:=kR (l:=s.defs) s (dS s) hF.w.so.1 (mj hF hs.n (Nat.le_refl _)) _ s.root (Nat.lt_succ_self _) (hs.gt _ (eb s)) (by have:=hs.gs.num (eb s); omega)
  rw [h] at hf
  rw [h]
  refine Or.inl (eX _ (aN (hf) ?_))
  (repeat' (first | (refine iF (fun h=>?_) fun h=>?_)<;>try exact cX | refine bX ?_ | intro _))
  refine eX [.take 2,.tree 3 [0,1,3] (.opt 0 (.opt 1 (.opt 3 .fin .aZ) (.opt 3 (.opt 1 .fin .aZ) .aZ)) (.opt 3 (.opt 0 (.opt 1 .fin .aZ) .aZ) .aZ)),.one 4,.fZ [5,6]] (aN (by kernel_rfl) ?_)
  refine eX ⟨[(1,.pt 1 0),(2,.i .i64 0),(3,.i .i64 0),(4,.i .i64 0),(11,.pt 11 0),(13,.agg (encTyp s.root))],[(1,aq s),(11,aq s++[.ob 9 9 (.mp .str .int (dS s))])]⟩ (aN ?_ ?_)
  ·repeat' first
    | exact trivial
    | refine aN ?_ ?_
    |
     refine Or.inr (Or.inl (eX [] (eX _ (eX _ (eX _ (eX _ (eX _ (eX [(11,11),(9,9)] (aN (hK) ?_)))))))))
     refine (aN rfl (aN rfl (aN rfl (aN rfl ?_))))
   all_goals exact wK
  refine Or.inr (Or.inl (eX [] (eX _ (eX _ (eX _ (eX _ (eX _ (eX [(1000,11),(1002,9)] (aN (hR) ?_)))))))))
  refine (aN rfl (aN rfl (aN rfl (aN rfl (aN rfl ?_)))))
  (repeat' (first | (refine iF (fun h=>?_) fun h=>?_)<;>try exact cX | refine bX ?_ | intro _))
  rw [if_neg (by decide)]
  rfl
 ·have hf:=uY hu s hd hr hn
  refine Or.inl (eX _ (aN (hf) ?_))
  refine aN (fun _=>?_) (fun c=>absurd (by simpa using c) h)
  rw [if_pos h]
  rfl
theorem NF (hu:HasU8) (s:SchemaR) (hd:∀ d ∈ s.defs,TB d.t) (hr:TB s.root) (hn:s.defs.length<=2000000):ar Tryz.prog 5 [.agg (aq s)] (.bc [.i .i64 (if fk s≠0 then 0 else bm (aG (dS s)) s.root),.i .i64 (fk s)]) :=
 ah aa Tryz.func5 rfl Tryz.call5 Tryz.results5 Tryz.ntmps5 (Nat.le_of_ble_eq_true rfl) (OV hu s hd hr hn)
end
end Go.Proofs.YtiijpgmpnijidaaGreatDoor
end
section
namespace Go.Proofs.YtiijpgmpnijidaaGreatDoor
open Go Go.SX Go.Ck Go.Vl Go.Ut Go.Ty
set_option maxRecDepth 100000
set_option maxHeartbeats 4000000
noncomputable abbrev po (s:SchemaR) (d:Nat):ab->a7->Bool × a7:=QJ (fun t=>(bp s.defs t).1) d
theorem SF.uM {s:SchemaR} (hs:SF s):∀ t,dz s t->∀ x ∈ (bp s.defs t).1,(x.kind = 8->dz s (x.t.getD 0 (aD .typ)))/\∀ f ∈ x.f,dz s f.t:=fun t ht x hx=>by
 obtain ⟨_,oc⟩:=hs.gs.parts ht x hx
 exact ⟨fun k=>fe oc _ (List.mem_append_left _ (lq ((hs.gt x oc).lt k).2)),fun f hf=>fe oc _ (List.mem_append_right _ (List.mem_map_of_mem hf))⟩
section
variable [G:Globs]
theorem OH (s:SchemaR) (hs:SF s) (d:Nat) (hd:d < 1000) (hH:∀ t es,dz s t->MI s.defs 1000 es->dK Tryz.prog 21 [.agg (aq s),.agg (encTyp t),.i .i64 d,.ob 1001 1001 (.mp .str .int es)] [] (.b (po s d t es).1) 3 (.ob 1001 1001 (.mp .str .int (po s d t es).2)) []) (t:ab) (ht:dz s t) (es:a7) (hm:MI s.defs 1000 es):vc Tryz.prog Γ 45 [2,3,4,5,8,9,12,31,38,1001] (Tryz.f40.body.getD .skip) (mG Γ [.tmp 8] (.b (yY (po s d) d t es).1) 3 (.ob 1001 1001 (.mp .str .int (yY (po s d) d t es).2)) []) ⟨ae 0 [.agg (aq s),.agg (encTyp t),.i .i64 d,.ob 1001 1001 (.mp .str .int es)],[]⟩:=by
 obtain ⟨R,hR⟩:∃ R,R = yY (po s d) d t es:=⟨_,rfl⟩
 have hE:=hR
 unfold yY at hE
 rw [<- hR]
 by_cases k:t.kind≠12
 ·rw [if_pos k] at hE
  have hC:=hH t es ht hm
  rw [<- hE] at hC
  (repeat' (first | (refine iF (fun h=>?_) fun h=>?_)<;>try exact cX | refine bX ?_ | intro _))
  refine Or.inr (Or.inr (Or.inr (Or.inr (Or.inr (eX [] (eX _ (eX _ (eX _ (eX _ (eX _ (eX _ (eX _ (eX [(1001,1001)] (eX [3] (eX [] (aN (hC) ?_))))))))))))))))
  refine (aN rfl (aN rfl (aN rfl (aN rfl (aN rfl (aN (aN rfl trivial) ?_))))))
  (repeat' (first | (refine iF (fun h=>?_) fun h=>?_)<;>try exact cX | refine bX ?_ | intro _))
  exact aN rfl (eX [] (aN rfl wK))
 rw [if_neg k] at hE
 have hk:=AM (D:=1000) hs.gt ht (by simpa using k) hd
 (repeat' (first | (refine iF (fun h=>?_) fun h=>?_)<;>try exact cX | refine bX ?_ | intro _))
 refine aN (by decide) ?_
 have hq:((d:Int).tdiv 256) = ((d / 256:Nat):Int):=Int.ofNat_tdiv d 256
 rw [hq]
 (refine vG ?_)
 (repeat' (first | (refine iF (fun h=>?_) fun h=>?_)<;>try exact cX | refine bX ?_ | intro _))
 refine aN (show t.name.length + 3<=maxLen by have:=hs.name ht (by simpa using k); unfold maxLen; omega) ?_
 have hK:t.name++List.map FN [0,IntKind.u8.wrap (d:Int),IntKind.u8.wrap ((d / 256:Nat):Int)] = dH t.name d:=by
  unfold dH
  refine congrArg (t.name++·) ?_
  show [FN 0,FN (IntKind.u8.wrap (d:Int)),FN (IntKind.u8.wrap ((d / 256:Nat):Int))] = _
  have hB:∀ x:Nat,FN (IntKind.u8.wrap (x:Int)) = UInt8.ofNat x:=fun x=>by
   unfold FN
   rw [IntKind.wrap_u8]
   apply UInt8.toNat_inj.1
   simp only [UInt8.toNat_ofNat']
   omega
  rw [hB,hB]
  rfl
 rw [hK]
 by_cases z:aG es (dH t.name d) = 0
 ·rw [if_pos z] at hE
  have z:(cf (κ:=.str) (τ:=.int) es (dH t.name d)).getD 0 = 0:=z
  have Ao:=hm.set hk 1
  have hC:=hH t _ ht Ao
  have Cs:MI s.defs 1000 (po s d t (ib es (dH t.name d) 1)).2:=ng hs.gt hs.uM d (by omega) t _ ht Ao
  generalize po s d t (ib es (dH t.name d) 1) = r at hE hC Cs
  obtain ⟨b,fs⟩:=r
  have zb:=hm.len hs.n (Nat.le_refl _)
  have oa:=Cs.len hs.n (Nat.le_refl _)
  refine aN (fun _=>?_) (fun hq=>absurd z (ne_of_beq_false hq))
  refine aN (show es.length < 9223372036854775807 by omega) ?_
  (repeat' (first | (refine iF (fun h=>?_) fun h=>?_)<;>try exact cX | refine bX ?_ | intro _))
  refine Or.inr (Or.inr (Or.inr (Or.inr (Or.inr (eX [] (eX _ (eX _ (eX _ (eX _ (eX _ (eX _ (eX _ (eX [(1001,1001)] (eX [3] (eX [] (aN (hC) ?_))))))))))))))))
  refine (aN rfl (aN rfl (aN rfl (aN rfl (aN rfl (aN (aN rfl trivial) ?_))))))
  cases b with
  | true =>
   rw [if_pos rfl] at hE
   (repeat' (first | (refine iF (fun h=>?_) fun h=>?_)<;>try exact cX | refine bX ?_ | intro _))
   refine aN (show fs.length < 9223372036854775807 by have oa:fs.length<=50000:=oa; omega) ?_
   (repeat' (first | (refine iF (fun h=>?_) fun h=>?_)<;>try exact cX | refine bX ?_ | intro _))
   rw [hE]
   exact aN rfl (eX [] (aN rfl wK))
  | false =>
   rw [if_neg (show ¬ false = true from Bool.noConfusion)] at hE
   (repeat' (first | (refine iF (fun h=>?_) fun h=>?_)<;>try exact cX | refine bX ?_ | intro _))
   rw [hE]
   exact aN rfl (eX [] (aN rfl wK))
 ·rw [if_neg z] at hE
  have z:¬ (cf (κ:=.str) (τ:=.int) es (dH t.name d)).getD 0 = 0:=z
  refine aN (fun hq=>absurd (eq_of_beq hq) z) (fun _=>?_)
  (repeat' (first | (refine iF (fun h=>?_) fun h=>?_)<;>try exact cX | refine bX ?_ | intro _))
  rw [hE]
  exact aN rfl (eX [] (aN rfl wK))
theorem Ns (s:SchemaR) (hs:SF s) (d:Nat) (hd:d < 1000) (hH:∀ t es,dz s t->MI s.defs 1000 es->dK Tryz.prog 21 [.agg (aq s),.agg (encTyp t),.i .i64 d,.ob 1001 1001 (.mp .str .int es)] [] (.b (po s d t es).1) 3 (.ob 1001 1001 (.mp .str .int (po s d t es).2)) []) (t:ab) (ht:dz s t) (es:a7) (hm:MI s.defs 1000 es):dK Tryz.prog 40 [.agg (aq s),.agg (encTyp t),.i .i64 d,.ob 1001 1001 (.mp .str .int es)] [] (.b (yY (po s d) d t es).1) 3 (.ob 1001 1001 (.mp .str .int (yY (po s d) d t es).2)) [] :=
 fu aa Tryz.func40 rfl Tryz.call40 Tryz.results40 Tryz.ntmps40 (Nat.le_of_ble_eq_true rfl) (Nat.le_of_ble_eq_true rfl) (by rfl) (Nat.lt_of_lt_of_le (Nat.lt_succ_self _) (Nat.le_of_ble_eq_true rfl)) (by kernel_rfl) (OH s hs d hd hH t ht es hm)
theorem OL (s:SchemaR) (t:ab) (es:a7):vc Tryz.prog Γ 72 [2,3,4,5,8,10,11,13,15,18,19,20,21,25,26,42,45,46,47,48,58,70,1001] (Tryz.f21.body.getD .skip) (mG Γ [.tmp 8] (.b false) 3 (.ob 1001 1001 (.mp .str .int es)) []) ⟨ae 0 [.agg (aq s),.agg (encTyp t),.i .i64 0,.ob 1001 1001 (.mp .str .int es)],[]⟩:=by
 (repeat' (first | (refine iF (fun h=>?_) fun h=>?_)<;>try exact cX | refine bX ?_ | intro _))
 exact aN rfl (eX [] (aN rfl wK))
theorem Nv (s:SchemaR) (t:ab) (es:a7):dK Tryz.prog 21 [.agg (aq s),.agg (encTyp t),.i .i64 0,.ob 1001 1001 (.mp .str .int es)] [] (.b false) 3 (.ob 1001 1001 (.mp .str .int es)) [] :=
 fu aa Tryz.func21 rfl Tryz.call21 Tryz.results21 Tryz.ntmps21 (Nat.le_of_ble_eq_true rfl) (Nat.le_of_ble_eq_true rfl) (by rfl) (Nat.lt_of_lt_of_le (Nat.lt_succ_self _) (Nat.le_of_ble_eq_true rfl)) (by kernel_rfl) (OL s t es)
theorem OM (s:SchemaR) (hs:SF s) (d:Nat) (hd:d < 1000) (hH:∀ t es,dz s t->MI s.defs 1000 es->dK Tryz.prog 40 [.agg (aq s),.agg (encTyp t),.i .i64 d,.ob 1001 1001 (.mp .str .int es)] [] (.b (yY (po s d) d t es).1) 3 (.ob 1001 1001 (.mp .str .int (yY (po s d) d t es).2)) []) (t:ab) (ht:dz s t) (es:a7) (hm:MI s.defs 1000 es):vc Tryz.prog Γ 72 [2,3,4,5,8,10,11,13,15,18,19,20,21,25,26,42,45,46,47,48,58,70,1001] (Tryz.f21.body.getD .skip) (mG Γ [.tmp 8] (.b (po s (d + 1) t es).1) 3 (.ob 1001 1001 (.mp .str .int (po s (d + 1) t es).2)) []) ⟨ae 0 [.agg (aq s),.agg (encTyp t),.i .i64 ((d + 1:Nat):Int),.ob 1001 1001 (.mp .str .int es)],[]⟩:=by
 obtain ⟨R,hR⟩:∃ R,R = po s (d + 1) t es:=⟨_,rfl⟩
 have hE:=hR
 unfold po at hE
 rw [QJ] at hE
 rw [<- hR]
 have H0:=qP s hs.gs.sb.defs hs.gs.sb.many t (hs.gs.ct ht) (hs.gs.tb t ht) (hs.gs.num ht)
 have hp:=hs.uM t ht
 have hlen:=hs.gs.len ht
 have hU:=hs.gs.parts ht
 have nQ:ra s.defs 1000 (dz s) (yY (po s d) d):=wD hs.gt (ng hs.gt hs.uM d (by omega)) hd
 generalize (bp s.defs t).1 = L at *
 have hE:R = CK (yY (po s d) d) L es:=hE
 generalize yY (po s d) d = e at *
 have YD:((d + 1:Nat):Int) - 1 = (d:Int):=by omega
 (repeat' (first | (refine iF (fun h=>?_) fun h=>?_)<;>try exact cX | refine bX ?_ | intro _))
 refine Or.inl (eX _ (aN (H0) ?_))
 (repeat' (first | (refine iF (fun h=>?_) fun h=>?_)<;>try exact cX | refine bX ?_ | intro _))
 refine eX [] (eX [] (eX [] (eX (Nat × a7) (eX (fun q=>q.1<=L.length/\R = CK e (L.drop q.1) q.2/\MI s.defs 1000 q.2) (eX (fun ⟨i,fs⟩=>⟨[(2,.i .i64 ((d + 1:Nat):Int)),(3,.ob 1001 1001 (.mp .str .int fs)),(4,.pt 4 0),(18,.rd .typ L),(19,.i .i64 L.length),(20,.i .i64 (i:Int))],[(4,aq s)]⟩) (eX (fun q=>L.length - q.1) (eX (0,es) (aN ⟨Nat.zero_le _,hE,hm⟩ (aN ?_ ?_)))))))))
 ·exact wK
 rintro ⟨i,fs⟩ ⟨hi,hI,V5⟩
 simp only at hi hI V5
 refine aN (fun hz=>?_) (fun hz=>?_)
 ·have hi:=gd hz
  have hg:=cB (τ:=.typ) hi
  refine bN2 ?_
  rw [hg]
  have hx:=List.getElem_mem hi
  obtain ⟨Zq,UY⟩:=hp _ hx
  have wR:=xb nQ Zq UY V5
  rw [Jn hi] at hI
  have hxl:L[i].kind = 8->0 < L[i].t.length:=fun k=>List.length_pos_iff.2 ((hs.gt _ (hU _ hx).2).lt k).2
  generalize L[i] = x at *
  unfold CI at hI wR
  by_cases k8:x.kind = 8
  ·rw [if_pos k8] at hI wR
   have U1:=Zq k8
   have hlt:0 < x.t.length:=hxl k8
   by_cases z:x.lo = 0
   ·rw [if_pos z,if_pos rfl] at hI
    rw [hI]
    (repeat' (first | (refine iF (fun h=>?_) fun h=>?_)<;>try exact cX | refine bX ?_ | intro _))
    refine eX [.fZ [0,1,2,3,4,5,6,7,8,9,10,11],.one 12,.fZ [13,14]] (aN (by kernel_rfl) ?_)
    (repeat' (first | (refine iF (fun h=>?_) fun h=>?_)<;>try exact cX | refine bX ?_ | intro _))
    exact aN rfl (eX [] (aN rfl wK))
   ·rw [if_neg z] at hI wR
    have hC:=hH _ fs U1 V5
    generalize e (x.t.getD 0 (aD .typ)) fs = r at hC hI wR
    obtain ⟨b,gs⟩:=r
    (repeat' (first | (refine iF (fun h=>?_) fun h=>?_)<;>try exact cX | refine bX ?_ | intro _))
    refine eX [.fZ [0,1,2,3,4,5,6,7,8,9,10,11],.one 12,.fZ [13,14]] (aN (by kernel_rfl) ?_)
    (repeat' (first | (refine iF (fun h=>?_) fun h=>?_)<;>try exact cX | refine bX ?_ | intro _))
    rw [YD]
    refine Or.inr (Or.inr (Or.inr (Or.inr (Or.inr (eX [] (eX _ (eX _ (eX _ (eX _ (eX _ (eX _ (eX _ (eX [(1001,1001)] (eX [3] (eX [] (aN (hC) ?_))))))))))))))))
    refine (aN rfl (aN rfl (aN rfl (aN rfl (aN rfl (aN (aN rfl trivial) ?_))))))
    cases b with
    | true =>
     rw [if_pos rfl] at hI
     rw [hI]
     (repeat' (first | (refine iF (fun h=>?_) fun h=>?_)<;>try exact cX | refine bX ?_ | intro _))
     exact aN rfl (eX [] (aN rfl wK))
    | false =>
     rw [if_neg (show ¬ false = true from Bool.noConfusion)] at hI
     (repeat' (first | (refine iF (fun h=>?_) fun h=>?_)<;>try exact cX | refine bX ?_ | intro _))
     refine eX [] (eX (i + 1,gs) (aN ⟨hi,hI,wR⟩ (aN ?_ ?_)))
     ·exact wK
     ·(exact Nat.sub_lt_sub_left (by omega) (by omega))
  rw [if_neg k8] at hI wR
  by_cases k10:x.kind = 10
  ·rw [if_pos k10] at hI wR
   obtain ⟨r,hr⟩:∃ r,r = xX e x.f true fs:=⟨_,rfl⟩
   rw [<- hr] at hI wR
   (repeat' (first | (refine iF (fun h=>?_) fun h=>?_)<;>try exact cX | refine bX ?_ | intro _))
   rename_i Fz
   have Qz:=gD Fz
   refine eX [] (eX [] (eX [] (eX (Nat × Bool × a7) (eX (fun q=>q.1<=x.f.length/\r = xX e (x.f.drop q.1) q.2.1 q.2.2/\MI s.defs 1000 q.2.2) (eX (fun ⟨j,ok,gs⟩=>⟨[(2,.i .i64 ((d + 1:Nat):Int)),(3,.ob 1001 1001 (.mp .str .int gs)),(4,.pt 4 0),(11,.b ok),(18,.rd .typ L),(19,.i .i64 L.length),(20,.i .i64 (i:Int)),(45,.rd .eJ x.f),(46,.i .i64 x.f.length),(47,.i .i64 (j:Int))],[(4,aq s)]⟩) (eX (fun q=>x.f.length - q.1) (eX (0,true,fs) (aN ⟨Nat.zero_le _,hr,V5⟩ (aN ?_ ?_)))))))))
   ·exact wK
   rintro ⟨j,ok,gs⟩ ⟨hj,hJ,Fy⟩
   simp only at hj hJ Fy
   refine aN (fun hz=>?_) (fun hz=>?_)
   ·have hj:=gd hz
    have hg:=cB (τ:=.eJ) hj
    refine bN2 ?_
    rw [hg]
    have YL:=UY _ (List.getElem_mem hj)
    have hC:=hH _ gs YL Fy
    rw [HG hj] at hJ
    have tT:=nQ _ gs YL Fy
    generalize x.f[j] = f at hC hJ tT ⊢
    obtain ⟨fn,fo,fh,ft,fd⟩:=f
    dsimp only at hC hJ tT
    generalize e ft gs = u at hC hJ tT
    obtain ⟨u1,u2⟩:=u
    unfold gM at hJ
    dsimp only at hJ
    cases fo<;>cases fh
    ·rw [if_pos (show (!false && !false) = true from rfl)] at hJ
     cases ok with
     | true =>
      rw [if_pos rfl] at hJ
      (repeat' (first | (refine iF (fun h=>?_) fun h=>?_)<;>try exact cX | refine bX ?_ | intro _))
      rw [YD]
      refine Or.inr (Or.inr (Or.inr (Or.inr (Or.inr (eX [] (eX _ (eX _ (eX _ (eX _ (eX _ (eX _ (eX _ (eX [(1001,1001)] (eX [3] (eX [] (aN (hC) ?_))))))))))))))))
      refine (aN rfl (aN rfl (aN rfl (aN rfl (aN rfl (aN (aN rfl trivial) ?_))))))
      (repeat' (first | (refine iF (fun h=>?_) fun h=>?_)<;>try exact cX | refine bX ?_ | intro _))
      refine eX [] (eX (j + 1,u1,u2) (aN ⟨hj,hJ,tT⟩ (aN ?_ ?_)))
      ·exact wK
      ·(exact Nat.sub_lt_sub_left (by omega) (by omega))
     | false =>
      rw [if_neg (show ¬ false = true from Bool.noConfusion)] at hJ
      (repeat' (first | (refine iF (fun h=>?_) fun h=>?_)<;>try exact cX | refine bX ?_ | intro _))
      refine eX [] (eX (j + 1,false,gs) (aN ⟨hj,hJ,Fy⟩ (aN ?_ ?_)))
      ·exact wK
      ·(exact Nat.sub_lt_sub_left (by omega) (by omega))
    all_goals
     rw [if_neg (by simp)] at hJ
     (repeat' (first | (refine iF (fun h=>?_) fun h=>?_)<;>try exact cX | refine bX ?_ | intro _))
     refine eX [] (eX (j + 1,ok,gs) (aN ⟨hj,hJ,Fy⟩ (aN ?_ ?_)))
     ·exact wK
     ·(exact Nat.sub_lt_sub_left (by omega) (by omega))
   ·have hj:=ga hj hz
    rw [List.drop_eq_nil_of_le (by omega),xX] at hJ
    subst hJ
    cases ok with
    | true =>
     rw [if_pos rfl] at hI
     rw [hI]
     (repeat' (first | (refine iF (fun h=>?_) fun h=>?_)<;>try exact cX | refine bX ?_ | intro _))
     exact aN rfl (eX [] (aN rfl wK))
    | false =>
     rw [if_neg (show ¬ false = true from Bool.noConfusion)] at hI
     (repeat' (first | (refine iF (fun h=>?_) fun h=>?_)<;>try exact cX | refine bX ?_ | intro _))
     refine eX [] (eX (i + 1,gs) (aN ⟨hi,hI,wR⟩ (aN ?_ ?_)))
     ·exact wK
     ·(exact Nat.sub_lt_sub_left (by omega) (by omega))
  ·rw [if_neg k10,if_pos rfl] at hI
   rw [hI]
   (repeat' (first | (refine iF (fun h=>?_) fun h=>?_)<;>try exact cX | refine bX ?_ | intro _))
   exact aN rfl (eX [] (aN rfl wK))
 ·have hi:=ga hi hz
  rw [List.drop_eq_nil_of_le (by omega),CK] at hI
  rw [hI]
  (repeat' (first | (refine iF (fun h=>?_) fun h=>?_)<;>try exact cX | refine bX ?_ | intro _))
  exact aN rfl (eX [] (aN rfl wK))
theorem Nw (s:SchemaR) (hs:SF s) (d:Nat) (hd:d < 1000) (hH:∀ t es,dz s t->MI s.defs 1000 es->dK Tryz.prog 40 [.agg (aq s),.agg (encTyp t),.i .i64 d,.ob 1001 1001 (.mp .str .int es)] [] (.b (yY (po s d) d t es).1) 3 (.ob 1001 1001 (.mp .str .int (yY (po s d) d t es).2)) []) (t:ab) (ht:dz s t) (es:a7) (hm:MI s.defs 1000 es):dK Tryz.prog 21 [.agg (aq s),.agg (encTyp t),.i .i64 ((d + 1:Nat):Int),.ob 1001 1001 (.mp .str .int es)] [] (.b (po s (d + 1) t es).1) 3 (.ob 1001 1001 (.mp .str .int (po s (d + 1) t es).2)) [] :=
 fu aa Tryz.func21 rfl Tryz.call21 Tryz.results21 Tryz.ntmps21 (Nat.le_of_ble_eq_true rfl) (Nat.le_of_ble_eq_true rfl) (by rfl) (Nat.lt_of_lt_of_le (Nat.lt_succ_self _) (Nat.le_of_ble_eq_true rfl)) (by kernel_rfl) (OM s hs d hd hH t ht es hm)
theorem wL (s:SchemaR) (hs:SF s):∀ (d:Nat),d < 1000->∀ t es,dz s t->MI s.defs 1000 es->dK Tryz.prog 21 [.agg (aq s),.agg (encTyp t),.i .i64 d,.ob 1001 1001 (.mp .str .int es)] [] (.b (po s d t es).1) 3 (.ob 1001 1001 (.mp .str .int (po s d t es).2)) []
 | 0,_,t,es,_,_=>Nv s t es
 | d + 1,hd,t,es,ht,hm=>Nw s hs d (by omega) (fun t es ht hm=>Ns s hs d (by omega) (wL s hs d (by omega)) t ht es hm) t ht es hm
end
end Go.Proofs.YtiijpgmpnijidaaGreatDoor
end
section
namespace Go.Proofs.YtiijpgmpnijidaaGreatDoor
open Go Go.SX Go.Ck Go.Vl Go.Ut Go.Ty
set_option maxRecDepth 100000
set_option maxHeartbeats 4000000
theorem QR {s:SchemaR} {t:ab} (ht:dz s t) {x:ab} (hx:dz ⟨s.defs,t⟩ x):dz s x:=by
 obtain ⟨p,hp,rfl⟩:=hx
 exact oM (s:=⟨s.defs,t⟩) (Q:=dz s) (fun t ht x hx=>fe ht x hx) (fun d hd=>gx hd) ht p hp
theorem PX {s:SchemaR} {t:ab} (ht:dz s t):(aW ⟨s.defs,t⟩).length<=2 * (aW s).length:=by
 obtain ⟨p,hp,rfl⟩:=ht
 have h1:=sH p hp
 have h2:(aW ⟨s.defs,p.t⟩).length = (s.defs.flatMap fun d=>bK d.t 0).length + gK p.t:=List.length_append
 have h3:(aW s).length = (s.defs.flatMap fun d=>bK d.t 0).length + gK s.root:=List.length_append
 have h4:(s.defs.flatMap fun d=>bK d.t 0).length = bY s.defs []:=by
  unfold bY
  rw [List.length_flatMap,mI]
  rfl
 omega
theorem SF.reach {s:SchemaR} (hs:SF s) {t:ab} (ht:dz s t) (y:ab):y ∈ (bp s.defs t).1↔∃ n,Ty.Reach s.defs n t y:=by
 constructor
 ·exact tg s.defs _ t [] y
 ·rintro ⟨n,h⟩
  rcases (zC (fun d hd=>(hs.gs.sb.defs d hd).1) (dB s.defs t [] + 1) t [] (hs.gs.ct ht) (Nat.lt_succ_self _)).1 n y h with h | ⟨m,_,h,_⟩
  ·exact h
  ·cases h
section
variable [G:Globs]
theorem Li (s:SchemaR) (hs:SF s) (FC:(aW s).length<=60) (t:ab) (ht:dz s t):vc Tryz.prog Γ 31 [2,3,4,5,7,8,22,29] (Tryz.f9.body.getD .skip) (aQ Γ [.tmp 4] (fun v=>v = .i .i64 (bm (aG (dS s)) t))) ⟨ae 0 [.agg (aq s),.agg (encTyp t)],[]⟩:=by
 obtain ⟨hF,hS⟩:=hs.dS
 have XX:=hF.w.so
 have hl:∀ d ∈ s.defs,GT s.defs d.t:=fun d hd=>hs.gt _ (gx hd)
 have hg:=hs.gt t ht
 have hA:(aW ⟨s.defs,t⟩).length<=200:=by have:=PX ht; omega
 have hG:=yG ⟨s.defs,t⟩ (fun d hd=>hs.gs.tb _ (gx hd)) (hs.gs.tb t ht) (by have:=hs.n; show s.defs.length<=_; omega)
 rw [List.take_of_length_le (by omega)] at hG
 have Qw:bm (aG (dS s)) t<=((aW ⟨s.defs,t⟩).length:Int) + 1:=by
  have:=Q8 XX hS (L:=(aW ⟨s.defs,t⟩).map (·.t)) (fun x hx y hy=>?_) (fun d hd=>?_) (fun x hx=>?_) (t:=t) ?_
  ·rw [List.length_map] at this; exact this
  ·obtain ⟨p,hp,rfl⟩:=List.mem_map.1 hx
   obtain ⟨q,hq,e⟩:=fe (s:=⟨s.defs,t⟩) ⟨p,hp,rfl⟩ y hy
   exact List.mem_map.2 ⟨q,hq,e⟩
  ·obtain ⟨q,hq,e⟩:=gx (s:=⟨s.defs,t⟩) hd
   exact List.mem_map.2 ⟨q,hq,e⟩
  ·obtain ⟨p,hp,rfl⟩:=List.mem_map.1 hx
   exact hs.gt _ (QR ht ⟨p,hp,rfl⟩)
  ·obtain ⟨q,hq,e⟩:=eb ⟨s.defs,t⟩
   exact List.mem_map.2 ⟨q,hq,e⟩
 have hH:=wL s hs
 have WO:∀ d,d < 65536->sP s.defs (dz s) d d (po s d):=wU hs.gt (fun t ht y=>hs.reach ht y) hs.uM
 have nQ:∀ d,d<=1000->ra s.defs 1000 (dz s) (po s d):=fun d hd=>ng hs.gt hs.uM d hd
 generalize dS s = es at *
 generalize aW ⟨s.defs,t⟩ = A at *
 (repeat' (first | (refine iF (fun h=>?_) fun h=>?_)<;>try exact cX | refine bX ?_ | intro _))
 refine Or.inl (eX _ (aN (hG) ?_))
 (repeat' (first | (refine iF (fun h=>?_) fun h=>?_)<;>try exact cX | refine bX ?_ | intro _))
 refine eX [] (eX [] (eX [(17,7)] (eX (Nat × a7) (eX (fun q=>1<=q.1/\q.1<=A.length + 2/\¬ di s.defs (q.1 - 1) t/\iZ s.defs 65536 q.2/\MI s.defs 1000 q.2) (eX (fun ⟨d,fs⟩=>⟨[(2,.pt 2 0),(3,.pt 3 0),(4,.i .i64 0),(5,.rd .typ (A.map (·.t))),(7,.ob 7 7 (.mp .str .int fs)),(8,.i .i64 (d:Int))],[(2,aq s),(3,encTyp t)]⟩) (eX (fun q=>A.length + 2 - q.1) (eX (1,[]) (aN ⟨Nat.le_refl _,by simp,(by show ¬ di s.defs 0 t; rw [di]; exact id),FK _,MI.nil _ _⟩ (aN ?_ ?_)))))))))
 ·exact wK
 rintro ⟨d,fs⟩ ⟨h1,h2,oG,XA,Xx⟩
 simp only at h1 h2 oG XA Xx
 have Xz:(A.map (·.t)).length = A.length:=List.length_map ..
 obtain ⟨e,rfl⟩:∃ e,d = e + 1:=⟨d - 1,by omega⟩
 have oG:¬ di s.defs e t:=oG
 by_cases c:e + 1<=A.length + 1
 ·have hC:=hH (e + 1) (by omega) t fs ht Xx
  obtain ⟨r1,r2,r3⟩:=WO (e + 1) (by omega) t fs ht (uo XA (by omega))
  have tT:=nQ (e + 1) (by omega) t fs ht Xx
  have UA:=FJ XA r2 r3
  generalize po s (e + 1) t fs = r at hC r1 tT UA
  obtain ⟨b,gs⟩:=r
  (repeat' (first | (refine iF (fun h=>?_) fun h=>?_)<;>try exact cX | refine bX ?_ | intro _))
  refine Or.inr (Or.inr (Or.inr (Or.inr (Or.inr (eX [] (eX _ (eX _ (eX _ (eX _ (eX _ (eX _ (eX _ (eX [(1001,7)] (eX [7] (eX [] (aN (hC) ?_))))))))))))))))
  refine (aN rfl (aN rfl (aN rfl (aN rfl (aN rfl (aN (aN rfl trivial) ?_))))))
  cases b with
  | true =>
   have hr:=Ve XX hS hl hg (r1.1 rfl) oG
   (repeat' (first | (refine iF (fun h=>?_) fun h=>?_)<;>try exact cX | refine bX ?_ | intro _))
   rw [hr]
   rfl
  | false =>
   (repeat' (first | (refine iF (fun h=>?_) fun h=>?_)<;>try exact cX | refine bX ?_ | intro _))
   refine eX [] (eX (e + 1 + 1,gs) (aN ⟨by simp only; omega,by simp only; omega,fun h=>Bool.noConfusion (r1.2 h),UA,tT⟩ (aN ?_ ?_)))
   ·exact wK
   ·show A.length + 2 - (e + 1 + 1) < A.length + 2 - (e + 1)
    omega
 ·have he:e = A.length + 1:=by omega
  rw [Nj XX hS hl hg (n:=e) (by omega) oG]
  (repeat' (first | (refine iF (fun h=>?_) fun h=>?_)<;>try exact cX | refine bX ?_ | intro _))
  rfl
theorem u9 (s:SchemaR) (hs:SF s) (FC:(aW s).length<=60) (t:ab) (ht:dz s t):ar Tryz.prog 9 [.agg (aq s),.agg (encTyp t)] (.i .i64 (bm (aG (dS s)) t)) :=
 ah aa Tryz.func9 rfl Tryz.call9 Tryz.results9 Tryz.ntmps9 (Nat.le_of_ble_eq_true rfl) (Li s hs FC t ht)
end
end Go.Proofs.YtiijpgmpnijidaaGreatDoor
end
section
namespace Go.Proofs.YtiijpgmpnijidaaGreatDoor
open Go Go.SX
set_option maxRecDepth 100000
section
variable [G:Globs]
theorem Ye (c:Nat):Lib.repeatL [97] c = List.replicate c 97:=by
 induction c with
 | zero=>rfl
 | succ c ih=>rw [List.replicate_succ,<- ih]; rfl
theorem Gd (c:Nat) (hc:c<=1000000):ar Tryz.prog 51 [.s [97],.i .i64 c] (.s (List.replicate c 97)):=by
 refine ⟨Tryz.call51,fun O w vs hO hG dV=>?_⟩
 obtain ⟨v0,vs0,rfl,h2,h⟩:=dV.cons_inv
 obtain ⟨v1,vs1,rfl,h3,h⟩:=h.cons_inv
 obtain rfl:=h.iz
 cases h2
 cases h3
 refine (Tryz.strings_Repeat ⟨#[97]⟩ c w (by omega) (by show 1 * c<=_; omega)).mono fun e w' ⟨he,hb⟩=>?_
 subst he
 refine ⟨_,rfl,⟨hb.os,hb.tape,hb.output,hb.size,fun k hk _=>hb.block k hk⟩,?_⟩
 rw [show (⟨#[97]⟩:ByteArray).data.toList = [97] from rfl,Ye]
 exact .s _ (by rw [List.length_replicate]; unfold maxLen; omega)
end
end Go.Proofs.YtiijpgmpnijidaaGreatDoor
end
section
namespace Go.SX
variable [Globs]
section
variable {P:Program} {N:Nat} {W0:World} {F:Fr} {X:Nat->Prop} {β:Nat->Option Nat} {a:Act} {w:World}
theorem ao.zg {cs ds:List AV} {B:List (Nat × List AV)} (hle:eV cs ds) (hI:ao W0 F X N ⟨[(0,.agg cs)],B⟩ β a w):ao W0 F X N ⟨[(0,.agg ds)],B⟩ β a w:=by
 have bP:∀ n,Nm ⟨[(0,.agg ds)],B⟩ n->Nm ⟨[(0,.agg cs)],B⟩ n:=by
  rintro n (h | ⟨m,hm⟩ | h)
  ·exact .inl h
  ·exfalso
   cases m with
   | zero=>cases hm
   | succ m=>cases hm
  ·exact .inr (.inr h)
 have hO:∀ k,Own X ⟨[(0,.agg ds)],B⟩ β k->Own X ⟨[(0,.agg cs)],B⟩ β k:=fun k hk=>hk.imp id fun ⟨n,hn,hb⟩=>⟨n,bP n hn,hb⟩
 refine hI.yS (ca.refl (fun _=>False) w) (fun _ _ h=>h.elim) (fun n=>?_) (fun n cs cZ=>?_) (fun n m g hn hm=>hI.inj n m g (bP n hn) (bP m hm)) (fun n g hn hg=>hI.own n g (bP n hn) hg) rfl rfl (fun n cs g hc hp=>hI.fP n cs g hc hp)
 ·have hs:=hI.aj n
  cases n with
  | zero =>
   have hs:Im (Own X ⟨[(0,.agg cs)],B⟩ β) w (.agg cs) (a.tmps.getD 0 undef):=hs
   exact Rel.im ((Cy hs (show Tn (.agg cs) (.agg ds) from hle)).mono hO)
  | succ n=>exact hs.mono hO
 ·obtain ⟨g,us',e,h1,h2,h3⟩:=hI.boxes n cs cZ
  exact ⟨g,us',e,h1,h2,h3.mono fun _ _ _ _ hr=>⟨hr.1.mono hO,hr.2⟩⟩
theorem bx.zg {f:FuncId} {args:List AV} {boxes:List (Nat × List AV)} {cs ds:List AV} {aB:List (Nat × List AV)} (h:bx P f args boxes (.agg cs) aB) (hle:eV cs ds):bx P f args boxes (.agg ds) aB:=by
 refine ⟨h.1,fun F X β w vs h1 h2 hI=>(h.2 F X β w vs h1 h2 hI).mono ?_⟩
 rintro e w' ⟨v',β'',he,bS⟩
 exact ⟨v',β'',he,bS.zg hle⟩
end
end Go.SX
end
section
namespace Go.Proofs.YtiijpgmpnijidaaGreatDoor
open Go Go.SX Go.Ck Go.Vl Go.Ut Go.Ty
set_option maxRecDepth 100000
set_option maxHeartbeats 4000000
def yB (l e:Bool) (v:aT):AV:=.agg [.i .i64 v.kind,.i .i64 v.n,.i .u64 v.f,.s v.s,(if l = true then .rd .val v.l else .nl),(if e = true then .rd .dZ v.e else .nl)]
theorem Bo {w:qf} {l:List gL} {i:Nat} (h:i < l.length) (acc:List kA) (m:Int) (g:Bool):mK w (l.drop i) acc m g = if gM l[i] = true then mK w (l.drop (i + 1)) (acc++[(l[i].name,(w l[i].t m g).1)]) (w l[i].t m g).2.1 (w l[i].t m g).2.2 else mK w (l.drop (i + 1)) acc m g:=by rw [List.drop_eq_getElem_cons h,mK]
section
variable [G:Globs]
theorem Lc (s:SchemaR) (es:a7) (n:Int) (w:qf) (K:Int) (Pe:0<=K) (Qh:K<=100000000) (hw:Dl (dz s) K w) (x:ab) (hx:jz (dz s) x) (Xu:x.kind = 6->0<=x.lo) (Y1:x.lo<=9223372036854775807) (h7:x.kind = 7->0 < x.texts.length) (US:x.kind = 8->0 < x.t.length) (hC:∀ t m g,dz s t->0 < bm (aG es) t->bm (aG es) t<=n->0<=m->m<=1000000000->(g = false->m<=2000)->bx Tryz.prog 16 [.pt 1000 0,.agg (encTyp t)] [(1000,[.pt 1001 0,.i .i64 m,.b g]),(1001,lG s es)] (.agg (ai (w t m g).1)) [(1000,[.pt 1001 0,.i .i64 (w t m g).2.1,.b (w t m g).2.2]),(1001,lG s es)]) (h8:x.kind = 8->0 < x.lo->0 < bm (aG es) (x.t.getD 0 (aD .typ))/\bm (aG es) (x.t.getD 0 (aD .typ))<=n) (gQ:x.kind = 10->∀ f ∈ x.f,gM f = true->0 < bm (aG es) f.t/\bm (aG es) f.t<=n) (m:Int) (vN:0<=m) (hm:m<=2000):vc Tryz.prog Γ 117 [0,3,4,5,6,7,9,11,12,15,24,27,31,40,47,72,87,90,94,95,96,97,101,1000,1001] (Tryz.f30.body.getD .skip) (en Γ [.cell 4 38] (yB (decide (x.kind = 8)) (decide (x.kind = 10)) (oH w x m).1) [(1000,[.pt 1001 0,.i .i64 (oH w x m).2.1,.b (oH w x m).2.2]),(1001,lG s es)]) ⟨ae 0 [.pt 1000 0,.agg (encTyp x)],[(1000,[.pt 1001 0,.i .i64 m,.b false]),(1001,lG s es)]⟩:=by
 obtain ⟨R,hR⟩:∃ R,R = oH w x m:=⟨_,rfl⟩
 have hE:=hR
 unfold oH at hE
 rw [<- hR]
 by_cases k3:x.kind = 3
 ·rw [if_pos k3] at hE
  rw [hE,decide_eq_false (show ¬ x.kind = 8 by omega),decide_eq_false (show ¬ x.kind = 10 by omega)]
  (repeat' (first | (refine iF (fun h=>?_) fun h=>?_)<;>try exact cX | refine bX ?_ | intro _))
  refine eX [] (aN rfl wK)
 rw [if_neg k3] at hE
 by_cases k4:x.kind = 4
 ·rw [if_pos k4] at hE
  rw [hE,decide_eq_false (show ¬ x.kind = 8 by omega),decide_eq_false (show ¬ x.kind = 10 by omega)]
  (repeat' (first | (refine iF (fun h=>?_) fun h=>?_)<;>try exact cX | refine bX ?_ | intro _))
  refine eX [] (aN ?_ wK)
  refine congrArg AV.agg ?_
  show [AV.i .i64 2,AV.i .i64 _,_,_,_,_] = _
  refine congrArg (fun z=>[AV.i .i64 2,AV.i .i64 z,AV.i .u64 0,AV.s [],AV.nl,AV.nl]) ?_
  show (if _ then _ else _) = min (max 0 x.lo) x.hi
  (repeat' split)<;>omega
 rw [if_neg k4] at hE
 by_cases k5:x.kind = 5
 ·rw [if_pos k5] at hE
  rw [hE,decide_eq_false (show ¬ x.kind = 8 by omega),decide_eq_false (show ¬ x.kind = 10 by omega)]
  (repeat' (first | (refine iF (fun h=>?_) fun h=>?_)<;>try exact cX | refine bX ?_ | intro _))
  refine eX [] (aN rfl wK)
 rw [if_neg k5] at hE
 by_cases k6:x.kind = 6
 ·rw [if_pos k6] at hE
  by_cases c:4000 < x.lo
  ·rw [if_pos c] at hE
   rw [hE,decide_eq_false (show ¬ x.kind = 8 by omega),decide_eq_false (show ¬ x.kind = 10 by omega)]
   (repeat' (first | (refine iF (fun h=>?_) fun h=>?_)<;>try exact cX | refine bX ?_ | intro _))
   refine eX [] (aN rfl wK)
  ·rw [if_neg c] at hE
   have MJ:=Xu k6
   rw [hE,decide_eq_false (show ¬ x.kind = 8 by omega),decide_eq_false (show ¬ x.kind = 10 by omega)]
   have hS:=Gd x.lo.toNat (by omega)
   rw [show ((x.lo.toNat:Nat):Int) = x.lo by omega] at hS
   (repeat' (first | (refine iF (fun h=>?_) fun h=>?_)<;>try exact cX | refine bX ?_ | intro _))
   refine Or.inl (eX _ (aN (hS) ?_))
   refine eX [] (aN rfl wK)
 rw [if_neg k6] at hE
 by_cases k7:x.kind = 7
 ·rw [if_pos k7] at hE
  have h7:=h7 k7
  rw [hE,decide_eq_false (show ¬ x.kind = 8 by omega),decide_eq_false (show ¬ x.kind = 10 by omega)]
  (repeat' (first | (refine iF (fun h=>?_) fun h=>?_)<;>try exact cX | refine bX ?_ | intro _))
  refine eX [] (aN rfl wK)
 rw [if_neg k7] at hE
 by_cases k8:x.kind = 8
 ·rw [if_pos k8] at hE
  rw [decide_eq_true k8,decide_eq_false (show ¬ x.kind = 10 by omega)]
  have US:=US k8
  obtain ⟨MJ,hU⟩:=hx.i8 k8
  have h8:=h8 k8
  generalize hy:x.t.getD 0 (aD .typ) = y at *
  obtain ⟨SL,T2⟩:∃ SL,SL = qa w y x.lo.toNat [] m (decide (200 < x.lo)):=⟨_,rfl⟩
  rw [<- T2] at hE
  (repeat' (first | (refine iF (fun h=>?_) fun h=>?_)<;>try exact cX | refine bX ?_ | intro _))
  refine eX [] (eX [(5,4,97,.val)] (eX [] (eX (Nat × List aT × Int × Bool) (eX (fun q=>(q.1:Int)<=x.lo/\SL = qa w y (x.lo.toNat - q.1) q.2.1 q.2.2.1 q.2.2.2/\0<=q.2.2.1/\(q.2.2.2 = false->q.2.2.1<=2000/\x.lo<=200)/\q.2.2.1<=2001 + K/\q.2.1.length<=q.1) (eX (fun ⟨i,acc,m,g⟩=>⟨[(0,.pt 1000 0),(3,.pt 3 0),(4,.pt 4 0),(5,.pt 5 0),(6,.i .i64 (i:Int))],[(1000,[.pt 1001 0,.i .i64 m,.b g]),(1001,lG s es),(3,encTyp x),(4,[.i .i64 0,.i .i64 0,.i .u64 0,.s [],.nl,.nl]),(5,[.i .i64 5,.i .i64 0,.i .u64 0,.s [],.vec 97 .val acc,.nl])]⟩) (eX (fun q=>x.lo.toNat - q.1) (eX (0,[],m,decide (200 < x.lo)) (aN ⟨MJ,T2,vN,fun h=>⟨hm,by simpa using h⟩,by show m<=2001 + K; omega,Nat.le_refl _⟩ (aN ?_ ?_)))))))))
  ·exact wK
  rintro ⟨i,acc,m1,g⟩ ⟨hi,hI,h0,hg,Qy,qq⟩
  simp only at hi hI h0 hg Qy qq
  by_cases c:(i:Int) < x.lo
  ·cases g with
   | true =>
    obtain ⟨k,hk⟩:∃ k,x.lo.toNat - i = k + 1:=⟨x.lo.toNat - i - 1,by omega⟩
    rw [hk,qa,if_pos rfl] at hI
    (repeat' (first | (refine iF (fun h=>?_) fun h=>?_)<;>try exact cX | refine bX ?_ | intro _))
    rw [hE,hI]
    refine eX [] (aN rfl wK)
   | false =>
    obtain ⟨g1,g2⟩:=hg rfl
    obtain ⟨k,hk⟩:∃ k,x.lo.toNat - i = k + 1:=⟨x.lo.toNat - i - 1,by omega⟩
    have tT:x.lo.toNat - (i + 1) = k:=by omega
    rw [hk,qa,if_neg (by decide),<- tT] at hI
    have hh:=hC y m1 false hU (h8 (by omega)).1 (h8 (by omega)).2 h0 (by omega) (fun _=>g1)
    obtain ⟨b1,b2,b3,b4,b5⟩:=hw.many y m1 hU h0 g1
    generalize w y m1 false = r at hh hI b1 b2 b3
    rw [<- hy] at hh
    (repeat' (first | (refine iF (fun h=>?_) fun h=>?_)<;>try exact cX | refine bX ?_ | intro _))
    refine eX [.take 0,.take 2,.take 3,.tree 6 [1,4,5,6,7,8] (.opt 1 (.opt 4 (.opt 5 (.opt 6 (.opt 7 (.opt 8 .fin .aZ) .aZ) .aZ) .aZ) .aZ) (.opt 4 (.opt 1 (.opt 5 (.opt 6 (.opt 7 (.opt 8 .fin .aZ) .aZ) .aZ) .aZ) (.opt 5 (.opt 1 (.opt 6 (.opt 7 (.opt 8 .fin .aZ) .aZ) .aZ) (.opt 6 (.opt 1 (.opt 7 (.opt 8 .fin .aZ) .aZ) (.opt 7 (.opt 1 (.opt 8 .fin .aZ) (.opt 8 (.opt 1 .fin .aZ) .aZ)) .aZ)) .aZ)) .aZ)) .aZ)),.one 9,.take 10,.one 11] (aN (by kernel_rfl) ?_)
    refine eX ⟨[(0,.pt 1000 0),(3,.pt 3 0),(4,.pt 4 0),(5,.pt 5 0),(6,.i .i64 (i:Int)),(76,.vec 97 .val acc),(83,.vec 83 .val [r.1])],[(1000,[.pt 1001 0,.i .i64 r.2.1,.b r.2.2]),(1001,lG s es),(3,encTyp x),(4,[.i .i64 0,.i .i64 0,.i .u64 0,.s [],.nl,.nl]),(5,[.i .i64 5,.i .i64 0,.i .u64 0,.s [],.vec 97 .val acc,.nl])]⟩ (aN ?_ ?_)
    ·repeat' first
      | exact trivial
      | exact Or.inl rfl
      | refine aN ⟨show (0:Int)<=0 by decide,show (0:Int) < (x.t.length:Int) by omega⟩ ?_
      | refine aN ?_ ?_
      |
       refine Or.inr (Or.inl (eX [] (eX _ (eX _ (eX _ (eX _ (eX _ (eX [(1000,1000),(1001,1001),(1002,1002)] (aN (hh) ?_)))))))))
       refine (aN rfl (aN rfl (aN rfl (aN rfl (aN rfl (aN rfl ?_))))))
     all_goals first | exact Or.inl (congrArg (fun z=>AV.vec 83 .val [z]) (sJ r.1)) | rfl | ((conv=>whnf); trace_state)
    refine aN (show (acc.length + 1) * 88<=140737488355328 by omega) ?_
    (repeat' (first | (refine iF (fun h=>?_) fun h=>?_)<;>try exact cX | refine bX ?_ | intro _))
    refine eX [(84,97)] (eX (i + 1,acc++[r.1],r.2.1,r.2.2) (aN ⟨by simp only; omega,hI,by simp only; omega,fun h=>⟨b3 h,g2⟩,by simp only; omega,by simp only [List.length_append,List.length_cons,List.length_nil]; omega⟩ (aN ?_ ?_)))
    ·exact wK
    ·show x.lo.toNat - (i + 1) < x.lo.toNat - i
     omega
  ·(repeat' (first | (refine iF (fun h=>?_) fun h=>?_)<;>try exact cX | refine bX ?_ | intro _))
   rw [show x.lo.toNat - i = 0 by omega,qa] at hI
   rw [hE,hI]
   refine eX [] (aN rfl wK)
 rw [if_neg k8] at hE
 by_cases k9:x.kind = 9
 ·rw [if_pos k9] at hE
  rw [hE,decide_eq_false (show ¬ x.kind = 8 by omega),decide_eq_false (show ¬ x.kind = 10 by omega)]
  (repeat' (first | (refine iF (fun h=>?_) fun h=>?_)<;>try exact cX | refine bX ?_ | intro _))
  refine eX [] (aN rfl wK)
 rw [if_neg k9] at hE
 by_cases k10:x.kind = 10
 ·rw [if_pos k10] at hE
  rw [decide_eq_false (show ¬ x.kind = 8 by omega),decide_eq_true k10]
  have gQ:=gQ k10
  have hU:=hx.f
  have hn:=hx.n
  obtain ⟨SR,T3⟩:∃ SR,SR = mK w x.f [] m false:=⟨_,rfl⟩
  rw [<- T3] at hE
  (repeat' (first | (refine iF (fun h=>?_) fun h=>?_)<;>try exact cX | refine bX ?_ | intro _))
  refine eX [] (eX [(7,5,98,.dZ)] (eX [] (eX (Nat × List kA × Int × Bool) (eX (fun q=>q.1<=x.f.length/\SR = mK w (x.f.drop q.1) q.2.1 q.2.2.1 q.2.2.2/\0<=q.2.2.1/\(q.2.2.2 = false->q.2.2.1<=2000)/\q.2.2.1<=2001 + K + q.1/\q.2.1.length<=q.1) (eX (fun ⟨i,acc,m,g⟩=>⟨[(0,.pt 1000 0),(4,.pt 4 0),(7,.pt 7 0),(94,.rd .eJ x.f),(95,.i .i64 x.f.length),(96,.i .i64 (i:Int))],[(1000,[.pt 1001 0,.i .i64 m,.b g]),(1001,lG s es),(4,[.i .i64 0,.i .i64 0,.i .u64 0,.s [],.nl,.nl]),(7,[.i .i64 6,.i .i64 0,.i .u64 0,.s [],.nl,.vec 98 .dZ acc])]⟩) (eX (fun q=>x.f.length - q.1) (eX (0,[],m,false) (aN ⟨Nat.zero_le _,T3,vN,fun _=>hm,by show m<=2001 + K + ((0:Nat):Int); omega,Nat.le_refl _⟩ (aN ?_ ?_)))))))))
  ·exact wK
  rintro ⟨i,acc,m1,g⟩ ⟨hi,hI,h0,ya,Qy,qq⟩
  simp only at hi hI h0 ya Qy qq
  refine aN (fun hz=>?_) (fun hz=>?_)
  ·have hi:=gd hz
   have hg:=cB (τ:=.eJ) hi
   refine bN2 ?_
   rw [hg]
   have hf:=List.getElem_mem hi
   have hA:=Ev x.f[i]
   rw [Bo hi] at hI
   refine Or.inl (eX _ (aN (hA) ?_))
   by_cases ask:gM x.f[i] = true
   ·rw [if_pos ask] at hI
    have hh:=hC x.f[i].t m1 g (hU _ hf) (gQ _ hf ask).1 (gQ _ hf ask).2 h0 (by omega) ya
    obtain ⟨b1,b2,b3,b4,b5⟩:=hw.any Pe (hU _ hf) g h0 ya
    have b6:(w x.f[i].t m1 g).2.1<=2001 + K + ((i + 1:Nat):Int):=by split at b2<;>omega
    generalize w x.f[i].t m1 g = r at hh hI b1 b3 b6
    rw [ask]
    (repeat' (first | (refine iF (fun h=>?_) fun h=>?_)<;>try exact cX | refine bX ?_ | intro _))
    refine eX [.take 0,.take 2,.take 4,.take 5,.tree 6 [1,3,6,7,8,9] (.opt 1 (.opt 3 (.opt 6 (.opt 7 (.opt 8 (.opt 9 .fin .aZ) .aZ) .aZ) .aZ) (.opt 6 (.opt 3 (.opt 7 (.opt 8 (.opt 9 .fin .aZ) .aZ) .aZ) (.opt 7 (.opt 3 (.opt 8 (.opt 9 .fin .aZ) .aZ) .aZ) .aZ)) .aZ)) (.opt 3 (.opt 1 (.opt 6 (.opt 7 (.opt 8 (.opt 9 .fin .aZ) .aZ) .aZ) .aZ) (.opt 6 (.opt 1 (.opt 7 (.opt 8 (.opt 9 .fin .aZ) .aZ) .aZ) (.opt 7 (.opt 1 (.opt 8 (.opt 9 .fin .aZ) .aZ) (.opt 8 (.opt 1 (.opt 9 .fin .aZ) (.opt 9 (.opt 1 .fin .aZ) .aZ)) .aZ)) .aZ)) .aZ)) (.opt 6 (.opt 1 (.opt 3 (.opt 7 (.opt 8 (.opt 9 .fin .aZ) .aZ) .aZ) (.opt 7 (.opt 3 (.opt 8 (.opt 9 .fin .aZ) .aZ) .aZ) .aZ)) (.opt 3 (.opt 1 (.opt 7 (.opt 8 (.opt 9 .fin .aZ) .aZ) .aZ) (.opt 7 (.opt 1 (.opt 8 (.opt 9 .fin .aZ) .aZ) (.opt 8 (.opt 1 (.opt 9 .fin .aZ) (.opt 9 (.opt 1 .fin .aZ) .aZ)) .aZ)) .aZ)) (.opt 7 (.opt 1 (.opt 3 (.opt 8 (.opt 9 .fin .aZ) .aZ) .aZ) (.opt 3 (.opt 1 (.opt 8 (.opt 9 .fin .aZ) .aZ) (.opt 8 (.opt 1 (.opt 9 .fin .aZ) (.opt 9 (.opt 1 .fin .aZ) .aZ)) .aZ)) .aZ)) .aZ))) .aZ))),.one 10,.take 11,.one 12] (aN (by kernel_rfl) ?_)
    refine eX ⟨[(0,.pt 1000 0),(4,.pt 4 0),(7,.pt 7 0),(94,.rd .eJ x.f),(95,.i .i64 x.f.length),(96,.i .i64 (i:Int)),(103,.vec 98 .dZ acc),(111,.vec 111 .dZ [(x.f[i].name,r.1)])],[(1000,[.pt 1001 0,.i .i64 r.2.1,.b r.2.2]),(1001,lG s es),(4,[.i .i64 0,.i .i64 0,.i .u64 0,.s [],.nl,.nl]),(7,[.i .i64 6,.i .i64 0,.i .u64 0,.s [],.nl,.vec 98 .dZ acc])]⟩ (aN ?_ ?_)
    ·repeat' first
      | exact trivial
      | exact Or.inl rfl
      | refine aN ?_ ?_
      |
       refine Or.inr (Or.inl (eX [] (eX _ (eX _ (eX _ (eX _ (eX _ (eX [(1000,1000),(1001,1001),(1002,1002)] (aN (hh) ?_)))))))))
       refine (aN rfl (aN rfl (aN rfl (aN rfl (aN rfl (aN rfl ?_))))))
     all_goals first | exact Or.inl (congrArg (fun z=>AV.vec 111 .dZ [(x.f[i].name,z)]) (sJ r.1)) | rfl | ((conv=>whnf); trace_state)
    refine aN (show (acc.length + 1) * 104<=140737488355328 by omega) ?_
    (repeat' (first | (refine iF (fun h=>?_) fun h=>?_)<;>try exact cX | refine bX ?_ | intro _))
    refine eX [(112,98)] (eX (i + 1,acc++[(x.f[i].name,r.1)],r.2.1,r.2.2) (aN ⟨hi,hI,by simp only; omega,b3,b6,by simp only [List.length_append,List.length_cons,List.length_nil]; omega⟩ (aN ?_ ?_)))
    ·exact wK
    ·(exact Nat.sub_lt_sub_left (by omega) (by omega))
   ·rw [if_neg ask] at hI
    have ask:gM x.f[i] = false:=by simpa using ask
    rw [ask]
    (repeat' (first | (refine iF (fun h=>?_) fun h=>?_)<;>try exact cX | refine bX ?_ | intro _))
    refine eX [] (eX (i + 1,acc,m1,g) (aN ⟨hi,hI,h0,ya,by simp only; omega,by simp only; omega⟩ (aN ?_ ?_)))
    ·exact wK
    ·(exact Nat.sub_lt_sub_left (by omega) (by omega))
  ·have hi:=ga hi hz
   rw [List.drop_eq_nil_of_le (by omega),mK] at hI
   rw [hE,hI]
   (repeat' (first | (refine iF (fun h=>?_) fun h=>?_)<;>try exact cX | refine bX ?_ | intro _))
   refine eX [] (aN rfl wK)
 ·rw [if_neg k10] at hE
  rw [hE,decide_eq_false (show ¬ x.kind = 8 by omega),decide_eq_false k10]
  (repeat' (first | (refine iF (fun h=>?_) fun h=>?_)<;>try exact cX | refine bX ?_ | intro _))
  refine eX [] (aN rfl wK)
theorem JV (s:SchemaR) (es:a7) (n:Int) (w:qf) (K:Int) (Pe:0<=K) (Qh:K<=100000000) (hw:Dl (dz s) K w) (x:ab) (hx:jz (dz s) x) (Xu:x.kind = 6->0<=x.lo) (Y1:x.lo<=9223372036854775807) (h7:x.kind = 7->0 < x.texts.length) (US:x.kind = 8->0 < x.t.length) (hC:∀ t m g,dz s t->0 < bm (aG es) t->bm (aG es) t<=n->0<=m->m<=1000000000->(g = false->m<=2000)->bx Tryz.prog 16 [.pt 1000 0,.agg (encTyp t)] [(1000,[.pt 1001 0,.i .i64 m,.b g]),(1001,lG s es)] (.agg (ai (w t m g).1)) [(1000,[.pt 1001 0,.i .i64 (w t m g).2.1,.b (w t m g).2.2]),(1001,lG s es)]) (h8:x.kind = 8->0 < x.lo->0 < bm (aG es) (x.t.getD 0 (aD .typ))/\bm (aG es) (x.t.getD 0 (aD .typ))<=n) (gQ:x.kind = 10->∀ f ∈ x.f,gM f = true->0 < bm (aG es) f.t/\bm (aG es) f.t<=n) (m:Int) (vN:0<=m) (hm:m<=2000):bx Tryz.prog 30 [.pt 1000 0,.agg (encTyp x)] [(1000,[.pt 1001 0,.i .i64 m,.b false]),(1001,lG s es)] (yB (decide (x.kind = 8)) (decide (x.kind = 10)) (oH w x m).1) [(1000,[.pt 1001 0,.i .i64 (oH w x m).2.1,.b (oH w x m).2.2]),(1001,lG s es)] :=
 bL aa Tryz.func30 rfl Tryz.call30 Tryz.results30 Tryz.ntmps30 (Nat.le_of_ble_eq_true rfl) (Nat.le_of_ble_eq_true rfl) (by rfl) (Lc s es n w K Pe Qh hw x hx Xu Y1 h7 US hC h8 gQ m vN hm)
end
end Go.Proofs.YtiijpgmpnijidaaGreatDoor
end
section
namespace Go.Ty
open Go Go.SX Go.Ck Go.Vl Go.Ut
set_option maxRecDepth 100000
open Go.Df (nd nd_pos nd_eq)
section
variable {U:ab->Prop} {K:Int} {w:qf}
theorem Gi {U : ab -> Prop} {K : Int} {w : qf} (h : Dl U K w) (hK : 0<=K) {x : ab} (hx : jz U x) {m : Int} (h0 : 0<=m) (hm : m<=2000) :
  m<=(kr w x m).2.1/\(kr w x m).2.1<=2001 + (K + 200)/\((kr w x m).2.2 = false->(kr w x m).2.1<=2000)/\nd (kr w x m).1<=(kr w x m).2.1 - m + 1/\VB (kr w x m).1:=by
 have leaf:∀ (k n:Int) (s:aH) (g:Bool),0<=k/\k<=6->-9223372036854775808<=n/\n<=9223372036854775807->m<=((⟨k,n,0,s,[],[]⟩,m,g):yX).2.1/\((⟨k,n,0,s,[],[]⟩,m,g):yX).2.1<=2001 + (K + 200)/\(((⟨k,n,0,s,[],[]⟩,m,g):yX).2.2 = false->((⟨k,n,0,s,[],[]⟩,m,g):yX).2.1<=2000)/\nd ((⟨k,n,0,s,[],[]⟩,m,g):yX).1<=((⟨k,n,0,s,[],[]⟩,m,g):yX).2.1 - m + 1/\VB ((⟨k,n,0,s,[],[]⟩,m,g):yX).1:=fun k n s g hk hn =>
  ⟨Int.le_refl _,by simp only; omega,fun _=>hm,by simp only [Ed]; omega,xu hk hn Tc Tb⟩
 unfold kr
 by_cases k3:x.kind = 3
 ·rw [if_pos k3]; exact leaf 1 0 [] false (by decide) (by decide)
 rw [if_neg k3]
 by_cases k4:x.kind = 4
 ·rw [if_pos k4]; have:=hx.i4 k4; refine leaf 2 _ [] false (by decide) ?_
  (repeat' split)<;>omega
 rw [if_neg k4]
 by_cases k5:x.kind = 5
 ·rw [if_pos k5]; exact leaf 3 0 [] false (by decide) (by decide)
 rw [if_neg k5]
 by_cases k6:x.kind = 6
 ·rw [if_pos k6]
  split
  ·exact leaf 0 0 [] true (by decide) (by decide)
  ·exact leaf 4 0 _ false (by decide) (by decide)
 rw [if_neg k6]
 by_cases k7:x.kind = 7
 ·rw [if_pos k7]; exact leaf 4 0 _ false (by decide) (by decide)
 rw [if_neg k7]
 by_cases k8:x.kind = 8
 ·rw [if_pos k8]
  by_cases c:200 < x.lo
  ·rw [if_pos c]; exact leaf 5 0 [] true (by decide) (by decide)
  rw [if_neg c]
  obtain ⟨g1,g2,g3,g4,g5,g6⟩:=xm h hK (hx.i8 k8).2 x.lo.toNat [] m false h0 (fun _=>hm) Tc
  refine ⟨g1,by simp only; omega,g3,?_,xu (by decide) (by decide) g5 Tb⟩
  simp only [QW]
  have e:Df.cP [] = 0:=rfl
  rw [e] at g4
  omega
 rw [if_neg k8]
 by_cases k9:x.kind = 9
 ·rw [if_pos k9]; exact leaf 6 0 [] false (by decide) (by decide)
 rw [if_neg k9]
 by_cases k10:x.kind = 10
 ·rw [if_pos k10]
  obtain ⟨g1,g2,g3,g4,g5,g6⟩:=pO h hK x.f [] m false hx.f h0 (fun _=>hm) Tb
  have hn:=hx.n
  refine ⟨g1,by simp only; omega,g3,?_,xu (by decide) (by decide) Tc g5⟩
  simp only [QV]
  have e:Df.cP (([]:List kA).map (·.2)) = 0:=rfl
  rw [e] at g4
  omega
 ·rw [if_neg k10]; exact leaf 0 0 [] false (by decide) (by decide)
theorem xo (C:ab->List ab) (R:ab->Int) {U:ab->Prop} (hC:∀ t,U t->∀ x ∈ C t,jz U x):∀ n:Nat,Dl U (200 * n) (qS C R n)
 | 0=>⟨fun _ _=>rfl,fun t m _ h0 hm=>by
  rw [qS]
  exact ⟨Int.le_refl _,by simp only; omega,fun h=>Bool.noConfusion (show true = false from h),by simp only [jJ]; omega,jR⟩⟩
 | n + 1=>⟨fun t m=>by rw [qS,if_pos (.inl rfl)],fun t m ht h0 hm=>by
  have ih:=xo C R hC n
  rw [qS]
  by_cases c:false = true\/2000 < m + 1
  ·rw [if_pos c]
   exact ⟨Int.le_refl _,by simp only; omega,fun h=>Bool.noConfusion (show true = false from h),by simp only [jJ]; omega,jR⟩
  ·rw [if_neg c]
   have c:m + 1<=2000:=by omega
   cases e:(C t).find? fun x=>R x == R t with
   | none=>exact ⟨Int.le_refl _,by simp only; omega,fun _=>c,by simp only [jJ]; omega,jR⟩
   | some x =>
    obtain ⟨h1,h2,h3,h4,h5⟩:=Gi ih (by omega) (hC t ht x (List.mem_of_find?_eq_some e)) (m:=m + 1) (by omega) c
    exact ⟨h1,by simp only at h2 ⊢; omega,h3,by simp only at h4 ⊢; omega,h5⟩⟩
end
theorem xp (C:ab->List ab) (R:ab->Int) (n:Nat) (t:ab) (m:Int) (g:Bool):qS C R (n + 1) t m g = if g = true\/2000 < m + 1 then (zeroV,m + 1,true) else kr (qS C R n) (((C t).find? fun x=>R x == R t).getD (aD .typ)) (m + 1):=by
 rw [qS]
 split
 ·rfl
 ·cases (C t).find? fun x=>R x == R t with
  | none=>rfl
  | some x=>rfl
theorem Ka {w:qf} {x:ab} {m:Int}:(x.kind≠8->(oH w x m).1.l = [])/\(x.kind≠10->(oH w x m).1.e = []):=by
 unfold oH
 (repeat' split)<;>exact ⟨fun h=>by first | rfl | exact absurd (by assumption) h,fun h=>by first | rfl | exact absurd (by assumption) h⟩
theorem EB {w:qf} {x:ab} {m:Int}:(¬ (x.kind = 8/\x.lo<=200)->(kr w x m).1.l = [])/\(x.kind≠10->(kr w x m).1.e = []):=by
 unfold kr
 (repeat' split)<;>exact ⟨fun h=>by first | rfl | exact absurd ⟨by assumption,by omega⟩ h,fun h=>by first | rfl | exact absurd (by assumption) h⟩
end Go.Ty
end
section
namespace Go.Proofs.YtiijpgmpnijidaaGreatDoor
open Go Go.SX Go.Ck Go.Vl Go.Ut Go.Ty
set_option maxRecDepth 100000
set_option maxHeartbeats 4000000
noncomputable abbrev sF (s:SchemaR) (es:a7) (n:Nat):qf:=GL (fun t=>(bp s.defs t).1) (fun t=>bm (aG es) t) n
noncomputable def yK (s:SchemaR) (es:a7) (t:ab) (m:Int) (g:Bool):Bool:=if g = true\/2000 < m + 1 then false else ((bp s.defs t).1.find? fun x=>bm (aG es) x == bm (aG es) t).isSome
theorem Kb {s:SchemaR} {es:a7} {t:ab} {m:Int} {g:Bool} {n:Nat} (h:yK s es t m g = false):(sF s es (n + 1) t m g).1 = zeroV:=by
 unfold yK at h
 unfold sF
 rw [GL]
 split at h
 ·rename_i c; rw [if_pos c]
 ·rename_i c
  rw [if_neg c]
  cases e:(bp s.defs t).1.find? fun x=>bm (aG es) x == bm (aG es) t with
  | none=>rfl
  | some x=>rw [e] at h; cases h
theorem Bz {l:List az} {t:ab} (h:eP l t = 0) (k:t.kind = 7):0 < t.texts.length:=by
 unfold eP at h
 by_cases c:¬ dN t
 ·rw [if_pos c] at h; exact absurd h (by decide)
 rw [if_neg c] at h
 by_cases d:t.hi < t.lo\/(t.kind≠4/\t.lo < 0)
 ·rw [if_pos d] at h; exact absurd h (by decide)
 rw [if_neg d,if_pos k] at h
 unfold kx at h
 by_cases e:t.texts.length = 0
 ·rw [if_pos e] at h; exact absurd h (by decide)
 ·omega
theorem zP {α:Type} {l:List α} {p:α->Bool} {i:Nat} (hi:i < l.length) (h:p l[i] = true):(l.drop i).find? p = some l[i]:=by rw [List.drop_eq_getElem_cons hi,List.find?_cons,h]
theorem wI {α:Type} {l:List α} {p:α->Bool} {i:Nat} (hi:i < l.length) (h:p l[i] = false):(l.drop i).find? p = (l.drop (i + 1)).find? p:=by rw [List.drop_eq_getElem_cons hi,List.find?_cons,h]
section
variable [G:Globs]
theorem Ln (s:SchemaR) (hs:SF s) (es:a7) (h0:∀ n,0<=aG es n) (h1:∀ n,aG es n<=10050) (n:Nat) (t:ab) (ht:dz s t) (m:Int) (g:Bool) (vN:0<=m) (Ao:m<=1000000000) (hP:∀ x ∈ (bp s.defs t).1,bm (aG es) x = bm (aG es) t->∀ m,0<=m->m<=2000->bx Tryz.prog 30 [.pt 1000 0,.agg (encTyp x)] [(1000,[.pt 1001 0,.i .i64 m,.b false]),(1001,lG s es)] (.agg (ai (oH (sF s es n) x m).1)) [(1000,[.pt 1001 0,.i .i64 (oH (sF s es n) x m).2.1,.b (oH (sF s es n) x m).2.2]),(1001,lG s es)]):vc Tryz.prog Γ 61 [0,3,4,5,7,19,26,42,43,44,45,55,1000,1001] (Tryz.f16.body.getD .skip) (en Γ [.cell 4 38] (yB (yK s es t m g) (yK s es t m g) (sF s es (n + 1) t m g).1) [(1000,[.pt 1001 0,.i .i64 (sF s es (n + 1) t m g).2.1,.b (sF s es (n + 1) t m g).2.2]),(1001,lG s es)]) ⟨ae 0 [.pt 1000 0,.agg (encTyp t)],[(1000,[.pt 1001 0,.i .i64 m,.b g]),(1001,lG s es)]⟩:=by
 obtain ⟨R,hR⟩:∃ R,R = sF s es (n + 1) t m g:=⟨_,rfl⟩
 have hE:=hR
 unfold sF at hE
 rw [GL] at hE
 obtain ⟨S,hS⟩:∃ S,S = yK s es t m g:=⟨_,rfl⟩
 have hF:=hS
 unfold yK at hF
 rw [<- hR,<- hS]
 by_cases c:g = true\/2000 < m + 1
 ·rw [if_pos c] at hE hF
  rw [hE,hF]
  by_cases c2:2000 < m + 1
  ·(repeat' (first | (refine iF (fun h=>?_) fun h=>?_)<;>try exact cX | refine bX ?_ | intro _))
   refine eX [] (aN rfl wK)
  ·have c:=c.resolve_right c2
   subst c
   (repeat' (first | (refine iF (fun h=>?_) fun h=>?_)<;>try exact cX | refine bX ?_ | intro _))
   refine eX [] (aN rfl wK)
 rw [if_neg c] at hE hF
 have cg:g = false:=by simpa using fun h=>c (.inl h)
 have cm:m + 1<=2000:=by omega
 subst cg
 have rk:∀ x,dz s x->bx Tryz.prog 15 [.pt 1000 0,.agg (encTyp x)] [(1000,lG s es)] (.i .i64 (bm (aG es) x)) [(1000,lG s es)]:=fun x hx=>kR (l:=s.defs) s es h0 h1 _ x (Nat.lt_succ_self _) (hs.gt _ hx) (by have:=hs.gs.num hx; omega)
 have hT:=rk t ht
 have VS:=JQ s hs.gs t ht
 have tW:=hs.gs.parts ht
 have hlen:=hs.gs.len ht
 generalize hr:bm (aG es) t = r at *
 generalize hC:(bp s.defs t).1 = L at *
 (repeat' (first | (refine iF (fun h=>?_) fun h=>?_)<;>try exact cX | refine bX ?_ | intro _))
 refine eX [.fZ [0,1,2,3,4],.one 5,.take 6] (aN (by kernel_rfl) ?_)
 refine Or.inr (Or.inl (eX [] (eX _ (eX _ (eX _ (eX _ (eX _ (eX [(1000,1001),(1002,1002)] (aN (hT) ?_)))))))))
 refine (aN rfl (aN rfl (aN rfl (aN rfl (aN rfl ?_)))))
 refine eX [.take 0,.take 1,.take 2,.take 10,.fZ [3,4,5,6,7,8],.take 9] (aN (by kernel_rfl) ?_)
 refine eX _ (aN (VS) ?_)
 (repeat' (first | (refine iF (fun h=>?_) fun h=>?_)<;>try exact cX | refine bX ?_ | intro _))
 refine eX [] (eX [] (eX [] (eX Nat (eX (fun i=>i<=L.length/\L.find? (fun x=>bm (aG es) x == r) = (L.drop i).find? (fun x=>bm (aG es) x == r)) (eX (fun i=>⟨[(0,.pt 1000 0),(4,.pt 4 0),(5,.i .i64 r),(42,.rd .typ L),(43,.i .i64 L.length),(44,.i .i64 (i:Int))],[(1000,[.pt 1001 0,.i .i64 (m + 1),.b false]),(1001,lG s es),(4,[.i .i64 0,.i .i64 0,.i .u64 0,.s [],.nl,.nl])]⟩) (eX (fun i=>L.length - i) (eX 0 (aN ⟨Nat.zero_le _,rfl⟩ (aN ?_ ?_)))))))))
 ·exact wK
 rintro i ⟨hi,hI⟩
 refine aN (fun hz=>?_) (fun hz=>?_)
 ·have hi:=gd hz
  have hg:=cB (τ:=.typ) hi
  refine bN2 ?_
  rw [hg]
  have hx:=List.getElem_mem hi
  have WQ:=rk _ (tW _ hx).2
  refine eX [.take 0,.take 1,.take 2,.take 6,.fZ [3,4],.one 5,.take 7] (aN (by kernel_rfl) ?_)
  refine Or.inr (Or.inl (eX [] (eX _ (eX _ (eX _ (eX _ (eX _ (eX [(1000,1001),(1002,1002)] (aN (WQ) ?_)))))))))
  refine (aN rfl (aN rfl (aN rfl (aN rfl (aN rfl ?_)))))
  by_cases e:bm (aG es) L[i] = r
  ·rw [zP (p:=fun x=>bm (aG es) x == r) hi (beq_iff_eq.2 e)] at hI
   rw [hI] at hE hF
   have hh:=hP _ hx e (m + 1) (by omega) cm
   (repeat' (first | (refine iF (fun h=>?_) fun h=>?_)<;>try exact cX | refine bX ?_ | intro _))
   refine Or.inr (Or.inl (eX [] (eX _ (eX _ (eX _ (eX _ (eX _ (eX [(1000,1000),(1001,1001),(1002,1002)] (aN (hh) ?_)))))))))
   refine (aN rfl (aN rfl (aN rfl (aN rfl (aN rfl (aN rfl ?_))))))
   rw [hE,hF]
   refine eX [] (aN rfl wK)
  ·rw [wI (p:=fun x=>bm (aG es) x == r) hi (beq_eq_false_iff_ne.2 e)] at hI
   (repeat' (first | (refine iF (fun h=>?_) fun h=>?_)<;>try exact cX | refine bX ?_ | intro _))
   refine eX [] (eX (i + 1) (aN ⟨hi,hI⟩ (aN ?_ ?_)))
   ·exact wK
   ·(exact Nat.sub_lt_sub_left (by omega) (by omega))
 ·have hi:=ga hi hz
  rw [List.drop_eq_nil_of_le (by omega),List.find?_nil] at hI
  rw [hI] at hE hF
  rw [hE,hF]
  (repeat' (first | (refine iF (fun h=>?_) fun h=>?_)<;>try exact cX | refine bX ?_ | intro _))
  refine eX [] (aN rfl wK)
theorem J4 (s:SchemaR) (hs:SF s) (es:a7) (h0:∀ n,0<=aG es n) (h1:∀ n,aG es n<=10050) (n:Nat) (t:ab) (ht:dz s t) (m:Int) (g:Bool) (vN:0<=m) (Ao:m<=1000000000) (hP:∀ x ∈ (bp s.defs t).1,bm (aG es) x = bm (aG es) t->∀ m,0<=m->m<=2000->bx Tryz.prog 30 [.pt 1000 0,.agg (encTyp x)] [(1000,[.pt 1001 0,.i .i64 m,.b false]),(1001,lG s es)] (.agg (ai (oH (sF s es n) x m).1)) [(1000,[.pt 1001 0,.i .i64 (oH (sF s es n) x m).2.1,.b (oH (sF s es n) x m).2.2]),(1001,lG s es)]):bx Tryz.prog 16 [.pt 1000 0,.agg (encTyp t)] [(1000,[.pt 1001 0,.i .i64 m,.b g]),(1001,lG s es)] (yB (yK s es t m g) (yK s es t m g) (sF s es (n + 1) t m g).1) [(1000,[.pt 1001 0,.i .i64 (sF s es (n + 1) t m g).2.1,.b (sF s es (n + 1) t m g).2.2]),(1001,lG s es)] :=
 bL aa Tryz.func16 rfl Tryz.call16 Tryz.results16 Tryz.ntmps16 (Nat.le_of_ble_eq_true rfl) (Nat.le_of_ble_eq_true rfl) (by rfl) (Ln s hs es h0 h1 n t ht m g vN Ao hP)
theorem vB (s:SchemaR) (hs:SF s) (es:a7) (h0:∀ n,0<=aG es n) (h1:∀ n,aG es n<=10050):∀ (n:Nat) (t:ab) (m:Int) (g:Bool),n<=20000->dz s t->0 < bm (aG es) t->bm (aG es) t<=n->0<=m->m<=1000000000->(g = false->m<=2000)->bx Tryz.prog 16 [.pt 1000 0,.agg (encTyp t)] [(1000,[.pt 1001 0,.i .i64 m,.b g]),(1001,lG s es)] (.agg (ai (sF s es n t m g).1)) [(1000,[.pt 1001 0,.i .i64 (sF s es n t m g).2.1,.b (sF s es n t m g).2.2]),(1001,lG s es)]
 | 0,t,m,g,_,_,hp,hn,_,_,_=>absurd hn (by omega)
 | n + 1,t,m,g,Io,ht,hp,hn,vN,Ao,hg=>by
  have Qi:∀ t,dz s t->∀ x ∈ (bp s.defs t).1,jz (dz s) x:=fun t ht x hx=>by
   obtain ⟨_,oc⟩:=hs.gs.parts ht x hx
   exact sy (fun t ht=>fe ht) oc (hs.gs.ok x oc) (by cases hs.gs.tb x oc; omega)
  have hK:Dl (dz s) (200 * n) (sF s es n):=vb _ _ Qi n
  have h:=J4 s hs es h0 h1 n t ht m g vN Ao fun x hx hr m vN hm=>by
   obtain ⟨_,oc⟩:=hs.gs.parts ht x hx
   have hb:TB x:=hs.gs.tb x oc
   have rr:=sI (hs.gs.ok x oc)
   have hlt:=D8 (hs.gs.ok x oc)
   have hw:WR (aG es) ((n:Int) + 1) x:=⟨by omega,by omega⟩
   have h7:x.kind = 7->0 < x.texts.length:=fun k=>Bz (hs.gs.ok x oc) k
   have q:=JV s es n (sF s es n) (200 * n) (by omega) (by omega) hK x (Qi t ht x hx) (fun k=>rr.2.2.1 (by omega)) (by cases hb; omega) h7 (fun k=>List.length_pos_iff.2 (hlt k).2) (fun t m g=>vB s hs es h0 h1 n t m g (by omega)) (fun k8 MJ=>by
    rcases (kj k8 h0).1 hw with c | c
    ·omega
    ·exact ⟨c.2.1,by have:=c.2.2; omega⟩) (fun k10 f hf ha=>by
    have c:=((mT k10 h0).1 hw).2 f hf ha
    exact ⟨c.1,by have:=c.2; omega⟩) m vN hm
   ·unfold yB at q
    refine q.zg ⟨.inl rfl,.inl rfl,.inl rfl,.inl rfl,?_,?_,trivial⟩
    ·by_cases k:x.kind = 8
     ·rw [decide_eq_true k,if_pos rfl]; exact .inl rfl
     ·rw [decide_eq_false k,if_neg Bool.noConfusion,Ka.1 k]; exact .inr ⟨rfl,_,rfl⟩
    ·by_cases k:x.kind = 10
     ·rw [decide_eq_true k,if_pos rfl]; exact .inl rfl
     ·rw [decide_eq_false k,if_neg Bool.noConfusion,Ka.2 k]; exact .inr ⟨rfl,_,rfl⟩
  unfold yB at h
  refine h.zg ⟨.inl rfl,.inl rfl,.inl rfl,.inl rfl,?_,?_,trivial⟩
  all_goals
   cases e:yK s es t m g with
   | true=>rw [if_pos rfl]; exact .inl rfl
   | false =>
    rw [if_neg Bool.noConfusion,Kb e]
    exact .inr ⟨rfl,_,rfl⟩
end
end Go.Proofs.YtiijpgmpnijidaaGreatDoor
end
section
namespace Go.Proofs.YtiijpgmpnijidaaGreatDoor
open Go Go.SX Go.Ck Go.Vl Go.Ut Go.Ty
set_option maxRecDepth 100000
set_option maxHeartbeats 8000000
noncomputable abbrev gP (s:SchemaR) (es:a7) (n:Nat):qf:=qS (fun t=>(bp s.defs t).1) (fun t=>bm (aG es) t) n
noncomputable def nO (s:SchemaR) (es:a7) (t:ab):ab:=((bp s.defs t).1.find? fun x=>bm (aG es) x == bm (aG es) t).getD (aD .typ)
def Pz (q:ab):Bool:=decide (q.kind = 8/\q.lo<=200)
def P7 (q:ab):Bool:=decide (q.kind = 10)
def GJ (m:Int) (g:Bool):Bool:=!g && decide (m + 1<=2000)
section
variable [G:Globs]
theorem Gs (s:SchemaR) (hs:SF s) (FC:(aW s).length<=60) (n:Nat) (hn:n<=20000) (t:ab) (ht:dz s t) (m:Int) (g:Bool) (vN:0<=m) (Ao:m<=1000000000) (hg:g = false->m<=2000) (ih:∀ y m g,dz s y->0 < bm (aG (dS s)) y->bm (aG (dS s)) y<=n->0<=m->m<=1000000000->(g = false->m<=2000)->bx Tryz.prog 10 [.pt 1000 0,.agg (encTyp y)] [(1000,aq s++[.i .i64 m,.b g])] (.agg (ai (gP s (dS s) n y m g).1)) [(1000,aq s++[.i .i64 (gP s (dS s) n y m g).2.1,.b (gP s (dS s) n y m g).2.2])]) (pj:0 < bm (aG (dS s)) t) (hle:bm (aG (dS s)) t<=n + 1):vc Tryz.prog Γ 185 [0,3,4,5,6,8,9,10,11,12,14,39,52,53,54,55,70,74,75,78,83,89,94,97,101,107,108,109,115,122,127,133,134,135,149,152,156,157,158,159,169,1000] (Tryz.f10.body.getD .skip) (en Γ [.cell 4 38] (yB (GJ m g && Pz (nO s (dS s) t)) (GJ m g && P7 (nO s (dS s) t)) (gP s (dS s) (n + 1) t m g).1) [(1000,aq s++[.i .i64 (gP s (dS s) (n + 1) t m g).2.1,.b (gP s (dS s) (n + 1) t m g).2.2])]) ⟨ae 0 [.pt 1000 0,.agg (encTyp t)],[(1000,aq s++[.i .i64 m,.b g])]⟩:=by
 obtain ⟨R,hR⟩:∃ R,R = gP s (dS s) (n + 1) t m g:=⟨_,rfl⟩
 have hE:=hR
 unfold gP at hE
 rw [xp] at hE
 rw [<- hR]
 by_cases c:g = true\/2000 < m + 1
 ·rw [if_pos c] at hE
  have oG:¬ (g = false/\m + 1<=2000):=fun h=>c.elim (fun e=>by rw [h.1] at e; cases e) (fun e=>by omega)
  have rr:GJ m g = false:=by
   unfold GJ
   cases g with
   | true=>rfl
   | false=>exact decide_eq_false fun h=>oG ⟨rfl,h⟩
  rw [hE,rr,Bool.false_and,Bool.false_and]
  cases g with
  | true =>
   (repeat' (first | (refine iF (fun h=>?_) fun h=>?_)<;>try exact cX | refine bX ?_ | intro _))
   refine eX [] (aN rfl wK)
  | false =>
   have c2:2000 < m + 1:=c.resolve_left Bool.noConfusion
   (repeat' (first | (refine iF (fun h=>?_) fun h=>?_)<;>try exact cX | refine bX ?_ | intro _))
   refine eX [] (aN rfl ?_)
   (repeat' (first | exact wA | exact Or.inl ((congrArg AV.b (decide_eq_true c2))) | refine aN ?_ ?_))
 rw [if_neg c] at hE
 have cg:g = false:=by simpa using fun h=>c (.inl h)
 have cm:m + 1<=2000:=by omega
 subst cg
 have c3:decide (2000 < m + 1) = false:=decide_eq_false (by omega)
 rw [show GJ m false = true from decide_eq_true cm,Bool.true_and,Bool.true_and]
 have hE:R = kr (gP s (dS s) n) (nO s (dS s) t) (m + 1):=hE
 obtain ⟨hF,hS⟩:=hs.dS
 have h0:=hF.w.so.1
 have Qi:∀ t,dz s t->∀ x ∈ (bp s.defs t).1,jz (dz s) x:=fun t ht x hx=>by
  obtain ⟨_,oc⟩:=hs.gs.parts ht x hx
  exact sy (fun t ht=>fe ht) oc (hs.gs.ok x oc) (by cases hs.gs.tb x oc; omega)
 have hK:Dl (dz s) (200 * n) (gP s (dS s) n):=xo _ _ Qi n
 have WO:=u9 s hs FC t ht
 have H0:=qP s hs.gs.sb.defs hs.gs.sb.many t (hs.gs.ct ht) (hs.gs.tb t ht) (hs.gs.num ht)
 have WQ:∀ x ∈ (bp s.defs t).1,ar Tryz.prog 9 [.agg (aq s),.agg (encTyp x)] (.i .i64 (bm (aG (dS s)) x)):=fun x hx=>u9 s hs FC x (hs.gs.parts ht x hx).2
 have X6:∀ x ∈ (bp s.defs t).1,x.kind≠0:=fun x hx=>by have:=(hs.gs.parts ht x hx).1.1; omega
 have hlen:=hs.gs.len ht
 have MO:∀ x ∈ (bp s.defs t).1,bm (aG (dS s)) x = bm (aG (dS s)) t->jz (dz s) x/\(x.kind = 6->0<=x.lo)/\x.lo<=9223372036854775807/\(x.kind = 7->0 < x.texts.length)/\(x.kind = 8->0 < x.t.length)/\(x.kind = 8->0 < x.lo->0 < bm (aG (dS s)) (x.t.getD 0 (aD .typ))/\bm (aG (dS s)) (x.t.getD 0 (aD .typ))<=n)/\(x.kind = 10->∀ f ∈ x.f,gM f = true->0 < bm (aG (dS s)) f.t/\bm (aG (dS s)) f.t<=n):=fun x hx hr=>by
  obtain ⟨_,oc⟩:=hs.gs.parts ht x hx
  have rr:=sI (hs.gs.ok x oc)
  have hlt:=D8 (hs.gs.ok x oc)
  have hw:WR (aG (dS s)) ((n:Int) + 1) x:=⟨by omega,by omega⟩
  refine ⟨Qi t ht x hx,fun k=>rr.2.2.1 (by omega),by cases hs.gs.tb x oc; omega,fun k=>Bz (hs.gs.ok x oc) k,fun k=>List.length_pos_iff.2 (hlt k).2,fun k8 MJ=>?_,fun k10 f hf ha=>?_⟩
  ·rcases (kj k8 h0).1 hw with c | c
   ·omega
   ·exact ⟨c.2.1,by have:=c.2.2; omega⟩
  ·have c:=((mT k10 h0).1 hw).2 f hf ha
   exact ⟨c.1,by have:=c.2; omega⟩
 obtain ⟨q,hq⟩:∃ q,q = nO s (dS s) t:=⟨_,rfl⟩
 have zd:=hq
 unfold nO at zd
 rw [<- hq] at hE ⊢
 generalize hr:bm (aG (dS s)) t = r at *
 generalize hL:(bp s.defs t).1 = L at *
 generalize hes:dS s = es at *
 generalize hwe:gP s es n = w at *
 (repeat' (first | (refine iF (fun h=>?_) fun h=>?_)<;>try exact cX | refine bX ?_ | intro _))
 refine eX [.fZ [0,1,2,3,4,5,6]] (aN (by kernel_rfl) ?_)
 refine eX _ (aN (WO) ?_)
 (repeat' (first | (refine iF (fun h=>?_) fun h=>?_)<;>try exact cX | refine bX ?_ | intro _))
 refine eX [.take 0,.take 1,.take 2,.take 7,.fZ [3,4,5],.take 6] (aN (by kernel_rfl) ?_)
 refine eX _ (aN (H0) ?_)
 (repeat' (first | (refine iF (fun h=>?_) fun h=>?_)<;>try exact cX | refine bX ?_ | intro _))
 refine eX [] (eX [] (eX [] (eX (Nat × ab) (eX (fun u=>u.1<=L.length/\(u.2.kind = 0->u.2 = ⟨0,0,0,[],[],[],[]⟩/\L.find? (fun x=>bm (aG es) x == r) = (L.drop u.1).find? (fun x=>bm (aG es) x == r))/\(u.2.kind≠0->L.find? (fun x=>bm (aG es) x == r) = some u.2)) (eX (fun ⟨i,p⟩=>⟨[(0,.pt 1000 0),(4,.pt 4 0),(5,.i .i64 r),(6,.pt 6 0),(52,.rd .typ L),(53,.i .i64 L.length),(54,.i .i64 (i:Int))],[(1000,aq s++[.i .i64 (m + 1),.b false]),(4,[.i .i64 0,.i .i64 0,.i .u64 0,.s [],.nl,.nl]),(6,encTyp p)]⟩) (eX (fun u=>L.length - u.1) (eX (0,⟨0,0,0,[],[],[],[]⟩) (aN ⟨Nat.zero_le _,fun _=>⟨rfl,rfl⟩,fun h=>absurd rfl h⟩ (aN ?_ ?_)))))))))
 ·(repeat' (first | exact wA | exact Or.inl ((congrArg AV.b c3)) | refine aN ?_ ?_))
  all_goals exact Or.inr (Or.inl ⟨rfl,_,rfl⟩)
 rintro ⟨i,p⟩ ⟨hi,V7,UI⟩
 simp only at hi V7 UI
 refine aN (fun hz=>?_) (fun hz=>?_)
 ·have hi:=gd hz
  have hg:=cB (τ:=.typ) hi
  refine bN2 ?_
  rw [hg]
  have hx:=List.getElem_mem hi
  have hRi:=WQ _ hx
  have DS:=X6 _ hx
  by_cases k:p.kind = 0
  ·obtain ⟨g1,g2⟩:=V7 k
   (repeat' (first | (refine iF (fun h=>?_) fun h=>?_)<;>try exact cX | refine bX ?_ | intro _))
   refine eX [.fZ [0,1,2,3,4,5,6,7,8,9,10,11,12]] (aN (by kernel_rfl) ?_)
   (repeat' (first | (refine iF (fun h=>?_) fun h=>?_)<;>try exact cX | refine bX ?_ | intro _))
   refine eX _ (aN (hRi) ?_)
   by_cases e:bm (aG es) L[i] = r
   ·rw [zP (p:=fun x=>bm (aG es) x == r) hi (beq_iff_eq.2 e)] at g2
    (repeat' (first | (refine iF (fun h=>?_) fun h=>?_)<;>try exact cX | refine bX ?_ | intro _))
    refine eX [] (eX (i + 1,L[i]) (aN ⟨hi,fun h=>absurd h DS,fun _=>g2⟩ (aN ?_ ?_)))
    ·exact wK
    ·(exact Nat.sub_lt_sub_left (by omega) (by omega))
   ·rw [wI (p:=fun x=>bm (aG es) x == r) hi (beq_eq_false_iff_ne.2 e)] at g2
    (repeat' (first | (refine iF (fun h=>?_) fun h=>?_)<;>try exact cX | refine bX ?_ | intro _))
    refine eX [] (eX (i + 1,p) (aN ⟨hi,fun _=>⟨g1,g2⟩,fun h=>absurd k h⟩ (aN ?_ ?_)))
    ·exact wK
    ·(exact Nat.sub_lt_sub_left (by omega) (by omega))
  ·have g2:=UI k
   (repeat' (first | (refine iF (fun h=>?_) fun h=>?_)<;>try exact cX | refine bX ?_ | intro _))
   refine eX [.fZ [0,1,2,3,4,5,6,7,8,9,10,11,12]] (aN (by kernel_rfl) ?_)
   (repeat' (first | (refine iF (fun h=>?_) fun h=>?_)<;>try exact cX | refine bX ?_ | intro _))
   refine eX [] (eX (i + 1,p) (aN ⟨hi,fun h=>absurd h k,fun _=>g2⟩ (aN ?_ ?_)))
   ·exact wK
   ·(exact Nat.sub_lt_sub_left (by omega) (by omega))
 have hi:=ga hi hz
 have Za:p = q:=by
  rw [zd]
  by_cases k:p.kind = 0
  ·obtain ⟨g1,g2⟩:=V7 k
   rw [g2,List.drop_eq_nil_of_le (by omega),List.find?_nil,g1]
   rfl
  ·rw [UI k]
   rfl
 have LB:q.kind = 0\/(q ∈ L/\bm (aG es) q = r):=by
  rw [<- Za]
  by_cases k:p.kind = 0
  ·exact .inl k
  ·have:=UI k
   exact .inr ⟨List.mem_of_find?_eq_some this,by simpa using List.find?_some this⟩
 subst Za
 clear V7 UI hq zd
 by_cases k0:p.kind = 0
 ·have hE:R = (zeroV,m + 1,false):=by rw [hE]; unfold kr; rw [k0]; rfl
  rw [hE,show Pz p = false from decide_eq_false fun h=>by omega,show P7 p = false from decide_eq_false fun h=>by omega]
  (repeat' (first | (refine iF (fun h=>?_) fun h=>?_)<;>try exact cX | refine bX ?_ | intro _))
  refine eX [] (aN rfl wK)
 obtain ⟨H0,h6,MJ,h7,h8,h9,gQ⟩:=MO p (LB.resolve_left k0).1 (LB.resolve_left k0).2
 have Qv:p.kind≠8->Pz p = false:=fun h=>decide_eq_false fun c=>h c.1
 have MC:p.kind≠10->P7 p = false:=fun h=>decide_eq_false h
 unfold kr at hE
 by_cases k3:p.kind = 3
 ·rw [if_pos k3] at hE
  rw [hE,Qv (by omega),MC (by omega)]
  (repeat' (first | (refine iF (fun h=>?_) fun h=>?_)<;>try exact cX | refine bX ?_ | intro _))
  refine eX [] (aN rfl wK)
 rw [if_neg k3] at hE
 by_cases k4:p.kind = 4
 ·rw [if_pos k4] at hE
  rw [hE,Qv (by omega),MC (by omega)]
  by_cases c1:0 < p.lo
  ·by_cases c2:p.hi < 0
   ·rw [if_pos c2]
    (repeat' (first | (refine iF (fun h=>?_) fun h=>?_)<;>try exact cX | refine bX ?_ | intro _))
    refine eX [] (aN rfl wK)
   ·rw [if_neg c2,if_pos c1]
    (repeat' (first | (refine iF (fun h=>?_) fun h=>?_)<;>try exact cX | refine bX ?_ | intro _))
    refine eX [] (aN rfl wK)
  ·by_cases c2:p.hi < 0
   ·rw [if_pos c2]
    (repeat' (first | (refine iF (fun h=>?_) fun h=>?_)<;>try exact cX | refine bX ?_ | intro _))
    refine eX [] (aN rfl wK)
   ·rw [if_neg c2,if_neg c1]
    (repeat' (first | (refine iF (fun h=>?_) fun h=>?_)<;>try exact cX | refine bX ?_ | intro _))
    refine eX [] (aN rfl wK)
 rw [if_neg k4] at hE
 by_cases k5:p.kind = 5
 ·rw [if_pos k5] at hE
  rw [hE,Qv (by omega),MC (by omega)]
  (repeat' (first | (refine iF (fun h=>?_) fun h=>?_)<;>try exact cX | refine bX ?_ | intro _))
  refine eX [] (aN rfl wK)
 rw [if_neg k5] at hE
 by_cases k6:p.kind = 6
 ·rw [if_pos k6] at hE
  by_cases c:4000 < p.lo
  ·rw [if_pos c] at hE
   rw [hE,Qv (by omega),MC (by omega)]
   (repeat' (first | (refine iF (fun h=>?_) fun h=>?_)<;>try exact cX | refine bX ?_ | intro _))
   refine eX [] (aN rfl wK)
  ·rw [if_neg c] at hE
   have h6:=h6 k6
   rw [hE,Qv (by omega),MC (by omega)]
   (repeat' (first | (refine iF (fun h=>?_) fun h=>?_)<;>try exact cX | refine bX ?_ | intro _))
   refine eX [] (eX [] (eX [] (eX Nat (eX (fun i=>(i:Int)<=p.lo) (eX (fun i=>⟨[(4,.pt 4 0),(10,.s (List.replicate i 97)),(107,.i .i64 p.lo),(108,.i .i64 (i:Int))],[(1000,aq s++[.i .i64 (m + 1),.b false]),(4,[.i .i64 0,.i .i64 0,.i .u64 0,.s [],.nl,.nl])]⟩) (eX (fun i=>p.lo.toNat - i) (eX 0 (aN (by show (0:Int)<=p.lo; omega) (aN ?_ ?_)))))))))
   ·exact wK
   rintro i hi
   by_cases c2:(i:Int) < p.lo
   ·(repeat' (first | (refine iF (fun h=>?_) fun h=>?_)<;>try exact cX | refine bX ?_ | intro _))
    refine aN (show (List.replicate i (97:UInt8)).length + 1<=maxLen by rw [List.length_replicate]; unfold maxLen; omega) ?_
    (repeat' (first | (refine iF (fun h=>?_) fun h=>?_)<;>try exact cX | refine bX ?_ | intro _))
    refine eX [] (eX (i + 1) (aN (by show ((i + 1:Nat):Int)<=p.lo; omega) (aN ?_ ?_)))
    ·(repeat' (first | exact wA | exact Or.inl ((congrArg AV.s (show List.replicate i (97:UInt8)++[97] = List.replicate (i + 1) 97 from List.replicate_succ'.symm))) | refine aN ?_ ?_))
    ·show p.lo.toNat - (i + 1) < p.lo.toNat - i
     omega
   ·have Ai:i = p.lo.toNat:=by omega
    rw [<- Ai]
    (repeat' (first | (refine iF (fun h=>?_) fun h=>?_)<;>try exact cX | refine bX ?_ | intro _))
    refine eX [] (aN rfl wK)
 rw [if_neg k6] at hE
 by_cases k7:p.kind = 7
 ·rw [if_pos k7] at hE
  have h7:=h7 k7
  rw [hE,Qv (by omega),MC (by omega)]
  (repeat' (first | (refine iF (fun h=>?_) fun h=>?_)<;>try exact cX | refine bX ?_ | intro _))
  refine eX [] (aN rfl wK)
 rw [if_neg k7] at hE
 by_cases k8:p.kind = 8
 ·rw [if_pos k8] at hE
  rw [MC (by omega)]
  have US:=h8 k8
  obtain ⟨Xw,hU⟩:=H0.i8 k8
  have h9:=h9 k8
  by_cases c200:200 < p.lo
  ·rw [if_pos c200] at hE
   rw [hE,show Pz p = false from decide_eq_false fun c=>by omega]
   (repeat' (first | (refine iF (fun h=>?_) fun h=>?_)<;>try exact cX | refine bX ?_ | intro _))
   refine eX [] (aN rfl ?_)
   exact wK
  rw [if_neg c200] at hE
  rw [show Pz p = true from decide_eq_true ⟨k8,by omega⟩]
  generalize hy:p.t.getD 0 (aD .typ) = y at *
  obtain ⟨SL,T2⟩:∃ SL,SL = jV w y p.lo.toNat [] (m + 1) false:=⟨_,rfl⟩
  rw [<- T2] at hE
  (repeat' (first | (refine iF (fun h=>?_) fun h=>?_)<;>try exact cX | refine bX ?_ | intro _))
  refine eX [] (eX [(11,4,97,.val)] (eX [] (eX (Nat × List aT × Int × Bool) (eX (fun u=>(u.1:Int)<=p.lo/\SL = jV w y (p.lo.toNat - u.1) u.2.1 u.2.2.1 u.2.2.2/\0<=u.2.2.1/\(u.2.2.2 = false->u.2.2.1<=2000)/\u.2.2.1<=2001 + 200 * n + u.1/\u.2.1.length<=u.1) (eX (fun ⟨i,acc,m,g⟩=>⟨[(0,.pt 1000 0),(4,.pt 4 0),(6,.pt 6 0),(11,.pt 11 0),(133,.i .i64 p.lo),(134,.i .i64 (i:Int))],[(1000,aq s++[.i .i64 m,.b g]),(4,[.i .i64 0,.i .i64 0,.i .u64 0,.s [],.nl,.nl]),(6,encTyp p),(11,[.i .i64 5,.i .i64 0,.i .u64 0,.s [],.vec 97 .val acc,.nl])]⟩) (eX (fun u=>p.lo.toNat - u.1) (eX (0,[],m + 1,false) (aN ⟨Xw,T2,by show 0<=m + 1; omega,fun h=>cm,by show m + 1<=2001 + 200 * (n:Int) + ((0:Nat):Int); omega,Nat.le_refl _⟩ (aN ?_ ?_)))))))))
  ·exact wK
  rintro ⟨i,acc,m1,g⟩ ⟨hi,hI,h0,ya,Qy,qq⟩
  simp only at hi hI h0 ya Qy qq
  by_cases c:(i:Int) < p.lo
  ·obtain ⟨k,hk⟩:∃ k,p.lo.toNat - i = k + 1:=⟨p.lo.toNat - i - 1,by omega⟩
   have tT:p.lo.toNat - (i + 1) = k:=by omega
   rw [hk,jV,<- tT] at hI
   have hh:=ih y m1 g hU (h9 (by omega)).1 (h9 (by omega)).2 h0 (by omega) ya
   obtain ⟨b1,b2,b3,b4,b5⟩:=hK.any (by omega) hU g h0 ya
   have b6:(w y m1 g).2.1<=2001 + 200 * (n:Int) + ((i + 1:Nat):Int):=by split at b2<;>omega
   generalize w y m1 g = v at hh hI b1 b3 b6
   rw [<- hy] at hh
   (repeat' (first | (refine iF (fun h=>?_) fun h=>?_)<;>try exact cX | refine bX ?_ | intro _))
   refine eX [.take 0,.take 2,.take 3,.tree 6 [1,4,5,6,7,8] (.opt 1 (.opt 4 (.opt 5 (.opt 6 (.opt 7 (.opt 8 .fin .aZ) .aZ) .aZ) .aZ) .aZ) (.opt 4 (.opt 1 (.opt 5 (.opt 6 (.opt 7 (.opt 8 .fin .aZ) .aZ) .aZ) .aZ) (.opt 5 (.opt 1 (.opt 6 (.opt 7 (.opt 8 .fin .aZ) .aZ) .aZ) (.opt 6 (.opt 1 (.opt 7 (.opt 8 .fin .aZ) .aZ) (.opt 7 (.opt 1 (.opt 8 .fin .aZ) (.opt 8 (.opt 1 .fin .aZ) .aZ)) .aZ)) .aZ)) .aZ)) .aZ)),.one 9,.take 10,.one 11] (aN (by kernel_rfl) ?_)
   refine eX ⟨[(0,.pt 1000 0),(4,.pt 4 0),(6,.pt 6 0),(11,.pt 11 0),(133,.i .i64 p.lo),(134,.i .i64 (i:Int)),(137,.vec 97 .val acc),(144,.vec 144 .val [v.1])],[(1000,aq s++[.i .i64 v.2.1,.b v.2.2]),(4,[.i .i64 0,.i .i64 0,.i .u64 0,.s [],.nl,.nl]),(6,encTyp p),(11,[.i .i64 5,.i .i64 0,.i .u64 0,.s [],.vec 97 .val acc,.nl])]⟩ (aN ?_ ?_)
   ·repeat' first
     | exact trivial
     | exact Or.inl rfl
     | refine aN ⟨show (0:Int)<=0 by decide,show (0:Int) < (p.t.length:Int) by omega⟩ ?_
     | refine aN ?_ ?_
     |
      refine Or.inr (Or.inl (eX [] (eX _ (eX _ (eX _ (eX _ (eX _ (eX [(1000,1000)] (aN (hh) ?_)))))))))
      refine (aN rfl (aN rfl (aN rfl (aN rfl (aN rfl ?_)))))
    all_goals first | exact Or.inl (congrArg (fun z=>AV.vec 144 .val [z]) (sJ v.1)) | rfl | ((conv=>whnf); trace_state)
   refine aN (show (acc.length + 1) * 88<=140737488355328 by omega) ?_
   (repeat' (first | (refine iF (fun h=>?_) fun h=>?_)<;>try exact cX | refine bX ?_ | intro _))
   refine eX [(145,97)] (eX (i + 1,acc++[v.1],v.2.1,v.2.2) (aN ⟨by simp only; omega,hI,by simp only; omega,b3,b6,by simp only [List.length_append,List.length_cons,List.length_nil]; omega⟩ (aN ?_ ?_)))
   ·exact wK
   ·show p.lo.toNat - (i + 1) < p.lo.toNat - i
    omega
  ·(repeat' (first | (refine iF (fun h=>?_) fun h=>?_)<;>try exact cX | refine bX ?_ | intro _))
   rw [show p.lo.toNat - i = 0 by omega,jV] at hI
   rw [hE,hI]
   refine eX [] (aN rfl wK)
 rw [if_neg k8] at hE
 rw [Qv k8]
 by_cases k9:p.kind = 9
 ·rw [if_pos k9] at hE
  rw [hE,MC (by omega)]
  (repeat' (first | (refine iF (fun h=>?_) fun h=>?_)<;>try exact cX | refine bX ?_ | intro _))
  refine eX [] (aN rfl wK)
 rw [if_neg k9] at hE
 by_cases k10:p.kind = 10
 ·rw [if_pos k10] at hE
  rw [show P7 p = true from decide_eq_true k10]
  have gQ:=gQ k10
  have hU:=H0.f
  have Io:=H0.n
  obtain ⟨SR,T3⟩:∃ SR,SR = mK w p.f [] (m + 1) false:=⟨_,rfl⟩
  rw [<- T3] at hE
  (repeat' (first | (refine iF (fun h=>?_) fun h=>?_)<;>try exact cX | refine bX ?_ | intro _))
  refine eX [] (eX [(12,5,98,.dZ)] (eX [] (eX (Nat × List kA × Int × Bool) (eX (fun u=>u.1<=p.f.length/\SR = mK w (p.f.drop u.1) u.2.1 u.2.2.1 u.2.2.2/\0<=u.2.2.1/\(u.2.2.2 = false->u.2.2.1<=2000)/\u.2.2.1<=2001 + 200 * n + u.1/\u.2.1.length<=u.1) (eX (fun ⟨i,acc,m,g⟩=>⟨[(0,.pt 1000 0),(4,.pt 4 0),(12,.pt 12 0),(156,.rd .eJ p.f),(157,.i .i64 p.f.length),(158,.i .i64 (i:Int))],[(1000,aq s++[.i .i64 m,.b g]),(4,[.i .i64 0,.i .i64 0,.i .u64 0,.s [],.nl,.nl]),(12,[.i .i64 6,.i .i64 0,.i .u64 0,.s [],.nl,.vec 98 .dZ acc])]⟩) (eX (fun u=>p.f.length - u.1) (eX (0,[],m + 1,false) (aN ⟨Nat.zero_le _,T3,by show 0<=m + 1; omega,fun _=>cm,by show m + 1<=2001 + 200 * (n:Int) + ((0:Nat):Int); omega,Nat.le_refl _⟩ (aN ?_ ?_)))))))))
  ·exact wK
  rintro ⟨i,acc,m1,g⟩ ⟨hi,hI,h0,ya,Qy,qq⟩
  simp only at hi hI h0 ya Qy qq
  refine aN (fun hz=>?_) (fun hz=>?_)
  ·have hi:=gd hz
   have hg:=cB (τ:=.eJ) hi
   refine bN2 ?_
   rw [hg]
   have hf:=List.getElem_mem hi
   have WS:=hU _ hf
   have HX:=gQ _ hf
   rw [Bo hi] at hI
   generalize p.f[i] = f at hI WS HX ⊢
   have hh:=fun h1 h2=>ih f.t m1 g WS h1 h2 h0 (by omega) ya
   obtain ⟨b1,b2,b3,b4,b5⟩:=hK.any (by omega) WS g h0 ya
   have b6:(w f.t m1 g).2.1<=2001 + 200 * (n:Int) + ((i + 1:Nat):Int):=by split at b2<;>omega
   generalize hv:w f.t m1 g = v at hh hI b1 b3 b6
   obtain ⟨fn,fo,fh,ft,fd⟩:=f
   unfold gM at hI HX
   dsimp only at hI HX hh
   cases fo<;>cases fh
   ·rw [if_pos (show (!false && !false) = true from rfl)] at hI
    have hh:=hh (HX rfl).1 (HX rfl).2
    (repeat' (first | (refine iF (fun h=>?_) fun h=>?_)<;>try exact cX | refine bX ?_ | intro _))
    refine eX [.take 0,.take 2,.take 4,.take 5,.tree 6 [1,3,6,7,8,9] (.opt 1 (.opt 3 (.opt 6 (.opt 7 (.opt 8 (.opt 9 .fin .aZ) .aZ) .aZ) .aZ) (.opt 6 (.opt 3 (.opt 7 (.opt 8 (.opt 9 .fin .aZ) .aZ) .aZ) (.opt 7 (.opt 3 (.opt 8 (.opt 9 .fin .aZ) .aZ) .aZ) .aZ)) .aZ)) (.opt 3 (.opt 1 (.opt 6 (.opt 7 (.opt 8 (.opt 9 .fin .aZ) .aZ) .aZ) .aZ) (.opt 6 (.opt 1 (.opt 7 (.opt 8 (.opt 9 .fin .aZ) .aZ) .aZ) (.opt 7 (.opt 1 (.opt 8 (.opt 9 .fin .aZ) .aZ) (.opt 8 (.opt 1 (.opt 9 .fin .aZ) (.opt 9 (.opt 1 .fin .aZ) .aZ)) .aZ)) .aZ)) .aZ)) (.opt 6 (.opt 1 (.opt 3 (.opt 7 (.opt 8 (.opt 9 .fin .aZ) .aZ) .aZ) (.opt 7 (.opt 3 (.opt 8 (.opt 9 .fin .aZ) .aZ) .aZ) .aZ)) (.opt 3 (.opt 1 (.opt 7 (.opt 8 (.opt 9 .fin .aZ) .aZ) .aZ) (.opt 7 (.opt 1 (.opt 8 (.opt 9 .fin .aZ) .aZ) (.opt 8 (.opt 1 (.opt 9 .fin .aZ) (.opt 9 (.opt 1 .fin .aZ) .aZ)) .aZ)) .aZ)) (.opt 7 (.opt 1 (.opt 3 (.opt 8 (.opt 9 .fin .aZ) .aZ) .aZ) (.opt 3 (.opt 1 (.opt 8 (.opt 9 .fin .aZ) .aZ) (.opt 8 (.opt 1 (.opt 9 .fin .aZ) (.opt 9 (.opt 1 .fin .aZ) .aZ)) .aZ)) .aZ)) .aZ))) .aZ))),.one 10,.take 11,.one 12] (aN (by kernel_rfl) ?_)
    refine eX ⟨[(0,.pt 1000 0),(4,.pt 4 0),(12,.pt 12 0),(156,.rd .eJ p.f),(157,.i .i64 p.f.length),(158,.i .i64 (i:Int)),(171,.vec 98 .dZ acc),(179,.vec 179 .dZ [(fn,v.1)])],[(1000,aq s++[.i .i64 v.2.1,.b v.2.2]),(4,[.i .i64 0,.i .i64 0,.i .u64 0,.s [],.nl,.nl]),(12,[.i .i64 6,.i .i64 0,.i .u64 0,.s [],.nl,.vec 98 .dZ acc])]⟩ (aN ?_ ?_)
    ·repeat' first
      | exact trivial
      | exact Or.inl rfl
      | refine aN ?_ ?_
      |
       refine Or.inr (Or.inl (eX [] (eX _ (eX _ (eX _ (eX _ (eX _ (eX [(1000,1000)] (aN (hh) ?_)))))))))
       refine (aN rfl (aN rfl (aN rfl (aN rfl (aN rfl ?_)))))
     all_goals first | exact Or.inl (congrArg (fun z=>AV.vec 179 .dZ [(fn,z)]) (sJ v.1)) | rfl | ((conv=>whnf); trace_state)
    refine aN (show (acc.length + 1) * 104<=140737488355328 by omega) ?_
    (repeat' (first | (refine iF (fun h=>?_) fun h=>?_)<;>try exact cX | refine bX ?_ | intro _))
    refine eX [(180,98)] (eX (i + 1,acc++[(fn,v.1)],v.2.1,v.2.2) (aN ⟨hi,hI,by simp only; omega,b3,b6,by simp only [List.length_append,List.length_cons,List.length_nil]; omega⟩ (aN ?_ ?_)))
    ·exact wK
    ·(exact Nat.sub_lt_sub_left (by omega) (by omega))
   all_goals
    rw [if_neg (by simp)] at hI
    (repeat' (first | (refine iF (fun h=>?_) fun h=>?_)<;>try exact cX | refine bX ?_ | intro _))
    refine eX [] (eX (i + 1,acc,m1,g) (aN ⟨hi,hI,h0,ya,by simp only; omega,by simp only; omega⟩ (aN ?_ ?_)))
    ·exact wK
    ·(exact Nat.sub_lt_sub_left (by omega) (by omega))
  ·have hi:=ga hi hz
   rw [List.drop_eq_nil_of_le (by omega),mK] at hI
   rw [hE,hI]
   (repeat' (first | (refine iF (fun h=>?_) fun h=>?_)<;>try exact cX | refine bX ?_ | intro _))
   refine eX [] (aN rfl wK)
 ·rw [if_neg k10] at hE
  rw [hE,MC k10]
  (repeat' (first | (refine iF (fun h=>?_) fun h=>?_)<;>try exact cX | refine bX ?_ | intro _))
  refine eX [] (aN rfl wK)
theorem Ge (s:SchemaR) (hs:SF s) (FC:(aW s).length<=60) (n:Nat) (hn:n<=20000) (t:ab) (ht:dz s t) (m:Int) (g:Bool) (vN:0<=m) (Ao:m<=1000000000) (hg:g = false->m<=2000) (ih:∀ y m g,dz s y->0 < bm (aG (dS s)) y->bm (aG (dS s)) y<=n->0<=m->m<=1000000000->(g = false->m<=2000)->bx Tryz.prog 10 [.pt 1000 0,.agg (encTyp y)] [(1000,aq s++[.i .i64 m,.b g])] (.agg (ai (gP s (dS s) n y m g).1)) [(1000,aq s++[.i .i64 (gP s (dS s) n y m g).2.1,.b (gP s (dS s) n y m g).2.2])]) (pj:0 < bm (aG (dS s)) t) (hle:bm (aG (dS s)) t<=n + 1):bx Tryz.prog 10 [.pt 1000 0,.agg (encTyp t)] [(1000,aq s++[.i .i64 m,.b g])] (yB (GJ m g && Pz (nO s (dS s) t)) (GJ m g && P7 (nO s (dS s) t)) (gP s (dS s) (n + 1) t m g).1) [(1000,aq s++[.i .i64 (gP s (dS s) (n + 1) t m g).2.1,.b (gP s (dS s) (n + 1) t m g).2.2])] :=
 bL aa Tryz.func10 rfl Tryz.call10 Tryz.results10 Tryz.ntmps10 (Nat.le_of_ble_eq_true rfl) (Nat.le_of_ble_eq_true rfl) (by rfl) (Gs s hs FC n hn t ht m g vN Ao hg ih pj hle)
end
end Go.Proofs.YtiijpgmpnijidaaGreatDoor
end
section
namespace Go.Proofs.YtiijpgmpnijidaaGreatDoor
open Go Go.SX Go.Ck Go.Vl Go.Ut Go.Ty
set_option maxRecDepth 100000
set_option maxHeartbeats 8000000
open Go.Df (nd nd_pos nd_eq)
section
variable [G:Globs]
theorem rJ (s:SchemaR) (hs:SF s) (FC:(aW s).length<=60):∀ (n:Nat) (t:ab) (m:Int) (g:Bool),n<=20000->dz s t->0 < bm (aG (dS s)) t->bm (aG (dS s)) t<=n->0<=m->m<=1000000000->(g = false->m<=2000)->bx Tryz.prog 10 [.pt 1000 0,.agg (encTyp t)] [(1000,aq s++[.i .i64 m,.b g])] (.agg (ai (gP s (dS s) n t m g).1)) [(1000,aq s++[.i .i64 (gP s (dS s) n t m g).2.1,.b (gP s (dS s) n t m g).2.2])]
 | 0,t,m,g,_,_,hp,hn,_,_,_=>absurd hn (by omega)
 | n + 1,t,m,g,Io,ht,hp,hn,vN,Ao,hg=>by
  have h:=Ge s hs FC n (by omega) t ht m g vN Ao hg (fun y m g h1 h2 h3 h4 h5 h6=>rJ s hs FC n y m g (by omega) h1 h2 h3 h4 h5 h6) hp (by omega)
  unfold yB at h
  have hE:gP s (dS s) (n + 1) t m g = if g = true\/2000 < m + 1 then (zeroV,m + 1,true) else kr (gP s (dS s) n) (nO s (dS s) t) (m + 1):=xp ..
  have key:(GJ m g = false->(gP s (dS s) (n + 1) t m g).1 = zeroV)/\(GJ m g = true->gP s (dS s) (n + 1) t m g = kr (gP s (dS s) n) (nO s (dS s) t) (m + 1)):=by
   unfold GJ
   cases g with
   | true=>exact ⟨fun _=>by rw [hE,if_pos (.inl rfl)],fun h=>Bool.noConfusion (show false = true from h)⟩
   | false =>
    by_cases c:m + 1<=2000
    ·exact ⟨fun h=>absurd (show decide (m + 1<=2000) = false from h) (by simp [c]),fun _=>by rw [hE,if_neg (by simp; omega)]⟩
    ·exact ⟨fun _=>by rw [hE,if_pos (.inr (by omega))],fun h=>absurd (show decide (m + 1<=2000) = true from h) (by simp; omega)⟩
  refine h.zg ⟨.inl rfl,.inl rfl,.inl rfl,.inl rfl,?_,?_,trivial⟩
  ·cases e:GJ m g with
   | false=>rw [Bool.false_and,if_neg Bool.noConfusion,key.1 e]; exact .inr ⟨rfl,_,rfl⟩
   | true =>
    rw [Bool.true_and]
    by_cases k:(nO s (dS s) t).kind = 8/\(nO s (dS s) t).lo<=200
    ·rw [show Pz (nO s (dS s) t) = true from decide_eq_true k,if_pos rfl]; exact .inl rfl
    ·rw [show Pz (nO s (dS s) t) = false from decide_eq_false k,if_neg Bool.noConfusion,key.2 e,EB.1 k]; exact .inr ⟨rfl,_,rfl⟩
  ·cases e:GJ m g with
   | false=>rw [Bool.false_and,if_neg Bool.noConfusion,key.1 e]; exact .inr ⟨rfl,_,rfl⟩
   | true =>
    rw [Bool.true_and]
    by_cases k:(nO s (dS s) t).kind = 10
    ·rw [show P7 (nO s (dS s) t) = true from decide_eq_true k,if_pos rfl]; exact .inl rfl
    ·rw [show P7 (nO s (dS s) t) = false from decide_eq_false k,if_neg Bool.noConfusion,key.2 e,EB.2 k]; exact .inr ⟨rfl,_,rfl⟩
noncomputable def gT (s:SchemaR):yX:=sF s (dS s) 20000 s.root 0 false
noncomputable def vd (s:SchemaR):aT × Int:=if fk s≠0 then (zeroV,fk s) else if bm (aG (dS s)) s.root = 0 then (zeroV,8) else if (gT s).2.2 = true\/(dE (gT s).1 0 0).1≠0 then (zeroV,2) else ((gT s).1,0)
theorem JC {s:SchemaR} (hs:SF s):bm (aG (dS s)) s.root<=20000:=by
 obtain ⟨hF,hS⟩:=hs.dS
 have h0:=hF.w.so.1
 by_cases z:0 < bm (aG (dS s)) s.root
 ·have h1:=(xh (A:=10050) h0 (mj hF hs.n (Nat.le_refl _)) (by decide) _ s.root (Nat.lt_succ_self _) (hs.gt _ (eb s)) z).2
  obtain ⟨p,hp,e⟩:=eb s
  have h2:=sH p hp
  have h3:=hs.all
  have h4:gK s.root<=(aW s).length:=by
   have:(aW s).length = (s.defs.flatMap fun d=>bK d.t 0).length + gK s.root:=List.length_append
   omega
  omega
 ·omega
theorem vg {s:SchemaR} (hs:SF s):VB (gT s).1/\(cu (gT s).1).2<=10000000:=by
 have Qi:∀ t,dz s t->∀ x ∈ (bp s.defs t).1,jz (dz s) x:=fun t ht x hx=>by
  obtain ⟨_,oc⟩:=hs.gs.parts ht x hx
  exact sy (fun t ht=>fe ht) oc (hs.gs.ok x oc) (by cases hs.gs.tb x oc; omega)
 have hK:Dl (dz s) (200 * (20000:Nat)) (sF s (dS s) 20000):=vb _ _ Qi 20000
 obtain ⟨b1,b2,b3,b4,b5⟩:=hK.many s.root 0 (eb s) (by decide) (by decide)
 refine ⟨b5,?_⟩
 have b4:(cu (gT s).1).2<=(sF s (dS s) 20000 s.root 0 false).2.1 - 0:=b4
 omega
theorem OW (hu:HasU8) (s:SchemaR) (hd:∀ d ∈ s.defs,TB d.t) (hr:TB s.root) (hn:s.defs.length<=2000000):vc Tryz.prog (Γ.kp 58) 41 [1,2,3,4,5,6,10,16,24,38] (Tryz.f6.body.getD .skip) (aQ (Γ.kp 58) [.cell 2 38,.tmp 3] (fun v=>RL v (.bc [.agg (ai (vd s).1),.i .i64 (vd s).2]))) ⟨ae 0 [.agg (aq s)],[]⟩:=by
 obtain ⟨R,hR⟩:∃ R,R = vd s:=⟨_,rfl⟩
 have hE:=hR
 unfold vd at hE
 rw [<- hR]
 have hf:=uY hu s hd hr hn
 by_cases h:fk s = 0
 rotate_left
 ·rw [if_pos h] at hE
  generalize fk s = e at *
  rw [hE]
  refine Or.inl (eX _ (aN (hf) ?_))
  (repeat' (first | (refine iF (fun h=>?_) fun h=>?_)<;>try exact cX | refine bX ?_ | intro _))
  exact rL
 rw [if_neg (fun c=>c h)] at hE
 have hs:=Kc hd hr h
 obtain ⟨hF,hS⟩:=hs.dS
 have h0:=hF.w.so.1
 have h1:=mj hF hs.n (Nat.le_refl _)
 have hK:=Ez s 201 (fun d hd=>hs.gt _ (gx hd)) hs.nm hs.Ts (Nat.le_refl _) hs.n
 have H3:=kR (l:=s.defs) s (dS s) h0 h1 _ s.root (Nat.lt_succ_self _) (hs.gt _ (eb s)) (by have:=hs.gs.num (eb s); omega)
 rw [h] at hf
 refine Or.inl (eX _ (aN (hf) ?_))
 (repeat' (first | (refine iF (fun h=>?_) fun h=>?_)<;>try exact cX | refine bX ?_ | intro _))
 refine Or.inr (Or.inl (eX [] (eX _ (eX _ (eX _ (eX _ (eX _ (eX [(11,24),(9,38)] (aN (hK) ?_)))))))))
 refine (aN rfl (aN rfl (aN rfl (aN rfl ?_))))
 (repeat' (first | (refine iF (fun h=>?_) fun h=>?_)<;>try exact cX | refine bX ?_ | intro _))
 refine eX [.fZ [0,1,2,3,4,5],.one 6,.take 7] (aN (by kernel_rfl) ?_)
 refine Or.inr (Or.inl (eX [] (eX _ (eX _ (eX _ (eX _ (eX _ (eX [(1000,24),(1002,38)] (aN (H3) ?_)))))))))
 refine (aN rfl (aN rfl (aN rfl (aN rfl (aN rfl ?_)))))
 by_cases z:bm (aG (dS s)) s.root = 0
 ·rw [if_pos z] at hE
  rw [hE]
  (repeat' (first | (refine iF (fun h=>?_) fun h=>?_)<;>try exact cX | refine bX ?_ | intro _))
  exact rL
 rw [if_neg z] at hE
 have hz:=lH h0 s.root
 have hV:=vB s hs (dS s) h0 h1 20000 s.root 0 false (Nat.le_refl _) (eb s) (by omega) (JC hs) (by decide) (by decide) (fun _=>by decide)
 obtain ⟨f1,f2⟩:=vg hs
 have hC:=Eu hu (gT s).1 f1 (by omega)
 have hV:bx Tryz.prog 16 [.pt 1000 0,.agg (encTyp s.root)] [(1000,[.pt 1001 0,.i .i64 0,.b false]),(1001,lG s (dS s))] (.agg (ai (gT s).1)) [(1000,[.pt 1001 0,.i .i64 (gT s).2.1,.b (gT s).2.2]),(1001,lG s (dS s))]:=hV
 generalize gT s = v at *
 obtain ⟨v1,v2,v3⟩:=v
 generalize (dE v1 0 0).1 = cv at *
 (repeat' (first | (refine iF (fun h=>?_) fun h=>?_)<;>try exact cX | refine bX ?_ | intro _))
 refine Or.inr (Or.inl (eX [] (eX _ (eX _ (eX _ (eX _ (eX _ (eX [(1000,16),(1001,24),(1002,38)] (aN (hV) ?_)))))))))
 refine (aN rfl (aN rfl (aN rfl (aN rfl (aN rfl (aN rfl ?_))))))
 cases v3 with
 | true =>
  rw [if_pos (.inl rfl)] at hE
  rw [hE]
  (repeat' (first | (refine iF (fun h=>?_) fun h=>?_)<;>try exact cX | refine bX ?_ | intro _))
  exact rL
 | false =>
  by_cases cz:cv = 0
  ·rw [if_neg (fun h=>h.elim (fun h=>Bool.noConfusion h) (fun h=>h cz))] at hE
   rw [hE]
   rw [cz] at hC
   (repeat' (first | (refine iF (fun h=>?_) fun h=>?_)<;>try exact cX | refine bX ?_ | intro _))
   refine Or.inl (eX _ (aN (hC) ?_))
   (repeat' (first | (refine iF (fun h=>?_) fun h=>?_)<;>try exact cX | refine bX ?_ | intro _))
   exact rL
  ·rw [if_pos (.inr cz)] at hE
   rw [hE]
   (repeat' (first | (refine iF (fun h=>?_) fun h=>?_)<;>try exact cX | refine bX ?_ | intro _))
   refine Or.inl (eX _ (aN (hC) ?_))
   (repeat' (first | (refine iF (fun h=>?_) fun h=>?_)<;>try exact cX | refine bX ?_ | intro _))
   exact rL
theorem NG (hu:HasU8) (s:SchemaR) (hd:∀ d ∈ s.defs,TB d.t) (hr:TB s.root) (hn:s.defs.length<=2000000):ar Tryz.prog 6 [.agg (aq s)] (.bc [.agg (ai (vd s).1),.i .i64 (vd s).2]) :=
 ee (Ctx.aO aa 58) Tryz.func6 rfl Tryz.call6 Tryz.results6 Tryz.ntmps6 (Nat.le_of_ble_eq_true rfl) (OW hu s hd hr hn)
end
end Go.Proofs.YtiijpgmpnijidaaGreatDoor
end
section
namespace Go.Proofs.YtiijpgmpnijidaaGreatDoor
open Go Go.SX Go.Ck Go.Vl Go.Ut Go.Ty
set_option maxRecDepth 100000
set_option maxHeartbeats 8000000
def qW (l:List ab):ab:=⟨11,0,0,[],l,[],[]⟩
theorem BH:VB zeroV:=.mk _ (by decide) (by decide) (by decide) (fun _ h=>nomatch h) (fun _ h=>nomatch h)
section
variable [G:Globs]
theorem Lb (s:SchemaR) (n:Int) (l:List ab) (hd:∀ d ∈ s.defs,TB d.t) (hl:∀ t ∈ l,TB t) (oa:l.length<=2000000) (hn:s.defs.length<=2000000):vc Tryz.prog Γ 22 [1,2,3,6,7] (Tryz.f4.body.getD .skip) (aQ Γ [.tmp 6] (fun v=>v = .b (decide ((((aW ⟨s.defs,qW l⟩).take 201).length:Int)<=n)))) ⟨ae 0 [.agg (aq s),.i .i64 n,.rd .typ l],[]⟩:=by
 have hG:=yG ⟨s.defs,qW l⟩ hd (.mk (qW l) (show (-9223372036854775808:Int)<=11/\(11:Int)<=9223372036854775807 by decide) (show (-9223372036854775808:Int)<=0/\(0:Int)<=9223372036854775807 by decide) (show (-9223372036854775808:Int)<=0/\(0:Int)<=9223372036854775807 by decide) ⟨Nat.zero_le _,oa,Nat.zero_le _⟩ (fun _ h=>nomatch h) hl (fun _ h=>nomatch h)) hn
 have Fz:(((aW ⟨s.defs,qW l⟩).take 201).map (·.t)).length = ((aW ⟨s.defs,qW l⟩).take 201).length:=List.length_map ..
 generalize (aW ⟨s.defs,qW l⟩).take 201 = A at *
 have hG:=ar.arg (args':=[.agg [.rd .dfn s.defs,.i .i64 11,.i .i64 0,.i .i64 0,.nl,.rd .typ l,.nl,.s []]]) hG (by exact rL)
 (repeat' (first | (refine iF (fun h=>?_) fun h=>?_)<;>try exact cX | refine bX ?_ | intro _))
 refine Or.inl (eX _ (aN (hG) ?_))
 (repeat' (first | (refine iF (fun h=>?_) fun h=>?_)<;>try exact cX | refine bX ?_ | intro _))
 rw [Fz]
 rfl
theorem JU (s:SchemaR) (n:Int) (l:List ab) (hd:∀ d ∈ s.defs,TB d.t) (hl:∀ t ∈ l,TB t) (oa:l.length<=2000000) (hn:s.defs.length<=2000000):ar Tryz.prog 4 [.agg (aq s),.i .i64 n,.rd .typ l] (.b (decide ((((aW ⟨s.defs,qW l⟩).take 201).length:Int)<=n))) :=
 ah aa Tryz.func4 rfl Tryz.call4 Tryz.results4 Tryz.ntmps4 (Nat.le_of_ble_eq_true rfl) (Lb s n l hd hl oa hn)
theorem LK (s:SchemaR):(aW ⟨s.defs,qW [s.root]⟩).length = (aW s).length + 1:=by
 have h2:(aW ⟨s.defs,qW [s.root]⟩).length = (s.defs.flatMap fun d=>bK d.t 0).length + gK (qW [s.root]):=List.length_append
 have h3:(aW s).length = (s.defs.flatMap fun d=>bK d.t 0).length + gK s.root:=List.length_append
 have h4:gK (qW [s.root]) = gK s.root + 1:=by
  rw [vu]
  show cP [s.root] + 1 = _
  rw [dt]
  rfl
 omega
theorem Gt (hu:HasU8) (s:SchemaR) (hd:∀ d ∈ s.defs,TB d.t) (hr:TB s.root) (hn:s.defs.length<=2000000):vc Tryz.prog (Γ.kp 46) 98 [1,2,3,4,5,6,7,8,9,10,16,30,58,60,70,83] (Tryz.f3.body.getD .skip) (aQ (Γ.kp 46) [.tmp 2] (fun v=>v = .b true)) ⟨ae 0 [.agg (aq s)],[]⟩:=by
 have hS:ar Tryz.prog 4 [.agg (aq s),.i .i64 60,.rd .typ [⟨s.root.kind,s.root.lo,s.root.hi,s.root.texts,s.root.t,s.root.f,s.root.name⟩]] (.b (decide ((((aW ⟨s.defs,qW [s.root]⟩).take 201).length:Int)<=60))):=by
  rw [zJ]
  exact JU s 60 [s.root] hd (fun t h=>by rw [List.mem_singleton.1 h]; exact hr) (by show 1<=_; omega) hn
 by_cases sm:(((aW ⟨s.defs,qW [s.root]⟩).take 201).length:Int)<=60
 rotate_left
 ·rw [decide_eq_false sm] at hS
  (repeat' (first | (refine iF (fun h=>?_) fun h=>?_)<;>try exact cX | refine bX ?_ | intro _))
  refine Or.inl (eX _ (aN (hS) ?_))
  (repeat' (first | (refine iF (fun h=>?_) fun h=>?_)<;>try exact cX | refine bX ?_ | intro _))
  rfl
 rw [decide_eq_true sm] at hS
 have FC:(aW s).length<=60:=by have:=LK s; rw [List.length_take] at sm; omega
 have H3:=NF hu s hd hr hn
 have Cn:=NG hu s hd hr hn
 have Lt:=yH hu s hd hr hn
 have hZ:=CW zeroV zeroV BH BH
 rw [decide_eq_true (mY zeroV)] at hZ
 have hZ:=ar.arg (args':=[.agg (ai zeroV),.agg [.i .i64 0,.i .i64 0,.i .u64 0,.s [],.nl,.nl]]) hZ (by exact rL)
 have hE:vd s = if fk s≠0 then (zeroV,fk s) else if bm (aG (dS s)) s.root = 0 then (zeroV,8) else if (gT s).2.2 = true\/(dE (gT s).1 0 0).1≠0 then (zeroV,2) else ((gT s).1,0):=rfl
 by_cases h:fk s = 0
 rotate_left
 ·rw [if_pos h] at hE
  rw [if_pos h] at H3
  rw [hE] at Cn
  dsimp only at Cn
  generalize fk s = e at *
  (repeat' (first | (refine iF (fun h=>?_) fun h=>?_)<;>try exact cX | refine bX ?_ | intro _))
  refine Or.inl (eX _ (aN (hS) ?_))
  (repeat' (first | (refine iF (fun h=>?_) fun h=>?_)<;>try exact cX | refine bX ?_ | intro _))
  refine Or.inl (eX _ (aN (H3) ?_))
  (repeat' (first | (refine iF (fun h=>?_) fun h=>?_)<;>try exact cX | refine bX ?_ | intro _))
  refine Or.inl (eX _ (aN (Cn) ?_))
  (repeat' (first | (refine iF (fun h=>?_) fun h=>?_)<;>try exact cX | refine bX ?_ | intro _))
  refine Or.inl (eX _ (aN (Lt) ?_))
  (repeat' (first | (refine iF (fun h=>?_) fun h=>?_)<;>try exact cX | refine bX ?_ | intro _))
  refine Or.inl (eX _ (aN (hZ) ?_))
  (repeat' (first | (refine iF (fun h=>?_) fun h=>?_)<;>try exact cX | refine bX ?_ | intro _))
  exact congrArg AV.b (beq_self_eq_true e)
 rw [if_neg (fun c=>c h)] at hE H3
 have hs:=Kc hd hr h
 rw [h] at H3 Lt
 have T0:=u9 s hs FC s.root (eb s)
 by_cases z:bm (aG (dS s)) s.root = 0
 ·rw [if_pos z] at hE
  rw [z] at H3 T0
  rw [hE] at Cn
  dsimp only at Cn
  (repeat' (first | (refine iF (fun h=>?_) fun h=>?_)<;>try exact cX | refine bX ?_ | intro _))
  refine Or.inl (eX _ (aN (hS) ?_))
  (repeat' (first | (refine iF (fun h=>?_) fun h=>?_)<;>try exact cX | refine bX ?_ | intro _))
  refine Or.inl (eX _ (aN (H3) ?_))
  (repeat' (first | (refine iF (fun h=>?_) fun h=>?_)<;>try exact cX | refine bX ?_ | intro _))
  refine Or.inl (eX _ (aN (Cn) ?_))
  (repeat' (first | (refine iF (fun h=>?_) fun h=>?_)<;>try exact cX | refine bX ?_ | intro _))
  refine Or.inl (eX _ (aN (Lt) ?_))
  (repeat' (first | (refine iF (fun h=>?_) fun h=>?_)<;>try exact cX | refine bX ?_ | intro _))
  refine Or.inl (eX _ (aN (T0) ?_))
  (repeat' (first | (refine iF (fun h=>?_) fun h=>?_)<;>try exact cX | refine bX ?_ | intro _))
  refine Or.inl (eX _ (aN (hZ) ?_))
  (repeat' (first | (refine iF (fun h=>?_) fun h=>?_)<;>try exact cX | refine bX ?_ | intro _))
  rfl
 rw [if_neg z] at hE
 obtain ⟨hF,hSt⟩:=hs.dS
 have h0:=hF.w.so.1
 have hz:=lH h0 s.root
 obtain ⟨f1,f2⟩:=vg hs
 have hO:=rJ s hs FC 20000 s.root 0 false (Nat.le_refl _) (eb s) (by omega) (JC hs) (by decide) (by decide) (fun _=>by decide)
 have hA:=Bp (fun t=>(bp s.defs t).1) (fun t=>bm (aG (dS s)) t) (U:=dz s) (fun t ht x hx=>by
  obtain ⟨_,oc⟩:=hs.gs.parts ht x hx
  have hp:=sy (fun t ht=>fe ht) oc (hs.gs.ok x oc) (by cases hs.gs.tb x oc; omega)
  exact ⟨fun k=>(hp.i4 k).1,fun k=>(hp.i8 k).2,hp.f⟩) 20000 s.root 0 false (eb s)
 have hA:((gT s).2.2 = (gP s (dS s) 20000 s.root 0 false).2.2)/\((gT s).2.2 = false->gT s = gP s (dS s) 20000 s.root 0 false):=hA
 generalize gP s (dS s) 20000 s.root 0 false = w at hO hA
 generalize gT s = v at *
 generalize hrk:bm (aG (dS s)) s.root = r at *
 cases hv:v.2.2 with
 | true =>
  rw [hv] at hA
  rw [if_pos (.inl hv)] at hE
  rw [hE] at Cn
  rw [<- hA.1] at hO
  dsimp only at Cn
  (repeat' (first | (refine iF (fun h=>?_) fun h=>?_)<;>try exact cX | refine bX ?_ | intro _))
  refine Or.inl (eX _ (aN (hS) ?_))
  (repeat' (first | (refine iF (fun h=>?_) fun h=>?_)<;>try exact cX | refine bX ?_ | intro _))
  refine Or.inl (eX _ (aN (H3) ?_))
  (repeat' (first | (refine iF (fun h=>?_) fun h=>?_)<;>try exact cX | refine bX ?_ | intro _))
  refine Or.inl (eX _ (aN (Cn) ?_))
  (repeat' (first | (refine iF (fun h=>?_) fun h=>?_)<;>try exact cX | refine bX ?_ | intro _))
  refine Or.inl (eX _ (aN (Lt) ?_))
  (repeat' (first | (refine iF (fun h=>?_) fun h=>?_)<;>try exact cX | refine bX ?_ | intro _))
  refine Or.inl (eX _ (aN (T0) ?_))
  (repeat' (first | (refine iF (fun h=>?_) fun h=>?_)<;>try exact cX | refine bX ?_ | intro _))
  refine Or.inr (Or.inl (eX [] (eX _ (eX _ (eX _ (eX _ (eX _ (eX [(1000,70)] (aN (hO) ?_)))))))))
  refine (aN rfl (aN rfl (aN rfl (aN rfl (aN rfl ?_)))))
  (repeat' (first | (refine iF (fun h=>?_) fun h=>?_)<;>try exact cX | refine bX ?_ | intro _))
  refine Or.inl (eX _ (aN (hZ) ?_))
  (repeat' (first | (refine iF (fun h=>?_) fun h=>?_)<;>try exact cX | refine bX ?_ | intro _))
  rfl
 | false =>
  obtain rfl:=hA.2 hv
  rw [hv] at hO
  have hV:=Ex v.1 f1 (by omega)
  rw [<- O7] at hV
  have hM:=CW v.1 v.1 f1 f1
  rw [decide_eq_true (mY _)] at hM
  by_cases cz:(dE v.1 0 0).1 = 0
  ·rw [if_neg (fun h=>h.elim (fun h=>Bool.noConfusion (hv.symm.trans h)) (fun h=>h cz))] at hE
   rw [hE] at Cn
   rw [cz] at hV
   dsimp only at Cn
   (repeat' (first | (refine iF (fun h=>?_) fun h=>?_)<;>try exact cX | refine bX ?_ | intro _))
   refine Or.inl (eX _ (aN (hS) ?_))
   (repeat' (first | (refine iF (fun h=>?_) fun h=>?_)<;>try exact cX | refine bX ?_ | intro _))
   refine Or.inl (eX _ (aN (H3) ?_))
   (repeat' (first | (refine iF (fun h=>?_) fun h=>?_)<;>try exact cX | refine bX ?_ | intro _))
   refine Or.inl (eX _ (aN (Cn) ?_))
   (repeat' (first | (refine iF (fun h=>?_) fun h=>?_)<;>try exact cX | refine bX ?_ | intro _))
   refine Or.inl (eX _ (aN (Lt) ?_))
   (repeat' (first | (refine iF (fun h=>?_) fun h=>?_)<;>try exact cX | refine bX ?_ | intro _))
   refine Or.inl (eX _ (aN (T0) ?_))
   (repeat' (first | (refine iF (fun h=>?_) fun h=>?_)<;>try exact cX | refine bX ?_ | intro _))
   refine Or.inr (Or.inl (eX [] (eX _ (eX _ (eX _ (eX _ (eX _ (eX [(1000,70)] (aN (hO) ?_)))))))))
   refine (aN rfl (aN rfl (aN rfl (aN rfl (aN rfl ?_)))))
   (repeat' (first | (refine iF (fun h=>?_) fun h=>?_)<;>try exact cX | refine bX ?_ | intro _))
   refine Or.inl (eX _ (aN (hV) ?_))
   (repeat' (first | (refine iF (fun h=>?_) fun h=>?_)<;>try exact cX | refine bX ?_ | intro _))
   refine Or.inl (eX _ (aN (hM) ?_))
   (repeat' (first | (refine iF (fun h=>?_) fun h=>?_)<;>try exact cX | refine bX ?_ | intro _))
   rfl
  ·rw [if_pos (.inr cz)] at hE
   rw [hE] at Cn
   dsimp only at Cn
   generalize (dE v.1 0 0).1 = cv at *
   (repeat' (first | (refine iF (fun h=>?_) fun h=>?_)<;>try exact cX | refine bX ?_ | intro _))
   refine Or.inl (eX _ (aN (hS) ?_))
   (repeat' (first | (refine iF (fun h=>?_) fun h=>?_)<;>try exact cX | refine bX ?_ | intro _))
   refine Or.inl (eX _ (aN (H3) ?_))
   (repeat' (first | (refine iF (fun h=>?_) fun h=>?_)<;>try exact cX | refine bX ?_ | intro _))
   refine Or.inl (eX _ (aN (Cn) ?_))
   (repeat' (first | (refine iF (fun h=>?_) fun h=>?_)<;>try exact cX | refine bX ?_ | intro _))
   refine Or.inl (eX _ (aN (Lt) ?_))
   (repeat' (first | (refine iF (fun h=>?_) fun h=>?_)<;>try exact cX | refine bX ?_ | intro _))
   refine Or.inl (eX _ (aN (T0) ?_))
   (repeat' (first | (refine iF (fun h=>?_) fun h=>?_)<;>try exact cX | refine bX ?_ | intro _))
   refine Or.inr (Or.inl (eX [] (eX _ (eX _ (eX _ (eX _ (eX _ (eX [(1000,70)] (aN (hO) ?_)))))))))
   refine (aN rfl (aN rfl (aN rfl (aN rfl (aN rfl ?_)))))
   (repeat' (first | (refine iF (fun h=>?_) fun h=>?_)<;>try exact cX | refine bX ?_ | intro _))
   refine Or.inl (eX _ (aN (hV) ?_))
   (repeat' (first | (refine iF (fun h=>?_) fun h=>?_)<;>try exact cX | refine bX ?_ | intro _))
   refine Or.inl (eX _ (aN (hZ) ?_))
   (repeat' (first | (refine iF (fun h=>?_) fun h=>?_)<;>try exact cX | refine bX ?_ | intro _))
   rfl
theorem s_seedlaw (hu:HasU8) (s:SchemaR) (hd:∀ d ∈ s.defs,TB d.t) (hr:TB s.root) (hn:s.defs.length<=2000000):ar Tryz.prog 3 [.agg (aq s)] (.b true) :=
 ah (Ctx.aO aa 46) Tryz.func3 rfl Tryz.call3 Tryz.results3 Tryz.ntmps3 (Nat.le_of_ble_eq_true rfl) (Gt hu s hd hr hn)
end
end Go.Proofs.YtiijpgmpnijidaaGreatDoor
end
section
namespace Go.SX
open Go.RowKit Go.WideShapes Go.ChangeShapes Go.Deep
structure BulkS {H:Type} (bk:DataW H->Nat):Prop where
 sl:∀ els rest,(els.map bk).sum + 1<=bk (.slice els rest)
 ag:∀ ds,(ds.map bk).sum + 1<=bk (.agg ds)
 st:∀ b,b.length + 1<=bk (.lit (.string b))
 pos:∀ d,1<=bk d
/-! the bulk of a value -/
mutual
def pZ:aT->Nat
 | ⟨_,_,_,s,l,e⟩=>s.length + VP l + VO e + 7
def VP:List aT->Nat
 | []=>0
 | x::xs=>pZ x + VP xs
def VO:List (aH × aT)->Nat
 | []=>0
 | x::xs=>G2 x + VO xs
def G2:aH × aT->Nat
 | (k,x)=>k.length + pZ x + 2
end
theorem LU (l:List aT):VP l = (l.map pZ).sum:=by
 induction l with
 | nil=>rfl
 | cons x r ih=>rw [VP,List.map_cons,List.sum_cons,ih]
theorem LS (l:List (aH × aT)):VO l = (l.map G2).sum:=by
 induction l with
 | nil=>rfl
 | cons x r ih=>rw [VO,List.map_cons,List.sum_cons,ih]
theorem qi (v:aT):pZ v = v.s.length + (v.l.map pZ).sum + (v.e.map G2).sum + 7:=by
 cases v
 rw [pZ,LU,LS]
theorem xF (p:aH × aT):G2 p = p.1.length + pZ p.2 + 2:=by
 cases p
 rw [G2]
theorem nG {α:Type} {m:α->Nat}:∀ {l:List α} {x:α},x ∈ l->m x<=(l.map m).sum
 | y::r,x,h=>by
  rw [List.map_cons,List.sum_cons]
  rcases List.mem_cons.1 h with rfl | h
  ·omega
  ·have:=nG (m:=m) h
   omega
theorem lL {α:Type} {m:α->Nat} (h1:∀ x,1<=m x):∀ l:List α,l.length<=(l.map m).sum
 | []=>Nat.zero_le _
 | x::r=>by
  have:=lL h1 r
  have:=h1 x
  rw [List.map_cons,List.sum_cons,List.length_cons]
  omega
theorem EG {α β:Type} {m:α->Nat} {k:β->Nat}:∀ {l:List α} {r:List β},l.length = r.length->(∀ (i:Nat) x y,l[i]? = some x->r[i]? = some y->m x<=k y)->(l.map m).sum<=(r.map k).sum
 | [],_,_,_=>Nat.zero_le _
 | x::l,[],h,_=>nomatch h
 | x::l,y::r,h,hh=>by
  have h1:=hh 0 x y rfl rfl
  have h2:=EG (m:=m) (k:=k) (l:=l) (r:=r) (by simpa using h) (fun i a b ha hb=>hh (i + 1) a b (by simpa using ha) (by simpa using hb))
  rw [List.map_cons,List.sum_cons,List.map_cons,List.sum_cons]
  omega
theorem L0 (v:aT):1<=pZ v:=by rw [qi]; omega
theorem LV (p:aH × aT):1<=G2 p:=by rw [xF]; omega
theorem LZ {v x:aT} (h:x ∈ v.l):pZ x < pZ v:=by
 have:=nG (m:=pZ) h
 rw [qi v]
 omega
theorem LX {v:aT} {p:aH × aT} (h:p ∈ v.e):pZ p.2 + p.1.length < pZ v:=by
 have:=nG (m:=G2) h
 rw [xF] at this
 rw [qi v]
 omega
theorem LY (v:aT):v.s.length + v.l.length + v.e.length < pZ v:=by
 have h1:=lL (m:=pZ) L0 v.l
 have h2:=lL (m:=G2) LV v.e
 rw [qi v]
 omega
section
variable [Globs]
variable {H:Type} {lV:TypeId × Value->H} {P:Program} {W:World} {sp:Nat->Bool} {hd:Bool} {O:Nat->Prop} {bk:DataW H->Nat}
theorem gV {t e : TypeId} {τ : Ty} {m : den τ -> Nat} {R : den τ -> Prop} (nf : BulkS bk) (hO : ∀ k, ¬ O k) (ht : P.underlying t = some (.slice e)) (hc : P.cellsOf e = aX τ) {fuel : Nat}
  (W9:∀ n,n < fuel->∀ (cs:List Value) (x:DataW H × List MemPlace),DataW.trod lV P W 0 sp hd n e cs = some x->∃ y:den τ,All2 (Im O W) (enc τ y) cs/\m y<=bk x.1/\R y)
  {cs:List Value} {x:DataW H × List MemPlace} (h:DataW.trod lV P W 0 sp hd fuel t cs = some x):∃ (l:List (den τ)) (v:Value),cs = [v]/\Im O W (.rd τ l) v/\(l.map m).sum + 1<=bk x.1/\∀ y ∈ l,R y:=by
 rcases DataW.trod_slice ht h with ⟨rfl,rfl⟩ | ⟨a,len,cap,elems,rest,n,rfl,rfl,rfl,hb,S5,y7,hlen,ei,_,_⟩
 ·exact ⟨[],_,rfl,.uR τ none 0 (Nat.zero_le _),by simpa using nf.pos _,fun y hy=>nomatch hy⟩
 by_cases h0:len = 0
 ·subst h0; exact ⟨[],_,rfl,.uR τ _ _ y7,by simpa using nf.pos _,fun y hy=>nomatch hy⟩
 have ei:∀ i,i < len->∃ (us:List Value) (y:DataW H × List MemPlace),W.cells? 0 (a.add (i * P.cellsOf e)) (P.cellsOf e) = some us/\DataW.trod lV P W 0 sp hd n e us = some y/\elems[i]? = some y:=fun i hi=>by
  have:=ei i hi
  rw [List.getElem?_eq_getElem (by omega)] at this
  obtain ⟨us,h1,h2⟩:=Option.bind_eq_some_iff.1 this
  exact ⟨us,_,h1,h2,List.getElem?_eq_getElem _⟩
 have hch:∀ i,i < len->∃ (y:den τ) (us:List Value),(All2 (Im O W) (enc τ y) us/\(∀ d,elems[i]? = some d->m y<=bk d.1)/\R y)/\us.length = aX τ/\∀ (j:Nat) v,us[j]? = some v->W.cell? ⟨a.block,a.off + (i * aX τ + j),none⟩ = some v:=by
  intro i hi
  obtain ⟨us,yy,h1,h2,hm⟩:=ei i hi
  obtain ⟨y,hy⟩:=W9 n (Nat.lt_succ_self n) _ _ h2
  rw [hc] at h1
  obtain ⟨h3,h4⟩:=wi h1
  refine ⟨y,us,⟨hy.1,fun d hd=>?_,hy.2.2⟩,h3,fun j v hv=>?_⟩
  ·rw [hm] at hd
   injection hd with hd
   subst hd
   exact hy.2.1
  have h5:=h4 j v hv
  have hs:∀ j v,us[j]? = some v->((a.add (i * aX τ)).add j).spot = none:=fun j v hv=>World.cell?_spot (h4 j v hv)
  have pj:=gq τ
  have h00:(a.add (i * aX τ)).spot = none:=by
   have:=hs 0 (us[0]'(by omega)) (List.getElem?_eq_getElem _)
   simpa [Addr.add] using this
  have e1:=PU h00
  rw [e1] at h5
  rw [dm] at h5
  rw [<- h5,Nat.add_assoc]
 have ys:∃ l:List (den τ),l.length = len/\∀ (i:Nat) y,l[i]? = some y->∃ us:List Value,(All2 (Im O W) (enc τ y) us/\(∀ d,elems[i]? = some d->m y<=bk d.1)/\R y)/\∀ (j:Nat) v,us[j]? = some v->W.cell? ⟨a.block,a.off + (i * aX τ + j),none⟩ = some v:=by
  have Uc:=fun (i:Fin len)=>hch i.1 i.2
  refine ⟨List.ofFn fun i:Fin len=>Classical.choose (Uc i),by simp,fun i y hy=>?_⟩
  have hi:i < len:=by have:=(List.getElem?_eq_some_iff.1 hy).1; simpa using this
  rw [List.getElem?_ofFn,dif_pos hi] at hy
  injection hy with hy
  subst hy
  obtain ⟨us,h1,_,h2⟩:=Classical.choose_spec (Uc ⟨i,hi⟩)
  exact ⟨us,h1,h2⟩
 obtain ⟨l,Qx,hl⟩:=ys
 refine ⟨l,_,rfl,?_,?_,fun y hy=>?_⟩
 rotate_left
 ·have h1:=nf.sl (elems.map (·.1)) (rest.map (·.1))
  have h2:(l.map m).sum<=((elems.map (·.1)).map bk).sum:=EG (by rw [List.length_map]; omega) fun i y d hy hd=>by
   obtain ⟨us,h3,_⟩:=hl i y hy
   rw [List.getElem?_map,Option.map_eq_some_iff] at hd
   obtain ⟨d',Lv,rfl⟩:=hd
   exact h3.2.1 d' Lv
  exact Nat.le_trans (Nat.succ_le_succ h2) h1
 ·obtain ⟨i,hi,rfl⟩:=List.getElem_of_mem hy
  obtain ⟨us,h1,_⟩:=hl i _ (List.getElem?_eq_getElem hi)
  exact h1.2.2
 have WX:a = ⟨a.block,a.off,none⟩:=by
  obtain ⟨us',yy,h1,h2,_⟩:=ei 0 (by omega)
  have pj:=gq τ
  rw [hc] at h1
  obtain ⟨h5,h6⟩:=wi h1
  have:=World.cell?_spot (h6 0 (us'[0]'(by omega)) (List.getElem?_eq_getElem _))
  simp [Addr.add] at this
  obtain ⟨b,o,s⟩:=a
  simp only at this
  subst this
  rfl
 rw [WX,<- Qx]
 refine .rd τ l a.block a.off cap (fun i j=>(W.cell? ⟨a.block,a.off + (i * aX τ + j),none⟩).getD undef) (hO _) (by omega) y7 (fun e=>h0 (by rw [<- Qx,e]; rfl)) (fun i y j av hy ck=>?_) (fun i y j av hy ck=>?_)
 ·obtain ⟨us,h1,h2⟩:=hl i y hy
  have hj:j < us.length:=by rw [<- h1.1.1]; exact (List.getElem?_eq_some_iff.1 ck).1
  rw [h2 j _ (List.getElem?_eq_getElem hj)]; rfl
 ·obtain ⟨us,h1,h2⟩:=hl i y hy
  have hj:j < us.length:=by rw [<- h1.1.1]; exact (List.getElem?_eq_some_iff.1 ck).1
  rw [h2 j _ (List.getElem?_eq_getElem hj)]
  exact h1.1.2 j av _ ck (List.getElem?_eq_getElem hj)
theorem ig {t : TypeId} {fs : Array Field} {fuel : Nat} {cs : List Value} {x : DataW H × List MemPlace} (ht : P.underlying t = some (.struct fs)) (h : DataW.trod lV P W 0 sp hd fuel t cs = some x) :
  ∃ (n:Nat) (ds:List (DataW H)),fuel = n + 1/\cs.length = P.cellsOf t/\x.1 = .agg ds/\ds.length = fs.size/\∀ (i off:Nat) (t':TypeId),eC fs i off t'->∃ y,DataW.trod lV P W 0 sp hd n t' ((cs.drop off).take (P.cellsOf t')) = some y/\ds[i]? = some y.1:=by
 obtain ⟨xs,n,hn,rfl,h1,h2,h3⟩:=DataW.trod_struct ht h
 refine ⟨n,xs.map (·.1),hn,h1,rfl,by rw [List.length_map]; exact h2,fun i off t' hf=>?_⟩
 obtain ⟨f,hf,rfl,rfl⟩:=hf
 have hi:i < xs.length:=by rw [h2]; exact (Array.getElem?_eq_some_iff.1 hf).1
 rw [h3 i f hf,List.getElem?_eq_getElem hi]
 exact ⟨_,rfl,by rw [List.getElem?_map,List.getElem?_eq_getElem hi]; rfl⟩
theorem kE (nf:BulkS bk) {t:TypeId} {fuel:Nat} {cs:List Value} {x:DataW H × List MemPlace} (ht:P.underlying t = some .string) (h:DataW.trod lV P W 0 sp hd fuel t cs = some x):∃ (l:aH) (v:Value),cs = [v]/\Im O W (.s l) v/\l.length + 1<=bk x.1:=by
 obtain ⟨s,h1,h3,h2⟩:=DataW.trod_string ht h
 refine ⟨s.data.toList,.string s,h1,?_,?_⟩
 ·have:=Im.s (O:=O) (w:=W) s.data.toList (by rw [Array.length_toList]; exact h2)
  simpa using this
 ·rw [h3]; exact nf.st _
theorem GX {V:TypeId} (nf:BulkS bk) (T:VTy P V) (hs:T.fs.size = 6) (GH:T.gs.size = 2) (hO:∀ k,¬ O k):∀ (fuel:Nat) (cs:List Value) (x:DataW H × List MemPlace),DataW.trod lV P W 0 sp hd fuel V cs = some x->∃ y:aT,All2 (Im O W) (ai y) cs/\pZ y<=bk x.1/\VB y:=by
 intro fuel
 induction fuel using Nat.strongRecOn with
 | _ fuel ih =>
 intro cs x h
 obtain ⟨n,ds,rfl,hl,H4,Pj,hf⟩:=ig T.hV h
 rw [T.cV] at hl
 rw [hs] at Pj
 obtain ⟨c0,c1,c2,c3,c4,c5⟩:=T.c
 match cs,hl,ds,Pj with
 | [u0,u1,u2,u3,u4,u5],_,[d0,d1,d2,d3,d4,d5],_ =>
  obtain ⟨y0,q0,k0⟩:=hf 0 0 _ T.h0
  obtain ⟨y1,q1,k1⟩:=hf 1 1 _ T.h1
  obtain ⟨y2,q2,k2⟩:=hf 2 2 _ T.h2
  obtain ⟨y3,q3,k3⟩:=hf 3 3 _ T.h3
  obtain ⟨y4,q4,k4⟩:=hf 4 4 _ T.h4
  obtain ⟨y5,q5,k5⟩:=hf 5 5 _ T.h5
  simp only [List.getElem?_cons_zero,List.getElem?_cons_succ,Option.some.injEq] at k0 k1 k2 k3 k4 k5
  subst k0 k1 k2 k3 k4 k5
  rw [c0] at q0
  rw [c1] at q1
  rw [c2] at q2
  rw [c3] at q3
  rw [c4] at q4
  rw [c5] at q5
  obtain ⟨k,e0,i0,w0⟩:=mU (O:=O) T.uK q0
  obtain ⟨m,e1,i1,w1⟩:=mU (O:=O) T.uN q1
  obtain ⟨f,e2,i2,w2⟩:=mU (O:=O) T.uU q2
  obtain ⟨s,vs,e3,i3,z3⟩:=kE (O:=O) nf T.uS q3
  obtain ⟨l,vl,e4,i4,z4,r4⟩:=gV (O:=O) (τ:=.val) (m:=pZ) (R:=VB) nf hO T.uL T.cV (fun n' hn cs' x' hx=>ih n' (by omega) cs' x' hx) q4
  obtain ⟨es,ve,e5,i5,z5,r5⟩:=gV (O:=O) (τ:=.dZ) (m:=G2) (R:=fun p=>VB p.2) nf hO T.uE T.cE (fun n' hn cs' x' hx=>by
   obtain ⟨n2,ds2,rfl,oa,H5,Ab,Ii⟩:=ig T.hE hx
   rw [T.cE] at oa
   rw [GH] at Ab
   match cs',oa,ds2,Ab with
   | [z0,z1,z2,z3,z4,z5,z6],_,[g0,g1],_ =>
    obtain ⟨_,p0,m0⟩:=Ii 0 0 _ T.g0
    obtain ⟨_,p1,m1⟩:=Ii 1 1 _ T.g1
    simp only [List.getElem?_cons_zero,List.getElem?_cons_succ,Option.some.injEq] at m0 m1
    subst m0 m1
    rw [c3] at p0
    rw [T.cV] at p1
    obtain ⟨ks,kv,d0,j0,lk⟩:=kE (O:=O) nf T.uS p0
    obtain ⟨y,j1,X7,hy⟩:=ih n2 (by omega) _ _ p1
    simp at d0
    subst d0
    refine ⟨(ks,y),All2.cons j0 (by simpa using j1),?_,hy⟩
    rw [H5]
    refine Nat.le_trans ?_ (nf.ag _)
    rw [xF]
    simp only [List.map_cons,List.map_nil,List.sum_cons,List.sum_nil]
    omega) q5
  simp at e0 e1 e2 e3 e4 e5
  subst e0 e1 e2 e3 e4 e5
  refine ⟨⟨k,m,f,s,l,es⟩,All2.cons i0 (All2.cons i1 (All2.cons i2 (All2.cons i3 (All2.cons i4 (All2.cons i5 (All2.nil _)))))),?_,.mk _ (wf_i64 w0) (wf_i64 w1) (wf_u64 w2) r4 r5⟩
  have h9:=nf.ag [y0.1,y1.1,y2.1,y3.1,y4.1,y5.1]
  have p0:=nf.pos y0.1
  have p1:=nf.pos y1.1
  have p2:=nf.pos y2.1
  rw [H4]
  refine Nat.le_trans ?_ h9
  rw [qi]
  simp only [List.map_cons,List.map_nil,List.sum_cons,List.sum_nil]
  omega
end
end Go.SX
end
section
namespace Go.Ck
open Go.SX Go.Vl
theorem By:∀ l:List aT,(∀ x ∈ l,(cu x).2<=(pZ x:Int))->jQ (l.map fun v=>(⟨v,0⟩:dk))<=((l.map pZ).sum:Nat)
 | [],_=>by simp [jQ]
 | x::r,h=>by
  have h1:=h x (.head _)
  have h2:=By r fun y hy=>h y (.tail _ hy)
  rw [List.map_cons,jQ,List.map_cons,List.sum_cons]
  show (cu x).2 + _<=_
  omega
theorem CZ:∀ (n:Nat) (v:aT),SizeOf.sizeOf v < n->(cu v).2<=(pZ v:Int):=by
 intro n
 induction n with
 | zero=>intro v h; exact absurd h (Nat.not_lt_zero _)
 | succ n ih =>
  intro v h
  have h1:=By (partsOf v) fun x hx=>ih x (by have:=uO hx; omega)
  have h2:=tw (partsOf v) (0,1) 0
  have h3:((partsOf v).map pZ).sum<=(v.l.map pZ).sum + (v.e.map G2).sum:=by
   unfold partsOf
   rw [List.map_append,List.sum_append,List.map_map]
   have:(v.e.map (pZ ∘ (·.2))).sum<=(v.e.map G2).sum:=by
    generalize v.e = e
    induction e with
    | nil=>exact Nat.le_refl _
    | cons p r ih =>
     rw [List.map_cons,List.sum_cons,List.map_cons,List.sum_cons,xF]
     simp only [Function.comp]
     omega
   omega
  rw [pQ,qi]
  simp only at h2 ⊢
  omega
theorem Kf (v:aT):(cu v).2<=(pZ v:Int):=CZ _ v (Nat.lt_succ_self _)
end Go.Ck
end
section
namespace Go.SX
open Go.RowKit Go.WideShapes Go.ChangeShapes Go.Deep
def Wq (n:Int):Prop:=-9223372036854775808<=n/\n<=9223372036854775807
structure STy (P:Program) (T:TypeId) where
 (fs:Array Field) (K S:TypeId)
 hT:P.underlying T = some (.struct fs)
 sz:fs.size = 2
 cT:P.cellsOf T = 2
 h0:eC fs 0 0 S
 h1:eC fs 1 1 K
 uK:P.underlying K = some (.int .i64)
 uS:P.underlying S = some .string
 c:P.cellsOf K = 1/\P.cellsOf S = 1
structure OTy (P:Program) (T:TypeId) where
 (fs:Array Field) (K S Q V St:TypeId) (Tv:VTy P V) (S':STy P St)
 hT:P.underlying T = some (.struct fs)
 sz:fs.size = 4
 cT:P.cellsOf T = 9
 h0:eC fs 0 0 K
 h1:eC fs 1 1 Q
 h2:eC fs 2 2 V
 h3:eC fs 3 8 S
 uK:P.underlying K = some (.int .i64)
 uS:P.underlying S = some .string
 uQ:P.underlying Q = some (.slice St)
 c:P.cellsOf K = 1/\P.cellsOf S = 1/\P.cellsOf Q = 1
section
variable [Globs]
variable {H:Type} {lV:TypeId × Value->H} {P:Program} {W:World} {sp:Nat->Bool} {hd:Bool} {O:Nat->Prop} {bk:DataW H->Nat}
end
end Go.SX
end
section
namespace Go.SX
open Go.RowKit Go.WideShapes Go.ChangeShapes Go.Deep
def Tu (s:aH):Nat:=s.length + 1
section
variable [Globs]
variable {H:Type} {lV:TypeId × Value->H} {P:Program} {W:World} {sp:Nat->Bool} {hd:Bool} {O:Nat->Prop} {bk:DataW H->Nat}
end
end Go.SX
end
section
namespace Go.SX
open Go.RowKit Go.WideShapes Go.ChangeShapes Go.Deep
/-! the bulk of a type -/
mutual
def r8:ab->Nat
 | ⟨_,_,_,tx,t,f,n⟩=>(tx.map Tu).sum + L2 t + L1 f + n.length + 1
def L2:List ab->Nat
 | []=>0
 | x::r=>r8 x + L2 r
def L1:List (jw ab)->Nat
 | []=>0
 | x::r=>xG x + L1 r
def xG:jw ab->Nat
 | ⟨n,_,_,t,d⟩=>n.length + r8 t + pZ d + 1
end
theorem G4 (l:List ab):L2 l = (l.map r8).sum:=by
 induction l with
 | nil=>rfl
 | cons x r ih=>rw [L2,List.map_cons,List.sum_cons,ih]
theorem G3 (l:List (jw ab)):L1 l = (l.map xG).sum:=by
 induction l with
 | nil=>rfl
 | cons x r ih=>rw [L1,List.map_cons,List.sum_cons,ih]
theorem sV (t:ab):r8 t = (t.texts.map Tu).sum + (t.t.map r8).sum + (t.f.map xG).sum + t.name.length + 1:=by
 cases t
 rw [r8,G4,G3]
theorem xH (f:jw ab):xG f = f.name.length + r8 f.t + pZ f.aD + 1:=by
 cases f
 rw [xG]
def P2 (d:az):Nat:=d.name.length + r8 d.t + 1
def bkC (s:SchemaR):Nat:=(s.defs.map P2).sum + r8 s.root + 1
inductive YB:ab->Prop
 | mk (t:ab):(Wq t.kind/\Wq t.lo/\Wq t.hi)->(∀ f ∈ t.f,VB f.aD)->(∀ x ∈ t.t,YB x)->(∀ f ∈ t.f,YB f.t)->YB t
structure TTy (P:Program) (T:TypeId) where
 (fs gs:Array Field) (K N S B Q L F Fd V:TypeId) (Tv:VTy P V)
 hT:P.underlying T = some (.struct fs)
 cT:P.cellsOf T = 7
 h0:eC fs 0 0 K
 h1:eC fs 1 1 N
 h2:eC fs 2 2 N
 h3:eC fs 3 3 Q
 h4:eC fs 4 4 L
 h5:eC fs 5 5 F
 h6:eC fs 6 6 S
 uK:P.underlying K = some (.int .i64)
 uN:P.underlying N = some (.int .i64)
 uS:P.underlying S = some .string
 uB:P.underlying B = some .bool
 uQ:P.underlying Q = some (.slice S)
 uL:P.underlying L = some (.slice T)
 uF:P.underlying F = some (.slice Fd)
 c:P.cellsOf K = 1/\P.cellsOf N = 1/\P.cellsOf S = 1/\P.cellsOf B = 1/\P.cellsOf Q = 1/\P.cellsOf L = 1/\P.cellsOf F = 1
 hF:P.underlying Fd = some (.struct gs)
 cF:P.cellsOf Fd = 16
 g0:eC gs 0 0 S
 g1:eC gs 1 1 B
 g2:eC gs 2 2 B
 g3:eC gs 3 3 T
 g4:eC gs 4 10 V
structure CTy (P:Program) (C:TypeId) where
 (fs gs:Array Field) (T D De S:TypeId) (Y:TTy P T)
 hC:P.underlying C = some (.struct fs)
 cC:P.cellsOf C = 8
 h0:eC fs 0 0 D
 h1:eC fs 1 1 T
 uD:P.underlying D = some (.slice De)
 uS:P.underlying S = some .string
 c:P.cellsOf D = 1/\P.cellsOf S = 1
 hD:P.underlying De = some (.struct gs)
 cD:P.cellsOf De = 8
 g0:eC gs 0 0 S
 g1:eC gs 1 1 T
section
variable [Globs]
variable {H:Type} {lV:TypeId × Value->H} {P:Program} {W:World} {sp:Nat->Bool} {hd:Bool} {O:Nat->Prop} {bk:DataW H->Nat}
theorem zl {T:TypeId} (nf:BulkS bk) (Y:TTy P T) (hs:Y.fs.size = 7) (GH:Y.gs.size = 5) (hv:Y.Tv.fs.size = 6) (Wf:Y.Tv.gs.size = 2) (hO:∀ k,¬ O k):∀ (fuel:Nat) (cs:List Value) (x:DataW H × List MemPlace),DataW.trod lV P W 0 sp hd fuel T cs = some x->∃ y:ab,All2 (Im O W) (encTyp y) cs/\r8 y<=bk x.1/\YB y:=by
 intro fuel
 induction fuel using Nat.strongRecOn with
 | _ fuel ih =>
 intro cs x h
 obtain ⟨n,ds,rfl,hl,H4,Pj,hf⟩:=ig Y.hT h
 rw [Y.cT] at hl
 rw [hs] at Pj
 obtain ⟨c0,c1,c2,c3,c4,c5,c6⟩:=Y.c
 match cs,hl,ds,Pj with
 | [u0,u1,u2,u3,u4,u5,u6],_,[d0,d1,d2,d3,d4,d5,d6],_ =>
  obtain ⟨y0,q0,k0⟩:=hf 0 0 _ Y.h0
  obtain ⟨y1,q1,k1⟩:=hf 1 1 _ Y.h1
  obtain ⟨y2,q2,k2⟩:=hf 2 2 _ Y.h2
  obtain ⟨y3,q3,k3⟩:=hf 3 3 _ Y.h3
  obtain ⟨y4,q4,k4⟩:=hf 4 4 _ Y.h4
  obtain ⟨y5,q5,k5⟩:=hf 5 5 _ Y.h5
  obtain ⟨y6,q6,k6⟩:=hf 6 6 _ Y.h6
  simp only [List.getElem?_cons_zero,List.getElem?_cons_succ,Option.some.injEq] at k0 k1 k2 k3 k4 k5 k6
  subst k0 k1 k2 k3 k4 k5 k6
  rw [c0] at q0
  rw [c1] at q1 q2
  rw [c4] at q3
  rw [c5] at q4
  rw [c6] at q5
  rw [c2] at q6
  obtain ⟨k,e0,i0,w0⟩:=mU (O:=O) Y.uK q0
  obtain ⟨lo,e1,i1,w1⟩:=mU (O:=O) Y.uN q1
  obtain ⟨hi,e2,i2,w2⟩:=mU (O:=O) Y.uN q2
  obtain ⟨tx,vx,e3,i3,z3,_⟩:=gV (O:=O) (τ:=.str) (m:=Tu) (R:=fun _=>True) nf hO Y.uQ c2 (fun n' hn cs' x' hx=>by
   obtain ⟨ks,kv,d0,j0,zz⟩:=kE (O:=O) nf Y.uS hx
   subst d0
   exact ⟨ks,All2.cons j0 (All2.nil _),zz,trivial⟩) q3
  obtain ⟨l,vl,e4,i4,z4,r4⟩:=gV (O:=O) (τ:=.typ) (m:=r8) (R:=YB) nf hO Y.uL Y.cT (fun n' hn cs' x' hx=>ih n' (by omega) cs' x' hx) q4
  obtain ⟨fl,vf,e5,i5,z5,r5⟩:=gV (O:=O) (τ:=.eJ) (m:=xG) (R:=fun f=>VB f.aD/\YB f.t) nf hO Y.uF Y.cF (fun n' hn cs' x' hx=>by
   obtain ⟨n2,ds2,rfl,oa,H5,Ab,Ii⟩:=ig Y.hF hx
   rw [Y.cF] at oa
   rw [GH] at Ab
   match cs',oa,ds2,Ab with
   | [z0,z1,z2,z3,z4,z5,z6,z7,z8,z9,z10,z11,z12,z13,z14,z15],_,[g0,g1,g2,g3,g4],_ =>
    obtain ⟨_,p0,m0⟩:=Ii 0 0 _ Y.g0
    obtain ⟨_,p1,m1⟩:=Ii 1 1 _ Y.g1
    obtain ⟨_,p2,m2⟩:=Ii 2 2 _ Y.g2
    obtain ⟨_,p3,m3⟩:=Ii 3 3 _ Y.g3
    obtain ⟨_,p4,m4⟩:=Ii 4 10 _ Y.g4
    simp only [List.getElem?_cons_zero,List.getElem?_cons_succ,Option.some.injEq] at m0 m1 m2 m3 m4
    subst m0 m1 m2 m3 m4
    rw [c2] at p0
    rw [c3] at p1 p2
    rw [Y.cT] at p3
    rw [Y.Tv.cV] at p4
    obtain ⟨ks,kv,d0,j0,lk⟩:=kE (O:=O) nf Y.uS p0
    obtain ⟨b1,d1,j1⟩:=zk (O:=O) Y.uB p1
    obtain ⟨b2,d2,j2⟩:=zk (O:=O) Y.uB p2
    obtain ⟨y,j3,X7,hy⟩:=ih n2 (by omega) _ _ p3
    obtain ⟨v,j4,hvb,hv⟩:=GX (O:=O) nf Y.Tv hv Wf hO _ _ _ p4
    simp at d0 d1 d2
    subst d0 d1 d2
    have j3:All2 (Im O W) (encTyp y) [z3,z4,z5,z6,z7,z8,z9]:=by simpa using j3
    have j4:All2 (Im O W) (ai v) [z10,z11,z12,z13,z14,z15]:=by simpa using j4
    refine ⟨⟨ks,b1,b2,y,v⟩,All2.cons j0 (All2.cons j1 (All2.cons j2 (j3.append j4))),?_,hv,hy⟩
    rw [H5]
    refine Nat.le_trans ?_ (nf.ag _)
    rw [xH]
    simp only [List.map_cons,List.map_nil,List.sum_cons,List.sum_nil]
    omega) q5
  obtain ⟨nm,vn,e6,i6,z6⟩:=kE (O:=O) nf Y.uS q6
  simp at e0 e1 e2 e3 e4 e5 e6
  subst e0 e1 e2 e3 e4 e5 e6
  refine ⟨⟨k,lo,hi,tx,l,fl,nm⟩,All2.cons i0 (All2.cons i1 (All2.cons i2 (All2.cons i3 (All2.cons i4 (All2.cons i5 (All2.cons i6 (All2.nil _))))))),?_,.mk _ ⟨wf_i64 w0,wf_i64 w1,wf_i64 w2⟩ (fun f hf=>(r5 f hf).1) r4 fun f hf=>(r5 f hf).2⟩
  have h9:=nf.ag [y0.1,y1.1,y2.1,y3.1,y4.1,y5.1,y6.1]
  have p0:=nf.pos y0.1
  rw [H4]
  refine Nat.le_trans ?_ h9
  rw [sV]
  simp only [List.map_cons,List.map_nil,List.sum_cons,List.sum_nil]
  omega
theorem arg_schS {C : TypeId} (nf : BulkS bk) (S : CTy P C) (h1 : S.fs.size = 2) (h2 : S.gs.size = 2) (hs : S.Y.fs.size = 7) (GH : S.Y.gs.size = 5) (hv : S.Y.Tv.fs.size = 6) (Wf : S.Y.Tv.gs.size = 2) (hO : ∀ k, ¬ O k) {fuel : Nat} {cs : List Value} {x : DataW H × List MemPlace} (h : DataW.trod lV P W 0 sp hd fuel C cs = some x) :
  ∃ y:SchemaR,All2 (Im O W) (.rd .dfn y.defs::encTyp y.root) cs/\bkC y<=bk x.1/\(∀ d ∈ y.defs,YB d.t)/\YB y.root:=by
 obtain ⟨n,ds,rfl,hl,H4,Pj,hf⟩:=ig S.hC h
 rw [S.cC] at hl
 rw [h1] at Pj
 obtain ⟨c0,c1⟩:=S.c
 match cs,hl,ds,Pj with
 | [u0,u1,u2,u3,u4,u5,u6,u7],_,[d0,d1],_ =>
  obtain ⟨y0,q0,k0⟩:=hf 0 0 _ S.h0
  obtain ⟨y1,q1,k1⟩:=hf 1 1 _ S.h1
  simp only [List.getElem?_cons_zero,List.getElem?_cons_succ,Option.some.injEq] at k0 k1
  subst k0 k1
  rw [c0] at q0
  rw [S.Y.cT] at q1
  obtain ⟨l,vl,e0,i0,z0,r0⟩:=gV (O:=O) (τ:=.dfn) (m:=P2) (R:=fun d=>YB d.t) nf hO S.uD S.cD (fun n' hn cs' x' hx=>by
   obtain ⟨n2,ds2,rfl,oa,H5,Ab,Ii⟩:=ig S.hD hx
   rw [S.cD] at oa
   rw [h2] at Ab
   match cs',oa,ds2,Ab with
   | [z0,z1,z2,z3,z4,z5,z6,z7],_,[g0,g1],_ =>
    obtain ⟨_,p0,m0⟩:=Ii 0 0 _ S.g0
    obtain ⟨_,p1,m1⟩:=Ii 1 1 _ S.g1
    simp only [List.getElem?_cons_zero,List.getElem?_cons_succ,Option.some.injEq] at m0 m1
    subst m0 m1
    rw [c1] at p0
    rw [S.Y.cT] at p1
    obtain ⟨ks,kv,d0,j0,lk⟩:=kE (O:=O) nf S.uS p0
    obtain ⟨y,j1,X7,hy⟩:=zl (O:=O) nf S.Y hs GH hv Wf hO _ _ _ p1
    simp at d0
    subst d0
    have j1:All2 (Im O W) (encTyp y) [z1,z2,z3,z4,z5,z6,z7]:=by simpa using j1
    refine ⟨⟨ks,y⟩,All2.cons j0 j1,?_,hy⟩
    rw [H5]
    refine Nat.le_trans ?_ (nf.ag _)
    simp only [P2,List.map_cons,List.map_nil,List.sum_cons,List.sum_nil]
    omega) q0
  obtain ⟨y,j1,X7,hy⟩:=zl (O:=O) nf S.Y hs GH hv Wf hO _ _ _ q1
  simp at e0
  subst e0
  have j1:All2 (Im O W) (encTyp y) [u1,u2,u3,u4,u5,u6,u7]:=by simpa using j1
  refine ⟨⟨l,y⟩,All2.cons i0 j1,?_,r0,hy⟩
  have h9:=nf.ag [y0.1,y1.1]
  rw [H4]
  refine Nat.le_trans ?_ h9
  simp only [bkC,List.map_cons,List.map_nil,List.sum_cons,List.sum_nil]
  omega
end
/-! what bulk bounds -/
theorem LW (s:aH):1<=Tu s:=Nat.le_add_left ..
theorem L4 (t:ab):1<=r8 t:=by rw [sV]; omega
theorem G5 (f:jw ab):1<=xG f:=by rw [xH]; omega
theorem LR (d:az):1<=P2 d:=Nat.le_add_left ..
theorem L3 (t:ab):t.texts.length + t.t.length + t.f.length + t.name.length < r8 t:=by
 have h1:=lL (m:=Tu) LW t.texts
 have h2:=lL (m:=r8) L4 t.t
 have h3:=lL (m:=xG) G5 t.f
 rw [sV]
 omega
theorem Tw {t x:ab} (h:x ∈ t.t):r8 x < r8 t:=by
 have:=nG (m:=r8) h
 rw [sV t]
 omega
theorem G6 {t:ab} {f:jw ab} (h:f ∈ t.f):r8 f.t + pZ f.aD + f.name.length < r8 t:=by
 have:=nG (m:=xG) h
 rw [xH] at this
 rw [sV t]
 omega
theorem LQ (s:SchemaR):s.defs.length < bkC s:=by
 have:=lL (m:=P2) LR s.defs
 unfold bkC
 omega
theorem LP {s:SchemaR} {d:az} (h:d ∈ s.defs):r8 d.t + d.name.length < bkC s:=by
 have:=nG (m:=P2) h
 have e:P2 d = d.name.length + r8 d.t + 1:=rfl
 rw [e] at this
 unfold bkC
 omega
theorem G1 (s:SchemaR):r8 s.root < bkC s:=by
 unfold bkC
 omega
end Go.SX
end
section
namespace Go.Proofs.YtiijpgmpnijidaaGreatDoor
open Go Go.SX Go.Ck Go.Vl Go.Ut Go.Ty
theorem Ox {n:Nat}:∀ (k:Nat) (v:aT),SizeOf.sizeOf v < k->pZ v<=n->VN n v:=by
 intro k
 induction k with
 | zero=>intro v h; exact absurd h (Nat.not_lt_zero _)
 | succ k ih =>
  intro v h hb
  have hl:=LY v
  refine .mk v (by omega) (by omega) (fun x hx=>ih x ?_ ?_) (fun p hp=>ih p.2 ?_ ?_)
  ·have h1:=List.sizeOf_lt_of_mem hx
   obtain ⟨a,b,c,d,e,f⟩:=v
   simp only at h1
   simp only [aT.mk.sizeOf_spec] at h
   omega
  ·have:=LZ hx
   omega
  ·have h1:=List.sizeOf_lt_of_mem hp
   obtain ⟨a,b,c,d,e,f⟩:=v
   obtain ⟨q,w⟩:=p
   simp only [Prod.mk.sizeOf_spec] at h1
   simp only [aT.mk.sizeOf_spec] at h
   show SizeOf.sizeOf w < k
   omega
  ·have:=LX hp
   omega
theorem NN:∀ (k:Nat) (t:ab),SizeOf.sizeOf t < k->YB t->r8 t<=1048576->TB t/\DN t:=by
 intro k
 induction k with
 | zero=>intro t h; exact absurd h (Nat.not_lt_zero _)
 | succ k ih =>
  intro t h hy hb
  have hl:=L3 t
  have ix:∀ x ∈ Ty.inside t,TB x/\DN x:=fun x hx=>by
   refine ih x (by have:=bg hx; omega) ?_ ?_
   ·cases hy with
    | mk _ _ _ h1 h2 =>
     rcases List.mem_append.1 hx with hx | hx
     ·exact h1 x hx
     ·obtain ⟨f,hf,rfl⟩:=List.mem_map.1 hx
      exact h2 f hf
   ·rcases List.mem_append.1 hx with hx | hx
    ·have:=Tw hx
     omega
    ·obtain ⟨f,hf,rfl⟩:=List.mem_map.1 hx
     have:=G6 hf
     omega
  cases hy with
  | mk _ h1 h2 _ _ =>
   refine ⟨.mk t h1.1 h1.2.1 h1.2.2 ⟨by omega,by omega,by omega⟩ (fun f hf=>⟨h2 f hf,?_⟩) (fun x hx=>(ix x (List.mem_append_left _ hx)).1) (fun f hf=>(ix f.t (List.mem_append_right _ (List.mem_map.2 ⟨f,hf,rfl⟩))).1),.mk t (fun f hf=>Ox _ f.aD (Nat.lt_succ_self _) ?_) fun x hx=>(ix x hx).2⟩
   ·have:=Kf f.aD
    have:=G6 hf
    omega
   ·have:=G6 hf
    omega
theorem PL {t:ab} (h:YB t) (hb:r8 t<=1048576):TB t/\DN t:=NN _ t (Nat.lt_succ_self _) h hb
theorem tb_defs {s:SchemaR} (h:∀ d ∈ s.defs,YB d.t) (hr:YB s.root) (hb:bkC s<=1048576):(∀ d ∈ s.defs,TB d.t/\DN d.t)/\(TB s.root/\DN s.root)/\s.defs.length<=2000000 :=
 ⟨fun d hd=>PL (h d hd) (by have:=LP hd; omega),PL hr (by have:=G1 s; omega),by have:=LQ s; omega⟩
end Go.Proofs.YtiijpgmpnijidaaGreatDoor
end
