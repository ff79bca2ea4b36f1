/-
  'typecaselaw.PathTells' returns true,whatever the input,where what comes in is of bulk at most 1048576,and the input reads as it did. No conditions.
-/
import Derived.Test.YtmfchbkdakmjhaaDoorPt4
import Derived.Test.YtmfchbkdakmjhaaDoorRows
import Derived.WalkKit
import Derived.ProofKit
import Derived.OpenShut
import Derived.JoinedCond
import Derived.ChangeMaps5
import Derived.Test.YtmfchbkdakmjhaaDoorCards
import Derived.Test.YtmfchbkdakmjhaaDoorTie
import Derived.Deep.DeepHandedRow
import Derived.Lib.LaidU8
import Derived.PinnedBridge
import Derived.Shelf.Spec.TrailingZeros
import Derived.Stop.LaidErr
set_option linter.constructorNameAsVariable false
set_option linter.unusedVariables false
set_option linter.unusedSimpArgs false
set_option linter.unusedSectionVars false
section
namespace Go.Proofs.YtmfchbkdakmjhaaDoor
set_option linter.unusedSectionVars false
set_option linter.unusedSimpArgs false
set_option linter.unusedVariables false
open Go Go.SX Go.Ck Go.Vl Go.Ut Go.Nm Go.Es Go.Up Go.Pth
set_option maxRecDepth 100000
set_option maxHeartbeats 4000000
def HasErr2 [G:Globs]:Prop:=HasErr∧∃ (T:TypeId) (p:Value) (e:TypeId) (fz:Nat × Nat),(5,Obj.cells #[.iface T p] e fz) ∈ G.gl
def numV (d:Str):Int × Bool:=match Lib.parseIntB 64 d with
  | .ok v=>(v,true)
  | .syntax=>(0,false)
  | .range=>(Lib.intSat 64 d,false)
theorem numR_eq (d:Str):numR d = ((numV d).1,(numV d).2 && decide (0≤(numV d).1∧(numV d).1≤4611686018427387904)):=by
  unfold numR numV
  cases Lib.parseIntB 64 d<;>simp
theorem im_tup2 {O:Nat→Prop} {w:World} {a b:AV} {u v:Value} (h1:Im O w a u) (h2:Im O w b v):Im O w (.tup [a,b]) (.tuple #[u,v]) :=
  .tup [a,b] [u,v] rfl (fun j av x hj hx=>by
    rcases j with _ | _ | j
    · cases hj; cases hx; exact h1
    · cases hj; cases hx; exact h2
    · cases hj)
theorem cutP1 (c:UInt8) (s:Str):cutP [c] s = if isPre [c] s = true then s.drop 1 else s:=rfl
theorem unqF_rng (s:Str):∀ (f:Nat) (o:Str) (i:Nat),0≤(unqF s f o i).2.1∧(unqF s f o i).2.1≤s.length
  | 0,_,_=>⟨Int.le_refl _,by show (0:Int)≤_; omega⟩
  | f + 1,o,i=>by
    rw [unqF]
    have z:∀ e:Int,0≤(([],0,e):Str × Int × Int).2.1∧(([],0,e):Str × Int × Int).2.1≤s.length:=fun e=>⟨Int.le_refl _,by show (0:Int)≤_; omega⟩
    split
    · split
      · exact ⟨by show (0:Int)≤(i:Int) + 1; omega,by show (i:Int) + 1≤_; omega⟩
      split
      · exact z _
      split
      · split
        · exact z _
        · exact unqF_rng s f _ _
      split
      · exact z _
      · exact unqF_rng s f _ _
    · exact z _
theorem unq_rng (s:Str):0≤(unq s).2.1∧(unq s).2.1≤s.length:=by
  unfold unq
  split
  · exact unqF_rng s _ _ _
  · exact ⟨Int.le_refl _,by show (0:Int)≤_; omega⟩
theorem qFrom_le (s:Str) (n:Nat):∀ k,s.length≤n + k→(qFrom s k).length≤6 * n:=by
  induction n with
  | zero=>intro k hk; rw [qFrom_end (by omega)]; exact Nat.le_refl _
  | succ n ih =>
    intro k hk
    by_cases h:k < s.length
    · have hp:=dec_pos s k
      have h6:=q1_le (r:=((decAt s k).1:Int)) (by omega)
      have:=ih (k + (decAt s k).2) (by omega)
      rw [qFrom_step h,List.length_append]
      omega
    · rw [qFrom_end (by omega)]; exact Nat.zero_le _
theorem qAll_le (s:Str):(qAll s).length≤6 * s.length + 2:=by
  have:=qFrom_le s s.length 0 (by omega)
  unfold qAll
  simp only [List.length_append,List.length_cons,List.length_nil]
  omega
theorem keyT_le {s:Str} (h:s.length≤100):(keyT s).length≤602:=by
  have:=qAll_le s
  unfold keyT
  split<;>omega
theorem stepF_len {x:PStep} (h:stepF x = 0):x.key.length≤100:=by
  unfold stepF at h
  split at h
  · cases h
  split at h
  · cases h
  · omega
theorem numT_pos {n:Int} (h:0≤n):numT n 10 = txtN 10 n.toNat:=by
  unfold numT
  rw [if_neg (by omega),show frontS ((10:Nat):Int) = [] from rfl,show n.natAbs = n.toNat by omega]
  rfl
theorem numT_le {n:Int} (h0 : -9223372036854775808≤n) (h1:n≤9223372036854775807):(numT n 10).length≤21:=by
  have:=Lib.itoa_length_le n h0 h1
  rw [itoa_txt] at this
  exact this
theorem tail_step {l:List PStep} {i:Nat} (h:i < l.length):tailT (l.drop i) = Pth.stepT l[i]++tailT (l.drop (i + 1)):=by
  rw [List.drop_eq_getElem_cons h]
  rfl
section
variable [G:Globs]
theorem s_parseInt (he:HasErr2) (s:Str) (hs:s.length≤1048576):PSpec Tryd.prog 106 [.s s,.i .i64 10,.i .i64 64] (.tup [.i .i64 (numV s).1,.er (if (numV s).2 then none else some (204,none))]):=by
  refine ⟨Tryd.call106,fun O w vs hO hG hargs=>?_⟩
  obtain ⟨v0,vs0,rfl,h0,h⟩:=hargs.cons_inv
  obtain ⟨v1,vs1,rfl,h1,h⟩:=h.cons_inv
  obtain ⟨v2,vs2,rfl,h2,h⟩:=h.cons_inv
  obtain rfl:=h.nil_inv
  cases h0
  cases h1
  cases h2
  obtain ⟨⟨T,p,e,fz,hm⟩,T',p',e',fz',hm'⟩:=he
  have hcell:w.cell? ⟨4,0,none⟩ = some (.iface T p):=by simp [World.cell?,(hG _ hm).2]
  have hcell':w.cell? ⟨5,0,none⟩ = some (.iface T' p'):=by simp [World.cell?,(hG _ hm').2]
  cases hq:Lib.parseIntB 64 s with
  | ok v =>
    have hv:numV s = (v,true):=by unfold numV; rw [hq]
    rw [hv]
    refine (Tryd.strconv_ParseInt_10_at64_ok ⟨s.toArray⟩ (by show s.length≤_; omega) v hq w).mono fun e w' ⟨he,hw⟩=>?_
    subst he
    refine ⟨_,rfl,?_,im_tup2 (.i _ _) .er0⟩
    rcases hw with rfl | ⟨t,rfl⟩
    · exact Stp.refl _ _
    · exact bytes_stp _ _ _
  | «syntax» =>
    have hv:numV s = (0,false):=by unfold numV; rw [hq]
    rw [hv]
    refine (Tryd.strconv_ParseInt_10_at64_syntax ⟨s.toArray⟩ (by show s.length≤_; omega) hq (.iface T p) w hcell (.inr ⟨_,_,rfl⟩)).mono fun e w' ⟨N,he,_,_,hb⟩=>?_
    subst he
    exact ⟨_,rfl,⟨hb.os,hb.tape,hb.output,hb.size,fun k hk _=>hb.block k hk⟩,im_tup2 (.i _ _) (.er2 _ _)⟩
  | range =>
    have hv:numV s = (Lib.intSat 64 s,false):=by unfold numV; rw [hq]
    rw [hv]
    refine (Tryd.strconv_ParseInt_10_at64_range ⟨s.toArray⟩ (by show s.length≤_; omega) hq (.iface T' p') w hcell' (.inr ⟨_,_,rfl⟩)).mono fun e w' ⟨N,he,_,_,hb⟩=>?_
    subst he
    exact ⟨_,rfl,⟨hb.os,hb.tape,hb.output,hb.size,fun k hk _=>hb.block k hk⟩,im_tup2 (.i _ _) (.er2 _ _)⟩
theorem s_itoa (ht:HasNum) (n:Int) (h0 : -9223372036854775808≤n) (h1:n≤9223372036854775807):PSpec Tryd.prog 103 [.i .i64 n] (.s (numT n 10)):=by
  refine ⟨Tryd.call103,fun O w vs hO hG hargs=>?_⟩
  obtain ⟨v0,vs0,rfl,h2,h⟩:=hargs.cons_inv
  obtain rfl:=h.nil_inv
  cases h2
  obtain ⟨o0,o1,m0,m1,hT⟩:=ht
  have hT:=(hT w (hG _ m0).2 (hG _ m1).2).1
  refine (Tryd.strconv_Itoa n h0 h1 w hT).mono fun e w' ⟨he,k,os,hw⟩=>?_
  subst he hw
  refine ⟨_,rfl,?_,?_⟩
  · exact grow_stp w k os
  · rw [itoa_txt]
    have hl:=Lib.itoa_length_le n h0 h1
    rw [itoa_txt] at hl
    exact .s _ (by unfold maxLen; omega)
theorem w_stepW (he:HasErr2) (hu:HasU8) (s:Str) (hs:s.length≤1048576):vc Tryd.prog Γ 88 [0,2,3,4,5,6,7,8,10,11,12,13,14,15,16,17,23,54,57,74] (Tryd.f70.body.getD .skip) (postK Γ [.cell 2 81,.tmp 3,.tmp 4] (fun v=>v = .tup [.agg (enc .pstep (stpP s).1),.s (stpP s).2.1,.b (stpP s).2.2])) ⟨argSlots 0 [.s s],[]⟩:=by
  have hC1:=s_cutPre s [91]
  have hC2:=s_cutPre s [46]
  rw [cutP1] at hC1 hC2
  have hd:(s.drop 1).length≤1048576:=by rw [List.length_drop]; omega
  unfold stpP
  by_cases h91:isPre [91] s = true
  · rw [if_pos h91]
    rw [if_pos h91,h91] at hC1
    have hX:=s_cutS (s.drop 1) 93 (by omega)
    generalize s.drop 1 = r at *
    generalize hE:r.findIdx (· == 93) = e at *
    have hP:=s_parseInt he (r.take e) (by rw [List.length_take]; omega)
    rw [numR_eq]
    generalize numV (r.take e) = z at *
    obtain ⟨v,ok⟩:=z
    refine Or.inl (Exists.intro _ (And.intro (hC1) ?_))
    (repeat' (first | (refine And.intro (fun h=>?_) (fun h=>?_)<;>(try simp [-List.getD_eq_getElem?_getD,-Int.pred_toNat] at h)<;>(try (exfalso; first | omega | contradiction))) | (refine And.intro (rng64 (by omega) (by omega)) ?_) | (refine And.intro ⟨by omega,by omega⟩ ?_) | (refine And.intro ⟨by omega,by omega,by omega⟩ ?_) | (intro _)))
    refine Or.inl (Exists.intro _ (And.intro (hX) ?_))
    (repeat' (first | (refine And.intro (fun h=>?_) (fun h=>?_)<;>(try simp [-List.getD_eq_getElem?_getD,-Int.pred_toNat] at h)<;>(try (exfalso; first | omega | contradiction))) | (refine And.intro (rng64 (by omega) (by omega)) ?_) | (refine And.intro ⟨by omega,by omega⟩ ?_) | (refine And.intro ⟨by omega,by omega,by omega⟩ ?_) | (intro _)))
    cases ok with
    | false =>
      refine Or.inl (Exists.intro _ (And.intro (hP) ?_))
      (repeat' (first | (refine And.intro (fun h=>?_) (fun h=>?_)<;>(try simp [-List.getD_eq_getElem?_getD,-Int.pred_toNat] at h)<;>(try (exfalso; first | omega | contradiction))) | (refine And.intro (rng64 (by omega) (by omega)) ?_) | (refine And.intro ⟨by omega,by omega⟩ ?_) | (refine And.intro ⟨by omega,by omega,by omega⟩ ?_) | (intro _)))
      all_goals rfl
    | true =>
      refine Or.inl (Exists.intro _ (And.intro (hP) ?_))
      (repeat' (first | (refine And.intro (fun h=>?_) (fun h=>?_)<;>(try simp [-List.getD_eq_getElem?_getD,-Int.pred_toNat] at h)<;>(try (exfalso; first | omega | contradiction))) | (refine And.intro (rng64 (by omega) (by omega)) ?_) | (refine And.intro ⟨by omega,by omega⟩ ?_) | (refine And.intro ⟨by omega,by omega,by omega⟩ ?_) | (intro _)))
      all_goals refine congrArg (fun b:Bool=>AV.tup [.agg [.s [],.i .i64 v],.s (r.drop (e + 1)),.b b]) ?_
      all_goals rw [Bool.eq_iff_iff]
      all_goals simp
      all_goals omega
  rw [if_neg h91]
  rw [if_neg h91,Bool.eq_false_iff.2 h91] at hC1
  by_cases h46:isPre [46] s = true
  rotate_left
  · rw [if_neg h46]
    rw [if_neg h46,Bool.eq_false_iff.2 h46] at hC2
    refine Or.inl (Exists.intro _ (And.intro (hC1) ?_))
    (repeat' (first | (refine And.intro (fun h=>?_) (fun h=>?_)<;>(try simp [-List.getD_eq_getElem?_getD,-Int.pred_toNat] at h)<;>(try (exfalso; first | omega | contradiction))) | (refine And.intro (rng64 (by omega) (by omega)) ?_) | (refine And.intro ⟨by omega,by omega⟩ ?_) | (refine And.intro ⟨by omega,by omega,by omega⟩ ?_) | (intro _)))
    refine Or.inl (Exists.intro _ (And.intro (hC2) ?_))
    (repeat' (first | (refine And.intro (fun h=>?_) (fun h=>?_)<;>(try simp [-List.getD_eq_getElem?_getD,-Int.pred_toNat] at h)<;>(try (exfalso; first | omega | contradiction))) | (refine And.intro (rng64 (by omega) (by omega)) ?_) | (refine And.intro ⟨by omega,by omega⟩ ?_) | (refine And.intro ⟨by omega,by omega,by omega⟩ ?_) | (intro _)))
    all_goals rfl
  rw [if_pos h46]
  rw [if_pos h46,h46] at hC2
  have hH:=s_hasPre (s.drop 1) [34]
  have hU:=s_unqP he.1 hu (s.drop 1) hd
  have hA:=s_idxAny (s.drop 1) hd
  generalize s.drop 1 = r at *
  by_cases h34:isPre [34] r = true
  · rw [if_pos h34]
    rw [h34] at hH
    unfold tupU at hU
    refine Or.inl (Exists.intro _ (And.intro (hC1) ?_))
    (repeat' (first | (refine And.intro (fun h=>?_) (fun h=>?_)<;>(try simp [-List.getD_eq_getElem?_getD,-Int.pred_toNat] at h)<;>(try (exfalso; first | omega | contradiction))) | (refine And.intro (rng64 (by omega) (by omega)) ?_) | (refine And.intro ⟨by omega,by omega⟩ ?_) | (refine And.intro ⟨by omega,by omega,by omega⟩ ?_) | (intro _)))
    refine Or.inl (Exists.intro _ (And.intro (hC2) ?_))
    (repeat' (first | (refine And.intro (fun h=>?_) (fun h=>?_)<;>(try simp [-List.getD_eq_getElem?_getD,-Int.pred_toNat] at h)<;>(try (exfalso; first | omega | contradiction))) | (refine And.intro (rng64 (by omega) (by omega)) ?_) | (refine And.intro ⟨by omega,by omega⟩ ?_) | (refine And.intro ⟨by omega,by omega,by omega⟩ ?_) | (intro _)))
    refine Or.inl (Exists.intro _ (And.intro (hH) ?_))
    (repeat' (first | (refine And.intro (fun h=>?_) (fun h=>?_)<;>(try simp [-List.getD_eq_getElem?_getD,-Int.pred_toNat] at h)<;>(try (exfalso; first | omega | contradiction))) | (refine And.intro (rng64 (by omega) (by omega)) ?_) | (refine And.intro ⟨by omega,by omega⟩ ?_) | (refine And.intro ⟨by omega,by omega,by omega⟩ ?_) | (intro _)))
    have hr:=unq_rng r
    refine Or.inl (Exists.intro _ (And.intro (hU) ?_))
    refine Exists.intro [.take 0,.take 2,.take 3,.take 4,.take 5,.take 6,.one 1,.one 7,.blk [8,9]] (And.intro (by kernel_rfl) ?_)
    (repeat' (first | (refine And.intro (fun h=>?_) (fun h=>?_)<;>(try simp [-List.getD_eq_getElem?_getD,-Int.pred_toNat] at h)<;>(try (exfalso; first | omega | contradiction))) | (refine And.intro (rng64 (by omega) (by omega)) ?_) | (refine And.intro ⟨by omega,by omega⟩ ?_) | (refine And.intro ⟨by omega,by omega,by omega⟩ ?_) | (intro _)))
    show AV.tup [.agg [.s (unq r).1,.i .i64 (-1)],.s (List.drop (unq r).2.1.toNat (List.take (Int.toNat (r.length:Int)) r)),.b ((unq r).2.2 == 0)] = _
    rw [Int.toNat_natCast,List.take_length]
    refine congrArg (fun b:Bool=>AV.tup [.agg [.s (unq r).1,.i .i64 (-1)],.s (r.drop (unq r).2.1.toNat),.b b]) ?_
    rw [Bool.eq_iff_iff,beq_iff_eq,decide_eq_true_eq]
  · rw [if_neg h34]
    rw [Bool.eq_false_iff.2 h34] at hH
    refine Or.inl (Exists.intro _ (And.intro (hC1) ?_))
    (repeat' (first | (refine And.intro (fun h=>?_) (fun h=>?_)<;>(try simp [-List.getD_eq_getElem?_getD,-Int.pred_toNat] at h)<;>(try (exfalso; first | omega | contradiction))) | (refine And.intro (rng64 (by omega) (by omega)) ?_) | (refine And.intro ⟨by omega,by omega⟩ ?_) | (refine And.intro ⟨by omega,by omega,by omega⟩ ?_) | (intro _)))
    refine Or.inl (Exists.intro _ (And.intro (hC2) ?_))
    (repeat' (first | (refine And.intro (fun h=>?_) (fun h=>?_)<;>(try simp [-List.getD_eq_getElem?_getD,-Int.pred_toNat] at h)<;>(try (exfalso; first | omega | contradiction))) | (refine And.intro (rng64 (by omega) (by omega)) ?_) | (refine And.intro ⟨by omega,by omega⟩ ?_) | (refine And.intro ⟨by omega,by omega,by omega⟩ ?_) | (intro _)))
    refine Or.inl (Exists.intro _ (And.intro (hH) ?_))
    (repeat' (first | (refine And.intro (fun h=>?_) (fun h=>?_)<;>(try simp [-List.getD_eq_getElem?_getD,-Int.pred_toNat] at h)<;>(try (exfalso; first | omega | contradiction))) | (refine And.intro (rng64 (by omega) (by omega)) ?_) | (refine And.intro ⟨by omega,by omega⟩ ?_) | (refine And.intro ⟨by omega,by omega,by omega⟩ ?_) | (intro _)))
    have hle:=List.findIdx_le_length (xs:=r) (p:=endC)
    generalize r.findIdx endC = e at *
    by_cases hlt:e < r.length
    · rw [if_pos hlt] at hA
      have hsl:List.drop (Int.toNat 0) (List.take (Int.toNat (e:Int)) r) = r.take e:=by rw [Int.toNat_natCast]; rfl
      have hsr:List.drop (Int.toNat (e:Int)) (List.take (Int.toNat (r.length:Int)) r) = r.drop e:=by rw [Int.toNat_natCast,Int.toNat_natCast,List.take_length]
      have hB:=s_bareP (List.drop (Int.toNat 0) (List.take (Int.toNat (e:Int)) r))
      refine Or.inl (Exists.intro _ (And.intro (hA) ?_))
      (repeat' (first | (refine And.intro (fun h=>?_) (fun h=>?_)<;>(try simp [-List.getD_eq_getElem?_getD,-Int.pred_toNat] at h)<;>(try (exfalso; first | omega | contradiction))) | (refine And.intro (rng64 (by omega) (by omega)) ?_) | (refine And.intro ⟨by omega,by omega⟩ ?_) | (refine And.intro ⟨by omega,by omega,by omega⟩ ?_) | (intro _)))
      refine Exists.intro [.take 0,.take 1,.take 2,.take 4,.take 5,.take 6,.blk [3,7,8,9,10],.one 11,.blk [12,13]] (And.intro (by kernel_rfl) ?_)
      (repeat' (first | (refine And.intro (fun h=>?_) (fun h=>?_)<;>(try simp [-List.getD_eq_getElem?_getD,-Int.pred_toNat] at h)<;>(try (exfalso; first | omega | contradiction))) | (refine And.intro (rng64 (by omega) (by omega)) ?_) | (refine And.intro ⟨by omega,by omega⟩ ?_) | (refine And.intro ⟨by omega,by omega,by omega⟩ ?_) | (intro _)))
      refine Exists.intro _ (And.intro (hB) ?_)
      show AV.tup [.agg [.s (List.drop (Int.toNat 0) (List.take (Int.toNat (e:Int)) r)),.i .i64 (-1)],.s (List.drop (Int.toNat (e:Int)) (List.take (Int.toNat (r.length:Int)) r)),.b (bare (List.drop (Int.toNat 0) (List.take (Int.toNat (e:Int)) r)))] = _
      rw [hsl,hsr]
      rfl
    · rw [if_neg hlt] at hA
      have he:e = r.length:=by omega
      subst he
      have hsl:List.drop (Int.toNat 0) (List.take (Int.toNat (r.length:Int)) r) = r.take r.length:=by rw [Int.toNat_natCast]; rfl
      have hsr:List.drop (Int.toNat (r.length:Int)) (List.take (Int.toNat (r.length:Int)) r) = r.drop r.length:=by rw [Int.toNat_natCast,List.take_length]
      have hB:=s_bareP (List.drop (Int.toNat 0) (List.take (Int.toNat (r.length:Int)) r))
      refine Or.inl (Exists.intro _ (And.intro (hA) ?_))
      (repeat' (first | (refine And.intro (fun h=>?_) (fun h=>?_)<;>(try simp [-List.getD_eq_getElem?_getD,-Int.pred_toNat] at h)<;>(try (exfalso; first | omega | contradiction))) | (refine And.intro (rng64 (by omega) (by omega)) ?_) | (refine And.intro ⟨by omega,by omega⟩ ?_) | (refine And.intro ⟨by omega,by omega,by omega⟩ ?_) | (intro _)))
      refine Exists.intro [.take 0,.take 1,.take 2,.take 4,.take 5,.take 6,.blk [3,7,8,9,10],.one 11,.blk [12,13]] (And.intro (by kernel_rfl) ?_)
      (repeat' (first | (refine And.intro (fun h=>?_) (fun h=>?_)<;>(try simp [-List.getD_eq_getElem?_getD,-Int.pred_toNat] at h)<;>(try (exfalso; first | omega | contradiction))) | (refine And.intro (rng64 (by omega) (by omega)) ?_) | (refine And.intro ⟨by omega,by omega⟩ ?_) | (refine And.intro ⟨by omega,by omega,by omega⟩ ?_) | (intro _)))
      refine Exists.intro _ (And.intro (hB) ?_)
      show AV.tup [.agg [.s (List.drop (Int.toNat 0) (List.take (Int.toNat (r.length:Int)) r)),.i .i64 (-1)],.s (List.drop (Int.toNat (r.length:Int)) (List.take (Int.toNat (r.length:Int)) r)),.b (bare (List.drop (Int.toNat 0) (List.take (Int.toNat (r.length:Int)) r)))] = _
      rw [hsl,hsr]
      rfl
theorem s_stepW (he:HasErr2) (hu:HasU8) (s:Str) (hs:s.length≤1048576):PSpec Tryd.prog 70 [.s s] (.tup [.agg (enc .pstep (stpP s).1),.s (stpP s).2.1,.b (stpP s).2.2]) :=
  pspec_of_vc Γ_good Tryd.func70 rfl Tryd.call70 Tryd.results70 Tryd.ntmps70 (Nat.le_of_ble_eq_true rfl) (w_stepW he hu s hs)
theorem w_textW (ht:HasNum) (hu:HasU8) (l:List PStep) (hf:pathF l = 0) (hi':∀ x ∈ l,x.i≤9223372036854775807):vc Tryd.prog Γ 36 [0,2,3,5,6,8,9,10,11,16] (Tryd.f68.body.getD .skip) (postK Γ [.tmp 2] (fun v=>v = .s (pathT l))) ⟨argSlots 0 [.rd .pstep l],[]⟩:=by
  obtain ⟨hl20,hst⟩:=path_right hf
  intro _
  refine Exists.intro [] (Exists.intro [] (Exists.intro [] (Exists.intro (Nat × Str) (Exists.intro (fun x=>x.1≤l.length∧x.2++tailT (l.drop x.1) = pathT l∧x.2.length≤1 + 1000 * x.1) (Exists.intro (fun ⟨i,o⟩=>⟨[(3,.s o),(8,.rd .pstep l),(9,.i .i64 l.length),(10,.i .i64 i)],[]⟩) (Exists.intro (fun x=>l.length - x.1) (Exists.intro (0,[36]) (And.intro ⟨Nat.zero_le _,rfl,Nat.le_refl _⟩ (And.intro ?_ ?_)))))))))
  · (repeat' (first | exact trivial | exact Or.inl rfl | exact Or.inr (Or.inl ⟨rfl,_,rfl⟩) | exact Or.inr (Or.inr (Or.inr ⟨_,_,_,rfl,rfl⟩)) | refine And.intro ?_ ?_))
  rintro ⟨i,o⟩ ⟨hk,heq,hol⟩
  simp only at hk heq hol
  refine And.intro (fun hz=>?_) (fun hz=>?_)
  · have hi:=ltD hz
    have hg:=getI (τ:=.pstep) hi
    refine And.intro ⟨by omega,by omega⟩ ?_
    rw [hg]
    have hx:=hst l[i] (List.getElem_mem hi)
    have hm:1000000≤maxLen:=by decide
    have hlen:=stepF_len hx
    have hkl:=keyT_le hlen
    have hix:=hi' l[i] (List.getElem_mem hi)
    obtain ⟨hc,hbad⟩:=stepF_ok hx
    rw [tail_step hi,← List.append_assoc] at heq
    rcases hc with hn | ⟨hn,hke⟩
    · have hK : PSpec Tryd.prog 20 [.s l[i].key] (.tup [.s (keyT l[i].key), .i .i64 0]) := by
        have:=s_keyP ht hu l[i].key (by omega)
        rw [if_neg (by omega:¬ 0≤bad l[i].key)] at this
        unfold keyT
        split
        · rename_i h; rw [if_pos h] at this; exact this
        · rename_i h; rw [if_neg h] at this; exact this
      rw [stepT_key hn] at heq
      generalize keyT l[i].key = K at *
      have hL:(o++46::K).length≤1 + 1000 * (i + 1):=by rw [List.length_append,List.length_cons]; omega
      (repeat' (first | (refine And.intro (fun h=>?_) (fun h=>?_)<;>(try simp [-List.getD_eq_getElem?_getD,-Int.pred_toNat] at h)<;>(try (exfalso; first | omega | contradiction))) | (refine And.intro (rng64 (by omega) (by omega)) ?_) | (refine And.intro ⟨by omega,by omega⟩ ?_) | (refine And.intro ⟨by omega,by omega,by omega⟩ ?_) | (intro _)))
      refine Or.inl (Exists.intro _ (And.intro (hK) ?_))
      refine And.intro (by show 1 + K.length≤maxLen; omega) ?_
      refine And.intro (by rw [List.length_append]; show o.length + (1 + K.length)≤maxLen; omega) ?_
      (refine And.intro (rng64 (by omega) (by omega)) ?_)
      refine Exists.intro [] (Exists.intro (i + 1,o++46::K) (And.intro ⟨by show i + 1≤l.length; omega,heq,hL⟩ (And.intro ?_ ?_)))
      · (repeat' (first | exact trivial | exact Or.inl rfl | exact Or.inr (Or.inl ⟨rfl,_,rfl⟩) | exact Or.inr (Or.inr (Or.inr ⟨_,_,_,rfl,rfl⟩)) | refine And.intro ?_ ?_))
      · show l.length - (i + 1) < l.length - i
        omega
    · have hI:=s_itoa ht l[i].i (by omega) (by omega)
      have hI2:=numT_le (n:=l[i].i) (by omega) (by omega)
      rw [stepT_num hn] at heq
      rw [numT_pos hn] at hI hI2
      generalize txtN 10 l[i].i.toNat = K at *
      have hL:(o++91::(K++[93])).length≤1 + 1000 * (i + 1):=by rw [List.length_append,List.length_cons,List.length_append]; show o.length + (K.length + 1 + 1)≤_; omega
      (repeat' (first | (refine And.intro (fun h=>?_) (fun h=>?_)<;>(try simp [-List.getD_eq_getElem?_getD,-Int.pred_toNat] at h)<;>(try (exfalso; first | omega | contradiction))) | (refine And.intro (rng64 (by omega) (by omega)) ?_) | (refine And.intro ⟨by omega,by omega⟩ ?_) | (refine And.intro ⟨by omega,by omega,by omega⟩ ?_) | (intro _)))
      refine Or.inl (Exists.intro _ (And.intro (hI) ?_))
      refine And.intro (by show 1 + K.length≤maxLen; omega) ?_
      refine And.intro (by rw [List.length_append]; show (1 + K.length) + 1≤maxLen; omega) ?_
      refine And.intro (by rw [List.length_append,List.length_append]; show o.length + ((1 + K.length) + 1)≤maxLen; omega) ?_
      (refine And.intro (rng64 (by omega) (by omega)) ?_)
      refine Exists.intro [] (Exists.intro (i + 1,o++91::(K++[93])) (And.intro ⟨by show i + 1≤l.length; omega,heq,hL⟩ (And.intro ?_ ?_)))
      · (repeat' (first | exact trivial | exact Or.inl rfl | exact Or.inr (Or.inl ⟨rfl,_,rfl⟩) | exact Or.inr (Or.inr (Or.inr ⟨_,_,_,rfl,rfl⟩)) | refine And.intro ?_ ?_))
      · show l.length - (i + 1) < l.length - i
        omega
  · have hk2:i = l.length:=by have:¬ (i:Int) < (l.length:Int):=of_decide_eq_false hz; omega
    subst hk2
    rw [List.drop_length,show tailT [] = [] from rfl,List.append_nil] at heq
    exact congrArg AV.s heq
theorem s_textW (ht:HasNum) (hu:HasU8) (l:List PStep) (hf:pathF l = 0) (hi':∀ x ∈ l,x.i≤9223372036854775807):PSpec Tryd.prog 68 [.rd .pstep l] (.s (pathT l)) :=
  pspec_of_vc Γ_good Tryd.func68 rfl Tryd.call68 Tryd.results68 Tryd.ntmps68 (Nat.le_of_ble_eq_true rfl) (w_textW ht hu l hf hi')
theorem w_TextW (ht:HasNum) (hu:HasU8) (l:List PStep) (hi:∀ x ∈ l,x.i≤9223372036854775807):vc Tryd.prog Γ 12 [0,2,3,4,8] (Tryd.f29.body.getD .skip) (postK Γ [.tmp 2,.tmp 3] (fun v=>v = .tup [.s (if pathF l = 0 then pathT l else []),.i .i64 (pathF l)])) ⟨argSlots 0 [.rd .pstep l],[]⟩:=by
  refine Or.inl (Exists.intro _ (And.intro (s_pathC hu l) ?_))
  by_cases hf:pathF l = 0
  · have hT:=s_textW ht hu l hf hi
    rw [hf,if_pos rfl]
    (repeat' (first | (refine And.intro (fun h=>?_) (fun h=>?_)<;>(try simp [-List.getD_eq_getElem?_getD,-Int.pred_toNat] at h)<;>(try (exfalso; first | omega | contradiction))) | (refine And.intro (rng64 (by omega) (by omega)) ?_) | (refine And.intro ⟨by omega,by omega⟩ ?_) | (refine And.intro ⟨by omega,by omega,by omega⟩ ?_) | (intro _)))
    refine Or.inl (Exists.intro _ (And.intro (hT) ?_))
    rfl
  · rw [if_neg hf]
    (repeat' (first | (refine And.intro (fun h=>?_) (fun h=>?_)<;>(try simp [-List.getD_eq_getElem?_getD,-Int.pred_toNat] at h)<;>(try (exfalso; first | omega | contradiction))) | (refine And.intro (rng64 (by omega) (by omega)) ?_) | (refine And.intro ⟨by omega,by omega⟩ ?_) | (refine And.intro ⟨by omega,by omega,by omega⟩ ?_) | (intro _)))
    all_goals rfl
theorem s_TextW (ht:HasNum) (hu:HasU8) (l:List PStep) (hi:∀ x ∈ l,x.i≤9223372036854775807):PSpec Tryd.prog 29 [.rd .pstep l] (.tup [.s (if pathF l = 0 then pathT l else []),.i .i64 (pathF l)]) :=
  pspec_of_vc Γ_good Tryd.func29 rfl Tryd.call29 Tryd.results29 Tryd.ntmps29 (Nat.le_of_ble_eq_true rfl) (w_TextW ht hu l hi)
theorem numV_rng (s:Str) : -9223372036854775808≤(numV s).1∧(numV s).1≤9223372036854775807:=by
  unfold numV
  cases h:Lib.parseIntB 64 s with
  | ok v =>
    have:=Lib.parseIntB_bounds h
    have h63:(2:Nat) ^ (64 - 1) = 9223372036854775808:=by decide
    rw [h63] at this
    exact ⟨this.1,by show v≤_; omega⟩
  | «syntax» =>
    show -9223372036854775808≤(0:Int)∧(0:Int)≤9223372036854775807
    exact ⟨by decide,by decide⟩
  | range =>
    show _≤Lib.intSat 64 s∧Lib.intSat 64 s≤_
    unfold Lib.intSat
    split
    · exact ⟨by decide,by decide⟩
    · exact ⟨by decide,by decide⟩
theorem stpP_rng (s:Str) : -9223372036854775808≤(stpP s).1.i∧(stpP s).1.i≤9223372036854775807:=by
  unfold stpP
  split
  · rw [numR_eq]
    exact numV_rng _
  split
  · split
    · exact ⟨by show _≤(-1:Int); decide,by show (-1:Int)≤_; decide⟩
    · exact ⟨by show _≤(-1:Int); decide,by show (-1:Int)≤_; decide⟩
  · exact ⟨by show _≤(0:Int); decide,by show (0:Int)≤_; decide⟩
theorem stpP_beh (s:Str):(stpP s).2.1.length≤s.length:=by
  unfold stpP
  split
  · show ((s.drop 1).drop _).length≤_
    rw [List.length_drop,List.length_drop]; omega
  split
  · split
    · show ((s.drop 1).drop _).length≤_
      rw [List.length_drop,List.length_drop]; omega
    · show ((s.drop 1).drop _).length≤_
      rw [List.length_drop,List.length_drop]; omega
  · exact Nat.zero_le _
def readA (x:List PStep × Int):AV:=.tup [.rd .pstep x.1,.i .i64 x.2]
theorem w_readW (ht:HasNum) (he:HasErr2) (hu:HasU8) (s:Str) (hs:s.length≤1048576):vc Tryd.prog Γ 47 [0,2,3,4,5,6,7,22,45] (Tryd.f30.body.getD .skip) (postK Γ [.tmp 2,.tmp 3] (fun v=>RL v (readA (readP s)))) ⟨argSlots 0 [.s s],[]⟩:=by
  have hC:=s_cutPre s [36]
  have hcl:(cutP [36] s).length≤1048576:=by rw [cutP1]; split<;>(try rw [List.length_drop])<;>omega
  unfold readP
  generalize cutP [36] s = c at *
  generalize isPre [36] s = b at *
  refine Or.inl (Exists.intro _ (And.intro (hC) ?_))
  refine Exists.intro [(6,6,.pstep)] (Exists.intro [] (Exists.intro [] (Exists.intro (Nat × List PStep × Str × Bool) (Exists.intro (fun x=>(∃ f,x.2.1.length + f = 21∧readF f x.2.1 x.2.2.1 x.2.2.2 = readF 21 [] c b∧x.1 = f)∧x.2.2.1.length≤1048576∧∀ q ∈ x.2.1,-9223372036854775808≤q.i∧q.i≤9223372036854775807) (Exists.intro (fun ⟨f,o,r,k⟩=>⟨[(0,.s s),(4,.s r),(5,.b k),(6,.vec 6 .pstep o)],[]⟩) (Exists.intro (fun x=>x.1) (Exists.intro (21,[],c,b) (And.intro ⟨⟨21,rfl,rfl,rfl⟩,hcl,fun q hq=>by cases hq⟩ (And.intro ?_ ?_)))))))))
  · (repeat' (first | exact trivial | exact Or.inl rfl | exact Or.inr (Or.inl ⟨rfl,_,rfl⟩) | exact Or.inr (Or.inr (Or.inr ⟨_,_,_,rfl,rfl⟩)) | refine And.intro ?_ ?_))
  rintro ⟨f,o,r,k⟩ ⟨⟨f',hf,heq,rfl⟩,hrl,hrg⟩
  simp only at hf heq hrl hrg
  by_cases hg:k = true∧r≠[]∧o.length≤20
  · obtain ⟨f',rfl⟩:∃ g,f = g + 1:=⟨f - 1,by omega⟩
    rw [readF,if_pos hg] at heq
    obtain ⟨rfl,hr,ho⟩:=hg
    have hr2:=stpP_rng r
    have hr3:=stpP_beh r
    have hS:=s_stepW he hu r hrl
    generalize stpP r = z at *
    obtain ⟨x,r',k'⟩:=z
    have hrg':∀ q ∈ o++[x],-9223372036854775808≤q.i∧q.i≤9223372036854775807:=fun q hq=>by
      rcases List.mem_append.1 hq with hq | hq
      · exact hrg q hq
      · rw [List.mem_singleton.1 hq]; exact hr2
    (repeat' (first | (refine And.intro (fun h=>?_) (fun h=>?_)<;>(try simp [-List.getD_eq_getElem?_getD,-Int.pred_toNat] at h)<;>(try (exfalso; first | omega | contradiction))) | (refine And.intro (rng64 (by omega) (by omega)) ?_) | (refine And.intro ⟨by omega,by omega⟩ ?_) | (refine And.intro ⟨by omega,by omega,by omega⟩ ?_) | (intro _)))
    refine Or.inl (Exists.intro _ (And.intro (hS) ?_))
    refine And.intro (by show (o.length + 1) * 24≤_; omega) ?_
    refine Exists.intro [(32,6)] (Exists.intro (f',o++[x],r',k') (And.intro ⟨⟨f',by show (o++[x]).length + f' = 21; rw [List.length_append]; show o.length + 1 + f' = 21; omega,heq,rfl⟩,by show r'.length≤1048576; have hr4:r'.length≤r.length:=hr3; omega,hrg'⟩ (And.intro ?_ ?_)))
    · (repeat' (first | exact trivial | exact Or.inl rfl | exact Or.inr (Or.inl ⟨rfl,_,rfl⟩) | exact Or.inr (Or.inr (Or.inr ⟨_,_,_,rfl,rfl⟩)) | refine And.intro ?_ ?_))
    · show f' < f' + 1
      omega
  · have hend : (o, k) = readF 21 [] c b := by
      rw [← heq]
      cases f with
      | zero=>rfl
      | succ f=>rw [readF,if_neg hg]
    rw [← hend]
    cases k with
    | false =>
      have hF:finP s (o,false) = ([],4):=if_neg (fun h=>by cases h.1)
      rw [hF]
      (repeat' (first | (refine And.intro (fun h=>?_) (fun h=>?_)<;>(try simp [-List.getD_eq_getElem?_getD,-Int.pred_toNat] at h)<;>(try (exfalso; first | omega | contradiction))) | (refine And.intro (rng64 (by omega) (by omega)) ?_) | (refine And.intro ⟨by omega,by omega⟩ ?_) | (refine And.intro ⟨by omega,by omega,by omega⟩ ?_) | (intro _)))
      all_goals (repeat' (first | exact trivial | exact Or.inl rfl | exact Or.inr ⟨rfl,_,rfl⟩ | refine And.intro ?_ ?_))
    | true =>
      have hg2:r = []∨20 < o.length:=by
        by_cases hr:r = []
        · exact .inl hr
        · exact .inr (Nat.lt_of_not_le fun h=>hg ⟨rfl,hr,h⟩)
      have hol:o.length≤21:=by omega
      have hC:=s_pathC hu o
      by_cases hp:pathF o = 0
      · have hT:=s_textW ht hu o hp (fun q hq=>(hrg q hq).2)
        obtain rfl:r = []:=hg2.resolve_right (fun h=>by have:=(path_right hp).1; omega)
        by_cases hts:pathT o = s
        · have hF:finP s (o,true) = (o,0):=if_pos ⟨rfl,hp,hts⟩
          rw [hF]
          rw [hp] at hC
          rw [hts] at hT
          (repeat' (first | (refine And.intro (fun h=>?_) (fun h=>?_)<;>(try simp [-List.getD_eq_getElem?_getD,-Int.pred_toNat] at h)<;>(try (exfalso; first | omega | contradiction))) | (refine And.intro (rng64 (by omega) (by omega)) ?_) | (refine And.intro ⟨by omega,by omega⟩ ?_) | (refine And.intro ⟨by omega,by omega,by omega⟩ ?_) | (intro _)))
          refine Or.inr (Or.inr (Or.inl (Exists.intro _ (And.intro (hC) ?_))))
          (repeat' (first | (refine And.intro (fun h=>?_) (fun h=>?_)<;>(try simp [-List.getD_eq_getElem?_getD,-Int.pred_toNat] at h)<;>(try (exfalso; first | omega | contradiction))) | (refine And.intro (rng64 (by omega) (by omega)) ?_) | (refine And.intro ⟨by omega,by omega⟩ ?_) | (refine And.intro ⟨by omega,by omega,by omega⟩ ?_) | (intro _)))
          refine Or.inr (Or.inr (Or.inl (Exists.intro _ (And.intro (hT) ?_))))
          (repeat' (first | (refine And.intro (fun h=>?_) (fun h=>?_)<;>(try simp [-List.getD_eq_getElem?_getD,-Int.pred_toNat] at h)<;>(try (exfalso; first | omega | contradiction))) | (refine And.intro (rng64 (by omega) (by omega)) ?_) | (refine And.intro ⟨by omega,by omega⟩ ?_) | (refine And.intro ⟨by omega,by omega,by omega⟩ ?_) | (intro _)))
          all_goals (repeat' (first | exact trivial | exact Or.inl rfl | exact Or.inr ⟨rfl,_,rfl⟩ | refine And.intro ?_ ?_))
        · have hF:finP s (o,true) = ([],4):=if_neg (fun h=>hts h.2.2)
          rw [hF]
          rw [hp] at hC
          (repeat' (first | (refine And.intro (fun h=>?_) (fun h=>?_)<;>(try simp [-List.getD_eq_getElem?_getD,-Int.pred_toNat] at h)<;>(try (exfalso; first | omega | contradiction))) | (refine And.intro (rng64 (by omega) (by omega)) ?_) | (refine And.intro ⟨by omega,by omega⟩ ?_) | (refine And.intro ⟨by omega,by omega,by omega⟩ ?_) | (intro _)))
          refine Or.inr (Or.inr (Or.inl (Exists.intro _ (And.intro (hC) ?_))))
          (repeat' (first | (refine And.intro (fun h=>?_) (fun h=>?_)<;>(try simp [-List.getD_eq_getElem?_getD,-Int.pred_toNat] at h)<;>(try (exfalso; first | omega | contradiction))) | (refine And.intro (rng64 (by omega) (by omega)) ?_) | (refine And.intro ⟨by omega,by omega⟩ ?_) | (refine And.intro ⟨by omega,by omega,by omega⟩ ?_) | (intro _)))
          refine Or.inr (Or.inr (Or.inl (Exists.intro _ (And.intro (hT) ?_))))
          (repeat' (first | (refine And.intro (fun h=>?_) (fun h=>?_)<;>(try simp [-List.getD_eq_getElem?_getD,-Int.pred_toNat] at h)<;>(try (exfalso; first | omega | contradiction))) | (refine And.intro (rng64 (by omega) (by omega)) ?_) | (refine And.intro ⟨by omega,by omega⟩ ?_) | (refine And.intro ⟨by omega,by omega,by omega⟩ ?_) | (intro _)))
          all_goals (repeat' (first | exact trivial | exact Or.inl rfl | exact Or.inr ⟨rfl,_,rfl⟩ | refine And.intro ?_ ?_))
      · have hF:finP s (o,true) = ([],4):=if_neg (fun h=>hp h.2.1)
        rw [hF]
        rcases hg2 with rfl | h20
        all_goals
          (repeat' (first | (refine And.intro (fun h=>?_) (fun h=>?_)<;>(try simp [-List.getD_eq_getElem?_getD,-Int.pred_toNat] at h)<;>(try (exfalso; first | omega | contradiction))) | (refine And.intro (rng64 (by omega) (by omega)) ?_) | (refine And.intro ⟨by omega,by omega⟩ ?_) | (refine And.intro ⟨by omega,by omega,by omega⟩ ?_) | (intro _)))
          all_goals refine Or.inr (Or.inr (Or.inl (Exists.intro _ (And.intro (hC) ?_))))
          all_goals (repeat' (first | (refine And.intro (fun h=>?_) (fun h=>?_)<;>(try simp [-List.getD_eq_getElem?_getD,-Int.pred_toNat] at h)<;>(try (exfalso; first | omega | contradiction))) | (refine And.intro (rng64 (by omega) (by omega)) ?_) | (refine And.intro ⟨by omega,by omega⟩ ?_) | (refine And.intro ⟨by omega,by omega,by omega⟩ ?_) | (intro _)))
          all_goals (repeat' (first | exact trivial | exact Or.inl rfl | exact Or.inr ⟨rfl,_,rfl⟩ | refine And.intro ?_ ?_))
theorem s_readW (ht:HasNum) (he:HasErr2) (hu:HasU8) (s:Str) (hs:s.length≤1048576):PSpec Tryd.prog 30 [.s s] (readA (readP s)) :=
  pspec_of_vcL Γ_good Tryd.func30 rfl Tryd.call30 Tryd.results30 Tryd.ntmps30 (Nat.le_of_ble_eq_true rfl) (w_readW ht he hu s hs)
end
end Go.Proofs.YtmfchbkdakmjhaaDoor
end
section
namespace Go.Proofs.YtmfchbkdakmjhaaDoor
set_option linter.unusedSectionVars false
set_option linter.unusedSimpArgs false
set_option linter.unusedVariables false
open Go Go.SX Go.Ut Go.Nm Go.Es
set_option maxRecDepth 100000
set_option maxHeartbeats 8000000
section
variable [G:Globs]
theorem w_unqR (s:Str) (hs:s.length≤1048576):vc Tryd.prog Γ 168 [0,2,3,4,5,6,7,8,9,10,17,27,31,38,47,64,67,68,81,87,93,99,112,129,158,163] (Tryd.f25.body.getD .skip) (postK Γ [.tmp 2,.tmp 3,.tmp 4] (fun v=>v = tupU (unq s))) ⟨argSlots 0 [.s s],[]⟩:=by
  unfold unq
  by_cases h0:s = []
  · subst h0
    (repeat' (first | (refine And.intro (fun h=>?_) (fun h=>?_)<;>(try simp [-List.getD_eq_getElem?_getD,-Int.pred_toNat] at h)<;>(try (exfalso; first | omega | contradiction))) | (refine And.intro (rng64 (by omega) (by omega)) ?_) | (refine And.intro ⟨by omega,by omega⟩ ?_) | (refine And.intro ⟨by omega,by omega,by omega⟩ ?_) | (intro _)))
    rfl
  have h1:1≤s.length:=by cases s with | nil=>exact absurd rfl h0 | cons _ _=>exact Nat.succ_le_succ (Nat.zero_le _)
  by_cases hp:(s.getD 0 0).toNat = 34
  rotate_left
  · rw [if_neg (fun h=>hp ((pre34 s).1 h).2)]
    (repeat' (first | (refine And.intro (fun h=>?_) (fun h=>?_)<;>(try simp [-List.getD_eq_getElem?_getD,-Int.pred_toNat] at h)<;>(try (exfalso; first | omega | contradiction))) | (refine And.intro (rng64 (by omega) (by omega)) ?_) | (refine And.intro ⟨by omega,by omega⟩ ?_) | (refine And.intro ⟨by omega,by omega,by omega⟩ ?_) | (intro _)))
    all_goals rfl
  rw [if_pos ((pre34 s).2 ⟨h0,hp⟩)]
  generalize hR:unqFrom s [] 1 = R
  (repeat' (first | (refine And.intro (fun h=>?_) (fun h=>?_)<;>(try simp [-List.getD_eq_getElem?_getD,-Int.pred_toNat] at h)<;>(try (exfalso; first | omega | contradiction))) | (refine And.intro (rng64 (by omega) (by omega)) ?_) | (refine And.intro ⟨by omega,by omega⟩ ?_) | (refine And.intro ⟨by omega,by omega,by omega⟩ ?_) | (intro _)))
  refine Exists.intro [] (Exists.intro [] (Exists.intro [] (Exists.intro (Str × Nat) (Exists.intro (fun x=>1≤x.2∧x.2≤s.length + 10∧unqFrom s x.1 x.2 = R∧x.1.length≤4 * x.2) (Exists.intro (fun ⟨o,i⟩=>⟨[(0,.s s),(5,.s o),(6,.i .i64 i)],[]⟩) (Exists.intro (fun x=>s.length - x.2) (Exists.intro ([],1) (And.intro ⟨Nat.le_refl _,by omega,hR,Nat.zero_le _⟩ (And.intro ?_ ?_)))))))))
  · (repeat' (first | exact trivial | exact Or.inl rfl | exact Or.inr (Or.inl ⟨rfl,_,rfl⟩) | exact Or.inr (Or.inr (Or.inr ⟨_,_,_,rfl,rfl⟩)) | refine And.intro ?_ ?_))
  rintro ⟨o,i⟩ ⟨hi1,hi2,heq,hol⟩
  simp only at hi1 hi2 heq hol
  by_cases hk:i < s.length
  rotate_left
  · rw [unq_end (by omega)] at heq
    rw [← heq]
    (repeat' (first | (refine And.intro (fun h=>?_) (fun h=>?_)<;>(try simp [-List.getD_eq_getElem?_getD,-Int.pred_toNat] at h)<;>(try (exfalso; first | omega | contradiction))) | (refine And.intro (rng64 (by omega) (by omega)) ?_) | (refine And.intro ⟨by omega,by omega⟩ ?_) | (refine And.intro ⟨by omega,by omega,by omega⟩ ?_) | (intro _)))
    all_goals rfl
  rw [unq_step hk] at heq
  have hcl:=(s.getD i 0).toNat_lt
  have hpp:=dec_pos s i
  have hle:=dec_le hk
  have hd:=dec_rune s i
  by_cases c1:(s.getD i 0).toNat = 34
  · rw [if_pos c1] at heq
    rw [← heq]
    (repeat' (first | (refine And.intro (fun h=>?_) (fun h=>?_)<;>(try simp [-List.getD_eq_getElem?_getD,-Int.pred_toNat] at h)<;>(try (exfalso; first | omega | contradiction))) | (refine And.intro (rng64 (by omega) (by omega)) ?_) | (refine And.intro ⟨by omega,by omega⟩ ?_) | (refine And.intro ⟨by omega,by omega,by omega⟩ ?_) | (intro _)))
    all_goals rfl
  rw [if_neg c1] at heq
  by_cases c2:(s.getD i 0).toNat = 10
  · rw [if_pos c2] at heq
    rw [← heq]
    (repeat' (first | (refine And.intro (fun h=>?_) (fun h=>?_)<;>(try simp [-List.getD_eq_getElem?_getD,-Int.pred_toNat] at h)<;>(try (exfalso; first | omega | contradiction))) | (refine And.intro (rng64 (by omega) (by omega)) ?_) | (refine And.intro ⟨by omega,by omega⟩ ?_) | (refine And.intro ⟨by omega,by omega,by omega⟩ ?_) | (intro _)))
    all_goals rfl
  rw [if_neg c2] at heq
  by_cases c3:(s.getD i 0).toNat = 92
  rotate_left
  · rw [if_neg c3] at heq
    (repeat' (first | (refine And.intro (fun h=>?_) (fun h=>?_)<;>(try simp [-List.getD_eq_getElem?_getD,-Int.pred_toNat] at h)<;>(try (exfalso; first | omega | contradiction))) | (refine And.intro (rng64 (by omega) (by omega)) ?_) | (refine And.intro ⟨by omega,by omega⟩ ?_) | (refine And.intro ⟨by omega,by omega,by omega⟩ ?_) | (intro _)))
    rw [show List.drop (i:Int).toNat (List.take (s.length:Int).toNat s) = s.drop i by rw [Int.toNat_natCast,Int.toNat_natCast,List.take_length]]
    have qc:=s_Code (s.drop i)
    unfold codeR at qc
    rw [code_at hk] at qc
    by_cases hb:(decAt s i).1 = 65533∧(decAt s i).2 = 1
    · rw [if_pos hb] at qc heq
      refine Or.inl (Exists.intro _ (And.intro (qc) ?_))
      rw [← heq]
      (focus (refine And.intro ?_ (fun h9=>?_); rotate_left 1; (focus (exfalso; revert h9; first | decide | (simp<;>omega) | (intro h9; simp at h9<;>omega))); refine fun _=>?_))
      rfl
    · rw [if_neg hb] at qc heq
      obtain ⟨hsc,hsz,hta⟩:=good_at hk hb
      have h4:=encS_le ((decAt s i).1:Int)
      have hmm:100000000≤maxLen:=by decide
      refine Or.inl (Exists.intro _ (And.intro (qc) ?_))
      refine And.intro (fun h9=>absurd (of_decide_eq_true h9) (by first | omega | (simp only; omega))) (fun _=>?_)
      refine And.intro ⟨by first | omega | (simp only; omega),by first | omega | (simp only; omega)⟩ ?_
      refine And.intro ⟨by first | omega | (simp only; omega),by first | omega | (simp only; omega),by first | omega | (simp only; omega)⟩ ?_
      have hcut:List.drop (i:Int).toNat (List.take ((i:Int) + ((decAt s i).2:Int)).toNat s) = encS ((decAt s i).1:Int):=by
        rw [← hta,Int.toNat_natCast,show ((i:Int) + ((decAt s i).2:Int)).toNat = i + (decAt s i).2 by omega,List.drop_take,Nat.add_sub_cancel_left]
      simp only
      rw [hcut]
      refine And.intro (by omega) ?_
      refine And.intro ⟨by first | omega | (simp only; omega),by first | omega | (simp only; omega)⟩ ?_
      refine Exists.intro [] (Exists.intro (o++encS ((decAt s i).1:Int),i + (decAt s i).2) (And.intro ⟨by show 1≤i + _; omega,by show i + _≤_; omega,heq,by show (o++encS ((decAt s i).1:Int)).length≤4 * (i + _); rw [List.length_append]; omega⟩ (And.intro ?_ ?_)))
      · (repeat' (first | exact trivial | exact Or.inl rfl | exact Or.inr (Or.inl ⟨rfl,_,rfl⟩) | exact Or.inr (Or.inr (Or.inr ⟨_,_,_,rfl,rfl⟩)) | refine And.intro ?_ ?_))
      · show s.length - (i + (decAt s i).2) < s.length - i
        omega
  rw [if_pos c3] at heq
  by_cases hk1:i + 1 < s.length
  rotate_left
  · rw [List.drop_eq_nil_of_le (by omega)] at heq
    rw [← show (([]:Str),(0:Int),(4:Int)) = R from heq]
    (repeat' (first | (refine And.intro (fun h=>?_) (fun h=>?_)<;>(try simp [-List.getD_eq_getElem?_getD,-Int.pred_toNat] at h)<;>(try (exfalso; first | omega | contradiction))) | (refine And.intro (rng64 (by omega) (by omega)) ?_) | (refine And.intro ⟨by omega,by omega⟩ ?_) | (refine And.intro ⟨by omega,by omega,by omega⟩ ?_) | (intro _)))
    all_goals rfl
  have hdr:s.drop (i + 1) = s.getD (i + 1) 0::s.drop (i + 2):=by
    rw [List.drop_eq_getElem_cons hk1,List.getD_eq_getElem?_getD,List.getElem?_eq_getElem hk1]
    rfl
  have hgi:s.getD ((i:Int) + 1).toNat 0 = s.getD (i + 1) 0:=by rw [show ((i:Int) + 1).toNat = i + 1 by omega]
  have hmm:100000000≤maxLen:=by decide
  have hc1:=(s.getD (i + 1) 0).toNat_lt
  rw [hdr,escP] at heq
  have hnx:∀ (b:UInt8),unqFrom s (o++[b]) (i + (1 + (1:Int)).toNat) = R→unqFrom s (o++[b]) (i + 2) = R:=fun b h=>h
  have stp:∀ (v:Int) (b:UInt8),encS v = [b]→(if ((v,(1:Int),(0:Int)):Int × Int × Int).2.2≠0 then (([]:Str),(0:Int),(v,(1:Int),(0:Int)).2.2) else unqFrom s (o++encS (v,(1:Int),(0:Int)).1) (i + (1 + (v,(1:Int),(0:Int)).2.1).toNat)) = R→unqFrom s (o++[b]) (i + 2) = R:=fun v b hb h=>by
    rw [if_neg (fun h=>h rfl)] at h
    rw [← hb]
    exact h
  by_cases d1:(s.getD (i + 1) 0).toNat = 34∨(s.getD (i + 1) 0).toNat = 92∨(s.getD (i + 1) 0).toNat = 47
  · rw [if_pos d1] at heq
    have heq:=stp _ (s.getD (i + 1) 0) (by
      unfold encS
      rw [if_pos (by omega)]
      exact congrArg (fun x:UInt8=>[x]) (eb_eq rfl)) heq
    have hcut:List.drop ((i:Int) + 1).toNat (List.take ((i:Int) + 1 + 1).toNat s) = [s.getD (i + 1) 0]:=by
      rw [show ((i:Int) + 1).toNat = i + 1 by omega,show ((i:Int) + 1 + 1).toNat = i + 1 + 1 by omega,List.drop_take,show i + 1 + 1 - (i + 1) = 1 by omega,hdr]
      rfl
    rcases d1 with d1 | d1 | d1
    all_goals
      (repeat' (first | (refine And.intro (fun h=>?_) (fun h=>?_)<;>(try simp [-List.getD_eq_getElem?_getD,-Int.pred_toNat] at h)<;>(try (exfalso; first | omega | contradiction))) | (refine And.intro (rng64 (by omega) (by omega)) ?_) | (refine And.intro ⟨by omega,by omega⟩ ?_) | (refine And.intro ⟨by omega,by omega,by omega⟩ ?_) | (intro _)))
      rw [hcut]
      refine And.intro (by show o.length + 1≤maxLen; omega) ?_
      refine And.intro ⟨by omega,by omega⟩ ?_
      refine Exists.intro [] (Exists.intro (o++[s.getD (i + 1) 0],i + 2) (And.intro ⟨by show 1≤i + 2; omega,by show i + 2≤_; omega,heq,by show (o++[_]).length≤4 * (i + 2); rw [List.length_append]; show o.length + 1≤_; omega⟩ (And.intro ?_ ?_)))
      · (repeat' (first | exact trivial | exact Or.inl rfl | exact Or.inl ((congrArg (AV.i .i64) (by show (i:Int) + 1 + 1 = ((i + 2:Nat):Int); omega))) | refine And.intro ?_ ?_))
      · show s.length - (i + 2) < s.length - i
        omega
  rw [if_neg d1] at heq
  by_cases d2:(s.getD (i + 1) 0).toNat = 110
  · rw [if_pos d2] at heq
    have heq:=stp 10 10 rfl heq
    (repeat' (first | (refine And.intro (fun h=>?_) (fun h=>?_)<;>(try simp [-List.getD_eq_getElem?_getD,-Int.pred_toNat] at h)<;>(try (exfalso; first | omega | contradiction))) | (refine And.intro (rng64 (by omega) (by omega)) ?_) | (refine And.intro ⟨by omega,by omega⟩ ?_) | (refine And.intro ⟨by omega,by omega,by omega⟩ ?_) | (intro _)))
    refine And.intro (by show o.length + 1≤maxLen; omega) ?_
    refine And.intro ⟨by omega,by omega⟩ ?_
    refine Exists.intro [] (Exists.intro (o++[10],i + 2) (And.intro ⟨by show 1≤i + 2; omega,by show i + 2≤_; omega,heq,by show (o++[_]).length≤4 * (i + 2); rw [List.length_append]; show o.length + 1≤_; omega⟩ (And.intro ?_ ?_)))
    · (repeat' (first | exact trivial | exact Or.inl rfl | exact Or.inl ((congrArg (AV.i .i64) (by show (i:Int) + 1 + 1 = ((i + 2:Nat):Int); omega))) | refine And.intro ?_ ?_))
    · show s.length - (i + 2) < s.length - i
      omega
  rw [if_neg d2] at heq
  by_cases d3:(s.getD (i + 1) 0).toNat = 116
  · rw [if_pos d3] at heq
    have heq:=stp 9 9 rfl heq
    (repeat' (first | (refine And.intro (fun h=>?_) (fun h=>?_)<;>(try simp [-List.getD_eq_getElem?_getD,-Int.pred_toNat] at h)<;>(try (exfalso; first | omega | contradiction))) | (refine And.intro (rng64 (by omega) (by omega)) ?_) | (refine And.intro ⟨by omega,by omega⟩ ?_) | (refine And.intro ⟨by omega,by omega,by omega⟩ ?_) | (intro _)))
    refine And.intro (by show o.length + 1≤maxLen; omega) ?_
    refine And.intro ⟨by omega,by omega⟩ ?_
    refine Exists.intro [] (Exists.intro (o++[9],i + 2) (And.intro ⟨by show 1≤i + 2; omega,by show i + 2≤_; omega,heq,by show (o++[_]).length≤4 * (i + 2); rw [List.length_append]; show o.length + 1≤_; omega⟩ (And.intro ?_ ?_)))
    · (repeat' (first | exact trivial | exact Or.inl rfl | exact Or.inl ((congrArg (AV.i .i64) (by show (i:Int) + 1 + 1 = ((i + 2:Nat):Int); omega))) | refine And.intro ?_ ?_))
    · show s.length - (i + 2) < s.length - i
      omega
  rw [if_neg d3] at heq
  by_cases d4:(s.getD (i + 1) 0).toNat = 114
  · rw [if_pos d4] at heq
    have heq:=stp 13 13 rfl heq
    (repeat' (first | (refine And.intro (fun h=>?_) (fun h=>?_)<;>(try simp [-List.getD_eq_getElem?_getD,-Int.pred_toNat] at h)<;>(try (exfalso; first | omega | contradiction))) | (refine And.intro (rng64 (by omega) (by omega)) ?_) | (refine And.intro ⟨by omega,by omega⟩ ?_) | (refine And.intro ⟨by omega,by omega,by omega⟩ ?_) | (intro _)))
    refine And.intro (by show o.length + 1≤maxLen; omega) ?_
    refine And.intro ⟨by omega,by omega⟩ ?_
    refine Exists.intro [] (Exists.intro (o++[13],i + 2) (And.intro ⟨by show 1≤i + 2; omega,by show i + 2≤_; omega,heq,by show (o++[_]).length≤4 * (i + 2); rw [List.length_append]; show o.length + 1≤_; omega⟩ (And.intro ?_ ?_)))
    · (repeat' (first | exact trivial | exact Or.inl rfl | exact Or.inl ((congrArg (AV.i .i64) (by show (i:Int) + 1 + 1 = ((i + 2:Nat):Int); omega))) | refine And.intro ?_ ?_))
    · show s.length - (i + 2) < s.length - i
      omega
  rw [if_neg d4] at heq
  by_cases d5:(s.getD (i + 1) 0).toNat = 117∧(s.drop (i + 2)).head? = some 123
  rotate_left
  · rw [if_neg d5,if_pos (by decide)] at heq
    rw [← show (([]:Str),(0:Int),(4:Int)) = R from heq]
    by_cases d6:(s.getD (i + 1) 0).toNat = 117
    · have d7 : s.length ≤ i + 2 ∨ (s.getD (i + 2) 0).toNat ≠ 123 := by
        by_cases h7:s.length≤i + 2
        · exact .inl h7
        · refine .inr fun h8=>d5 ⟨d6,?_⟩
          rw [List.head?_drop,List.getElem?_eq_getElem (by omega)]
          refine congrArg some (UInt8.toNat_inj.1 ?_)
          rw [List.getD_eq_getElem?_getD,List.getElem?_eq_getElem (by omega)] at h8
          exact h8
      by_cases h7:s.length≤i + 2
      · (repeat' (first | (refine And.intro (fun h=>?_) (fun h=>?_)<;>(try simp [-List.getD_eq_getElem?_getD,-Int.pred_toNat] at h)<;>(try (exfalso; first | omega | contradiction))) | (refine And.intro (rng64 (by omega) (by omega)) ?_) | (refine And.intro ⟨by omega,by omega⟩ ?_) | (refine And.intro ⟨by omega,by omega,by omega⟩ ?_) | (intro _)))
        all_goals rfl
      · have d7:¬ (s.getD (i + 2) 0).toNat = 123:=d7.resolve_left h7
        have d7b:¬ (s.getD (i + 1 + 1) 0).toNat = 123:=d7
        have d7c:¬ (s.getD ((i:Int) + 1 + 1).toNat 0).toNat = 123:=by rw [show ((i:Int) + 1 + 1).toNat = i + 2 by omega]; exact d7
        have d7d:¬ (s.getD ((i:Int) + 2).toNat 0).toNat = 123:=by rw [show ((i:Int) + 2).toNat = i + 2 by omega]; exact d7
        (repeat' (first | (refine And.intro (fun h=>?_) (fun h=>?_)<;>(try simp [-List.getD_eq_getElem?_getD,-Int.pred_toNat] at h)<;>(try (exfalso; first | omega | contradiction))) | (refine And.intro (rng64 (by omega) (by omega)) ?_) | (refine And.intro ⟨by omega,by omega⟩ ?_) | (refine And.intro ⟨by omega,by omega,by omega⟩ ?_) | (intro _)))
        all_goals rfl
    · (repeat' (first | (refine And.intro (fun h=>?_) (fun h=>?_)<;>(try simp [-List.getD_eq_getElem?_getD,-Int.pred_toNat] at h)<;>(try (exfalso; first | omega | contradiction))) | (refine And.intro (rng64 (by omega) (by omega)) ?_) | (refine And.intro ⟨by omega,by omega⟩ ?_) | (refine And.intro ⟨by omega,by omega,by omega⟩ ?_) | (intro _)))
      all_goals rfl
  rw [if_pos d5] at heq
  obtain ⟨d5a,d5b⟩:=d5
  have hk2:i + 2 < s.length:=by
    refine Nat.lt_of_not_le fun h=>?_
    rw [List.drop_eq_nil_of_le h] at d5b
    cases d5b
  have hg2:(s.getD (i + 2) 0).toNat = 123:=by
    rw [List.head?_drop,List.getElem?_eq_getElem hk2] at d5b
    rw [List.getD_eq_getElem?_getD,List.getElem?_eq_getElem hk2]
    exact congrArg UInt8.toNat (Option.some.inj d5b)
  have hg2b:(s.getD (i + 1 + 1) 0).toNat = 123:=hg2
  have hg2c:(s.getD ((i:Int) + 1 + 1).toNat 0).toNat = 123:=by rw [show ((i:Int) + 1 + 1).toNat = i + 2 by omega]; exact hg2
  rw [List.drop_drop,show i + 2 + 1 = i + 3 from rfl] at heq
  generalize hds:s.drop (i + 3) = ds at heq
  have hdl:ds.length = s.length - (i + 3):=by rw [← hds,List.length_drop]
  have hdg:∀ m,ds.getD m 0 = s.getD (i + 3 + m) 0:=fun m=>by rw [← hds,List.getD_eq_getElem?_getD,List.getElem?_drop,List.getD_eq_getElem?_getD]
  (repeat' (first | (refine And.intro (fun h=>?_) (fun h=>?_)<;>(try simp [-List.getD_eq_getElem?_getD,-Int.pred_toNat] at h)<;>(try (exfalso; first | omega | contradiction))) | (refine And.intro (rng64 (by omega) (by omega)) ?_) | (refine And.intro ⟨by omega,by omega⟩ ?_) | (refine And.intro ⟨by omega,by omega,by omega⟩ ?_) | (intro _)))
  refine Exists.intro [] (Exists.intro [] (Exists.intro [] (Exists.intro Nat (Exists.intro (fun m=>m≤7∧m≤ds.length∧hexA (ds.take m)) (Exists.intro (fun m=>⟨[(0,.s s),(5,.s o),(6,.i .i64 ((i + 3 + m:Nat):Int)),(9,.i .i64 (hexN 0 (ds.take m):Int)),(10,.i .i64 m)],[]⟩) (Exists.intro (fun m=>7 - m) (Exists.intro 0 (And.intro ⟨by omega,by omega,fun c hc=>by cases hc⟩ (And.intro ?_ ?_)))))))))
  · (repeat' (first | exact trivial | exact Or.inl rfl | exact Or.inl ((congrArg (AV.i .i64) (by show (i:Int) + 1 + 1 + 1 = ((i + 3 + 0:Nat):Int); omega))) | refine And.intro ?_ ?_))
  rintro m ⟨hm7,hml,hmx⟩

  have hex:=fun hend=>uni_exit hm7 hml hmx hend
  have hcD:s.getD (((i + 3 + m:Nat):Int).toNat) 0 = ds.getD m 0:=by rw [Int.toNat_natCast,hdg]
  have hexS:=s_hexOf (s.getD (((i + 3 + m:Nat):Int).toNat) 0)
  have hgc:(s.getD (((i + 3 + m:Nat):Int).toNat) 0).toNat = (ds.getD m 0).toNat:=congrArg UInt8.toNat hcD
  have hgd:(dgt (s.getD (((i + 3 + m:Nat):Int).toNat) 0)) = (dgt (ds.getD m 0)):=congrArg dgt hcD
  have hc2:s.getD ((i:Int) + 3 + (m:Int)).toNat 0 = ds.getD m 0:=by rw [show ((i:Int) + 3 + (m:Int)).toNat = i + 3 + m by omega,hdg]
  have hgc2:(s.getD ((i:Int) + 3 + (m:Int)).toNat 0).toNat = (ds.getD m 0).toNat:=congrArg UInt8.toNat hc2
  have hgd2:dgt (s.getD ((i:Int) + 3 + (m:Int)).toNat 0) = dgt (ds.getD m 0):=congrArg dgt hc2
  have hN:hexN 0 (ds.take m) < 268435456:=by
    have h1:=hexN_lt hmx 0
    have h2:16 ^ (ds.take m).length≤16 ^ 7:=Nat.pow_le_pow_right (by decide) (by rw [List.length_take]; omega)
    have h3:(16:Nat) ^ 7 = 268435456:=by decide
    omega
  have hmm2:100000000≤maxLen:=by decide
  have fin4:uniP ds = (0,0,4)→([],0,4) = R:=fun h=>by
    rw [h] at heq
    exact heq
  by_cases hb:m < ds.length
  rotate_left
  · rw [← fin4 ((hex (.inr (.inl (by omega)))).2 (by omega))]
    (repeat' (first | (refine And.intro (fun h=>?_) (fun h=>?_)<;>(try simp [-List.getD_eq_getElem?_getD,-Int.pred_toNat] at h)<;>(try (exfalso; first | omega | contradiction))) | (refine And.intro (rng64 (by omega) (by omega)) ?_) | (refine And.intro ⟨by omega,by omega⟩ ?_) | (refine And.intro ⟨by omega,by omega,by omega⟩ ?_) | (intro _)))
    all_goals rfl
  by_cases d16:dgt (ds.getD m 0) < 16
  · by_cases h7:m < 7
    · have htk : ds.take (m + 1) = ds.take m ++ [ds.getD m 0] := by
        rw [List.take_add_one,List.getElem?_eq_getElem hb,List.getD_eq_getElem?_getD,List.getElem?_eq_getElem hb]
        rfl
      (repeat' (first | (refine And.intro (fun h=>?_) (fun h=>?_)<;>(try simp [-List.getD_eq_getElem?_getD,-Int.pred_toNat] at h)<;>(try (exfalso; first | omega | contradiction))) | (refine And.intro (rng64 (by omega) (by omega)) ?_) | (refine And.intro ⟨by omega,by omega⟩ ?_) | (refine And.intro ⟨by omega,by omega,by omega⟩ ?_) | (intro _)))
      refine Or.inl (Exists.intro _ (And.intro (hexS) ?_))
      (repeat' (first | (refine And.intro (fun h=>?_) (fun h=>?_)<;>(try simp [-List.getD_eq_getElem?_getD,-Int.pred_toNat] at h)<;>(try (exfalso; first | omega | contradiction))) | (refine And.intro (rng64 (by omega) (by omega)) ?_) | (refine And.intro ⟨by omega,by omega⟩ ?_) | (refine And.intro ⟨by omega,by omega,by omega⟩ ?_) | (intro _)))
      refine Or.inl (Exists.intro _ (And.intro (hexS) ?_))
      (repeat' (first | (refine And.intro (fun h=>?_) (fun h=>?_)<;>(try simp [-List.getD_eq_getElem?_getD,-Int.pred_toNat] at h)<;>(try (exfalso; first | omega | contradiction))) | (refine And.intro (rng64 (by omega) (by omega)) ?_) | (refine And.intro ⟨by omega,by omega⟩ ?_) | (refine And.intro ⟨by omega,by omega,by omega⟩ ?_) | (intro _)))
      refine Exists.intro [] (Exists.intro (m + 1) (And.intro ⟨by omega,by omega,by rw [htk]; exact hexA_append hmx d16⟩ (And.intro ?_ ?_)))
      · (repeat' (first | exact trivial | exact Or.inl rfl | exact Or.inl ((congrArg (AV.i .i64) (by show ((i + 3 + m:Nat):Int) + 1 = ((i + 3 + (m + 1):Nat):Int); omega))) | exact Or.inl ((congrArg (AV.i .i64) (by show (hexN 0 (ds.take m):Int) * 16 + (dgt (s.getD (((i + 3 + m:Nat):Int).toNat) 0):Int) = ((hexN 0 (ds.take (m + 1)):Nat):Int); rw [htk,hexN_append,hgd]; omega))) | exact Or.inl ((congrArg (AV.i .i64) (by show (m:Int) + 1 = ((m + 1:Nat):Int); omega))) | refine And.intro ?_ ?_))
      · show 7 - (m + 1) < 7 - m
        omega
    · rw [← fin4 ((hex (.inl (by omega))).2 (by omega))]
      (repeat' (first | (refine And.intro (fun h=>?_) (fun h=>?_)<;>(try simp [-List.getD_eq_getElem?_getD,-Int.pred_toNat] at h)<;>(try (exfalso; first | omega | contradiction))) | (refine And.intro (rng64 (by omega) (by omega)) ?_) | (refine And.intro ⟨by omega,by omega⟩ ?_) | (refine And.intro ⟨by omega,by omega,by omega⟩ ?_) | (intro _)))
      refine Or.inl (Exists.intro _ (And.intro (hexS) ?_))
      (repeat' (first | (refine And.intro (fun h=>?_) (fun h=>?_)<;>(try simp [-List.getD_eq_getElem?_getD,-Int.pred_toNat] at h)<;>(try (exfalso; first | omega | contradiction))) | (refine And.intro (rng64 (by omega) (by omega)) ?_) | (refine And.intro ⟨by omega,by omega⟩ ?_) | (refine And.intro ⟨by omega,by omega,by omega⟩ ?_) | (intro _)))
      all_goals rfl
  · obtain ⟨hyes,hno⟩:=hex (.inr (.inr d16))
    by_cases ht:1≤m∧m≤6∧m < ds.length∧(ds.getD m 0).toNat = 125
    rotate_left
    · rw [← fin4 (hno ht)]
      (repeat' (first | (refine And.intro (fun h=>?_) (fun h=>?_)<;>(try simp [-List.getD_eq_getElem?_getD,-Int.pred_toNat] at h)<;>(try (exfalso; first | omega | contradiction))) | (refine And.intro (rng64 (by omega) (by omega)) ?_) | (refine And.intro ⟨by omega,by omega⟩ ?_) | (refine And.intro ⟨by omega,by omega,by omega⟩ ?_) | (intro _)))
      refine Or.inl (Exists.intro _ (And.intro (hexS) ?_))
      (repeat' (first | (refine And.intro (fun h=>?_) (fun h=>?_)<;>(try simp [-List.getD_eq_getElem?_getD,-Int.pred_toNat] at h)<;>(try (exfalso; first | omega | contradiction))) | (refine And.intro (rng64 (by omega) (by omega)) ?_) | (refine And.intro ⟨by omega,by omega⟩ ?_) | (refine And.intro ⟨by omega,by omega,by omega⟩ ?_) | (intro _)))
      all_goals rfl
    · rw [hyes ht] at heq
      (repeat' (first | (refine And.intro (fun h=>?_) (fun h=>?_)<;>(try simp [-List.getD_eq_getElem?_getD,-Int.pred_toNat] at h)<;>(try (exfalso; first | omega | contradiction))) | (refine And.intro (rng64 (by omega) (by omega)) ?_) | (refine And.intro ⟨by omega,by omega⟩ ?_) | (refine And.intro ⟨by omega,by omega,by omega⟩ ?_) | (intro _)))
      refine Or.inl (Exists.intro _ (And.intro (hexS) ?_))
      (repeat' (first | (refine And.intro (fun h=>?_) (fun h=>?_)<;>(try simp [-List.getD_eq_getElem?_getD,-Int.pred_toNat] at h)<;>(try (exfalso; first | omega | contradiction))) | (refine And.intro (rng64 (by omega) (by omega)) ?_) | (refine And.intro ⟨by omega,by omega⟩ ?_) | (refine And.intro ⟨by omega,by omega,by omega⟩ ?_) | (intro _)))
      refine Or.inl (Exists.intro _ (And.intro (s_Scalar (hexN 0 (ds.take m):Int)) ?_))
      by_cases hsc:scalar (hexN 0 (ds.take m):Int)
      · rw [if_pos hsc,if_neg (fun h=>h rfl)] at heq
        have h4:=encS_le (hexN 0 (ds.take m):Int)
        have hpos:i + (1 + (3 + (m:Int))).toNat = i + 3 + m + 1:=by omega
        have heq:unqFrom s (o++encS (hexN 0 (ds.take m):Int)) (i + (1 + (3 + (m:Int))).toNat) = R:=heq
        rw [hpos] at heq
        (repeat' (first | (refine And.intro (fun h=>?_) (fun h=>?_)<;>(try simp [-List.getD_eq_getElem?_getD,-Int.pred_toNat] at h)<;>(try (exfalso; first | omega | contradiction))) | (refine And.intro (rng64 (by omega) (by omega)) ?_) | (refine And.intro ⟨by omega,by omega⟩ ?_) | (refine And.intro ⟨by omega,by omega,by omega⟩ ?_) | (intro _)))
        refine Or.inl (Exists.intro _ (And.intro (s_CodeOf (hexN 0 (ds.take m):Int) hsc) ?_))
        refine And.intro (by show o.length + (encS (hexN 0 (ds.take m):Int)).length≤maxLen; omega) ?_
        refine Exists.intro [] (Exists.intro (o++encS (hexN 0 (ds.take m):Int),i + 3 + m + 1) (And.intro ⟨by show 1≤i + 3 + m + 1; omega,by show i + 3 + m + 1≤_; omega,heq,by show (o++_).length≤4 * (i + 3 + m + 1); rw [List.length_append]; omega⟩ (And.intro ?_ ?_)))
        · (repeat' (first | exact trivial | exact Or.inl rfl | exact Or.inr (Or.inl ⟨rfl,_,rfl⟩) | exact Or.inr (Or.inr (Or.inr ⟨_,_,_,rfl,rfl⟩)) | refine And.intro ?_ ?_))
        · show s.length - (i + 3 + m + 1) < s.length - i
          omega
      · rw [if_neg hsc,if_pos (by decide)] at heq
        rw [← heq]
        (repeat' (first | (refine And.intro (fun h=>?_) (fun h=>?_)<;>(try simp [-List.getD_eq_getElem?_getD,-Int.pred_toNat] at h)<;>(try (exfalso; first | omega | contradiction))) | (refine And.intro (rng64 (by omega) (by omega)) ?_) | (refine And.intro ⟨by omega,by omega⟩ ?_) | (refine And.intro ⟨by omega,by omega,by omega⟩ ?_) | (intro _)))
        all_goals rfl
theorem s_unqR (s:Str) (hs:s.length≤1048576):PSpec Tryd.prog 25 [.s s] (tupU (unq s)) :=
  pspec_of_vc Γ_good Tryd.func25 rfl Tryd.call25 Tryd.results25 Tryd.ntmps25 (Nat.le_of_ble_eq_true rfl) (w_unqR s hs)
end
end Go.Proofs.YtmfchbkdakmjhaaDoor
end
section
namespace Go.Proofs.YtmfchbkdakmjhaaDoor
set_option linter.unusedSectionVars false
set_option linter.unusedSimpArgs false
set_option linter.unusedVariables false
open Go Go.SX Go.Ck Go.Vl Go.Ut Go.Nm Go.Es Go.Up Go.Pth
set_option maxRecDepth 100000
set_option maxHeartbeats 4000000
theorem txt_snoc {m:Nat} (h:10≤m):txtN 10 m = txtN 10 (m / 10)++[dcI ((m % 10:Nat):Int)]:=by
  rw [txtN_pos (by omega),tailN_pos (by decide) (by omega),txtN_pos (by omega)]
theorem txt_one {m:Nat} (h:m < 10):txtN 10 m = [dcI (m:Int)]:=by
  rcases Nat.eq_zero_or_pos m with e | e
  · rw [e]; rfl
  · rw [txtN_pos e,tailN_pos (by decide) e,Nat.div_eq_of_lt h,Nat.mod_eq_of_lt h,tailN_zero]
    rfl
theorem dcI_u8:∀ k:Fin 10,ofB (IntKind.u8.wrap (48 - -((k.val:Nat):Int))) = dcI ((k.val:Nat):Int):=by decide +kernel
theorem txt_len21 (n:Nat) (h:n≤9223372036854775807):(txtN 10 n).length≤21:=by
  have:=numT_le (n:=(n:Int)) (by omega) (by omega)
  rw [numT_pos (by omega),Int.toNat_natCast] at this
  exact this
theorem drop_cons {s:Str} {j:Nat} (h:j < s.length):s.drop j = s.getD j 0::s.drop (j + 1):=by
  rw [List.drop_eq_getElem_cons h,List.getD_eq_getElem?_getD,List.getElem?_eq_getElem h]
  rfl
theorem tw_step {s:Str} {j:Nat} (h:j < s.length) (hd:isDc (s.getD j 0) = true):(s.drop j).takeWhile isDc = s.getD j 0::(s.drop (j + 1)).takeWhile isDc:=by
  rw [drop_cons h,List.takeWhile_cons,hd,if_pos rfl]
theorem tw_stop {s:Str} {j:Nat} (h:(decide (j < s.length) && isDc (s.getD j 0)) = false):(s.drop j).takeWhile isDc = []:=by
  by_cases hj:j < s.length
  · rw [decide_eq_true hj,Bool.true_and] at h
    rw [drop_cons hj,List.takeWhile_cons,h,if_neg (by decide)]
  · rw [List.drop_eq_nil_of_le (by omega)]
    rfl
theorem tw_le (l:Str):(l.takeWhile isDc).length≤l.length:=by
  induction l with
  | nil=>exact Nat.le_refl _
  | cons c r ih =>
    rw [List.takeWhile_cons]
    split
    · exact Nat.succ_le_succ ih
    · exact Nat.zero_le _
theorem stpR_end {s:Str} {i:Nat} (hi:i < s.length) {p:PStep × Nat} (h:stpR s i = some p):p.2≤s.length + 1∧-1≤p.1.i:=by
  unfold stpR at h
  split at h
  · unfold numE at h
    have:=tw_le (s.drop (i + 1))
    rw [List.length_drop] at this
    split at h
    · cases h
    · split at h
      · cases h
      · injection h with h
        subst h
        exact ⟨by show i + 1 + _ + 1≤_; omega,by show (-1:Int)≤((_:Nat):Int); omega⟩
  split at h
  · split at h
    · cases h
    · injection h with h
      subst h
      have:=unq_rng (s.drop (i + 1))
      rw [List.length_drop] at this
      exact ⟨by show i + 1 + (unq (s.drop (i + 1))).2.1.toNat≤_; omega,by show (-1:Int)≤-1; decide⟩
  · injection h with h
    subst h
    have:=List.findIdx_le_length (xs:=s.drop (i + 1)) (p:=endC)
    rw [List.length_drop] at this
    exact ⟨by show i + 1 + (s.drop (i + 1)).findIdx endC≤_; omega,by show (-1:Int)≤-1; decide⟩
section
variable [G:Globs]
theorem w_isDigG (s:Str) (k:Nat):vc Tryd.prog Γ 21 [0,1,4] (Tryd.f67.body.getD .skip) (postK Γ [.tmp 4] (fun v=>v = .b (decide (k < s.length) && isDc (s.getD k 0)))) ⟨argSlots 0 [.s s,.i .i64 k],[]⟩:=by
  unfold isDc
  by_cases hk:k < s.length
  · rw [decide_eq_true hk]
    (repeat' (first | (refine And.intro (fun h=>?_) (fun h=>?_)<;>(try simp [-List.getD_eq_getElem?_getD,-Int.pred_toNat] at h)<;>(try (exfalso; first | omega | contradiction))) | (refine And.intro (rng64 (by omega) (by omega)) ?_) | (refine And.intro ⟨by omega,by omega⟩ ?_) | (refine And.intro ⟨by omega,by omega,by omega⟩ ?_) | (intro _)))
    all_goals refine congrArg AV.b ?_
    all_goals rw [Bool.eq_iff_iff]
    all_goals simp [-List.getD_eq_getElem?_getD]
    all_goals omega
  · rw [decide_eq_false hk]
    (repeat' (first | (refine And.intro (fun h=>?_) (fun h=>?_)<;>(try simp [-List.getD_eq_getElem?_getD,-Int.pred_toNat] at h)<;>(try (exfalso; first | omega | contradiction))) | (refine And.intro (rng64 (by omega) (by omega)) ?_) | (refine And.intro ⟨by omega,by omega⟩ ?_) | (refine And.intro ⟨by omega,by omega,by omega⟩ ?_) | (intro _)))
    all_goals rfl
theorem s_isDigG (s:Str) (k:Nat):PSpec Tryd.prog 67 [.s s,.i .i64 k] (.b (decide (k < s.length) && isDc (s.getD k 0))) :=
  pspec_of_vc Γ_good Tryd.func67 rfl Tryd.call67 Tryd.results67 Tryd.ntmps67 (Nat.le_of_ble_eq_true rfl) (w_isDigG s k)
theorem w_bel (m:Nat) (hm:m≤9223372036854775807) (ih:10≤m→PSpec Tryd.prog 108 [.i .i64 (-((m / 10:Nat):Int))] (.s (txtN 10 (m / 10)))):vc Tryd.prog Γ 18 [0,2,3,11] (Tryd.f108.body.getD .skip) (postK Γ [.tmp 2] (fun v=>v = .s (txtN 10 m))) ⟨argSlots 0 [.i .i64 (-(m:Int))],[]⟩:=by
  have e1:(-(m:Int)).tmod 10 = -((m % 10:Nat):Int):=by rw [Int.neg_tmod]; rfl
  have e2:(-(m:Int)).tdiv 10 = -((m / 10:Nat):Int):=by rw [Int.neg_tdiv]; rfl
  have e3:[ofB (IntKind.u8.wrap (48 - (-(m:Int)).tmod 10))] = [dcI ((m % 10:Nat):Int)]:=by
    rw [e1]
    exact congrArg (fun x=>[x]) (dcI_u8 ⟨m % 10,Nat.mod_lt _ (by decide)⟩)
  refine And.intro (by decide) ?_
  refine And.intro ⟨by rw [e1]; omega,by rw [e1]; omega⟩ ?_
  by_cases h10:10≤m
  · have hI:=ih h10
    rw [← e2] at hI
    (repeat' (first | (refine And.intro (fun h=>?_) (fun h=>?_)<;>(try simp [-List.getD_eq_getElem?_getD,-Int.pred_toNat] at h)<;>(try (exfalso; first | omega | contradiction))) | (refine And.intro (rng64 (by omega) (by omega)) ?_) | (refine And.intro ⟨by omega,by omega⟩ ?_) | (refine And.intro ⟨by omega,by omega,by omega⟩ ?_) | (intro _)))
    refine And.intro (by decide) ?_
    refine And.intro ⟨by rw [e2]; omega,by rw [e2]; omega⟩ ?_
    refine Or.inl (Exists.intro _ (And.intro (hI) ?_))
    have hl:=txt_len21 (m / 10) (by omega)
    refine And.intro (by show (txtN 10 (m / 10)).length + 1 ≤ maxLen; have : 1000000 ≤ maxLen := by decide
                         omega) ?_
    show AV.s (txtN 10 (m / 10)++[ofB (IntKind.u8.wrap (48 - (-(m:Int)).tmod 10))]) = _
    rw [e3,txt_snoc h10]
  · (repeat' (first | (refine And.intro (fun h=>?_) (fun h=>?_)<;>(try simp [-List.getD_eq_getElem?_getD,-Int.pred_toNat] at h)<;>(try (exfalso; first | omega | contradiction))) | (refine And.intro (rng64 (by omega) (by omega)) ?_) | (refine And.intro ⟨by omega,by omega⟩ ?_) | (refine And.intro ⟨by omega,by omega,by omega⟩ ?_) | (intro _)))
    show AV.s [ofB (IntKind.u8.wrap (48 - (-(m:Int)).tmod 10))] = _
    rw [e3,txt_one (by omega),Nat.mod_eq_of_lt (by omega)]
theorem s_bel (m:Nat) (hm:m≤9223372036854775807) (ih:10≤m→PSpec Tryd.prog 108 [.i .i64 (-((m / 10:Nat):Int))] (.s (txtN 10 (m / 10)))):PSpec Tryd.prog 108 [.i .i64 (-(m:Int))] (.s (txtN 10 m)) :=
  pspec_of_vc Γ_good Tryd.func108 rfl Tryd.call108 Tryd.results108 Tryd.ntmps108 (Nat.le_of_ble_eq_true rfl) (w_bel m hm ih)
theorem s_below (n:Nat):∀ m:Nat,m≤n→m≤9223372036854775807→PSpec Tryd.prog 108 [.i .i64 (-(m:Int))] (.s (txtN 10 m)):=by
  induction n with
  | zero=>intro m h1 h2; exact s_bel m h2 (fun h=>by omega)
  | succ n ih=>intro m h1 h2; exact s_bel m h2 (fun h=>ih _ (by omega) (by omega))
theorem w_decimal (n:Int) (h0:0≤n) (h1:n≤9223372036854775807):vc Tryd.prog Γ 11 [0,2,4] (Tryd.f71.body.getD .skip) (postK Γ [.tmp 2] (fun v=>v = .s (txtN 10 n.toNat))) ⟨argSlots 0 [.i .i64 n],[]⟩:=by
  have hB:=s_below n.toNat n.toNat (Nat.le_refl _) (by omega)
  rw [show -((n.toNat:Nat):Int) = 0 - n by omega] at hB
  (repeat' (first | (refine And.intro (fun h=>?_) (fun h=>?_)<;>(try simp [-List.getD_eq_getElem?_getD,-Int.pred_toNat] at h)<;>(try (exfalso; first | omega | contradiction))) | (refine And.intro (rng64 (by omega) (by omega)) ?_) | (refine And.intro ⟨by omega,by omega⟩ ?_) | (refine And.intro ⟨by omega,by omega,by omega⟩ ?_) | (intro _)))
  refine Or.inl (And.intro ⟨by omega,by omega⟩ ?_)
  refine Or.inl (Exists.intro _ (And.intro (hB) ?_))
  rfl
theorem s_decimal (n:Int) (h0:0≤n) (h1:n≤9223372036854775807):PSpec Tryd.prog 71 [.i .i64 n] (.s (txtN 10 n.toNat)) :=
  pspec_of_vc Γ_good Tryd.func71 rfl Tryd.call71 Tryd.results71 Tryd.ntmps71 (Nat.le_of_ble_eq_true rfl) (w_decimal n h0 h1)
theorem w_textR (l:List PStep) (hf:pathF l = 0) (hi':∀ x ∈ l,x.i≤9223372036854775807):vc Tryd.prog Γ 30 [0,2,3,5,6,7,8,9,14] (Tryd.f32.body.getD .skip) (postK Γ [.tmp 2] (fun v=>v = .s (pathT l))) ⟨argSlots 0 [.rd .pstep l],[]⟩:=by
  obtain ⟨hl20,hst⟩:=path_right hf
  intro _
  refine Exists.intro [] (Exists.intro [] (Exists.intro [] (Exists.intro (Nat × Str) (Exists.intro (fun x=>x.1≤l.length∧x.2++tailT (l.drop x.1) = pathT l∧x.2.length≤1 + 1000 * x.1) (Exists.intro (fun ⟨i,o⟩=>⟨[(3,.s o),(6,.rd .pstep l),(7,.i .i64 l.length),(8,.i .i64 i)],[]⟩) (Exists.intro (fun x=>l.length - x.1) (Exists.intro (0,[36]) (And.intro ⟨Nat.zero_le _,rfl,Nat.le_refl _⟩ (And.intro ?_ ?_)))))))))
  · (repeat' (first | exact trivial | exact Or.inl rfl | exact Or.inr (Or.inl ⟨rfl,_,rfl⟩) | exact Or.inr (Or.inr (Or.inr ⟨_,_,_,rfl,rfl⟩)) | refine And.intro ?_ ?_))
  rintro ⟨i,o⟩ ⟨hk,heq,hol⟩
  simp only at hk heq hol
  refine And.intro (fun hz=>?_) (fun hz=>?_)
  · have hi:=ltD hz
    have hg:=getI (τ:=.pstep) hi
    refine And.intro ⟨by omega,by omega⟩ ?_
    rw [hg]
    have hx:=hst l[i] (List.getElem_mem hi)
    have hm:1000000≤maxLen:=by decide
    have hlen:=stepF_len hx
    have hkl:=keyT_le hlen
    have hix:=hi' l[i] (List.getElem_mem hi)
    obtain ⟨hc,hbad⟩:=stepF_ok hx
    rw [tail_step hi,← List.append_assoc] at heq
    rcases hc with hn | ⟨hn,hke⟩
    · have hK:=s_keyR l[i].key (by omega) hbad
      rw [show (if bare l[i].key = true then l[i].key else qAll l[i].key) = keyT l[i].key from rfl] at hK
      rw [stepT_key hn] at heq
      generalize keyT l[i].key = K at *
      have hL:(o++46::K).length≤1 + 1000 * (i + 1):=by rw [List.length_append,List.length_cons]; omega
      (repeat' (first | (refine And.intro (fun h=>?_) (fun h=>?_)<;>(try simp [-List.getD_eq_getElem?_getD,-Int.pred_toNat] at h)<;>(try (exfalso; first | omega | contradiction))) | (refine And.intro (rng64 (by omega) (by omega)) ?_) | (refine And.intro ⟨by omega,by omega⟩ ?_) | (refine And.intro ⟨by omega,by omega,by omega⟩ ?_) | (intro _)))
      refine Or.inl (Exists.intro _ (And.intro (hK) ?_))
      refine And.intro (by show 1 + K.length≤maxLen; omega) ?_
      refine And.intro (by rw [List.length_append]; show o.length + (1 + K.length)≤maxLen; omega) ?_
      (refine And.intro (rng64 (by omega) (by omega)) ?_)
      refine Exists.intro [] (Exists.intro (i + 1,o++46::K) (And.intro ⟨by show i + 1≤l.length; omega,heq,hL⟩ (And.intro ?_ ?_)))
      · (repeat' (first | exact trivial | exact Or.inl rfl | exact Or.inr (Or.inl ⟨rfl,_,rfl⟩) | exact Or.inr (Or.inr (Or.inr ⟨_,_,_,rfl,rfl⟩)) | refine And.intro ?_ ?_))
      · show l.length - (i + 1) < l.length - i
        omega
    · have hI:=s_decimal l[i].i hn (by omega)
      have hI2:=txt_len21 l[i].i.toNat (by omega)
      rw [stepT_num hn] at heq
      generalize txtN 10 l[i].i.toNat = K at *
      have hL:(o++91::(K++[93])).length≤1 + 1000 * (i + 1):=by rw [List.length_append,List.length_cons,List.length_append]; show o.length + (K.length + 1 + 1)≤_; omega
      (repeat' (first | (refine And.intro (fun h=>?_) (fun h=>?_)<;>(try simp [-List.getD_eq_getElem?_getD,-Int.pred_toNat] at h)<;>(try (exfalso; first | omega | contradiction))) | (refine And.intro (rng64 (by omega) (by omega)) ?_) | (refine And.intro ⟨by omega,by omega⟩ ?_) | (refine And.intro ⟨by omega,by omega,by omega⟩ ?_) | (intro _)))
      refine Or.inl (Exists.intro _ (And.intro (hI) ?_))
      refine And.intro (by show 1 + K.length≤maxLen; omega) ?_
      refine And.intro (by rw [List.length_append]; show (1 + K.length) + 1≤maxLen; omega) ?_
      refine And.intro (by rw [List.length_append,List.length_append]; show o.length + ((1 + K.length) + 1)≤maxLen; omega) ?_
      (refine And.intro (rng64 (by omega) (by omega)) ?_)
      refine Exists.intro [] (Exists.intro (i + 1,o++91::(K++[93])) (And.intro ⟨by show i + 1≤l.length; omega,heq,hL⟩ (And.intro ?_ ?_)))
      · (repeat' (first | exact trivial | exact Or.inl rfl | exact Or.inr (Or.inl ⟨rfl,_,rfl⟩) | exact Or.inr (Or.inr (Or.inr ⟨_,_,_,rfl,rfl⟩)) | refine And.intro ?_ ?_))
      · show l.length - (i + 1) < l.length - i
        omega
  · have hk2:i = l.length:=by have:¬ (i:Int) < (l.length:Int):=of_decide_eq_false hz; omega
    subst hk2
    rw [List.drop_length,show tailT [] = [] from rfl,List.append_nil] at heq
    exact congrArg AV.s heq
theorem s_textR (l:List PStep) (hf:pathF l = 0) (hi':∀ x ∈ l,x.i≤9223372036854775807):PSpec Tryd.prog 32 [.rd .pstep l] (.s (pathT l)) :=
  pspec_of_vc Γ_good Tryd.func32 rfl Tryd.call32 Tryd.results32 Tryd.ntmps32 (Nat.le_of_ble_eq_true rfl) (w_textR l hf hi')
def rrA (x:Option (List PStep)):AV:=match x with
  | some l=>.tup [.rd .pstep l,.b true]
  | none=>.tup [.rd .pstep [],.b false]
theorem w_readR (s:Str) (hs:s.length≤1048576):vc Tryd.prog Γ 117 [0,2,3,4,5,6,7,8,9,10,14,19,25,30,43,58,68,89,94,115] (Tryd.f31.body.getD .skip) (postK Γ [.tmp 2,.tmp 3] (fun v=>RL v (rrA (readR s)))) ⟨argSlots 0 [.s s],[]⟩:=by
  unfold readR
  refine Exists.intro [(4,4,.pstep)] (Exists.intro [] (Exists.intro [] (Exists.intro (Nat × List PStep × Nat) (Exists.intro (fun x=>x.2.2≤s.length + 1∧s.length < x.1 + x.2.2∧rrF s x.1 x.2.1 x.2.2 = rrF s (s.length + 1) [] 1∧x.2.1.length≤x.2.2∧∀ q ∈ x.2.1,-1≤q.i∧q.i≤4611686018427387904) (Exists.intro (fun ⟨f,o,i⟩=>⟨[(0,.s s),(4,.vec 4 .pstep o),(5,.i .i64 i)],[]⟩) (Exists.intro (fun x=>x.1) (Exists.intro (s.length + 1,[],1) (And.intro ⟨by show 1≤s.length + 1; omega,by show s.length < s.length + 1 + 1; omega,rfl,Nat.zero_le _,fun q hq=>by cases hq⟩ (And.intro ?_ ?_)))))))))
  · (repeat' (first | exact trivial | exact Or.inl rfl | exact Or.inr (Or.inl ⟨rfl,_,rfl⟩) | exact Or.inr (Or.inr (Or.inr ⟨_,_,_,rfl,rfl⟩)) | refine And.intro ?_ ?_))
  rintro ⟨f,o,i⟩ ⟨hi,hf,heq,hol,hrg⟩
  simp only at hi hf heq hol hrg
  by_cases hk:i < s.length
  rotate_left
  · have hend : some o = rrF s (s.length + 1) [] 1 := by
      rw [← heq]
      cases f with
      | zero=>rfl
      | succ f=>rw [rrF,if_neg hk]
    rw [← hend]
    have hC:=s_pathR o
    by_cases hp:pathF o = 0
    · have hT:=s_textR o hp (fun q hq=>by have:=(hrg q hq).2; omega)
      rw [hp] at hC
      by_cases hts:pathT o = s
      · have hF:finR s (some o) = some o:=if_pos ⟨hp,hts⟩
        rw [hF]
        rw [hts] at hT
        (repeat' (first | (refine And.intro (fun h=>?_) (fun h=>?_)<;>(try simp [-List.getD_eq_getElem?_getD,-Int.pred_toNat] at h)<;>(try (exfalso; first | omega | contradiction))) | (refine And.intro (rng64 (by omega) (by omega)) ?_) | (refine And.intro ⟨by omega,by omega⟩ ?_) | (refine And.intro ⟨by omega,by omega,by omega⟩ ?_) | (intro _)))
        refine Or.inr (Or.inr (Or.inl (Exists.intro _ (And.intro (hC) ?_))))
        (repeat' (first | (refine And.intro (fun h=>?_) (fun h=>?_)<;>(try simp [-List.getD_eq_getElem?_getD,-Int.pred_toNat] at h)<;>(try (exfalso; first | omega | contradiction))) | (refine And.intro (rng64 (by omega) (by omega)) ?_) | (refine And.intro ⟨by omega,by omega⟩ ?_) | (refine And.intro ⟨by omega,by omega,by omega⟩ ?_) | (intro _)))
        refine Or.inr (Or.inr (Or.inl (Exists.intro _ (And.intro (hT) ?_))))
        (repeat' (first | (refine And.intro (fun h=>?_) (fun h=>?_)<;>(try simp [-List.getD_eq_getElem?_getD,-Int.pred_toNat] at h)<;>(try (exfalso; first | omega | contradiction))) | (refine And.intro (rng64 (by omega) (by omega)) ?_) | (refine And.intro ⟨by omega,by omega⟩ ?_) | (refine And.intro ⟨by omega,by omega,by omega⟩ ?_) | (intro _)))
        all_goals (repeat' (first | exact trivial | exact Or.inl rfl | exact Or.inr ⟨rfl,_,rfl⟩ | refine And.intro ?_ ?_))
      · have hF:finR s (some o) = none:=if_neg (fun h=>hts h.2)
        rw [hF]
        (repeat' (first | (refine And.intro (fun h=>?_) (fun h=>?_)<;>(try simp [-List.getD_eq_getElem?_getD,-Int.pred_toNat] at h)<;>(try (exfalso; first | omega | contradiction))) | (refine And.intro (rng64 (by omega) (by omega)) ?_) | (refine And.intro ⟨by omega,by omega⟩ ?_) | (refine And.intro ⟨by omega,by omega,by omega⟩ ?_) | (intro _)))
        refine Or.inr (Or.inr (Or.inl (Exists.intro _ (And.intro (hC) ?_))))
        (repeat' (first | (refine And.intro (fun h=>?_) (fun h=>?_)<;>(try simp [-List.getD_eq_getElem?_getD,-Int.pred_toNat] at h)<;>(try (exfalso; first | omega | contradiction))) | (refine And.intro (rng64 (by omega) (by omega)) ?_) | (refine And.intro ⟨by omega,by omega⟩ ?_) | (refine And.intro ⟨by omega,by omega,by omega⟩ ?_) | (intro _)))
        refine Or.inr (Or.inr (Or.inl (Exists.intro _ (And.intro (hT) ?_))))
        (repeat' (first | (refine And.intro (fun h=>?_) (fun h=>?_)<;>(try simp [-List.getD_eq_getElem?_getD,-Int.pred_toNat] at h)<;>(try (exfalso; first | omega | contradiction))) | (refine And.intro (rng64 (by omega) (by omega)) ?_) | (refine And.intro ⟨by omega,by omega⟩ ?_) | (refine And.intro ⟨by omega,by omega,by omega⟩ ?_) | (intro _)))
        all_goals (repeat' (first | exact trivial | exact Or.inl rfl | exact Or.inr ⟨rfl,_,rfl⟩ | refine And.intro ?_ ?_))
    · have hF:finR s (some o) = none:=if_neg (fun h=>hp h.1)
      rw [hF]
      (repeat' (first | (refine And.intro (fun h=>?_) (fun h=>?_)<;>(try simp [-List.getD_eq_getElem?_getD,-Int.pred_toNat] at h)<;>(try (exfalso; first | omega | contradiction))) | (refine And.intro (rng64 (by omega) (by omega)) ?_) | (refine And.intro ⟨by omega,by omega⟩ ?_) | (refine And.intro ⟨by omega,by omega,by omega⟩ ?_) | (intro _)))
      refine Or.inr (Or.inr (Or.inl (Exists.intro _ (And.intro (hC) ?_))))
      (repeat' (first | (refine And.intro (fun h=>?_) (fun h=>?_)<;>(try simp [-List.getD_eq_getElem?_getD,-Int.pred_toNat] at h)<;>(try (exfalso; first | omega | contradiction))) | (refine And.intro (rng64 (by omega) (by omega)) ?_) | (refine And.intro ⟨by omega,by omega⟩ ?_) | (refine And.intro ⟨by omega,by omega,by omega⟩ ?_) | (intro _)))
      all_goals (repeat' (first | exact trivial | exact Or.inl rfl | exact Or.inr ⟨rfl,_,rfl⟩ | refine And.intro ?_ ?_))
  obtain ⟨f',rfl⟩:∃ g,f = g + 1:=⟨f - 1,by omega⟩
  rw [rrF,if_pos hk] at heq
  have hR:=@stpR_end s i hk
  have hR2:=@stpR_le s i
  have hnone:stpR s i = none→finR s (rrF s (s.length + 1) [] 1) = none:=fun h=>by
    rw [h] at heq
    rw [← heq]
    rfl
  have hsome:∀ p,stpR s i = some p→rrF s f' (o++[p.1]) p.2 = rrF s (s.length + 1) [] 1:=fun p h=>by
    rw [h] at heq
    exact heq
  have hm:1000000≤maxLen:=by decide
  have hnx:∀ p,stpR s i = some p→(∀ q ∈ o++[p.1],-1≤q.i∧q.i≤4611686018427387904)∧(o++[p.1]).length≤p.2:=fun p h=>⟨fun q hq=>by
    rcases List.mem_append.1 hq with hq | hq
    · exact hrg q hq
    · rw [List.mem_singleton.1 hq]; exact ⟨(hR h).2,(hR2 h).1⟩,by rw [List.length_append]; have:=(hR2 h).2; show o.length + 1≤p.2; omega⟩
  by_cases c91:(s.getD i 0).toNat = 91
  · have hS:stpR s i = numE s i:=if_pos c91
    unfold numE at hS
    generalize hD:digV 0 ((s.drop (i + 1)).takeWhile isDc) = D at hS
    generalize hE:i + 1 + ((s.drop (i + 1)).takeWhile isDc).length = E at hS
    (repeat' (first | (refine And.intro (fun h=>?_) (fun h=>?_)<;>(try simp [-List.getD_eq_getElem?_getD,-Int.pred_toNat] at h)<;>(try (exfalso; first | omega | contradiction))) | (refine And.intro (rng64 (by omega) (by omega)) ?_) | (refine And.intro ⟨by omega,by omega⟩ ?_) | (refine And.intro ⟨by omega,by omega,by omega⟩ ?_) | (intro _)))
    refine Exists.intro [] (Exists.intro [] (Exists.intro [] (Exists.intro (Nat × Nat) (Exists.intro (fun x=>x.1≤s.length∧i + 1≤x.1∧digV x.2 ((s.drop x.1).takeWhile isDc) = D∧x.1 + ((s.drop x.1).takeWhile isDc).length = E∧x.2≤5764607523034234889) (Exists.intro (fun ⟨j,x⟩=>⟨[(0,.s s),(4,.vec 4 .pstep o),(5,.i .i64 j),(6,.pt 6 0)],[(6,[.s [],.i .i64 x])]⟩) (Exists.intro (fun x=>s.length - x.1) (Exists.intro (i + 1,0) (And.intro ⟨hk,Nat.le_refl _,hD,hE,Nat.zero_le _⟩ (And.intro ?_ ?_)))))))))
    · (repeat' (first | exact trivial | exact Or.inl rfl | exact Or.inl ((congrArg (AV.i .i64) (by show (i:Int) + 1 = ((i + 1:Nat):Int); omega))) | refine And.intro ?_ ?_))
    rintro ⟨j,x⟩ ⟨hj,hij,hdj,hej,hx⟩
    simp only at hj hij hdj hej hx
    have hI:=s_isDigG s j
    cases hb:(decide (j < s.length) && isDc (s.getD j 0)) with
    | false =>
      rw [hb] at hI
      rw [tw_stop hb] at hdj hej
      have hdj:some x = D:=hdj
      have hej:j = E:=hej
      subst hdj hej
      by_cases hb2:4611686018427387904 < x
      · have hS:stpR s i = none:=by rw [hS]; exact if_pos hb2
        rw [hnone hS]
        (repeat' (first | (refine And.intro (fun h=>?_) (fun h=>?_)<;>(try simp [-List.getD_eq_getElem?_getD,-Int.pred_toNat] at h)<;>(try (exfalso; first | omega | contradiction))) | (refine And.intro (rng64 (by omega) (by omega)) ?_) | (refine And.intro ⟨by omega,by omega⟩ ?_) | (refine And.intro ⟨by omega,by omega,by omega⟩ ?_) | (intro _)))
        refine Or.inl (Exists.intro _ (And.intro (hI) ?_))
        (repeat' (first | (refine And.intro (fun h=>?_) (fun h=>?_)<;>(try simp [-List.getD_eq_getElem?_getD,-Int.pred_toNat] at h)<;>(try (exfalso; first | omega | contradiction))) | (refine And.intro (rng64 (by omega) (by omega)) ?_) | (refine And.intro ⟨by omega,by omega⟩ ?_) | (refine And.intro ⟨by omega,by omega,by omega⟩ ?_) | (intro _)))
        all_goals (repeat' (first | exact trivial | exact Or.inl rfl | exact Or.inr ⟨rfl,_,rfl⟩ | refine And.intro ?_ ?_))
      · have hS:stpR s i = some (⟨[],(x:Int)⟩,j + 1):=by rw [hS]; exact if_neg hb2
        have h1:=hsome _ hS
        have h2:=hnx _ hS
        have h3:=hR hS
        (repeat' (first | (refine And.intro (fun h=>?_) (fun h=>?_)<;>(try simp [-List.getD_eq_getElem?_getD,-Int.pred_toNat] at h)<;>(try (exfalso; first | omega | contradiction))) | (refine And.intro (rng64 (by omega) (by omega)) ?_) | (refine And.intro ⟨by omega,by omega⟩ ?_) | (refine And.intro ⟨by omega,by omega,by omega⟩ ?_) | (intro _)))
        refine Or.inl (Exists.intro _ (And.intro (hI) ?_))
        (repeat' (first | (refine And.intro (fun h=>?_) (fun h=>?_)<;>(try simp [-List.getD_eq_getElem?_getD,-Int.pred_toNat] at h)<;>(try (exfalso; first | omega | contradiction))) | (refine And.intro (rng64 (by omega) (by omega)) ?_) | (refine And.intro ⟨by omega,by omega⟩ ?_) | (refine And.intro ⟨by omega,by omega,by omega⟩ ?_) | (intro _)))
        refine And.intro (by show (o.length + 1) * 24≤_; omega) ?_
        refine Exists.intro [(106,4)] (Exists.intro (f',o++[⟨[],(x:Int)⟩],j + 1) (And.intro ⟨h3.1,by show s.length < f' + (j + 1); omega,h1,h2.2,h2.1⟩ (And.intro ?_ ?_)))
        · (repeat' (first | exact trivial | exact Or.inl rfl | exact Or.inl ((congrArg (AV.i .i64) (by show (j:Int) + 1 = ((j + 1:Nat):Int); omega))) | refine And.intro ?_ ?_))
        · show f' < f' + 1
          omega
    | true =>
      rw [hb] at hI
      rw [Bool.and_eq_true,decide_eq_true_eq] at hb
      rw [tw_step hb.1 hb.2] at hdj hej
      rw [digV] at hdj
      rw [List.length_cons] at hej
      by_cases hbig:576460752303423488 < x
      · rw [if_pos hbig] at hdj
        rw [hnone (by rw [hS,← hdj])]
        (repeat' (first | (refine And.intro (fun h=>?_) (fun h=>?_)<;>(try simp [-List.getD_eq_getElem?_getD,-Int.pred_toNat] at h)<;>(try (exfalso; first | omega | contradiction))) | (refine And.intro (rng64 (by omega) (by omega)) ?_) | (refine And.intro ⟨by omega,by omega⟩ ?_) | (refine And.intro ⟨by omega,by omega,by omega⟩ ?_) | (intro _)))
        refine Or.inl (Exists.intro _ (And.intro (hI) ?_))
        (repeat' (first | (refine And.intro (fun h=>?_) (fun h=>?_)<;>(try simp [-List.getD_eq_getElem?_getD,-Int.pred_toNat] at h)<;>(try (exfalso; first | omega | contradiction))) | (refine And.intro (rng64 (by omega) (by omega)) ?_) | (refine And.intro ⟨by omega,by omega⟩ ?_) | (refine And.intro ⟨by omega,by omega,by omega⟩ ?_) | (intro _)))
        all_goals (repeat' (first | exact trivial | exact Or.inl rfl | exact Or.inr ⟨rfl,_,rfl⟩ | refine And.intro ?_ ?_))
      · rw [if_neg hbig] at hdj
        (repeat' (first | (refine And.intro (fun h=>?_) (fun h=>?_)<;>(try simp [-List.getD_eq_getElem?_getD,-Int.pred_toNat] at h)<;>(try (exfalso; first | omega | contradiction))) | (refine And.intro (rng64 (by omega) (by omega)) ?_) | (refine And.intro ⟨by omega,by omega⟩ ?_) | (refine And.intro ⟨by omega,by omega,by omega⟩ ?_) | (intro _)))
        refine Or.inl (Exists.intro _ (And.intro (hI) ?_))
        (repeat' (first | (refine And.intro (fun h=>?_) (fun h=>?_)<;>(try simp [-List.getD_eq_getElem?_getD,-Int.pred_toNat] at h)<;>(try (exfalso; first | omega | contradiction))) | (refine And.intro (rng64 (by omega) (by omega)) ?_) | (refine And.intro ⟨by omega,by omega⟩ ?_) | (refine And.intro ⟨by omega,by omega,by omega⟩ ?_) | (intro _)))
        have hc:48≤(s.getD j 0).toNat∧(s.getD j 0).toNat≤57:=of_decide_eq_true hb.2
        have hW:IntKind.i64.wrap (IntKind.u8.wrap (((s.getD (j:Int).toNat 0).toNat:Int) - 48)) = (((s.getD j 0).toNat - 48:Nat):Int):=by
          rw [Int.toNat_natCast,IntKind.wrap_u8,IntKind.wrap_i64]
          omega
        have hej2:j + 1 + ((s.drop (j + 1)).takeWhile isDc).length = E:=by omega
        have hxx:x * 10 + ((s.getD j 0).toNat - 48)≤5764607523034234889:=by omega
        refine Exists.intro [.blk [0,1,2,3,4,5,6,7,8,9],.one 10] (And.intro (by kernel_rfl) ?_)
        (repeat' (first | (refine And.intro (fun h=>?_) (fun h=>?_)<;>(try simp [-List.getD_eq_getElem?_getD,-Int.pred_toNat] at h)<;>(try (exfalso; first | omega | contradiction))) | (refine And.intro (rng64 (by omega) (by omega)) ?_) | (refine And.intro ⟨by omega,by omega⟩ ?_) | (refine And.intro ⟨by omega,by omega,by omega⟩ ?_) | (intro _)))
        have hRng:Rng .i64 ((x:Int) * 10 + IntKind.i64.wrap (IntKind.u8.wrap (((s.getD (j:Int).toNat 0).toNat:Int) - 48))):=by
          rw [hW]
          exact rng64 (by omega) (by omega)
        refine Exists.intro [] (Exists.intro (j + 1,x * 10 + ((s.getD j 0).toNat - 48)) (And.intro ⟨hb.1,Nat.le_succ_of_le hij,hdj,hej2,hxx⟩ (And.intro ?_ ?_)))
        · (repeat' (first | exact trivial | exact Or.inl rfl | exact Or.inl ((congrArg (AV.i .i64) (by show (j:Int) + 1 = ((j + 1:Nat):Int); omega))) | exact Or.inl ((congrArg (AV.i .i64) (by show (x:Int) * 10 + IntKind.i64.wrap (IntKind.u8.wrap (((s.getD (j:Int).toNat 0).toNat:Int) - 48)) = ((x * 10 + ((s.getD j 0).toNat - 48):Nat):Int); rw [hW]; omega))) | refine And.intro ?_ ?_))
        · show s.length - (j + 1) < s.length - j
          omega
  have hS:stpR s i = _:=if_neg c91
  have hdl:(s.drop (i + 1)).length = s.length - (i + 1):=List.length_drop
  by_cases h34:isPre [34] (s.drop (i + 1)) = true
  · rw [if_pos h34] at hS
    have hk1:i + 1 < s.length:=by
      refine Nat.lt_of_not_le fun h=>?_
      rw [List.drop_eq_nil_of_le h] at h34
      cases h34
    have hq34:(s.getD (i + 1) 0).toNat = 34:=by
      rw [drop_cons hk1,isPre1,decide_eq_true_eq] at h34
      rw [h34]
      rfl
    have hq34b:(s.getD ((i:Int) + 1).toNat 0).toNat = 34:=by rw [show ((i:Int) + 1).toNat = i + 1 by omega]; exact hq34
    have hU:=s_unqR (s.drop (i + 1)) (by omega)
    have hur:=unq_rng (s.drop (i + 1))
    rw [hdl] at hur
    have hcut:List.drop ((i:Int) + 1).toNat (List.take ((s.length:Int)).toNat s) = s.drop (i + 1):=by rw [show ((i:Int) + 1).toNat = i + 1 by omega,Int.toNat_natCast,List.take_length]
    generalize unq (s.drop (i + 1)) = U at hU hS hur
    rw [← hcut] at hU
    obtain ⟨key,n,e⟩:=U
    unfold tupU at hU
    simp only at hU hur
    by_cases he:e = 0
    · have hS:stpR s i = some (⟨key,-1⟩,i + 1 + n.toNat):=by rw [hS]; exact if_neg (fun h=>h he)
      have h1:=hsome _ hS
      have h2:=hnx _ hS
      have h3:=hR hS
      (repeat' (first | (refine And.intro (fun h=>?_) (fun h=>?_)<;>(try simp [-List.getD_eq_getElem?_getD,-Int.pred_toNat] at h)<;>(try (exfalso; first | omega | contradiction))) | (refine And.intro (rng64 (by omega) (by omega)) ?_) | (refine And.intro ⟨by omega,by omega⟩ ?_) | (refine And.intro ⟨by omega,by omega,by omega⟩ ?_) | (intro _)))
      refine Or.inl (Exists.intro _ (And.intro (hU) ?_))
      (repeat' (first | (refine And.intro (fun h=>?_) (fun h=>?_)<;>(try simp [-List.getD_eq_getElem?_getD,-Int.pred_toNat] at h)<;>(try (exfalso; first | omega | contradiction))) | (refine And.intro (rng64 (by omega) (by omega)) ?_) | (refine And.intro ⟨by omega,by omega⟩ ?_) | (refine And.intro ⟨by omega,by omega,by omega⟩ ?_) | (intro _)))
      refine And.intro (by show (o.length + 1) * 24≤_; omega) ?_
      refine Exists.intro [(106,4)] (Exists.intro (f',o++[⟨key,-1⟩],i + 1 + n.toNat) (And.intro ⟨h3.1,by show s.length < f' + (i + 1 + n.toNat); omega,h1,h2.2,h2.1⟩ (And.intro ?_ ?_)))
      · (repeat' (first | exact trivial | exact Or.inl rfl | exact Or.inl ((congrArg (AV.i .i64) (by show (i:Int) + 1 + n = ((i + 1 + n.toNat:Nat):Int); omega))) | refine And.intro ?_ ?_))
      · show f' < f' + 1
        omega
    · have hS:stpR s i = none:=by rw [hS]; exact if_pos he
      rw [hnone hS]
      (repeat' (first | (refine And.intro (fun h=>?_) (fun h=>?_)<;>(try simp [-List.getD_eq_getElem?_getD,-Int.pred_toNat] at h)<;>(try (exfalso; first | omega | contradiction))) | (refine And.intro (rng64 (by omega) (by omega)) ?_) | (refine And.intro ⟨by omega,by omega⟩ ?_) | (refine And.intro ⟨by omega,by omega,by omega⟩ ?_) | (intro _)))
      refine Or.inl (Exists.intro _ (And.intro (hU) ?_))
      (repeat' (first | (refine And.intro (fun h=>?_) (fun h=>?_)<;>(try simp [-List.getD_eq_getElem?_getD,-Int.pred_toNat] at h)<;>(try (exfalso; first | omega | contradiction))) | (refine And.intro (rng64 (by omega) (by omega)) ?_) | (refine And.intro ⟨by omega,by omega⟩ ?_) | (refine And.intro ⟨by omega,by omega,by omega⟩ ?_) | (intro _)))
      all_goals (repeat' (first | exact trivial | exact Or.inl rfl | exact Or.inr ⟨rfl,_,rfl⟩ | refine And.intro ?_ ?_))
  · rw [if_neg h34] at hS
    have hdg:∀ k,(s.drop (i + 1)).getD k 0 = s.getD (i + 1 + k) 0:=fun k=>getD_drop s (i + 1) k 0
    have hel:=List.findIdx_le_length (xs:=s.drop (i + 1)) (p:=endC)
    have hfin:∀ j,i + 1≤j→j≤s.length→(∀ k,k < j - (i + 1)→endC ((s.drop (i + 1)).getD k 0) = false)→(j = s.length∨endC (s.getD j 0) = true)→stpR s i = some (⟨(s.drop (i + 1)).take (j - (i + 1)),-1⟩,j):=fun j h1 h2 h3 h4=>by
      have he:(s.drop (i + 1)).findIdx endC = j - (i + 1):=by
        by_cases hjl:j < s.length
        · refine scan_hit (by omega) h3 ?_
          rw [hdg,show i + 1 + (j - (i + 1)) = j by omega]
          exact h4.resolve_left (by omega)
        · have:=scan_end (s:=s.drop (i + 1)) (fun k hk=>h3 k (by omega))
          omega
      rw [hS,he,show i + 1 + (j - (i + 1)) = j by omega]
    have hn34:∀ _:i + 1 < s.length,(s.getD (i + 1) 0).toNat≠34:=fun hk1 e34=>by
      refine h34 ?_
      rw [drop_cons hk1,isPre1,decide_eq_true_eq]
      exact UInt8.toNat_inj.1 e34
    have hn34b:i + 1 < s.length→(s.getD ((i:Int) + 1).toNat 0).toNat≠34:=fun hk1=>by
      rw [show ((i:Int) + 1).toNat = i + 1 by omega]
      exact hn34 hk1
    have hgo:s.length≤i + 1∨(i + 1 < s.length∧(s.getD ((i:Int) + 1).toNat 0).toNat≠34):=by
      by_cases h:i + 1 < s.length
      · exact .inr ⟨h,hn34b h⟩
      · exact .inl (by omega)
    rcases hgo with hgo | ⟨hgo,hgo2⟩
    all_goals
      (repeat' (first | (refine And.intro (fun h=>?_) (fun h=>?_)<;>(try simp [-List.getD_eq_getElem?_getD,-Int.pred_toNat] at h)<;>(try (exfalso; first | omega | contradiction))) | (refine And.intro (rng64 (by omega) (by omega)) ?_) | (refine And.intro ⟨by omega,by omega⟩ ?_) | (refine And.intro ⟨by omega,by omega,by omega⟩ ?_) | (intro _)))
      refine Exists.intro [] (Exists.intro [] (Exists.intro [] (Exists.intro Nat (Exists.intro (fun j=>i + 1≤j∧j≤s.length∧∀ k,k < j - (i + 1)→endC ((s.drop (i + 1)).getD k 0) = false) (Exists.intro (fun j=>⟨[(0,.s s),(4,.vec 4 .pstep o),(5,.i .i64 j),(6,.pt 6 0),(7,.i .i64 ((i + 1:Nat):Int))],[(6,[.s [],.i .i64 (-1)])]⟩) (Exists.intro (fun j=>s.length - j) (Exists.intro (i + 1) (And.intro ⟨Nat.le_refl _,hk,fun k hk=>by omega⟩ (And.intro ?_ ?_)))))))))
      · (repeat' (first | exact trivial | exact Or.inl rfl | exact Or.inr (Or.inl ⟨rfl,_,rfl⟩) | exact Or.inr (Or.inr (Or.inr ⟨_,_,_,rfl,rfl⟩)) | refine And.intro ?_ ?_))
      rintro j ⟨hj1,hj2,hj3⟩
      have hgj:s.getD (Int.toNat (j:Int)) 0 = s.getD j 0:=by rw [Int.toNat_natCast]
      by_cases hstop:j = s.length∨(j < s.length∧((s.getD j 0).toNat = 46∨((s.getD j 0).toNat≠46∧(s.getD j 0).toNat = 91)))
      · have hS := hfin j hj1 hj2 hj3 (hstop.imp id (fun h => by
          unfold endC
          rw [Bool.or_eq_true,beq_iff_eq,beq_iff_eq]
          exact h.2.imp (fun h=>UInt8.toNat_inj.1 h) (fun h=>UInt8.toNat_inj.1 h.2)))
        have h1:=hsome _ hS
        have h2:=hnx _ hS
        have h3:=hR hS
        have hK:List.drop (if (s.length:Int) < ((i + 1:Nat):Int) then (s.length:Int) else ((i + 1:Nat):Int)).toNat (List.take (j:Int).toNat s) = (s.drop (i + 1)).take (j - (i + 1)):=by
          rw [if_neg (by omega),Int.toNat_natCast,Int.toNat_natCast,List.drop_take]
        rcases hstop with hs1 | ⟨hs1,hs2 | ⟨hs2,hs3⟩⟩
        all_goals
          (repeat' (first | (refine And.intro (fun h=>?_) (fun h=>?_)<;>(try simp [-List.getD_eq_getElem?_getD,-Int.pred_toNat] at h)<;>(try (exfalso; first | omega | contradiction))) | (refine And.intro (rng64 (by omega) (by omega)) ?_) | (refine And.intro ⟨by omega,by omega⟩ ?_) | (refine And.intro ⟨by omega,by omega,by omega⟩ ?_) | (intro _)))
          all_goals refine And.intro (by show (o.length + 1) * 24≤_; omega) ?_
          all_goals refine Exists.intro [(106,4)] (Exists.intro (f',o++[⟨(s.drop (i + 1)).take (j - (i + 1)),-1⟩],j) (And.intro ⟨h3.1,by show s.length < f' + j; omega,h1,h2.2,h2.1⟩ (And.intro ?_ ?_)))
          all_goals first
            | (repeat' (first | exact trivial | exact Or.inl rfl | exact Or.inl ((congrArg (fun z:Str=>AV.vec 4 .pstep (o++[⟨z,-1⟩])) hK)) | refine And.intro ?_ ?_))
            | skip
          all_goals first
            | done
            | exact Nat.lt_succ_self _
      · have hjl:j < s.length:=by omega
        have hc1:(s.getD j 0).toNat≠46:=fun h=>hstop (.inr ⟨hjl,.inl h⟩)
        have hc2:(s.getD j 0).toNat≠91:=fun h=>hstop (.inr ⟨hjl,.inr ⟨hc1,h⟩⟩)
        have hnx:∀ k,k < j + 1 - (i + 1)→endC ((s.drop (i + 1)).getD k 0) = false:=fun k hk9=>by
          rcases (show k < j - (i + 1)∨k = j - (i + 1) by omega) with h | h
          · exact hj3 k h
          · rw [h,hdg,show i + 1 + (j - (i + 1)) = j by omega]
            unfold endC
            rw [Bool.or_eq_false_iff,beq_eq_false_iff_ne,beq_eq_false_iff_ne]
            exact ⟨fun e=>hc1 (by rw [e]; rfl),fun e=>hc2 (by rw [e]; rfl)⟩
        (repeat' (first | (refine And.intro (fun h=>?_) (fun h=>?_)<;>(try simp [-List.getD_eq_getElem?_getD,-Int.pred_toNat] at h)<;>(try (exfalso; first | omega | contradiction))) | (refine And.intro (rng64 (by omega) (by omega)) ?_) | (refine And.intro ⟨by omega,by omega⟩ ?_) | (refine And.intro ⟨by omega,by omega,by omega⟩ ?_) | (intro _)))
        all_goals refine Exists.intro [] (Exists.intro (j + 1) (And.intro ⟨by show i + 1≤j + 1; omega,by show j + 1≤_; omega,hnx⟩ (And.intro ?_ ?_)))
        all_goals first
          | (repeat' (first | exact trivial | exact Or.inl rfl | exact Or.inl ((congrArg (AV.i .i64) (by show (j:Int) + 1 = ((j + 1:Nat):Int); omega))) | refine And.intro ?_ ?_))
          | skip
        all_goals first
          | done
          | (show s.length - (j + 1) < s.length - j; omega)
theorem s_readR (s:Str) (hs:s.length≤1048576):PSpec Tryd.prog 31 [.s s] (rrA (readR s)) :=
  pspec_of_vcL Γ_good Tryd.func31 rfl Tryd.call31 Tryd.results31 Tryd.ntmps31 (Nat.le_of_ble_eq_true rfl) (w_readR s hs)
end
end Go.Proofs.YtmfchbkdakmjhaaDoor
end
section
namespace Go.Proofs.YtmfchbkdakmjhaaDoor
set_option linter.unusedSectionVars false
set_option linter.unusedSimpArgs false
set_option linter.unusedVariables false
open Go Go.SX Go.Ck Go.Vl Go.Ut Go.Nm Go.Es Go.Up Go.Pth
set_option maxRecDepth 100000
set_option maxHeartbeats 4000000
section
variable [G:Globs]
theorem w_samePath (l k:List PStep):vc Tryd.prog Γ 26 [0,1,4,5,10,12,13,14,24] (Tryd.f34.body.getD .skip) (postK Γ [.tmp 4] (fun v=>v = .b (decide (l = k)))) ⟨argSlots 0 [.rd .pstep l,.rd .pstep k],[]⟩:=by
  intro hl
  intro hk
  refine And.intro (fun hq=>?_) (fun hq=>?_)
  · have hq:l.length≠k.length:=by have:=hq; simp only [bne_iff_ne,ne_eq] at this; omega
    refine congrArg AV.b ?_
    rw [eq_comm,decide_eq_false_iff_not]
    exact fun e=>hq (by rw [e])
  have hq:l.length = k.length:=by have:((l.length:Int) != (k.length:Int)) = false:=hq; simp only [bne_eq_false_iff_eq] at this; omega
  intro _
  refine Exists.intro [] (Exists.intro [] (Exists.intro [] (Exists.intro Nat (Exists.intro (fun i=>i≤(l).length∧(l.take i = k.take i)) (Exists.intro (fun i=>⟨[(0,.rd .pstep l),(1,.rd .pstep k),(12,.i .i64 l.length),(13,.i .i64 i)],[]⟩) (Exists.intro (fun i=>(l).length - i) (Exists.intro 0 (And.intro ⟨Nat.zero_le _,rfl⟩ (And.intro ?_ ?_)))))))))
  · (repeat' (first | exact trivial | exact Or.inl rfl | exact Or.inr (Or.inl ⟨rfl,_,rfl⟩) | exact Or.inr (Or.inr (Or.inr ⟨_,_,_,rfl,rfl⟩)) | refine And.intro ?_ ?_))
  rintro i ⟨hi,hI⟩
  refine And.intro (fun hz=>?_) (fun hz=>?_)
  · have hi:=ltD hz
    have hg:=getI (τ:=.pstep) hi
    have hg2:=getI (τ:=.pstep) (l:=k) (show i < k.length by omega)
    refine Exists.intro [.blk [0,1,2,3,4,5,6,7,8]] (And.intro (by kernel_rfl) ?_)
    refine And.intro ⟨by omega,by omega⟩ ?_
    refine And.intro ⟨by omega,by omega⟩ ?_
    rw [hg,hg2]
    have hik:i < k.length:=by omega
    have hll:=len_le hl
    have hst:(l[i].key == k[i].key && (decide (l[i].i = k[i].i) && true)) = decide (l[i] = k[i]):=by
      rw [Bool.eq_iff_iff]
      simp only [Bool.and_true,Bool.and_eq_true,beq_iff_eq,decide_eq_true_eq]
      constructor
      · rintro ⟨h1,h2⟩
        cases hl1:l[i]; cases hk1:k[i]
        rw [hl1,hk1] at h1 h2
        simp only at h1 h2
        rw [h1,h2]
      · intro h; rw [h]; exact ⟨rfl,rfl⟩
    refine And.intro (fun hc=>?_) (fun hc=>?_)
    · have hc:(!(l[i].key == k[i].key && (decide (l[i].i = k[i].i) && true))) = true:=hc
      rw [hst] at hc
      have hne:l[i]≠k[i]:=by simpa using hc
      refine congrArg AV.b ?_
      rw [eq_comm,decide_eq_false_iff_not]
      intro e
      exact hne (by subst e; rfl)
    · have hc:(!(l[i].key == k[i].key && (decide (l[i].i = k[i].i) && true))) = false:=hc
      rw [hst] at hc
      have heq:l[i] = k[i]:=by simpa using hc
      (refine And.intro (rng64 (by omega) (by omega)) ?_)
      refine Exists.intro [] (Exists.intro (_ + 1) (And.intro ⟨hi,(by rw [take_snoc hi,take_snoc hik,hI,heq])⟩ (And.intro ?_ ?_)))
      · (repeat' (first | exact trivial | exact Or.inl rfl | exact Or.inr (Or.inl ⟨rfl,_,rfl⟩) | exact Or.inr (Or.inr (Or.inr ⟨_,_,_,rfl,rfl⟩)) | refine And.intro ?_ ?_))
      · (exact Nat.sub_lt_sub_left (by omega) (by omega))
  · (have hi:=geD hi hz)
    subst hi
    rw [List.take_length,hq,List.take_length] at hI
    exact congrArg AV.b (by rw [eq_comm,decide_eq_true_eq]; exact hI)
theorem s_samePath (l k:List PStep):PSpec Tryd.prog 34 [.rd .pstep l,.rd .pstep k] (.b (decide (l = k))) :=
  pspec_of_vc Γ_good Tryd.func34 rfl Tryd.call34 Tryd.results34 Tryd.ntmps34 (Nat.le_of_ble_eq_true rfl) (w_samePath l k)
theorem w_law (ht:HasNum) (he:HasErr2) (hu:HasU8) (p:List PStep) (s:Str) (hp:∀ x ∈ p,x.i≤9223372036854775807) (hs:s.length≤1048576):vc Tryd.prog Γ 73 [0,1,4,5,6,7,8,9,10,11,12,31,53] (Tryd.f7.body.getD .skip) (postK Γ [.tmp 4] (fun v=>v = .b true)) ⟨argSlots 0 [.rd .pstep p,.s s],[]⟩:=by
  have h1:=s_pathR p
  have h2:=s_TextW ht hu p hp
  have h3:=s_readW ht he hu s hs
  have h4:=s_readR s hs
  have h5:=s_pathC hu p
  rw [read_same] at h3
  unfold readA at h3
  by_cases hf:pathF p = 0
  · have h6:=s_textR p hf hp
    rw [hf] at h1 h2 h5
    rw [if_pos rfl] at h2
    cases hr:Pth.readR s with
    | some l =>
      rw [hr] at h3 h4
      have h7:=s_samePath l l
      rw [decide_eq_true rfl] at h7
      unfold rrA at h4
      refine Or.inl (Exists.intro _ (And.intro (h1) ?_))
      refine Or.inl (Exists.intro _ (And.intro (h2) ?_))
      refine Or.inl (Exists.intro _ (And.intro (h3) ?_))
      refine Or.inl (Exists.intro _ (And.intro (h4) ?_))
      (repeat' (first | (refine And.intro (fun h=>?_) (fun h=>?_)<;>(try simp [-List.getD_eq_getElem?_getD,-Int.pred_toNat] at h)<;>(try (exfalso; first | omega | contradiction))) | (refine And.intro (rng64 (by omega) (by omega)) ?_) | (refine And.intro ⟨by omega,by omega⟩ ?_) | (refine And.intro ⟨by omega,by omega,by omega⟩ ?_) | (intro _)))
      refine Or.inl (Exists.intro _ (And.intro (h6) ?_))
      (repeat' (first | (refine And.intro (fun h=>?_) (fun h=>?_)<;>(try simp [-List.getD_eq_getElem?_getD,-Int.pred_toNat] at h)<;>(try (exfalso; first | omega | contradiction))) | (refine And.intro (rng64 (by omega) (by omega)) ?_) | (refine And.intro ⟨by omega,by omega⟩ ?_) | (refine And.intro ⟨by omega,by omega,by omega⟩ ?_) | (intro _)))
      refine Or.inl (Exists.intro _ (And.intro (h5) ?_))
      (repeat' (first | (refine And.intro (fun h=>?_) (fun h=>?_)<;>(try simp [-List.getD_eq_getElem?_getD,-Int.pred_toNat] at h)<;>(try (exfalso; first | omega | contradiction))) | (refine And.intro (rng64 (by omega) (by omega)) ?_) | (refine And.intro ⟨by omega,by omega⟩ ?_) | (refine And.intro ⟨by omega,by omega,by omega⟩ ?_) | (intro _)))
      all_goals refine Or.inl (Exists.intro _ (And.intro (h7) ?_))
      all_goals (repeat' (first | (refine And.intro (fun h=>?_) (fun h=>?_)<;>(try simp [-List.getD_eq_getElem?_getD,-Int.pred_toNat] at h)<;>(try (exfalso; first | omega | contradiction))) | (refine And.intro (rng64 (by omega) (by omega)) ?_) | (refine And.intro ⟨by omega,by omega⟩ ?_) | (refine And.intro ⟨by omega,by omega,by omega⟩ ?_) | (intro _)))
      all_goals rfl
    | none =>
      rw [hr] at h3 h4
      unfold rrA at h4
      refine Or.inl (Exists.intro _ (And.intro (h1) ?_))
      refine Or.inl (Exists.intro _ (And.intro (h2) ?_))
      refine Or.inl (Exists.intro _ (And.intro (h3) ?_))
      refine Or.inl (Exists.intro _ (And.intro (h4) ?_))
      (repeat' (first | (refine And.intro (fun h=>?_) (fun h=>?_)<;>(try simp [-List.getD_eq_getElem?_getD,-Int.pred_toNat] at h)<;>(try (exfalso; first | omega | contradiction))) | (refine And.intro (rng64 (by omega) (by omega)) ?_) | (refine And.intro ⟨by omega,by omega⟩ ?_) | (refine And.intro ⟨by omega,by omega,by omega⟩ ?_) | (intro _)))
      refine Or.inl (Exists.intro _ (And.intro (h6) ?_))
      (repeat' (first | (refine And.intro (fun h=>?_) (fun h=>?_)<;>(try simp [-List.getD_eq_getElem?_getD,-Int.pred_toNat] at h)<;>(try (exfalso; first | omega | contradiction))) | (refine And.intro (rng64 (by omega) (by omega)) ?_) | (refine And.intro ⟨by omega,by omega⟩ ?_) | (refine And.intro ⟨by omega,by omega,by omega⟩ ?_) | (intro _)))
      refine Or.inl (Exists.intro _ (And.intro (h5) ?_))
      (repeat' (first | (refine And.intro (fun h=>?_) (fun h=>?_)<;>(try simp [-List.getD_eq_getElem?_getD,-Int.pred_toNat] at h)<;>(try (exfalso; first | omega | contradiction))) | (refine And.intro (rng64 (by omega) (by omega)) ?_) | (refine And.intro ⟨by omega,by omega⟩ ?_) | (refine And.intro ⟨by omega,by omega,by omega⟩ ?_) | (intro _)))
      all_goals rfl
  · rw [if_neg hf] at h2
    cases hr:Pth.readR s with
    | some l =>
      rw [hr] at h3 h4
      have h7:=s_samePath l l
      rw [decide_eq_true rfl] at h7
      unfold rrA at h4
      refine Or.inl (Exists.intro _ (And.intro (h1) ?_))
      refine Or.inl (Exists.intro _ (And.intro (h2) ?_))
      refine Or.inl (Exists.intro _ (And.intro (h3) ?_))
      refine Or.inl (Exists.intro _ (And.intro (h4) ?_))
      (repeat' (first | (refine And.intro (fun h=>?_) (fun h=>?_)<;>(try simp [-List.getD_eq_getElem?_getD,-Int.pred_toNat] at h)<;>(try (exfalso; first | omega | contradiction))) | (refine And.intro (rng64 (by omega) (by omega)) ?_) | (refine And.intro ⟨by omega,by omega⟩ ?_) | (refine And.intro ⟨by omega,by omega,by omega⟩ ?_) | (intro _)))
      refine Or.inl (Exists.intro _ (And.intro (h5) ?_))
      (repeat' (first | (refine And.intro (fun h=>?_) (fun h=>?_)<;>(try simp [-List.getD_eq_getElem?_getD,-Int.pred_toNat] at h)<;>(try (exfalso; first | omega | contradiction))) | (refine And.intro (rng64 (by omega) (by omega)) ?_) | (refine And.intro ⟨by omega,by omega⟩ ?_) | (refine And.intro ⟨by omega,by omega,by omega⟩ ?_) | (intro _)))
      all_goals refine Or.inl (Exists.intro _ (And.intro (h7) ?_))
      all_goals (repeat' (first | (refine And.intro (fun h=>?_) (fun h=>?_)<;>(try simp [-List.getD_eq_getElem?_getD,-Int.pred_toNat] at h)<;>(try (exfalso; first | omega | contradiction))) | (refine And.intro (rng64 (by omega) (by omega)) ?_) | (refine And.intro ⟨by omega,by omega⟩ ?_) | (refine And.intro ⟨by omega,by omega,by omega⟩ ?_) | (intro _)))
      all_goals rfl
    | none =>
      rw [hr] at h3 h4
      unfold rrA at h4
      refine Or.inl (Exists.intro _ (And.intro (h1) ?_))
      refine Or.inl (Exists.intro _ (And.intro (h2) ?_))
      refine Or.inl (Exists.intro _ (And.intro (h3) ?_))
      refine Or.inl (Exists.intro _ (And.intro (h4) ?_))
      (repeat' (first | (refine And.intro (fun h=>?_) (fun h=>?_)<;>(try simp [-List.getD_eq_getElem?_getD,-Int.pred_toNat] at h)<;>(try (exfalso; first | omega | contradiction))) | (refine And.intro (rng64 (by omega) (by omega)) ?_) | (refine And.intro ⟨by omega,by omega⟩ ?_) | (refine And.intro ⟨by omega,by omega,by omega⟩ ?_) | (intro _)))
      refine Or.inl (Exists.intro _ (And.intro (h5) ?_))
      (repeat' (first | (refine And.intro (fun h=>?_) (fun h=>?_)<;>(try simp [-List.getD_eq_getElem?_getD,-Int.pred_toNat] at h)<;>(try (exfalso; first | omega | contradiction))) | (refine And.intro (rng64 (by omega) (by omega)) ?_) | (refine And.intro ⟨by omega,by omega⟩ ?_) | (refine And.intro ⟨by omega,by omega,by omega⟩ ?_) | (intro _)))
      all_goals rfl
theorem s_law (ht:HasNum) (he:HasErr2) (hu:HasU8) (p:List PStep) (s:Str) (hp:∀ x ∈ p,x.i≤9223372036854775807) (hs:s.length≤1048576):PSpec Tryd.prog 7 [.rd .pstep p,.s s] (.b true) :=
  pspec_of_vc Γ_good Tryd.func7 rfl Tryd.call7 Tryd.results7 Tryd.ntmps7 (Nat.le_of_ble_eq_true rfl) (w_law ht he hu p s hp hs)
end
end Go.Proofs.YtmfchbkdakmjhaaDoor
end
section
namespace Go.SX
set_option linter.unusedSectionVars false
set_option linter.unusedVariables false
set_option linter.unusedSimpArgs false
open Go.RowKit Go.WideShapes Go.ChangeShapes Go.Deep
structure BulkS {H:Type} (bk:DataW H→Nat):Prop where
  sl:∀ els rest,(els.map bk).sum + 1≤bk (.slice els rest)
  ag:∀ ds,(ds.map bk).sum + 1≤bk (.agg ds)
  st:∀ b,b.length + 1≤bk (.lit (.string b))
  pos:∀ d,1≤bk d
/-! the bulk of a value -/
mutual
def bkV:Val→Nat
  | ⟨_,_,_,s,l,e⟩=>s.length + bkL l + bkE e + 7
def bkL:List Val→Nat
  | []=>0
  | x::xs=>bkV x + bkL xs
def bkE:List (Str × Val)→Nat
  | []=>0
  | x::xs=>bkP x + bkE xs
def bkP:Str × Val→Nat
  | (k,x)=>k.length + bkV x + 2
end
theorem sum_le2 {α β:Type} {m:α→Nat} {k:β→Nat}:∀ {l:List α} {r:List β},l.length = r.length→(∀ (i:Nat) x y,l[i]? = some x→r[i]? = some y→m x≤k y)→(l.map m).sum≤(r.map k).sum
  | [],_,_,_=>Nat.zero_le _
  | x::l,[],h,_=>nomatch h
  | x::l,y::r,h,hh=>by
    have h1:=hh 0 x y rfl rfl
    have h2:=sum_le2 (m:=m) (k:=k) (l:=l) (r:=r) (by simpa using h) (fun i a b ha hb=>hh (i + 1) a b (by simpa using ha) (by simpa using hb))
    rw [List.map_cons,List.sum_cons,List.map_cons,List.sum_cons]
    omega
section
variable [Globs]
variable {H:Type} {encH:TypeId × Value→H} {P:Program} {W:World} {sp:Nat→Bool} {hd:Bool} {O:Nat→Prop} {bk:DataW H→Nat}
theorem arg_sliceS {t e : TypeId} {τ : Ty} {m : den τ → Nat} {R : den τ → Prop} (hbk : BulkS bk) (hO : ∀ k, ¬ O k) (ht : P.underlying t = some (.slice e)) (hc : P.cellsOf e = esz τ) {fuel : Nat}
    (hel:∀ n,n < fuel→∀ (cs:List Value) (x:DataW H × List MemPlace),DataW.trod encH P W 0 sp hd n e cs = some x→∃ y:den τ,All2 (Im O W) (enc τ y) cs∧m y≤bk x.1∧R y)
    {cs:List Value} {x:DataW H × List MemPlace} (h:DataW.trod encH P W 0 sp hd fuel t cs = some x):∃ (l:List (den τ)) (v:Value),cs = [v]∧Im O W (.rd τ l) v∧(l.map m).sum + 1≤bk x.1∧∀ y ∈ l,R y:=by
  rcases DataW.trod_slice ht h with ⟨rfl,rfl⟩ | ⟨a,len,cap,elems,rest,n,rfl,rfl,rfl,hb,hlc,hcm,hlen,hall,_,_⟩
  · exact ⟨[],_,rfl,.rd0 τ none 0 (Nat.zero_le _),by simpa using hbk.pos _,fun y hy=>nomatch hy⟩
  by_cases h0:len = 0
  · subst h0; exact ⟨[],_,rfl,.rd0 τ _ _ hcm,by simpa using hbk.pos _,fun y hy=>nomatch hy⟩
  have hall:∀ i,i < len→∃ (us:List Value) (y:DataW H × List MemPlace),W.cells? 0 (a.add (i * P.cellsOf e)) (P.cellsOf e) = some us∧DataW.trod encH P W 0 sp hd n e us = some y∧elems[i]? = some y:=fun i hi=>by
    have:=hall i hi
    rw [List.getElem?_eq_getElem (by omega)] at this
    obtain ⟨us,h1,h2⟩:=Option.bind_eq_some_iff.1 this
    exact ⟨us,_,h1,h2,List.getElem?_eq_getElem _⟩
  have hch:∀ i,i < len→∃ (y:den τ) (us:List Value),(All2 (Im O W) (enc τ y) us∧(∀ d,elems[i]? = some d→m y≤bk d.1)∧R y)∧us.length = esz τ∧∀ (j:Nat) v,us[j]? = some v→W.cell? ⟨a.block,a.off + (i * esz τ + j),none⟩ = some v:=by
    intro i hi
    obtain ⟨us,yy,h1,h2,hm⟩:=hall i hi
    obtain ⟨y,hy⟩:=hel n (Nat.lt_succ_self n) _ _ h2
    rw [hc] at h1
    obtain ⟨h3,h4⟩:=cells_get h1
    refine ⟨y,us,⟨hy.1,fun d hd=>?_,hy.2.2⟩,h3,fun j v hv=>?_⟩
    · rw [hm] at hd
      injection hd with hd
      subst hd
      exact hy.2.1
    have h5:=h4 j v hv
    have hs:∀ j v,us[j]? = some v→((a.add (i * esz τ)).add j).spot = none:=fun j v hv=>World.cell?_spot (h4 j v hv)
    have hpos:=esz_pos τ
    have h00:(a.add (i * esz τ)).spot = none:=by
      have:=hs 0 (us[0]'(by omega)) (List.getElem?_eq_getElem _)
      simpa [Addr.add] using this
    have e1:=add_of h00
    rw [e1] at h5
    rw [add_none] at h5
    rw [← h5,Nat.add_assoc]
  have ys:∃ l:List (den τ),l.length = len∧∀ (i:Nat) y,l[i]? = some y→∃ us:List Value,(All2 (Im O W) (enc τ y) us∧(∀ d,elems[i]? = some d→m y≤bk d.1)∧R y)∧∀ (j:Nat) v,us[j]? = some v→W.cell? ⟨a.block,a.off + (i * esz τ + j),none⟩ = some v:=by
    have hch':=fun (i:Fin len)=>hch i.1 i.2
    refine ⟨List.ofFn fun i:Fin len=>Classical.choose (hch' i),by simp,fun i y hy=>?_⟩
    have hi:i < len:=by have:=(List.getElem?_eq_some_iff.1 hy).1; simpa using this
    rw [List.getElem?_ofFn,dif_pos hi] at hy
    injection hy with hy
    subst hy
    obtain ⟨us,h1,_,h2⟩:=Classical.choose_spec (hch' ⟨i,hi⟩)
    exact ⟨us,h1,h2⟩
  obtain ⟨l,hll,hl⟩:=ys
  refine ⟨l,_,rfl,?_,?_,fun y hy=>?_⟩
  rotate_left
  · have h1:=hbk.sl (elems.map (·.1)) (rest.map (·.1))
    have h2:(l.map m).sum≤((elems.map (·.1)).map bk).sum:=sum_le2 (by rw [List.length_map]; omega) fun i y d hy hd=>by
      obtain ⟨us,h3,_⟩:=hl i y hy
      rw [List.getElem?_map,Option.map_eq_some_iff] at hd
      obtain ⟨d',hd',rfl⟩:=hd
      exact h3.2.1 d' hd'
    exact Nat.le_trans (Nat.succ_le_succ h2) h1
  · obtain ⟨i,hi,rfl⟩:=List.getElem_of_mem hy
    obtain ⟨us,h1,_⟩:=hl i _ (List.getElem?_eq_getElem hi)
    exact h1.2.2
  have hane:a = ⟨a.block,a.off,none⟩:=by
    obtain ⟨us',yy,h1,h2,_⟩:=hall 0 (by omega)
    have hpos:=esz_pos τ
    rw [hc] at h1
    obtain ⟨h5,h6⟩:=cells_get h1
    have:=World.cell?_spot (h6 0 (us'[0]'(by omega)) (List.getElem?_eq_getElem _))
    simp [Addr.add] at this
    obtain ⟨b,o,s⟩:=a
    simp only at this
    subst this
    rfl
  rw [hane,← hll]
  refine .rd τ l a.block a.off cap (fun i j=>(W.cell? ⟨a.block,a.off + (i * esz τ + j),none⟩).getD undef) (hO _) (by omega) hcm (fun e=>h0 (by rw [← hll,e]; rfl)) (fun i y j av hy hav=>?_) (fun i y j av hy hav=>?_)
  · obtain ⟨us,h1,h2⟩:=hl i y hy
    have hj:j < us.length:=by rw [← h1.1.1]; exact (List.getElem?_eq_some_iff.1 hav).1
    rw [h2 j _ (List.getElem?_eq_getElem hj)]; rfl
  · obtain ⟨us,h1,h2⟩:=hl i y hy
    have hj:j < us.length:=by rw [← h1.1.1]; exact (List.getElem?_eq_some_iff.1 hav).1
    rw [h2 j _ (List.getElem?_eq_getElem hj)]
    exact h1.1.2 j av _ hav (List.getElem?_eq_getElem hj)
theorem one_fieldS {t : TypeId} {fs : Array Field} {fuel : Nat} {cs : List Value} {x : DataW H × List MemPlace} (ht : P.underlying t = some (.struct fs)) (h : DataW.trod encH P W 0 sp hd fuel t cs = some x) :
    ∃ (n:Nat) (ds:List (DataW H)),fuel = n + 1∧cs.length = P.cellsOf t∧x.1 = .agg ds∧ds.length = fs.size∧∀ (i off:Nat) (t':TypeId),HasF fs i off t'→∃ y,DataW.trod encH P W 0 sp hd n t' ((cs.drop off).take (P.cellsOf t')) = some y∧ds[i]? = some y.1:=by
  obtain ⟨xs,n,hn,rfl,h1,h2,h3⟩:=DataW.trod_struct ht h
  refine ⟨n,xs.map (·.1),hn,h1,rfl,by rw [List.length_map]; exact h2,fun i off t' hf=>?_⟩
  obtain ⟨f,hf,rfl,rfl⟩:=hf
  have hi:i < xs.length:=by rw [h2]; exact (Array.getElem?_eq_some_iff.1 hf).1
  rw [h3 i f hf,List.getElem?_eq_getElem hi]
  exact ⟨_,rfl,by rw [List.getElem?_map,List.getElem?_eq_getElem hi]; rfl⟩
theorem arg_strS (hbk:BulkS bk) {t:TypeId} {fuel:Nat} {cs:List Value} {x:DataW H × List MemPlace} (ht:P.underlying t = some .string) (h:DataW.trod encH P W 0 sp hd fuel t cs = some x):∃ (l:Str) (v:Value),cs = [v]∧Im O W (.s l) v∧l.length + 1≤bk x.1:=by
  obtain ⟨s,h1,h3,h2⟩:=DataW.trod_string ht h
  refine ⟨s.data.toList,.string s,h1,?_,?_⟩
  · have:=Im.s (O:=O) (w:=W) s.data.toList (by rw [Array.length_toList]; exact h2)
    simpa using this
  · rw [h3]; exact hbk.st _
end
end Go.SX
end
section
namespace Go.SX
set_option linter.unusedSectionVars false
set_option linter.unusedVariables false
set_option linter.unusedSimpArgs false
open Go.RowKit Go.WideShapes Go.ChangeShapes Go.Deep
def bkS (p:PStep):Nat:=p.key.length + 2
def I64 (n:Int):Prop:=-9223372036854775808≤n∧n≤9223372036854775807
structure STy (P:Program) (T:TypeId) where
  (fs:Array Field) (K S:TypeId)
  hT:P.underlying T = some (.struct fs)
  sz:fs.size = 2
  cT:P.cellsOf T = 2
  h0:HasF fs 0 0 S
  h1:HasF fs 1 1 K
  uK:P.underlying K = some (.int .i64)
  uS:P.underlying S = some .string
  c:P.cellsOf K = 1∧P.cellsOf S = 1
structure OTy (P:Program) (T:TypeId) where
  (fs:Array Field) (K S Q V St:TypeId) (Tv:VTy P V) (S':STy P St)
  hT:P.underlying T = some (.struct fs)
  sz:fs.size = 4
  cT:P.cellsOf T = 9
  h0:HasF fs 0 0 K
  h1:HasF fs 1 1 Q
  h2:HasF fs 2 2 V
  h3:HasF fs 3 8 S
  uK:P.underlying K = some (.int .i64)
  uS:P.underlying S = some .string
  uQ:P.underlying Q = some (.slice St)
  c:P.cellsOf K = 1∧P.cellsOf S = 1∧P.cellsOf Q = 1
section
variable [Globs]
variable {H:Type} {encH:TypeId × Value→H} {P:Program} {W:World} {sp:Nat→Bool} {hd:Bool} {O:Nat→Prop} {bk:DataW H→Nat}
theorem arg_stepS {T : TypeId} (hbk : BulkS bk) (S : STy P T) {fuel : Nat} {cs : List Value} {x : DataW H × List MemPlace} (h : DataW.trod encH P W 0 sp hd fuel T cs = some x) :
    ∃ y:PStep,All2 (Im O W) (enc .pstep y) cs∧bkS y≤bk x.1∧I64 y.i:=by
  obtain ⟨n,ds,rfl,hl,hag,hds,hf⟩:=one_fieldS S.hT h
  rw [S.cT] at hl
  rw [S.sz] at hds
  obtain ⟨c0,c1⟩:=S.c
  match cs,hl,ds,hds with
  | [u0,u1],_,[d0,d1],_ =>
    obtain ⟨y0,q0,k0⟩:=hf 0 0 _ S.h0
    obtain ⟨y1,q1,k1⟩:=hf 1 1 _ S.h1
    simp only [List.getElem?_cons_zero,List.getElem?_cons_succ,Option.some.injEq] at k0 k1
    subst k0 k1
    rw [c1] at q0
    rw [c0] at q1
    obtain ⟨s,vs,e0,i0,z0⟩:=arg_strS (O:=O) hbk S.uS q0
    obtain ⟨k,e1,i1,w1⟩:=arg_int (O:=O) S.uK q1
    simp at e0 e1
    subst e0 e1
    refine ⟨⟨s,k⟩,All2.cons i0 (All2.cons i1 (All2.nil _)),?_,wf_i64 w1⟩
    have h9:=hbk.ag [y0.1,y1.1]
    have p1:=hbk.pos y1.1
    rw [hag]
    refine Nat.le_trans ?_ h9
    simp only [bkS,List.map_cons,List.map_nil,List.sum_cons,List.sum_nil]
    omega
end
end Go.SX
end
section
namespace Go.Proofs.YtmfchbkdakmjhaaDoor.pathTells
set_option linter.unusedSectionVars false
set_option linter.unusedSimpArgs false
set_option linter.unusedVariables false
open Go Go.SX Go.Es Go.Nm Go.Pth Go.Up
open Go.ChangeShapes Go.WideShapes Go.ChangeAt Go.RowKit
set_option maxRecDepth 100000
theorem own:ownKnob Tryd.prog.godebug = none:=by kernel_rfl
theorem laidOut:laidOutB Tryd.prog = true:=by kernel_rfl
theorem cell_block {w:World} {g o:Nat} {k:IntKind} {n:Int} (h:w.cell? ⟨g,o,none⟩ = some (.int k n)):∃ cur e fz,w.heap[g]? = some (.cells cur e fz)∧cur[o]? = some (.int k n):=by
  unfold World.cell? at h
  split at h
  · rename_i cur e fz hh
    exact ⟨_,_,_,hh,by simpa using h⟩
  · cases h
noncomputable def sty [G:Globs]:STy Tryd.prog 81 where
  fs:=_
  K:=3
  S:=9
  hT:=Tryd.underlying81
  sz:=rfl
  cT:=by kernel_rfl
  h0:=⟨_,rfl,rfl,rfl⟩
  h1:=⟨_,rfl,rfl,rfl⟩
  uK:=Tryd.underlying3
  uS:=Tryd.underlying9
  c:=⟨by kernel_rfl,by kernel_rfl⟩
theorem bulk_pos {H:Type} (d:DataW H):1≤Rows.uptoBulk d:=by
  cases d with
  | lit l=>cases l<;>simp [Rows.uptoBulk]
  | _=>simp [Rows.uptoBulk]
theorem bulk_sum {H:Type}:∀ ds:List (DataW H),Rows.uptoBulkAll ds = (ds.map Rows.uptoBulk).sum
  | []=>by simp [Rows.uptoBulkAll]
  | d::ds=>by simp [Rows.uptoBulkAll,bulk_sum ds]
theorem bulk_law {H:Type}:BulkS (H:=H) Rows.uptoBulk where
  sl:=fun els rest=>by
    have:=bulk_sum els
    simp only [Rows.uptoBulk]
    omega
  ag:=fun ds=>by
    have:=bulk_sum ds
    simp only [Rows.uptoBulk]
    omega
  st:=fun b=>by simp [Rows.uptoBulk]
  pos:=bulk_pos
theorem arg_psteps {H : Type} {enc : TypeId × Value → H} {W : World} {v : Value} {d : DataW H} {ps : List MemPlace} {r : Reach} {b : Nat} (hval : Value.okWide Tryd.prog W r b 44 v)
    (h:DataW.Trod enc Tryd.prog W 0 (fun _=>true) true 44 v d ps):∃ l:List (den .pstep),Im (fun _=>False) W (.rd .pstep l) v∧(l.map bkS).sum + 1≤Rows.uptoBulk d∧∀ x ∈ l,(fun p=>I64 p.i) x:=by
  obtain ⟨a,n,c,rfl⟩:=okWide_slice Tryd.underlying44 hval
  obtain ⟨fuel,hf⟩:=h
  letI:Globs:=⟨[]⟩
  obtain ⟨l,v',h1,h2,h3,h4⟩:=arg_sliceS (O:=fun _=>False) (τ:=.pstep) (m:=bkS) (R:=fun p=>I64 p.i) bulk_law (fun _ h=>h) Tryd.underlying44 (by kernel_rfl) (fun n' hn cs' x' hx=>arg_stepS bulk_law sty hx) hf
  have:[Value.slice a n c] = [v']:=by simpa [Value.cells] using h1
  injection this with h5
  subst h5
  exact ⟨l,h2,h3,h4⟩
theorem tabIs_of_reads {P : Program} {W : World} {name : String} {k : IntKind} {zs : List Int} {g : Nat} {t e : TypeId} {n : Nat}
    (hg:P.globalNamed name = some g) (hty:(P.globals[g]?).map (·.type) = some t) (ht:P.underlying t = some (.array n e)) (he:P.underlying e = some (.int k)) (hce:P.cellsOf e = 1) (hct:P.cellsOf t = n)
    (h:Lib.VarReads P W name (Lib.tabData k zs)):Lib.TabIs P W name k zs:=by
  obtain ⟨g',t',cs,fuel,p,hg',ht',hvar,hd⟩:=h
  obtain rfl:=Option.some.inj (hg.symm.trans hg')
  obtain rfl:=Option.some.inj (hty.symm.trans ht')
  unfold Lib.TabIs
  rw [hvar,← Lib.cells_of_tab ht he hce hct hd]
theorem tabIs_block {P:Program} {W w:World} {name:String} {k:IntKind} {zs:List Int} {g:Nat} (hg:P.globalNamed name = some g) (hh:w.heap[g]? = W.heap[g]?) (h:Lib.TabIs P W name k zs):Lib.TabIs P w name k zs:=by
  unfold Lib.TabIs World.var? at *
  rw [hg] at h ⊢
  simp only [Option.bind_some] at h ⊢
  rw [hh]
  exact h
def bits64:List Int:=Lib.deBruijn64tab.map fun (n:Nat)=>(n:Int)
theorem bits64_len:bits64.length = Lib.deBruijn64tab.length:=List.length_map ..
theorem bits64_at (j:Nat):bits64.getD j 0 = ((Lib.deBruijn64tab.getD j 0:Nat):Int):=by
  unfold bits64
  rw [List.getD_eq_getElem?_getD,List.getElem?_map,List.getD_eq_getElem?_getD]
  cases Lib.deBruijn64tab[j]?<;>rfl
theorem contract (H : Type) (enc : TypeId × Value → H) (W : World) (base : Nat) (args : Array Value) (ds gs : List (DataW H)) (before : List MemPlace)
    (hval:∀ (j:Nat) t v,Tryd.f7.params[j]? = some t→args[j]? = some v→Value.okWide Tryd.prog W .any base t v)
    (hW:DataW.Whole enc Tryd.prog Tryd.f7.params.toList Rows.pathTellsSpec.vars false W args.toList ds gs before) (hk:Rows.uptoSmall H (ds++gs) = true) (hL:laidMetH Tryd.prog Rows.pathTellsUptoRow.laid W) :
    Calls Tryd.prog 7 args W fun e W'=>∃ v,e = .returned v∧Rows.pathTellsSpec.post enc Tryd.prog Tryd.f7 false true false false W args v W':=by
  have hW':=hW
  obtain ⟨p,q,hA0,hV,rfl,hfz,hnd⟩:=hW
  have hA:DataW.TrodAll enc Tryd.prog W 0 (fun _=>true) true Tryd.f7.params.toList args.toList ds p:=hA0
  rw [Tryd.params7] at hA hval
  obtain ⟨v0,vs0,d0,ds0,p0,q0,hargs0,rfl,rfl,h0,r0⟩:=trodAll_cons hA
  obtain ⟨v1,vs1,d1,ds1,p1,q1,hargs1,rfl,rfl,h1,r1⟩:=trodAll_cons r0
  obtain ⟨rfl,rfl,rfl⟩:=trodAll_nil r1
  obtain rfl:args = #[v0,v1]:=by cases args; simp_all
  obtain ⟨rfl,rfl⟩:=trodVars_none hV
  obtain ⟨l0,i0,bl0,b0⟩:=arg_psteps (hval 0 44 v0 rfl rfl) h0
  obtain ⟨s1,rfl,rfl,rfl,hmax1⟩:=Go.ChangeMaps.open_string Tryd.underlying9 (hval 1 9 v1 rfl rfl) h1
  have i1:Im (fun _=>False) W (.s s1.data.toList) (.string s1):=by have:=Im.s (O:=fun _=>False) (w:=W) s1.data.toList (by rw [Array.length_toList]; exact hmax1); simpa using this
  have hW'':=hW'
  have bk:Rows.uptoBulkAll _≤1048576:=of_decide_eq_true hk
  simp only [List.append_nil,List.cons_append,List.nil_append,Rows.uptoBulkAll,Rows.uptoBulk,Array.length_toList] at bk
  have hL':laidMet Tryd.prog Rows.pathTellsUptoRow.laid W:=hL
  have hU:Lib.Utf8Tabs 1 2 W:=utf8Tabs_of_reads (ρ:=Tryd.lays260_ren) Tryd.lays260 ⟨by kernel_rfl,by kernel_rfl,by kernel_rfl,by kernel_rfl,by kernel_rfl,by kernel_rfl,by kernel_rfl⟩ (by have:=Lib.laidMet.reads hL' (.tail _ (.tail _ (.tail _ (.tail _ (.tail _ (.tail _ (.head _))))))); rw [show Rows.laid_unicode_utf8_first = Lib.firstData from Pinned.utf8First_eq] at this; exact this) (by have:=Lib.laidMet.reads hL' (.tail _ (.tail _ (.tail _ (.head _)))); rw [show Rows.laid_unicode_utf8_acceptRanges = Lib.acceptData by kernel_rfl] at this; exact this)
  have hp10 : Lib.TabIs Tryd.prog W "internal/strconv.uint64pow10" .u64 Lib.pow10Tab := tabIs_of_reads (g := 0) (t := 199) (e := 22) (n := 20) (by kernel_rfl) (by kernel_rfl) Tryd.underlying199 Tryd.underlying22 (by kernel_rfl) (by kernel_rfl) (by have := Lib.laidMet.reads hL' (.tail _ (.tail _ (.head _))); rw [show Rows.laid_internal_strconv_uint64pow10 = Lib.tabData .u64 Lib.pow10Tab by kernel_rfl] at this; exact this)
  have hb64 : Lib.TabIs Tryd.prog W "math/bits.deBruijn64tab" .u8 bits64 := tabIs_of_reads (g := 7) (t := 226) (e := 5) (n := 64) (by kernel_rfl) (by kernel_rfl) Tryd.underlying226 Tryd.underlying5 (by kernel_rfl) (by kernel_rfl) (by have := Lib.laidMet.reads hL' (.tail _ (.head _)); rw [show Rows.laid_math_bits_deBruijn64tab = Lib.tabData .u8 bits64 by kernel_rfl] at this; exact this)
  have g0 : Tryd.prog.globalNamed "internal/strconv.uint64pow10" = some 0 := by kernel_rfl
  have g7 : Tryd.prog.globalNamed "math/bits.deBruijn64tab" = some 7 := by kernel_rfl
  have g4 : Tryd.prog.globalNamed "strconv.ErrSyntax" = some 4 := by kernel_rfl
  have hstar : "*" ++ "errors.errorString" = "*errors.errorString" := by decide
  have hrow : ∀ u, Tryd.prog.typeName? 3 u = some "*errors.errorString" → u = 227 := fun u h => typeName_ptr_named (nm := "errors.errorString") (by rw [hstar]; kernel_rfl) (by kernel_rfl) (by decide) u (by rw [hstar]; exact h)
  have hL5:=hL'.tail.tail.tail.tail.tail
  obtain ⟨aE,sE,hvE,_,_,_⟩:=laid_sentinel hL5 g4 (by kernel_rfl) Tryd.underlying88 hrow Tryd.underlying227 Tryd.underlying229 rfl rfl Tryd.underlying9 (by kernel_rfl) (by kernel_rfl)
  have g5 : Tryd.prog.globalNamed "strconv.ErrRange" = some 5 := by kernel_rfl
  have hL4:=hL'.tail.tail.tail.tail
  obtain ⟨aR,sR,hvR,_,_,_⟩:=laid_sentinel hL4 g5 (by kernel_rfl) Tryd.underlying88 hrow Tryd.underlying227 Tryd.underlying229 rfl rfl Tryd.underlying9 (by kernel_rfl) (by kernel_rfl)
  obtain ⟨er,fzr,hhr⟩:∃ ee fze,W.heap[5]? = some (.cells #[.iface 227 (.pointer (some aR))] ee fze):=by
    unfold World.var? at hvR
    rw [g5] at hvR
    simp only [Option.bind_some] at hvR
    split at hvR
    · rename_i cs t fz hh
      injection hvR with hvR
      exact ⟨_,_,hvR ▸ hh⟩
    · cases hvR
  obtain ⟨cur0,e0,fz0,hh0,_⟩:=cell_block (hU.1 0 (by decide))
  obtain ⟨cur1,e1,fz1,hh1,_⟩:=cell_block (hU.2 0 (by decide)).1
  obtain ⟨curp,ep,fzp,hhp,_⟩:=cell_block (hp10.cell g0 0 (by decide))
  obtain ⟨curb,eb,fzb,hhb,_⟩:=cell_block (hb64.cell g7 0 (by decide))
  obtain ⟨ee,fze,hhe⟩:∃ ee fze,W.heap[4]? = some (.cells #[.iface 227 (.pointer (some aE))] ee fze):=by
    unfold World.var? at hvE
    rw [g4] at hvE
    simp only [Option.bind_some] at hvE
    split at hvE
    · rename_i cs t fz hh
      injection hvE with hvE
      exact ⟨_,_,hvE ▸ hh⟩
    · cases hvE
  let G:Globs:=⟨[(0,.cells curp ep fzp),(1,.cells cur0 e0 fz0),(2,.cells cur1 e1 fz1),(4,.cells #[.iface 227 (.pointer (some aE))] ee fze),(7,.cells curb eb fzb),(5,.cells #[.iface 227 (.pointer (some aR))] er fzr)]⟩
  have ht:@HasNum G:=⟨_,_,.head _,.tail _ (.tail _ (.tail _ (.tail _ (.head _)))),fun w k0 k1 =>
    ⟨tabIs_block g0 (k0.trans hhp.symm) hp10,fun j hj=>by
      have h:=(tabIs_block g7 (k1.trans hhb.symm) hb64).cell g7 j (by rw [bits64_len]; exact hj)
      rw [h,bits64_at]⟩⟩
  have he:@HasErr2 G:=⟨⟨_,_,_,_,.tail _ (.tail _ (.tail _ (.head _)))⟩,_,_,_,_,.tail _ (.tail _ (.tail _ (.tail _ (.tail _ (.head _)))))⟩
  have hu:@HasU8 G:=⟨_,_,.tail _ (.head _),.tail _ (.tail _ (.head _)),fun w k0 k1=>by
    have c0:∀ o,w.cell? ⟨1,o,none⟩ = W.cell? ⟨1,o,none⟩:=fun o=>World.cell?_of_block (k0.trans hh0.symm)
    have c1:∀ o,w.cell? ⟨2,o,none⟩ = W.cell? ⟨2,o,none⟩:=fun o=>World.cell?_of_block (k1.trans hh1.symm)
    exact ⟨fun c hc=>(c0 c).trans (hU.1 c hc),fun i hi=>⟨(c1 _).trans (hU.2 i hi).1,(c1 _).trans (hU.2 i hi).2⟩⟩⟩
  have hG:@GlobOK G (fun _=>False) W:=fun p hp=>by
    rcases List.mem_cons.1 hp with rfl | hp
    · exact ⟨fun h=>h,hhp⟩
    rcases List.mem_cons.1 hp with rfl | hp
    · exact ⟨fun h=>h,hh0⟩
    rcases List.mem_cons.1 hp with rfl | hp
    · exact ⟨fun h=>h,hh1⟩
    rcases List.mem_cons.1 hp with rfl | hp
    · exact ⟨fun h=>h,hhe⟩
    rcases List.mem_cons.1 hp with rfl | hp
    · exact ⟨fun h=>h,hhb⟩
    · cases List.mem_singleton.1 hp
      exact ⟨fun h=>h,hhr⟩
  refine ((s_law (G:=G) ht he hu l0 s1.data.toList (fun x hx=>(b0 x hx).2) (by rw [Array.length_toList]; omega)).2 (fun _=>False) W [v0,.string s1] (fun _ h=>h.elim) hG (All2.cons i0 (All2.cons i1 (All2.nil _)))).mono fun e W' ⟨v,he,hst,hv⟩=>?_
  subst he
  cases hv
  have hb:=hst.below
  have hlt:∀ x:MemPlace,x ∈ (p0++([]++[]))++[]→x.block < W.heap.size:=fun x hx=>hW''.lt x hx
  have hargs':∀ sp:Nat→Bool,(∀ x:MemPlace,x ∈ (p0++([]++[]))++[]→sp x.block = true)→DataW.TrodAll enc Tryd.prog W' 0 sp true [44,9] [v0,.string s1] [d0,.lit (.string s1.data.toList)] (p0++([]++[])):=fun sp hsp =>
    trodAll_cons_mk (WideElems.Trod_stays laidOut (by kernel_rfl) (of_decide_eq_true (by kernel_rfl)) h0 (fun x hx=>hb.same (hlt x (by simp [hx]))) (fun x hx=>hsp x (by simp [hx]))) (trodAll_cons_mk (Go.ChangeMaps.shut_string Tryd.underlying9 hmax1) (trodAll_mk0))
  exact ⟨_,rfl,post_of_below (pa:=p0++([]++[])) (pv:=[]) hW'' (fun _ _ _=>(trodAll_cons_mk (shut_bool Tryd.underlying4 _) trodAll_mk0)) (fun sp hsp=>hargs' sp hsp) (fun _ _=>rfl) rfl
    hb (ok_one (by kernel_rfl) rfl (okWide_bool_mk Tryd.underlying4 _))⟩
def layB (cs:List Value):Obj→Obj
  | .cells _ t frozen=>.cells cs.toArray t frozen
  | o=>o
noncomputable def low:Nat:=(World.holding Tryd.prog default ⟨#[],#[],[]⟩).heap.size
abbrev synS:ByteArray:={ data:=#[105,110,118,97,108,105,100,32,115,121,110,116,97,120] }
abbrev rngS:ByteArray:={ data:=#[118,97,108,117,101,32,111,117,116,32,111,102,32,114,97,110,103,101] }
noncomputable def laidWorld (os:Os):World :=
  { World.holding Tryd.prog os ⟨#[.cells #[.string synS] 229,.cells #[.string rngS] 229],#[],[]⟩ with
    heap:=(((((((World.holding Tryd.prog os ⟨#[.cells #[.string synS] 229,.cells #[.string rngS] 229],#[],[]⟩).heap.modify 0 (layB (Lib.pow10Tab.map fun n=>Value.int .u64 n))).modify 1 (layB (Pinned.utf8FirstZ.map fun (n:Nat)=>Value.int .u8 (n:Int)))).modify 2
      (layB ([128,191,160,191,128,159,144,191,128,143,0,0,0,0,0,0,0,0,0,0,0,0,0,0,0,0,0,0,0,0,0,0].map fun n=>Value.int .u8 n))).modify 4 (layB [.iface 227 (.pointer (some ⟨low,0,none⟩))])).modify 5 (layB [.iface 227 (.pointer (some ⟨low + 1,0,none⟩))])).modify 6
      (layB (Lib.deBruijn32tab.map fun (n:Nat)=>Value.int .u8 (n:Int)))).modify 7 (layB (Lib.deBruijn64tab.map fun (n:Nat)=>Value.int .u8 (n:Int))) }
theorem laid_met (os:Os):laidMet Tryd.prog Rows.pathTellsUptoRow.laid ((laidWorld os).forCall (fun _ _=>0) ⟨#[],#[.slice none 0 0,.string .empty],[]⟩).memory :=
  laidMet_of_run' 8 (by kernel_rfl) (by kernel_rfl)
theorem reads (os:Os) {H:Type} (enc:TypeId × Value→H):∃ places,DataW.whole enc Tryd.prog ((laidWorld os).forCall (fun _ _=>0) ⟨#[],#[.slice none 0 0,.string .empty],[]⟩).memory Tryd.f7.params.toList Rows.pathTellsSpec.vars false #[.slice none 0 0,.string .empty].toList 8 = some ([.nil,.lit (.string [])],[],places) :=
  ⟨[],by kernel_rfl⟩
set_option maxRecDepth 100000 in
theorem lifted (os : Os) (started : os.Started) (H : Type) (enc : TypeId × Value → H) (F : Stop.Interp) :
    ReturnsInHanded {} Tryd.checked os 7 .any ((Rows.OpenSpec.upto Rows.pathTellsSpec).preRow enc Tryd.prog Tryd.f7 Rows.pathTellsUptoRow.domain false Rows.pathTellsUptoRow.laid) (((Rows.OpenSpec.upto Rows.pathTellsSpec).at F).post enc Tryd.prog Tryd.f7 false true false false):=by
  obtain ⟨places,hx⟩:=reads os enc
  refine returnsInHanded_of_row (C:=Tryd.checked) (s:=Rows.OpenSpec.upto Rows.pathTellsSpec) own started (by kernel_rfl) Tryd.func7
    (witness_row_at (enc:=enc) (C:=Tryd.checked) false (laidWorld os) #[.slice none 0 0,.string .empty] rfl (by kernel_rfl) (by kernel_rfl) (by kernel_rfl)
      (OpenSpec.preRow_of_cond 8 hx (by kernel_rfl) (fun k hk=>by cases hk; kernel_rfl) (by kernel_rfl) (laid_met os))) ?_
  intro W base args ds gs before hval hW _ hcond _ hL _ _
  exact contract H enc W base args ds gs before hval hW (hcond _ rfl) hL
theorem said:Rows.PathTellsUptoSaid :=
  OpenClaim.holds_of_cond 7 Tryd.f7 rfl rfl rfl rfl rfl rfl rfl ⟨rfl,rfl,rfl,rfl,rfl⟩ rfl rfl rfl rfl rfl (by kernel_rfl) Tryd.func7 (by kernel_rfl)
    (of_decide_eq_true (by kernel_rfl)) (by unfold Func.isWrapper; first | (rw [if_pos (by decide +kernel)]; kernel_rfl) | (rw [if_neg (by decide +kernel)]; exact ⟨rfl,rfl⟩))
    (fun os started H enc _ F=>by rw [OpenClaim.pre_eq_preRow]; exact lifted os started H enc F)
theorem plain (f : FuncId) (fn : Func) (hf : Tryd.pinned.checked.prog.funcNamed "typecase/typecaselaw.PathTells" = some f) (hfn : Tryd.pinned.checked.prog.funcs[f]? = some fn) :
    true = Tryd.pinned.checked.prog.looks []∧∀ (j:Nat) t,fn.params[j]? = some t→Tryd.pinned.checked.prog.wantsStandIn t = false:=by
  obtain rfl : f = 7 := Option.some.inj ((show Tryd.prog.funcNamed "typecase/typecaselaw.PathTells" = some 7 by kernel_rfl).symm.trans hf) |>.symm
  obtain rfl:fn = Tryd.f7:=(Option.some.inj (Tryd.func7.symm.trans hfn)).symm
  refine ⟨by kernel_rfl,fun j t ht=>?_⟩
  rw [Tryd.params7] at ht
  have hm:=Array.mem_of_getElem? ht
  simp only [List.mem_toArray,List.mem_cons,List.not_mem_nil,or_false] at hm
  rcases hm with rfl | rfl
  · exact (show Tryd.prog.wantsStandIn 44 = false by kernel_rfl)
  · exact (show Tryd.prog.wantsStandIn 9 = false by kernel_rfl)
theorem proved:Rows.PathTellsUptoCardSaid :=
  Claim7.holds_tied_plain_at .later [] _ _ _ _ said (fun _ h=>by cases h) (by kernel_rfl) (fun _ h=>by cases h) pathTellsUpto_row_tie rfl ⟨rfl,rfl⟩ (by kernel_rfl) rfl plain (by kernel_rfl)

end Go.Proofs.YtmfchbkdakmjhaaDoor.pathTells
end
