/-
  'typecaselaw.MoveTells' returns true,whatever the input,where what comes in is of bulk at most 1048576,and the input reads as it did. No conditions.
-/
import Derived.Test.YtmfchbkdakmjhaaDoorMo5
import Derived.Test.YtmfchbkdakmjhaaDoorRows
import Derived.WalkKit
import Derived.ProofKit
import Derived.OpenShut
import Derived.JoinedCond
import Derived.ChangeMaps5
import Derived.Test.YtmfchbkdakmjhaaDoorCards
import Derived.Test.YtmfchbkdakmjhaaDoorTie
import Derived.Deep.DeepHandedRow
import Derived.Lib.LaidU8
import Derived.PinnedBridge
import Derived.Shelf.Spec.TrailingZeros
set_option linter.constructorNameAsVariable false
set_option linter.unusedVariables false
set_option linter.unusedSimpArgs false
set_option linter.unusedSectionVars false
section
namespace Go.Proofs.YtmfchbkdakmjhaaDoor
set_option linter.unusedSectionVars false
set_option linter.unusedSimpArgs false
set_option linter.unusedVariables false
open Go Go.SX Go.Ck Go.Vl Go.Ut Go.Up Go.Sp Go.Nm
set_option maxRecDepth 100000
set_option maxHeartbeats 1000000
def AVleA (c e:AV):Prop:=AVle c e∨∃ cs ds,c = .agg cs∧e = .agg ds∧AVles cs ds
def AVlesA:List AV→List AV→Prop
  | [],[]=>True
  | a::r,b::t=>AVleA a b∧AVlesA r t
  | _,_=>False
section
variable [G:Globs]
theorem im_leA {O:Nat→Prop} {w:World} {c e:AV} {v:Value} (hle:AVleA c e) (h:Im O w c v):Im O w e v:=by
  rcases hle with hle | ⟨cs,ds,rfl,rfl,hle⟩
  · have:=all_le (All2.cons h (All2.nil _)) (show AVles [c] [e] from ⟨hle,trivial⟩)
    exact this.head
  · cases h with
    | agg _ vs h1 h0 h2 =>
      have:=all_le (⟨h1,h2⟩:All2 (Im O w) cs vs) hle
      exact .agg ds vs this.1 h0 this.2
theorem all_leA {O:Nat→Prop} {w:World}:∀ {args' args:List AV} {vs:List Value},All2 (Im O w) args' vs→AVlesA args' args→All2 (Im O w) args vs
  | [],[],_,h,_=>h
  | a::r,b::t,_,h,hle=>by
    obtain ⟨v,vs',rfl,h1,h2⟩:=h.cons_inv
    exact All2.cons (im_leA hle.1 h1) (all_leA h2 hle.2)
theorem pspec_leA {P:Program} {f:FuncId} {args args':List AV} {r:AV} (h:PSpec P f args r) (hle:AVlesA args' args):PSpec P f args' r :=
  ⟨h.1,fun O w vs hO hG hargs=>h.2 O w vs hO hG (all_leA hargs hle)⟩
theorem w_textOf (s:Str):vc Tryd.prog Γ 5 [0,2] (Tryd.f88.body.getD .skip) (postK Γ [.cell 2 26] (fun v=>v = .agg [.i .i64 4,.i .i64 0,.i .u64 0,.s s,.nl,.nl])) ⟨argSlots 0 [.s s],[]⟩:=by
  rfl
theorem s_textOf (s:Str):PSpec Tryd.prog 88 [.s s] (.agg [.i .i64 4,.i .i64 0,.i .u64 0,.s s,.nl,.nl]) :=
  pspec_of_vc Γ_good Tryd.func88 rfl Tryd.call88 Tryd.results88 Tryd.ntmps88 (Nat.le_of_ble_eq_true rfl) (w_textOf s)
theorem w_moved0 (a:Val) (m:SX.Move) (ha:VW 10000000 a) (hk:1≤m.kind∧m.kind≤7):vc Tryd.prog Γ 177 [1,3,5,6,7,8,9,10,11,12,13,14,17,21,29,61,63,75,84,85,99,112,121,125,131,135,144,149,154,158,163] (Tryd.f47.body.getD .skip) (postK Γ [.cell 6 26,.tmp 7] (fun v=>RL v (prA (movedV a [] m)))) ⟨argSlots 0 [.agg (encVal a),.rd .str [],.agg (enc .move m)],[]⟩:=by
  have he:=ve_len ha
  by_cases h:a.kind≠6
  · have hr:movedV a [] m = (a,10):=by rw [movedV,if_pos h]
    rw [prA_eq hr]
    (repeat' (first | (refine And.intro (fun h=>?_) (fun h=>?_)<;>(try simp [-List.getD_eq_getElem?_getD,-Int.pred_toNat] at h)<;>(try (exfalso; first | omega | contradiction))) | (refine And.intro (rng64 (by omega) (by omega)) ?_) | (refine And.intro ⟨by omega,by omega⟩ ?_) | (refine And.intro ⟨by omega,by omega,by omega⟩ ?_) | (intro _)))
    (repeat' (first | exact trivial | exact Or.inl rfl | exact Or.inr ⟨rfl,_,rfl⟩ | refine And.intro ?_ ?_))
  · have hr0:movedV a [] m = tabV a m:=by rw [movedV,if_neg h]
    have h:a.kind = 6:=Decidable.not_not.1 h
    rw [hr0]
    (repeat' (first | (refine And.intro (fun h=>?_) (fun h=>?_)<;>(try simp [-List.getD_eq_getElem?_getD,-Int.pred_toNat] at h)<;>(try (exfalso; first | omega | contradiction))) | (refine And.intro (rng64 (by omega) (by omega)) ?_) | (refine And.intro ⟨by omega,by omega⟩ ?_) | (refine And.intro ⟨by omega,by omega,by omega⟩ ?_) | (intro _)))
    refine Or.inl (Exists.intro _ (And.intro (s_entAt a.e m.key) ?_))
    by_cases h3:m.kind = 3
    · by_cases hi:0≤ixI a.e (keyIs m.key)
      · have hr:tabV a m = (a,9):=by unfold tabV; rw [if_pos h3,if_pos hi]
        rw [prA_eq hr]
        (repeat' (first | (refine And.intro (fun h=>?_) (fun h=>?_)<;>(try simp [-List.getD_eq_getElem?_getD,-Int.pred_toNat] at h)<;>(try (exfalso; first | omega | contradiction))) | (refine And.intro (rng64 (by omega) (by omega)) ?_) | (refine And.intro ⟨by omega,by omega⟩ ?_) | (refine And.intro ⟨by omega,by omega,by omega⟩ ?_) | (intro _)))
        (repeat' (first | exact trivial | exact Or.inl rfl | exact Or.inr ⟨rfl,_,rfl⟩ | refine And.intro ?_ ?_))
      · have hr:tabV a m = ({ a with e:=putE a.e m.key m.v },0):=by unfold tabV; rw [if_pos h3,if_neg hi]
        rw [prA_eq hr]
        (repeat' (first | (refine And.intro (fun h=>?_) (fun h=>?_)<;>(try simp [-List.getD_eq_getElem?_getD,-Int.pred_toNat] at h)<;>(try (exfalso; first | omega | contradiction))) | (refine And.intro (rng64 (by omega) (by omega)) ?_) | (refine And.intro ⟨by omega,by omega⟩ ?_) | (refine And.intro ⟨by omega,by omega,by omega⟩ ?_) | (intro _)))
        refine Or.inl (Exists.intro _ (And.intro (s_with a.e m.key m.v (by omega)) ?_))
        (repeat' (first | exact trivial | exact Or.inl rfl | exact Or.inr ⟨rfl,_,rfl⟩ | refine And.intro ?_ ?_))
    · by_cases hi:ixI a.e (keyIs m.key) < 0
      · have hr:tabV a m = (a,8):=by unfold tabV; rw [if_neg h3,if_pos hi]
        rw [prA_eq hr]
        (repeat' (first | (refine And.intro (fun h=>?_) (fun h=>?_)<;>(try simp [-List.getD_eq_getElem?_getD,-Int.pred_toNat] at h)<;>(try (exfalso; first | omega | contradiction))) | (refine And.intro (rng64 (by omega) (by omega)) ?_) | (refine And.intro ⟨by omega,by omega⟩ ?_) | (refine And.intro ⟨by omega,by omega,by omega⟩ ?_) | (intro _)))
        (repeat' (first | exact trivial | exact Or.inl rfl | exact Or.inr ⟨rfl,_,rfl⟩ | refine And.intro ?_ ?_))
      · obtain ⟨i0,i1,i2⟩:=ix_bound hi
        have hxn:VW 10000000 (atK a m.key):=ha.part (atK_in hi)
        have hp1:((a.e.getD (ixI a.e (keyIs m.key)).toNat (dflt .ent)).2) = atK a m.key:=rfl
        by_cases h1:m.kind = 1
        · by_cases ht:m.to≠m.key∧0≤ixI a.e (keyIs m.to)
          · have hr:tabV a m = (a,9):=by unfold tabV; rw [if_neg h3,if_neg hi,if_pos h1,if_pos ht]
            rw [prA_eq hr]
            obtain ⟨t1,t2⟩:=ht
            (repeat' (first | (refine And.intro (fun h=>?_) (fun h=>?_)<;>(try simp [-List.getD_eq_getElem?_getD,-Int.pred_toNat] at h)<;>(try (exfalso; first | omega | contradiction))) | (refine And.intro (rng64 (by omega) (by omega)) ?_) | (refine And.intro ⟨by omega,by omega⟩ ?_) | (refine And.intro ⟨by omega,by omega,by omega⟩ ?_) | (intro _)))
            refine Or.inl (Exists.intro _ (And.intro (s_entAt a.e m.to) ?_))
            (repeat' (first | (refine And.intro (fun h=>?_) (fun h=>?_)<;>(try simp [-List.getD_eq_getElem?_getD,-Int.pred_toNat] at h)<;>(try (exfalso; first | omega | contradiction))) | (refine And.intro (rng64 (by omega) (by omega)) ?_) | (refine And.intro ⟨by omega,by omega⟩ ?_) | (refine And.intro ⟨by omega,by omega,by omega⟩ ?_) | (intro _)))
            (repeat' (first | exact trivial | exact Or.inl rfl | exact Or.inr ⟨rfl,_,rfl⟩ | refine And.intro ?_ ?_))
          · have hr:tabV a m = ({ a with e:=putE (withoutE a.e m.key) m.to (atK a m.key) },0):=by unfold tabV; rw [if_neg h3,if_neg hi,if_pos h1,if_neg ht]
            rw [prA_eq hr]
            have hwl:(withoutE a.e m.key).length≤a.e.length:=List.length_filter_le _ _
            by_cases ht1:m.to = m.key
            · (repeat' (first | (refine And.intro (fun h=>?_) (fun h=>?_)<;>(try simp [-List.getD_eq_getElem?_getD,-Int.pred_toNat] at h)<;>(try (exfalso; first | omega | contradiction))) | (refine And.intro (rng64 (by omega) (by omega)) ?_) | (refine And.intro ⟨by omega,by omega⟩ ?_) | (refine And.intro ⟨by omega,by omega,by omega⟩ ?_) | (intro _)))
              refine Exists.intro [.blk [0,1,2,3,4,5,6,7,8,9],.one 10] (And.intro (by kernel_rfl) ?_)
              refine Exists.intro _ (And.intro (s_wout a.e m.key (by omega)) ?_)
              refine Exists.intro _ (And.intro (s_with (withoutE a.e m.key) m.to (atK a m.key) (by omega)) ?_)
              (repeat' (first | exact trivial | exact Or.inl rfl | exact Or.inr ⟨rfl,_,rfl⟩ | refine And.intro ?_ ?_))
            · have ht2 : ixI a.e (keyIs m.to) < 0 := by
                rcases Int.lt_or_le (ixI a.e (keyIs m.to)) 0 with h | h
                · exact h
                · exact absurd ⟨ht1,h⟩ ht
              (repeat' (first | (refine And.intro (fun h=>?_) (fun h=>?_)<;>(try simp [-List.getD_eq_getElem?_getD,-Int.pred_toNat] at h)<;>(try (exfalso; first | omega | contradiction))) | (refine And.intro (rng64 (by omega) (by omega)) ?_) | (refine And.intro ⟨by omega,by omega⟩ ?_) | (refine And.intro ⟨by omega,by omega,by omega⟩ ?_) | (intro _)))
              refine Or.inl (Exists.intro _ (And.intro (s_entAt a.e m.to) ?_))
              (repeat' (first | (refine And.intro (fun h=>?_) (fun h=>?_)<;>(try simp [-List.getD_eq_getElem?_getD,-Int.pred_toNat] at h)<;>(try (exfalso; first | omega | contradiction))) | (refine And.intro (rng64 (by omega) (by omega)) ?_) | (refine And.intro ⟨by omega,by omega⟩ ?_) | (refine And.intro ⟨by omega,by omega,by omega⟩ ?_) | (intro _)))
              refine Exists.intro [.blk [0,1,2,3,4,5,6,7,8,9],.one 10] (And.intro (by kernel_rfl) ?_)
              refine Exists.intro _ (And.intro (s_wout a.e m.key (by omega)) ?_)
              refine Exists.intro _ (And.intro (s_with (withoutE a.e m.key) m.to (atK a m.key) (by omega)) ?_)
              (repeat' (first | exact trivial | exact Or.inl rfl | exact Or.inr ⟨rfl,_,rfl⟩ | refine And.intro ?_ ?_))
        · by_cases h2:m.kind = 2
          · have hr:tabV a m = ({ a with e:=withoutE a.e m.key },0):=by unfold tabV; rw [if_neg h3,if_neg hi,if_neg h1,if_pos h2]
            rw [prA_eq hr]
            (repeat' (first | (refine And.intro (fun h=>?_) (fun h=>?_)<;>(try simp [-List.getD_eq_getElem?_getD,-Int.pred_toNat] at h)<;>(try (exfalso; first | omega | contradiction))) | (refine And.intro (rng64 (by omega) (by omega)) ?_) | (refine And.intro ⟨by omega,by omega⟩ ?_) | (refine And.intro ⟨by omega,by omega,by omega⟩ ?_) | (intro _)))
            refine Or.inl (Exists.intro _ (And.intro (s_wout a.e m.key (by omega)) ?_))
            (repeat' (first | exact trivial | exact Or.inl rfl | exact Or.inr ⟨rfl,_,rfl⟩ | refine And.intro ?_ ?_))
          · have hr:tabV a m = if (becV (atK a m.key) m.kind).2≠0 then (a,(becV (atK a m.key) m.kind).2) else ({ a with e:=putE a.e m.key (becV (atK a m.key) m.kind).1 },0):=by unfold tabV; rw [if_neg h3,if_neg hi,if_neg h1,if_neg h2]
            have hxv:VB (atK a m.key):=hxn.vb
            have hx0 : -9223372036854775808≤(atK a m.key).n∧(atK a m.key).n≤9223372036854775807:=by cases hxv with | mk _ _ b _ _ _=>exact b
            rw [← hp1] at hx0
            have hW:∀ w:Val,∀ cs:List AV,AVles cs (encVal w)→PSpec Tryd.prog 86 [.rd .ent a.e,.s m.key,.agg cs] (.rd .ent (putE a.e m.key w)):=fun w cs hcs =>
              pspec_leA (s_with a.e m.key w (by omega)) ⟨.inl (.inl rfl),.inl (.inl rfl),.inr ⟨_,_,rfl,rfl,hcs⟩,trivial⟩
            by_cases h4:m.kind = 4
            · have hbv:=bec4 (x:=atK a m.key) h4
              by_cases hk2:(atK a m.key).kind≠2
              · rw [if_pos hk2] at hbv
                rw [hbv] at hr
                rw [prA_eq (hr.trans (if_pos (show (10:Int)≠0 by decide)))]
                rw [← hp1] at hk2
                (repeat' (first | (refine And.intro (fun h=>?_) (fun h=>?_)<;>(try simp [-List.getD_eq_getElem?_getD,-Int.pred_toNat] at h)<;>(try (exfalso; first | omega | contradiction))) | (refine And.intro (rng64 (by omega) (by omega)) ?_) | (refine And.intro ⟨by omega,by omega⟩ ?_) | (refine And.intro ⟨by omega,by omega,by omega⟩ ?_) | (intro _)))
                (repeat' (first | exact trivial | exact Or.inl rfl | exact Or.inr ⟨rfl,_,rfl⟩ | refine And.intro ?_ ?_))
              · rw [if_neg hk2] at hbv
                rw [hbv] at hr
                rw [prA_eq (hr.trans (if_neg (show ¬ (0:Int)≠0 by decide)))]
                have hk2:(atK a m.key).kind = 2:=Decidable.not_not.1 hk2
                rw [← hp1] at hk2
                (repeat' (first | (refine And.intro (fun h=>?_) (fun h=>?_)<;>(try simp [-List.getD_eq_getElem?_getD,-Int.pred_toNat] at h)<;>(try (exfalso; first | omega | contradiction))) | (refine And.intro (rng64 (by omega) (by omega)) ?_) | (refine And.intro ⟨by omega,by omega⟩ ?_) | (refine And.intro ⟨by omega,by omega,by omega⟩ ?_) | (intro _)))
                refine Or.inl (Exists.intro _ (And.intro (s_numText (atK a m.key).n 10 (by decide) hx0.1 hx0.2) ?_))
                refine Or.inl (Exists.intro _ (And.intro (s_textOf (numT (atK a m.key).n 10)) ?_))
                refine Or.inl (Exists.intro _ (And.intro (hW ⟨4,0,0,numT (atK a m.key).n 10,[],[]⟩ _ ⟨.inl rfl,.inl rfl,.inl rfl,.inl rfl,.inr ⟨rfl,_,rfl⟩,.inr ⟨rfl,_,rfl⟩,trivial⟩) ?_))
                (repeat' (first | exact trivial | exact Or.inl rfl | exact Or.inr ⟨rfl,_,rfl⟩ | refine And.intro ?_ ?_))
            · by_cases h5:m.kind = 5
              · have hbv:=bec5 (x:=atK a m.key) h5
                by_cases hk2:(atK a m.key).kind≠4
                · rw [if_pos hk2] at hbv
                  rw [hbv] at hr
                  rw [prA_eq (hr.trans (if_pos (show (10:Int)≠0 by decide)))]
                  rw [← hp1] at hk2
                  (repeat' (first | (refine And.intro (fun h=>?_) (fun h=>?_)<;>(try simp [-List.getD_eq_getElem?_getD,-Int.pred_toNat] at h)<;>(try (exfalso; first | omega | contradiction))) | (refine And.intro (rng64 (by omega) (by omega)) ?_) | (refine And.intro ⟨by omega,by omega⟩ ?_) | (refine And.intro ⟨by omega,by omega,by omega⟩ ?_) | (intro _)))
                  (repeat' (first | exact trivial | exact Or.inl rfl | exact Or.inr ⟨rfl,_,rfl⟩ | refine And.intro ?_ ?_))
                · rw [if_neg hk2] at hbv
                  rw [hbv] at hr
                  have hk2:(atK a m.key).kind = 4:=Decidable.not_not.1 hk2
                  rw [← hp1] at hk2
                  by_cases hq:(readV (atK a m.key).s).2≠0
                  · rw [prA_eq (hr.trans (if_pos hq))]
                    (repeat' (first | (refine And.intro (fun h=>?_) (fun h=>?_)<;>(try simp [-List.getD_eq_getElem?_getD,-Int.pred_toNat] at h)<;>(try (exfalso; first | omega | contradiction))) | (refine And.intro (rng64 (by omega) (by omega)) ?_) | (refine And.intro ⟨by omega,by omega⟩ ?_) | (refine And.intro ⟨by omega,by omega,by omega⟩ ?_) | (intro _)))
                    refine Or.inl (Exists.intro _ (And.intro (s_readNum (atK a m.key).s) ?_))
                    (repeat' (first | (refine And.intro (fun h=>?_) (fun h=>?_)<;>(try simp [-List.getD_eq_getElem?_getD,-Int.pred_toNat] at h)<;>(try (exfalso; first | omega | contradiction))) | (refine And.intro (rng64 (by omega) (by omega)) ?_) | (refine And.intro ⟨by omega,by omega⟩ ?_) | (refine And.intro ⟨by omega,by omega,by omega⟩ ?_) | (intro _)))
                    (repeat' (first | exact trivial | exact Or.inl rfl | exact Or.inr ⟨rfl,_,rfl⟩ | refine And.intro ?_ ?_))
                  · rw [prA_eq (hr.trans (if_neg hq))]
                    have hq:(readV (atK a m.key).s).2 = 0:=Decidable.not_not.1 hq
                    (repeat' (first | (refine And.intro (fun h=>?_) (fun h=>?_)<;>(try simp [-List.getD_eq_getElem?_getD,-Int.pred_toNat] at h)<;>(try (exfalso; first | omega | contradiction))) | (refine And.intro (rng64 (by omega) (by omega)) ?_) | (refine And.intro ⟨by omega,by omega⟩ ?_) | (refine And.intro ⟨by omega,by omega,by omega⟩ ?_) | (intro _)))
                    refine Or.inl (Exists.intro _ (And.intro (s_readNum (atK a m.key).s) ?_))
                    (repeat' (first | (refine And.intro (fun h=>?_) (fun h=>?_)<;>(try simp [-List.getD_eq_getElem?_getD,-Int.pred_toNat] at h)<;>(try (exfalso; first | omega | contradiction))) | (refine And.intro (rng64 (by omega) (by omega)) ?_) | (refine And.intro ⟨by omega,by omega⟩ ?_) | (refine And.intro ⟨by omega,by omega,by omega⟩ ?_) | (intro _)))
                    refine Or.inl (Exists.intro _ (And.intro (hW ⟨2,(readV (atK a m.key).s).1,0,[],[],[]⟩ _ ⟨.inl rfl,.inl rfl,.inl rfl,.inl rfl,.inr ⟨rfl,_,rfl⟩,.inr ⟨rfl,_,rfl⟩,trivial⟩) ?_))
                    (repeat' (first | exact trivial | exact Or.inl rfl | exact Or.inr ⟨rfl,_,rfl⟩ | refine And.intro ?_ ?_))
              · by_cases h6:m.kind = 6
                · have hbv:=bec6 (x:=atK a m.key) h6
                  rw [hbv] at hr
                  rw [prA_eq (hr.trans (if_neg (show ¬ (0:Int)≠0 by decide)))]
                  (repeat' (first | (refine And.intro (fun h=>?_) (fun h=>?_)<;>(try simp [-List.getD_eq_getElem?_getD,-Int.pred_toNat] at h)<;>(try (exfalso; first | omega | contradiction))) | (refine And.intro (rng64 (by omega) (by omega)) ?_) | (refine And.intro ⟨by omega,by omega⟩ ?_) | (refine And.intro ⟨by omega,by omega,by omega⟩ ?_) | (intro _)))
                  refine Or.inl (Exists.intro _ (And.intro (hW ⟨5,0,0,[],[atK a m.key],[]⟩ _ ⟨.inl rfl,.inl rfl,.inl rfl,.inl rfl,.inl (congrArg (fun w=>AV.rd .val [w]) (val_eta _)),.inr ⟨rfl,_,rfl⟩,trivial⟩) ?_))
                  (repeat' (first | exact trivial | exact Or.inl rfl | exact Or.inr ⟨rfl,_,rfl⟩ | refine And.intro ?_ ?_))
                · have h7:m.kind = 7:=by omega
                  have hbv:=bec7 (x:=atK a m.key) ⟨h4,h5,h6⟩
                  by_cases hk2:(atK a m.key).kind≠5
                  · rw [if_pos hk2] at hbv
                    rw [hbv] at hr
                    rw [prA_eq (hr.trans (if_pos (show (10:Int)≠0 by decide)))]
                    rw [← hp1] at hk2
                    (repeat' (first | (refine And.intro (fun h=>?_) (fun h=>?_)<;>(try simp [-List.getD_eq_getElem?_getD,-Int.pred_toNat] at h)<;>(try (exfalso; first | omega | contradiction))) | (refine And.intro (rng64 (by omega) (by omega)) ?_) | (refine And.intro ⟨by omega,by omega⟩ ?_) | (refine And.intro ⟨by omega,by omega,by omega⟩ ?_) | (intro _)))
                    (repeat' (first | exact trivial | exact Or.inl rfl | exact Or.inr ⟨rfl,_,rfl⟩ | refine And.intro ?_ ?_))
                  · rw [if_neg hk2] at hbv
                    have hk2:(atK a m.key).kind = 5:=Decidable.not_not.1 hk2
                    by_cases hl:(atK a m.key).l.length≠1
                    · rw [if_pos hl] at hbv
                      rw [hbv] at hr
                      rw [prA_eq (hr.trans (if_pos (show (8:Int)≠0 by decide)))]
                      rw [← hp1] at hk2 hl
                      (repeat' (first | (refine And.intro (fun h=>?_) (fun h=>?_)<;>(try simp [-List.getD_eq_getElem?_getD,-Int.pred_toNat] at h)<;>(try (exfalso; first | omega | contradiction))) | (refine And.intro (rng64 (by omega) (by omega)) ?_) | (refine And.intro ⟨by omega,by omega⟩ ?_) | (refine And.intro ⟨by omega,by omega,by omega⟩ ?_) | (intro _)))
                      (repeat' (first | exact trivial | exact Or.inl rfl | exact Or.inr ⟨rfl,_,rfl⟩ | refine And.intro ?_ ?_))
                    · rw [if_neg hl] at hbv
                      rw [hbv] at hr
                      rw [prA_eq (hr.trans (if_neg (show ¬ (0:Int)≠0 by decide)))]
                      have hl:(atK a m.key).l.length = 1:=Decidable.not_not.1 hl
                      rw [← hp1] at hk2 hl
                      (repeat' (first | (refine And.intro (fun h=>?_) (fun h=>?_)<;>(try simp [-List.getD_eq_getElem?_getD,-Int.pred_toNat] at h)<;>(try (exfalso; first | omega | contradiction))) | (refine And.intro (rng64 (by omega) (by omega)) ?_) | (refine And.intro ⟨by omega,by omega⟩ ?_) | (refine And.intro ⟨by omega,by omega,by omega⟩ ?_) | (intro _)))
                      refine Or.inl (Exists.intro _ (And.intro (s_with a.e m.key ((atK a m.key).l.getD 0 default) (by omega)) ?_))
                      (repeat' (first | exact trivial | exact Or.inl rfl | exact Or.inr ⟨rfl,_,rfl⟩ | refine And.intro ?_ ?_))
theorem s_moved0 (a:Val) (m:SX.Move) (ha:VW 10000000 a) (hk:1≤m.kind∧m.kind≤7):PSpec Tryd.prog 47 [.agg (encVal a),.rd .str [],.agg (enc .move m)] (prA (movedV a [] m)) :=
  pspec_of_vcL Γ_good Tryd.func47 rfl Tryd.call47 Tryd.results47 Tryd.ntmps47 (Nat.le_of_ble_eq_true rfl) (w_moved0 a m ha hk)
end
end Go.Proofs.YtmfchbkdakmjhaaDoor
end
section
namespace Go.Proofs.YtmfchbkdakmjhaaDoor
set_option linter.unusedSectionVars false
set_option linter.unusedSimpArgs false
set_option linter.unusedVariables false
open Go Go.SX Go.Ck Go.Vl Go.Ut Go.Up Go.Sp Go.Nm
set_option maxRecDepth 100000
set_option maxHeartbeats 10000000
section
variable [G:Globs]
theorem w_moved1 (a:Val) (k:Str) (r:List Str) (m:SX.Move) (ha:VW 10000000 a) (ih:∀ w,VW 10000000 w→PSpec Tryd.prog 47 [.agg (encVal w),.rd .str r,.agg (enc .move m)] (prA (movedV w r m))):vc Tryd.prog Γ 177 [1,3,5,6,7,8,9,10,11,12,13,14,17,21,29,61,63,75,84,85,99,112,121,125,131,135,144,149,154,158,163] (Tryd.f47.body.getD .skip) (postK Γ [.cell 6 26,.tmp 7] (fun v=>RL v (prA (movedV a (k::r) m)))) ⟨argSlots 0 [.agg (encVal a),.rd .str (k::r),.agg (enc .move m)],[]⟩:=by
  have he:=ve_len ha
  by_cases h:a.kind≠6
  · have hr:movedV a (k::r) m = (a,10):=by rw [movedV,if_pos h]
    rw [prA_eq hr]
    (repeat' (first | (refine And.intro (fun h=>?_) (fun h=>?_)<;>(try simp [-List.getD_eq_getElem?_getD,-Int.pred_toNat] at h)<;>(try (exfalso; first | omega | contradiction))) | (refine And.intro (rng64 (by omega) (by omega)) ?_) | (refine And.intro ⟨by omega,by omega⟩ ?_) | (refine And.intro ⟨by omega,by omega,by omega⟩ ?_) | (intro _)))
    (repeat' (first | exact trivial | exact Or.inl rfl | exact Or.inr ⟨rfl,_,rfl⟩ | refine And.intro ?_ ?_))
  · have hr:movedV a (k::r) m = if ixI a.e (keyIs k) < 0 then (a,8) else ({ a with e:=putE a.e k (movedV (atK a k) r m).1 },(movedV (atK a k) r m).2):=by rw [movedV,if_neg h]
    have h:a.kind = 6:=Decidable.not_not.1 h
    have hl0:(0:Int) < (((k::r).length:Nat):Int):=by simp only [List.length_cons]; omega
    (repeat' (first | (refine And.intro (fun h=>?_) (fun h=>?_)<;>(try simp [-List.getD_eq_getElem?_getD,-Int.pred_toNat] at h)<;>(try (exfalso; first | omega | contradiction))) | (refine And.intro (rng64 (by omega) (by omega)) ?_) | (refine And.intro ⟨by omega,by omega⟩ ?_) | (refine And.intro ⟨by omega,by omega,by omega⟩ ?_) | (intro _)))
    refine Exists.intro [.blk [0,1,2,3,4,5,6]] (And.intro (by kernel_rfl) ?_)
    refine And.intro ⟨by omega,by simp only [List.length_cons]; omega⟩ ?_
    refine Exists.intro _ (And.intro (s_entAt a.e k) ?_)
    by_cases hi:ixI a.e (keyIs k) < 0
    · rw [if_pos hi] at hr
      rw [prA_eq hr]
      (repeat' (first | (refine And.intro (fun h=>?_) (fun h=>?_)<;>(try simp [-List.getD_eq_getElem?_getD,-Int.pred_toNat] at h)<;>(try (exfalso; first | omega | contradiction))) | (refine And.intro (rng64 (by omega) (by omega)) ?_) | (refine And.intro ⟨by omega,by omega⟩ ?_) | (refine And.intro ⟨by omega,by omega,by omega⟩ ?_) | (intro _)))
      (repeat' (first | exact trivial | exact Or.inl rfl | exact Or.inr ⟨rfl,_,rfl⟩ | refine And.intro ?_ ?_))
    · rw [if_neg hi] at hr
      rw [prA_eq hr]
      obtain ⟨i0,i1,i2⟩:=ix_bound hi
      have hxn:VW 10000000 (atK a k):=ha.part (atK_in hi)
      have hrec:PSpec Tryd.prog 47 [.agg (encVal (atK a k)),.rd .str (((k::r).take (Int.toNat ((k::r).length:Int))).drop (Int.toNat 1)),.agg (enc .move m)] (prA (movedV (atK a k) r m)):=by
        rw [tail_str]
        exact ih _ hxn
      (repeat' (first | (refine And.intro (fun h=>?_) (fun h=>?_)<;>(try simp [-List.getD_eq_getElem?_getD,-Int.pred_toNat] at h)<;>(try (exfalso; first | omega | contradiction))) | (refine And.intro (rng64 (by omega) (by omega)) ?_) | (refine And.intro ⟨by omega,by omega⟩ ?_) | (refine And.intro ⟨by omega,by omega,by omega⟩ ?_) | (intro _)))
      refine Exists.intro [.take 0,.take 2,.take 6,.take 7,.tree 11 [1,3,4,5,8,9,10,11,12,13,14] (.opt 1 (.opt 3 (.opt 4 (.opt 5 (.opt 8 (.opt 9 (.opt 10 (.opt 11 (.opt 12 (.opt 13 (.opt 14 .fin .non) .non) (.opt 13 (.opt 12 (.opt 14 .fin .non) (.opt 14 (.opt 12 .fin .non) .non)) .non)) (.opt 12 (.opt 11 (.opt 13 (.opt 14 .fin .non) .non) (.opt 13 (.opt 11 (.opt 14 .fin .non) .non) .non)) (.opt 13 (.opt 11 (.opt 12 (.opt 14 .fin .non) (.opt 14 (.opt 12 .fin .non) .non)) (.opt 12 (.opt 11 (.opt 14 .fin .non) .non) .non)) .non))) (.opt 13 (.opt 10 (.opt 11 (.opt 12 (.opt 14 .fin .non) (.opt 14 (.opt 12 .fin .non) .non)) (.opt 12 (.opt 11 (.opt 14 .fin .non) .non) .non)) .non) .non)) (.opt 13 (.opt 9 (.opt 10 (.opt 11 (.opt 12 (.opt 14 .fin .non) (.opt 14 (.opt 12 .fin .non) .non)) (.opt 12 (.opt 11 (.opt 14 .fin .non) .non) .non)) .non) .non) .non)) (.opt 13 (.opt 8 (.opt 9 (.opt 10 (.opt 11 (.opt 12 (.opt 14 .fin .non) (.opt 14 (.opt 12 .fin .non) .non)) (.opt 12 (.opt 11 (.opt 14 .fin .non) .non) .non)) .non) .non) .non) .non)) (.opt 8 (.opt 5 (.opt 9 (.opt 10 (.opt 11 (.opt 12 (.opt 13 (.opt 14 .fin .non) .non) (.opt 13 (.opt 12 (.opt 14 .fin .non) (.opt 14 (.opt 12 .fin .non) .non)) .non)) (.opt 12 (.opt 11 (.opt 13 (.opt 14 .fin .non) .non) (.opt 13 (.opt 11 (.opt 14 .fin .non) .non) .non)) (.opt 13 (.opt 11 (.opt 12 (.opt 14 .fin .non) (.opt 14 (.opt 12 .fin .non) .non)) (.opt 12 (.opt 11 (.opt 14 .fin .non) .non) .non)) .non))) (.opt 13 (.opt 10 (.opt 11 (.opt 12 (.opt 14 .fin .non) (.opt 14 (.opt 12 .fin .non) .non)) (.opt 12 (.opt 11 (.opt 14 .fin .non) .non) .non)) .non) .non)) (.opt 13 (.opt 9 (.opt 10 (.opt 11 (.opt 12 (.opt 14 .fin .non) (.opt 14 (.opt 12 .fin .non) .non)) (.opt 12 (.opt 11 (.opt 14 .fin .non) .non) .non)) .non) .non) .non)) (.opt 13 (.opt 5 (.opt 9 (.opt 10 (.opt 11 (.opt 12 (.opt 14 .fin .non) (.opt 14 (.opt 12 .fin .non) .non)) (.opt 12 (.opt 11 (.opt 14 .fin .non) .non) .non)) .non) .non) .non) .non)) (.opt 13 (.opt 5 (.opt 8 (.opt 9 (.opt 10 (.opt 11 (.opt 12 (.opt 14 .fin .non) (.opt 14 (.opt 12 .fin .non) .non)) (.opt 12 (.opt 11 (.opt 14 .fin .non) .non) .non)) .non) .non) .non) (.opt 8 (.opt 5 (.opt 9 (.opt 10 (.opt 11 (.opt 12 (.opt 14 .fin .non) (.opt 14 (.opt 12 .fin .non) .non)) (.opt 12 (.opt 11 (.opt 14 .fin .non) .non) .non)) .non) .non) .non) .non)) .non))) (.opt 8 (.opt 4 (.opt 5 (.opt 9 (.opt 10 (.opt 11 (.opt 12 (.opt 13 (.opt 14 .fin .non) .non) (.opt 13 (.opt 12 (.opt 14 .fin .non) (.opt 14 (.opt 12 .fin .non) .non)) .non)) (.opt 12 (.opt 11 (.opt 13 (.opt 14 .fin .non) .non) (.opt 13 (.opt 11 (.opt 14 .fin .non) .non) .non)) (.opt 13 (.opt 11 (.opt 12 (.opt 14 .fin .non) (.opt 14 (.opt 12 .fin .non) .non)) (.opt 12 (.opt 11 (.opt 14 .fin .non) .non) .non)) .non))) (.opt 13 (.opt 10 (.opt 11 (.opt 12 (.opt 14 .fin .non) (.opt 14 (.opt 12 .fin .non) .non)) (.opt 12 (.opt 11 (.opt 14 .fin .non) .non) .non)) .non) .non)) (.opt 13 (.opt 9 (.opt 10 (.opt 11 (.opt 12 (.opt 14 .fin .non) (.opt 14 (.opt 12 .fin .non) .non)) (.opt 12 (.opt 11 (.opt 14 .fin .non) .non) .non)) .non) .non) .non)) (.opt 13 (.opt 5 (.opt 9 (.opt 10 (.opt 11 (.opt 12 (.opt 14 .fin .non) (.opt 14 (.opt 12 .fin .non) .non)) (.opt 12 (.opt 11 (.opt 14 .fin .non) .non) .non)) .non) .non) .non) .non)) (.opt 13 (.opt 4 (.opt 5 (.opt 9 (.opt 10 (.opt 11 (.opt 12 (.opt 14 .fin .non) (.opt 14 (.opt 12 .fin .non) .non)) (.opt 12 (.opt 11 (.opt 14 .fin .non) .non) .non)) .non) .non) .non) .non) .non)) (.opt 13 (.opt 4 (.opt 5 (.opt 8 (.opt 9 (.opt 10 (.opt 11 (.opt 12 (.opt 14 .fin .non) (.opt 14 (.opt 12 .fin .non) .non)) (.opt 12 (.opt 11 (.opt 14 .fin .non) .non) .non)) .non) .non) .non) (.opt 8 (.opt 5 (.opt 9 (.opt 10 (.opt 11 (.opt 12 (.opt 14 .fin .non) (.opt 14 (.opt 12 .fin .non) .non)) (.opt 12 (.opt 11 (.opt 14 .fin .non) .non) .non)) .non) .non) .non) .non)) (.opt 8 (.opt 4 (.opt 5 (.opt 9 (.opt 10 (.opt 11 (.opt 12 (.opt 14 .fin .non) (.opt 14 (.opt 12 .fin .non) .non)) (.opt 12 (.opt 11 (.opt 14 .fin .non) .non) .non)) .non) .non) .non) .non) .non)) .non))) (.opt 8 (.opt 3 (.opt 4 (.opt 5 (.opt 9 (.opt 10 (.opt 11 (.opt 12 (.opt 13 (.opt 14 .fin .non) .non) (.opt 13 (.opt 12 (.opt 14 .fin .non) (.opt 14 (.opt 12 .fin .non) .non)) .non)) (.opt 12 (.opt 11 (.opt 13 (.opt 14 .fin .non) .non) (.opt 13 (.opt 11 (.opt 14 .fin .non) .non) .non)) (.opt 13 (.opt 11 (.opt 12 (.opt 14 .fin .non) (.opt 14 (.opt 12 .fin .non) .non)) (.opt 12 (.opt 11 (.opt 14 .fin .non) .non) .non)) .non))) (.opt 13 (.opt 10 (.opt 11 (.opt 12 (.opt 14 .fin .non) (.opt 14 (.opt 12 .fin .non) .non)) (.opt 12 (.opt 11 (.opt 14 .fin .non) .non) .non)) .non) .non)) (.opt 13 (.opt 9 (.opt 10 (.opt 11 (.opt 12 (.opt 14 .fin .non) (.opt 14 (.opt 12 .fin .non) .non)) (.opt 12 (.opt 11 (.opt 14 .fin .non) .non) .non)) .non) .non) .non)) (.opt 13 (.opt 5 (.opt 9 (.opt 10 (.opt 11 (.opt 12 (.opt 14 .fin .non) (.opt 14 (.opt 12 .fin .non) .non)) (.opt 12 (.opt 11 (.opt 14 .fin .non) .non) .non)) .non) .non) .non) .non)) (.opt 13 (.opt 4 (.opt 5 (.opt 9 (.opt 10 (.opt 11 (.opt 12 (.opt 14 .fin .non) (.opt 14 (.opt 12 .fin .non) .non)) (.opt 12 (.opt 11 (.opt 14 .fin .non) .non) .non)) .non) .non) .non) .non) .non)) (.opt 13 (.opt 3 (.opt 4 (.opt 5 (.opt 9 (.opt 10 (.opt 11 (.opt 12 (.opt 14 .fin .non) (.opt 14 (.opt 12 .fin .non) .non)) (.opt 12 (.opt 11 (.opt 14 .fin .non) .non) .non)) .non) .non) .non) .non) .non) .non)) (.opt 13 (.opt 3 (.opt 4 (.opt 5 (.opt 8 (.opt 9 (.opt 10 (.opt 11 (.opt 12 (.opt 14 .fin .non) (.opt 14 (.opt 12 .fin .non) .non)) (.opt 12 (.opt 11 (.opt 14 .fin .non) .non) .non)) .non) .non) .non) (.opt 8 (.opt 5 (.opt 9 (.opt 10 (.opt 11 (.opt 12 (.opt 14 .fin .non) (.opt 14 (.opt 12 .fin .non) .non)) (.opt 12 (.opt 11 (.opt 14 .fin .non) .non) .non)) .non) .non) .non) .non)) (.opt 8 (.opt 4 (.opt 5 (.opt 9 (.opt 10 (.opt 11 (.opt 12 (.opt 14 .fin .non) (.opt 14 (.opt 12 .fin .non) .non)) (.opt 12 (.opt 11 (.opt 14 .fin .non) .non) .non)) .non) .non) .non) .non) .non)) (.opt 8 (.opt 3 (.opt 4 (.opt 5 (.opt 9 (.opt 10 (.opt 11 (.opt 12 (.opt 14 .fin .non) (.opt 14 (.opt 12 .fin .non) .non)) (.opt 12 (.opt 11 (.opt 14 .fin .non) .non) .non)) .non) .non) .non) .non) .non) .non)) .non))) (.opt 8 (.opt 1 (.opt 3 (.opt 4 (.opt 5 (.opt 9 (.opt 10 (.opt 11 (.opt 12 (.opt 13 (.opt 14 .fin .non) .non) (.opt 13 (.opt 12 (.opt 14 .fin .non) (.opt 14 (.opt 12 .fin .non) .non)) .non)) (.opt 12 (.opt 11 (.opt 13 (.opt 14 .fin .non) .non) (.opt 13 (.opt 11 (.opt 14 .fin .non) .non) .non)) (.opt 13 (.opt 11 (.opt 12 (.opt 14 .fin .non) (.opt 14 (.opt 12 .fin .non) .non)) (.opt 12 (.opt 11 (.opt 14 .fin .non) .non) .non)) .non))) (.opt 13 (.opt 10 (.opt 11 (.opt 12 (.opt 14 .fin .non) (.opt 14 (.opt 12 .fin .non) .non)) (.opt 12 (.opt 11 (.opt 14 .fin .non) .non) .non)) .non) .non)) (.opt 13 (.opt 9 (.opt 10 (.opt 11 (.opt 12 (.opt 14 .fin .non) (.opt 14 (.opt 12 .fin .non) .non)) (.opt 12 (.opt 11 (.opt 14 .fin .non) .non) .non)) .non) .non) .non)) (.opt 13 (.opt 5 (.opt 9 (.opt 10 (.opt 11 (.opt 12 (.opt 14 .fin .non) (.opt 14 (.opt 12 .fin .non) .non)) (.opt 12 (.opt 11 (.opt 14 .fin .non) .non) .non)) .non) .non) .non) .non)) (.opt 13 (.opt 4 (.opt 5 (.opt 9 (.opt 10 (.opt 11 (.opt 12 (.opt 14 .fin .non) (.opt 14 (.opt 12 .fin .non) .non)) (.opt 12 (.opt 11 (.opt 14 .fin .non) .non) .non)) .non) .non) .non) .non) .non)) (.opt 13 (.opt 3 (.opt 4 (.opt 5 (.opt 9 (.opt 10 (.opt 11 (.opt 12 (.opt 14 .fin .non) (.opt 14 (.opt 12 .fin .non) .non)) (.opt 12 (.opt 11 (.opt 14 .fin .non) .non) .non)) .non) .non) .non) .non) .non) .non)) (.opt 13 (.opt 1 (.opt 3 (.opt 4 (.opt 5 (.opt 9 (.opt 10 (.opt 11 (.opt 12 (.opt 14 .fin .non) (.opt 14 (.opt 12 .fin .non) .non)) (.opt 12 (.opt 11 (.opt 14 .fin .non) .non) .non)) .non) .non) .non) .non) .non) .non) .non)) (.opt 13 (.opt 1 (.opt 3 (.opt 4 (.opt 5 (.opt 8 (.opt 9 (.opt 10 (.opt 11 (.opt 12 (.opt 14 .fin .non) (.opt 14 (.opt 12 .fin .non) .non)) (.opt 12 (.opt 11 (.opt 14 .fin .non) .non) .non)) .non) .non) .non) (.opt 8 (.opt 5 (.opt 9 (.opt 10 (.opt 11 (.opt 12 (.opt 14 .fin .non) (.opt 14 (.opt 12 .fin .non) .non)) (.opt 12 (.opt 11 (.opt 14 .fin .non) .non) .non)) .non) .non) .non) .non)) (.opt 8 (.opt 4 (.opt 5 (.opt 9 (.opt 10 (.opt 11 (.opt 12 (.opt 14 .fin .non) (.opt 14 (.opt 12 .fin .non) .non)) (.opt 12 (.opt 11 (.opt 14 .fin .non) .non) .non)) .non) .non) .non) .non) .non)) (.opt 8 (.opt 3 (.opt 4 (.opt 5 (.opt 9 (.opt 10 (.opt 11 (.opt 12 (.opt 14 .fin .non) (.opt 14 (.opt 12 .fin .non) .non)) (.opt 12 (.opt 11 (.opt 14 .fin .non) .non) .non)) .non) .non) .non) .non) .non) .non)) (.opt 8 (.opt 1 (.opt 3 (.opt 4 (.opt 5 (.opt 9 (.opt 10 (.opt 11 (.opt 12 (.opt 14 .fin .non) (.opt 14 (.opt 12 .fin .non) .non)) (.opt 12 (.opt 11 (.opt 14 .fin .non) .non) .non)) .non) .non) .non) .non) .non) .non) .non)) .non))),.take 15] (And.intro (by kernel_rfl) ?_)
      refine And.intro ⟨by omega,by simp only [List.length_cons]; omega,by simp only [List.length_cons]; omega⟩ ?_
      have hbd:(0:Int)≤ixI a.e (keyIs k)∧ixI a.e (keyIs k) < (a.e.length:Int):=⟨i0,by omega⟩
      refine Exists.intro ⟨[(1,.rd .str (k::r)),(3,.pt 3 0),(5,.pt 5 0),(6,.pt 6 0),(7,.i .i64 0),(8,.i .i64 (ixI a.e (keyIs k))),(9,.pt 9 0),(43,.i .i64 (movedV (atK a k) r m).2)],[(3,encVal a),(5,enc .move m),(6,[.i .i64 0,.i .i64 0,.i .u64 0,.s [],.nl,.nl]),(9,encVal (movedV (atK a k) r m).1)]⟩ (And.intro ?_ ?_)
      · (repeat' (first | exact trivial | exact Or.inl rfl | exact hbd | refine Or.inl (Exists.intro _ (And.intro hrec ?_)) | refine And.intro ?_ ?_))
      refine Exists.intro [.blk [0,1,2,3,4,5,6,7],.one 8] (And.intro (by kernel_rfl) ?_)
      refine And.intro ⟨by omega,by simp only [List.length_cons]; omega⟩ ?_
      refine Exists.intro _ (And.intro (s_with a.e k (movedV (atK a k) r m).1 (by omega)) ?_)
      (repeat' (first | exact trivial | exact Or.inl rfl | exact Or.inr ⟨rfl,_,rfl⟩ | refine And.intro ?_ ?_))
theorem s_moved1 (a:Val) (k:Str) (r:List Str) (m:SX.Move) (ha:VW 10000000 a) (ih:∀ w,VW 10000000 w→PSpec Tryd.prog 47 [.agg (encVal w),.rd .str r,.agg (enc .move m)] (prA (movedV w r m))):PSpec Tryd.prog 47 [.agg (encVal a),.rd .str (k::r),.agg (enc .move m)] (prA (movedV a (k::r) m)) :=
  pspec_of_vcL Γ_good Tryd.func47 rfl Tryd.call47 Tryd.results47 Tryd.ntmps47 (Nat.le_of_ble_eq_true rfl) (w_moved1 a k r m ha ih)
theorem s_moved (m:SX.Move) (hk:1≤m.kind∧m.kind≤7):∀ (r:List Str) (a:Val),VW 10000000 a→PSpec Tryd.prog 47 [.agg (encVal a),.rd .str r,.agg (enc .move m)] (prA (movedV a r m))
  | [],a,ha=>s_moved0 a m ha hk
  | k::r,a,ha=>s_moved1 a k r m ha (fun w hw=>s_moved m hk r w hw)
end
end Go.Proofs.YtmfchbkdakmjhaaDoor
end
section
namespace Go.Proofs.YtmfchbkdakmjhaaDoor
set_option linter.unusedSectionVars false
set_option linter.unusedSimpArgs false
set_option linter.unusedVariables false
open Go Go.SX Go.Ck Go.Vl Go.Ut Go.Up Go.Sp Go.Nm
set_option maxRecDepth 100000
set_option maxHeartbeats 1000000
structure ModM (m:SX.Move):Prop where
  v:Mod m.v
  k:m.key.length≤10000000
  t:m.to.length≤10000000
theorem along_ok {a:Val} {m:SX.Move} (ha:Mod a) (hm:ModM m) (hp:moveF m = 0):VB (alongV a m.p m).1∧(sizV (alongV a m.p m).1).2≤1000000000∧VN 100000000 (alongV a m.p m).1:=by
  obtain ⟨h1,h2,h3,_⟩:=moveF_ok hp
  have g3:=vw_along (n:=10000000) (hm.v.vw.mono (Nat.le_succ _)) m.p a ha.vw
  have g4:=along_bulk (m:=m) (B:=10000000) m.p a h3 ha.vb ha.bk
  have g5:=siz_bulk (alongV a m.p m).1
  have g6:(m.p.length + 1) * (2 * 10000000 + 110)≤21 * (2 * 10000000 + 110):=Nat.mul_le_mul_right _ (by omega)
  have:=hm.v.bk
  have:=hm.k
  have:=hm.t
  exact ⟨g3.vb,by omega,vn_of_vw (by decide) g3⟩
theorem mod_step {a:Val} {m:SX.Move} (ha:Mod a) (hm:ModM m) (h:(stepV a m).2 = 0):Mod (stepV a m).1:=by
  obtain ⟨h1,h2,h3,_⟩:=stepV_good h
  exact ⟨by rw [h2]; exact (along_ok ha hm h3).1,good_bulk h1⟩
theorem step_bad1 {a:Val} {m:SX.Move} (h:faultV a≠0):stepV a m = (zeroV,faultV a):=if_pos h
theorem step_bad2 {a:Val} {m:SX.Move} (h:¬ faultV a≠0) (h2:moveF m≠0):stepV a m = (zeroV,moveF m):=by unfold stepV; rw [if_neg h,if_pos h2]
theorem step_bad3 {a:Val} {m:SX.Move} (h:¬ faultV a≠0) (h2:¬ moveF m≠0) (h3:(alongV a m.p m).2≠0):stepV a m = (zeroV,(alongV a m.p m).2):=by unfold stepV; rw [if_neg h,if_neg h2,if_pos h3]
theorem step_bad4 {a:Val} {m:SX.Move} (h:¬ faultV a≠0) (h2:¬ moveF m≠0) (h3:¬ (alongV a m.p m).2≠0) (h4:faultV (alongV a m.p m).1≠0):stepV a m = (zeroV,faultV (alongV a m.p m).1):=by unfold stepV; rw [if_neg h,if_neg h2,if_neg h3,if_pos h4]
theorem step_ok {a:Val} {m:SX.Move} (h:¬ faultV a≠0) (h2:¬ moveF m≠0) (h3:¬ (alongV a m.p m).2≠0) (h4:¬ faultV (alongV a m.p m).1≠0):stepV a m = ((alongV a m.p m).1,0):=by unfold stepV; rw [if_neg h,if_neg h2,if_neg h3,if_neg h4]
section
variable [G:Globs]
theorem w_applyT (hp:HasPow) (hu:HasU8) (a:Val) (m:SX.Move) (ha:Mod a) (hm:ModM m):vc Tryd.prog Γ 40 [2,3,4,5,6,7,8,9,13,19,31,35] (Tryd.f9.body.getD .skip) (postK Γ [.cell 4 26,.tmp 5] (fun v=>RL v (prA (stepV a m)))) ⟨argSlots 0 [.agg (encVal a),.agg (enc .move m)],[]⟩:=by
  have hC:=s_Check hu a ha.vb ha.siz
  rw [chk_T] at hC
  refine Or.inl (Exists.intro _ (And.intro (hC) ?_))
  refine And.intro (fun hq=>?_) (fun hq=>?_)
  · have hq:faultV a≠0:=by simpa using hq
    rw [prA_eq (step_bad1 hq)]
    (repeat' (first | exact trivial | exact Or.inl rfl | exact Or.inr ⟨rfl,_,rfl⟩ | refine And.intro ?_ ?_))
  have hq:¬ faultV a≠0:=by simpa using hq
  refine Or.inl (Exists.intro _ (And.intro (s_stepCheck hu m hm.v.vb hm.v.siz) ?_))
  refine And.intro (fun hq2=>?_) (fun hq2=>?_)
  · have hq2:moveF m≠0:=by simpa using hq2
    rw [prA_eq (step_bad2 hq hq2)]
    (repeat' (first | exact trivial | exact Or.inl rfl | exact Or.inr ⟨rfl,_,rfl⟩ | refine And.intro ?_ ?_))
  have hq2:¬ moveF m≠0:=by simpa using hq2
  obtain ⟨o1,o2,o3⟩:=along_ok ha hm (Decidable.not_not.1 hq2)
  have hC2:=s_Check hu (alongV a m.p m).1 o1 o2
  rw [chk_T] at hC2
  refine Or.inr (Or.inr (Or.inr (Or.inl (Exists.intro [3] (Exists.intro _ (And.intro ((s_along hp m hm.v.vw m.p a ha.vw)) ?_))))))
  refine And.intro (fun hq3=>?_) (fun hq3=>?_)
  · have hq3:¬ (alongV a m.p m).2≠0:=by simpa using hq3
    refine Or.inl (Exists.intro _ (And.intro (hC2) ?_))
    refine And.intro (fun hq4=>?_) (fun hq4=>?_)
    · have hq4:faultV (alongV a m.p m).1≠0:=by simpa using hq4
      rw [prA_eq (step_bad4 hq hq2 hq3 hq4)]
      (repeat' (first | exact trivial | exact Or.inl rfl | exact Or.inr ⟨rfl,_,rfl⟩ | refine And.intro ?_ ?_))
    · have hq4:¬ faultV (alongV a m.p m).1≠0:=by simpa using hq4
      rw [prA_eq (step_ok hq hq2 hq3 hq4)]
      refine Or.inl (Exists.intro _ (And.intro (s_Own (alongV a m.p m).1 o3) ?_))
      (repeat' (first | exact trivial | exact Or.inl rfl | exact Or.inr ⟨rfl,_,rfl⟩ | refine And.intro ?_ ?_))
  · have hq3:(alongV a m.p m).2≠0:=by simpa using hq3
    rw [prA_eq (step_bad3 hq hq2 hq3)]
    refine And.intro (fun _=>?_) (fun h=>absurd h (by simpa using hq3))
    (repeat' (first | exact trivial | exact Or.inl rfl | exact Or.inr ⟨rfl,_,rfl⟩ | refine And.intro ?_ ?_))
theorem s_applyT (hp:HasPow) (hu:HasU8) (a:Val) (m:SX.Move) (ha:Mod a) (hm:ModM m):PSpec Tryd.prog 9 [.agg (encVal a),.agg (enc .move m)] (prA (stepV a m)) :=
  pspec_of_vcL Γ_good Tryd.func9 rfl Tryd.call9 Tryd.results9 Tryd.ntmps9 (Nat.le_of_ble_eq_true rfl) (w_applyT hp hu a m ha hm)
theorem w_movedT (a:Val) (m:SX.Move) (ha:Mod a) (hm:ModM m):vc Tryd.prog Γ 39 [2,3,4,5,6,7,8,9,13,19,31,35] (Tryd.f10.body.getD .skip) (postK Γ [.cell 4 26,.tmp 5] (fun v=>RL v (prA (stepV a m)))) ⟨argSlots 0 [.agg (encVal a),.agg (enc .move m)],[]⟩:=by
  refine Or.inl (Exists.intro _ (And.intro (s_fault a ha.vb ha.siz) ?_))
  refine And.intro (fun hq=>?_) (fun hq=>?_)
  · have hq:faultV a≠0:=by simpa using hq
    rw [prA_eq (step_bad1 hq)]
    (repeat' (first | exact trivial | exact Or.inl rfl | exact Or.inr ⟨rfl,_,rfl⟩ | refine And.intro ?_ ?_))
  have hq:¬ faultV a≠0:=by simpa using hq
  refine Or.inl (Exists.intro _ (And.intro (s_moveFault m hm.v.vb hm.v.siz) ?_))
  refine And.intro (fun hq2=>?_) (fun hq2=>?_)
  · have hq2:moveF m≠0:=by simpa using hq2
    rw [prA_eq (step_bad2 hq hq2)]
    (repeat' (first | exact trivial | exact Or.inl rfl | exact Or.inr ⟨rfl,_,rfl⟩ | refine And.intro ?_ ?_))
  have hq2:¬ moveF m≠0:=by simpa using hq2
  obtain ⟨o1,o2,o3⟩:=along_ok ha hm (Decidable.not_not.1 hq2)
  obtain ⟨e1,e2⟩:=moved_along m.p a m
  have hM:=s_moved m (moveF_ok (Decidable.not_not.1 hq2)).1 m.p a ha.vw
  unfold prA at hM
  rw [e1] at hM
  by_cases hq3:(alongV a m.p m).2≠0
  · rw [prA_eq (step_bad3 hq hq2 hq3)]
    refine Or.inl (Exists.intro _ (And.intro (hM) ?_))
    refine And.intro (fun h=>absurd hq3 (by simpa using h)) (fun _=>?_)
    refine And.intro (fun _=>?_) (fun h=>absurd h (by simpa using hq3))
    (repeat' (first | exact trivial | exact Or.inl rfl | exact Or.inr ⟨rfl,_,rfl⟩ | refine And.intro ?_ ?_))
  · rw [e2 (Decidable.not_not.1 hq3)] at hM
    refine Or.inl (Exists.intro _ (And.intro (hM) ?_))
    refine And.intro (fun _=>?_) (fun h=>absurd h (by simpa using hq3))
    refine Or.inl (Exists.intro _ (And.intro (s_fault (alongV a m.p m).1 o1 o2) ?_))
    refine And.intro (fun hq4=>?_) (fun hq4=>?_)
    · have hq4:faultV (alongV a m.p m).1≠0:=by simpa using hq4
      rw [prA_eq (step_bad4 hq hq2 hq3 hq4)]
      (repeat' (first | exact trivial | exact Or.inl rfl | exact Or.inr ⟨rfl,_,rfl⟩ | refine And.intro ?_ ?_))
    · have hq4:¬ faultV (alongV a m.p m).1≠0:=by simpa using hq4
      rw [prA_eq (step_ok hq hq2 hq3 hq4)]
      (repeat' (first | exact trivial | exact Or.inl rfl | exact Or.inr ⟨rfl,_,rfl⟩ | refine And.intro ?_ ?_))
theorem s_movedT (a:Val) (m:SX.Move) (ha:Mod a) (hm:ModM m):PSpec Tryd.prog 10 [.agg (encVal a),.agg (enc .move m)] (prA (stepV a m)) :=
  pspec_of_vcL Γ_good Tryd.func10 rfl Tryd.call10 Tryd.results10 Tryd.ntmps10 (Nat.le_of_ble_eq_true rfl) (w_movedT a m ha hm)
theorem modZ:Mod zeroV:=⟨vb_zero,by decide⟩
theorem mod_stepV {a:Val} {m:SX.Move} (ha:Mod a) (hm:ModM m):Mod (stepV a m).1:=by
  by_cases h:(stepV a m).2 = 0
  · exact mod_step ha hm h
  · have hz : (stepV a m).1 = zeroV := by
      unfold stepV at h ⊢
      (repeat' split)<;>first | rfl | (rename_i h1 h2 h3 h4; rw [if_neg h1,if_neg h2,if_neg h3,if_neg h4] at h; exact absurd rfl h)
    rw [hz]
    exact modZ
end
end Go.Proofs.YtmfchbkdakmjhaaDoor
end
section
namespace Go.Proofs.YtmfchbkdakmjhaaDoor
set_option linter.unusedSectionVars false
set_option linter.unusedSimpArgs false
set_option linter.unusedVariables false
open Go Go.SX Go.Ck Go.Vl Go.Ut Go.Up Go.Sp Go.Nm
set_option maxRecDepth 100000
set_option maxHeartbeats 1000000
def keyP (k:Str):PStep:=⟨k,-1⟩
def pathM (m:SX.Move):List PStep:=(m.p++[m.key]).map keyP
def opM (v:Val) (m:SX.Move):OpR :=
  if m.kind = 1 then ⟨4,pathM m,zeroV,m.to⟩ else if m.kind = 2 then ⟨3,pathM m,zeroV,[]⟩
  else if m.kind = 3 then ⟨2,pathM m,(ledV (stepV v m).1 (pathM m)).1,[]⟩ else ⟨1,pathM m,(ledV (stepV v m).1 (pathM m)).1,[]⟩
theorem stepF_key {k:Str} (h:keyS k = 0):stepF (keyP k) = 0:=by
  unfold keyS at h
  unfold stepF keyP
  simp only
  rw [if_neg (by omega)]
  exact h
theorem stepsF_keys:∀ {l:List Str},keysF l = 0→stepsF (l.map keyP) = 0
  | [],_=>rfl
  | k::r,h=>by
    rw [keysF] at h
    obtain ⟨h1,h2⟩:=orI_0 h
    rw [List.map_cons,stepsF,stepF_key h1,orI_zero]
    exact stepsF_keys h2
theorem keysF_pre:∀ {l m:List Str},keysF (l++m) = 0→keysF l = 0
  | [],_,_=>rfl
  | k::r,m,h=>by
    rw [List.cons_append,keysF] at h
    obtain ⟨h1,h2⟩:=orI_0 h
    rw [keysF,h1,orI_zero]
    exact keysF_pre h2
theorem pathF_move {m:SX.Move} (h:moveF m = 0):pathF (pathM m) = 0:=by
  have h2:=moveF_ok h
  unfold moveF at h
  rw [if_neg (by omega),if_neg (by omega)] at h
  obtain ⟨h3,_⟩:=orI_0 h
  have h4:keysF (m.p++[m.key]) = 0:=by
    unfold keysM at h3
    split at h3
    · exact keysF_pre h3
    · exact h3
  unfold pathF pathM
  rw [if_neg (by rw [List.length_map,List.length_append]; simp only [List.length_cons,List.length_nil]; omega)]
  exact stepsF_keys h4
theorem map_snoc {l:List Str} {i:Nat} (h:i < l.length):(l.take (i + 1)).map keyP = (l.take i).map keyP++[keyP l[i]]:=by
  rw [take_snoc h,List.map_append]
  rfl
theorem pathM_eq (m:SX.Move):pathM m = m.p.map keyP++[keyP m.key]:=by unfold pathM; rw [List.map_append]; rfl
def opsA (v:Val) (m:SX.Move):AV:=if (stepV v m).2≠0 then .tup [.nl,.i .i64 (stepV v m).2] else .tup [.rd .op [opM v m],.i .i64 0]
section
variable [G:Globs]
theorem w_ops (hp:HasPow) (hu:HasU8) (a:Val) (m:SX.Move) (ha:Mod a) (hm:ModM m):vc Tryd.prog Γ 67 [2,3,4,5,6,7,8,10,11,19,22,23,24,25,42,46,56,62] (Tryd.f16.body.getD .skip) (postK Γ [.tmp 4,.tmp 5] (fun v=>RL v (opsA a m))) ⟨argSlots 0 [.agg (encVal a),.agg (enc .move m)],[]⟩:=by
  have hA:=s_applyT hp hu a m ha hm
  have hw:=mod_stepV ha hm
  unfold prA at hA
  unfold opsA
  by_cases hq:(stepV a m).2≠0
  · rw [if_pos hq]
    refine Or.inl (Exists.intro _ (And.intro (hA) ?_))
    (repeat' (first | (refine And.intro (fun h=>?_) (fun h=>?_)<;>(try simp [-List.getD_eq_getElem?_getD,-Int.pred_toNat] at h)<;>(try (exfalso; first | omega | contradiction))) | (refine And.intro (rng64 (by omega) (by omega)) ?_) | (refine And.intro ⟨by omega,by omega⟩ ?_) | (refine And.intro ⟨by omega,by omega,by omega⟩ ?_) | (intro _)))
    (repeat' (first | exact trivial | exact Or.inl rfl | exact Or.inr ⟨rfl,_,rfl⟩ | refine And.intro ?_ ?_))
  · rw [if_neg hq]
    have hq:(stepV a m).2 = 0:=Decidable.not_not.1 hq
    obtain ⟨_,_,hmf,_⟩:=stepV_good hq
    have hpp:=pathF_move hmf
    have hmo:=moveF_ok hmf
    have hget:=s_get hu (stepV a m).1 (pathM m) hw.vn
    rw [show getA (stepV a m).1 (pathM m) = ledA (stepV a m).1 (pathM m) from by unfold getA ledA; rw [show getV (stepV a m).1 (pathM m) = ledV (stepV a m).1 (pathM m) from if_neg (by simp [hpp])]] at hget
    unfold ledA at hget
    refine Or.inl (Exists.intro _ (And.intro (hA) ?_))
    (repeat' (first | (refine And.intro (fun h=>?_) (fun h=>?_)<;>(try simp [-List.getD_eq_getElem?_getD,-Int.pred_toNat] at h)<;>(try (exfalso; first | omega | contradiction))) | (refine And.intro (rng64 (by omega) (by omega)) ?_) | (refine And.intro ⟨by omega,by omega⟩ ?_) | (refine And.intro ⟨by omega,by omega,by omega⟩ ?_) | (intro _)))
    refine Exists.intro [(8,60,.pstep)] (Exists.intro [] (Exists.intro [] (Exists.intro Nat (Exists.intro (fun i=>i≤m.p.length) (Exists.intro (fun i=>⟨[(3,.pt 3 0),(4,.nl),(5,.i .i64 0),(6,.pt 6 0),(8,.vec 60 .pstep ((m.p.take i).map keyP)),(22,.rd .str m.p),(23,.i .i64 m.p.length),(24,.i .i64 (i:Int))],[(3,enc .move m),(6,encVal (stepV a m).1)]⟩) (Exists.intro (fun i=>m.p.length - i) (Exists.intro 0 (And.intro (Nat.zero_le _) (And.intro ?_ ?_)))))))))
    · (repeat' (first | exact trivial | exact Or.inl rfl | exact Or.inr (Or.inl ⟨rfl,_,rfl⟩) | exact Or.inr (Or.inr (Or.inr ⟨_,_,_,rfl,rfl⟩)) | refine And.intro ?_ ?_))
    intro i hi
    refine And.intro (fun hz=>?_) (fun hz=>?_)
    · have hi2:=ltD hz
      have hg:=getI (τ:=.str) hi2
      have hln:((m.p.take i).map keyP).length = i:=by rw [List.length_map,List.length_take]; omega
      refine And.intro ⟨by omega,by omega⟩ ?_
      rw [hg]
      refine And.intro (show (((m.p.take i).map keyP).length + 1) * 24≤140737488355328 by omega) ?_
      (refine And.intro (rng64 (by omega) (by omega)) ?_)
      refine Exists.intro [(32,60)] (Exists.intro (i + 1) (And.intro hi2 (And.intro ?_ ?_)))
      · (repeat' (first | exact trivial | exact Or.inl rfl | exact Or.inl ((congrArg (fun l=>AV.vec 60 .pstep l) (map_snoc hi2).symm)) | refine And.intro ?_ ?_))
      · (exact Nat.sub_lt_sub_left (by omega) (by omega))
    · have hi2:=geD hi hz
      subst hi2
      have hpe:(m.p.take m.p.length).map keyP++[keyP m.key] = pathM m:=by rw [List.take_length,pathM_eq]
      have hln:((m.p.take m.p.length).map keyP).length = m.p.length:=by rw [List.length_map,List.length_take,Nat.min_self]
      refine And.intro (show (((m.p.take m.p.length).map keyP).length + 1) * 24≤140737488355328 by omega) ?_
      have hget2:PSpec Tryd.prog 51 [.agg (encVal (stepV a m).1),.rd .pstep ((m.p.take m.p.length).map keyP++[keyP m.key])] (.tup [.agg (encVal (ledV (stepV a m).1 (pathM m)).1),.i .i64 (ledV (stepV a m).1 (pathM m)).2]):=by rw [hpe]; exact hget
      by_cases h1:m.kind = 1
      · have hr:opM a m = ⟨4,(m.p.take m.p.length).map keyP++[keyP m.key],zeroV,m.to⟩:=by unfold opM; rw [if_pos h1,hpe]
        rw [hr]
        (repeat' (first | (refine And.intro (fun h=>?_) (fun h=>?_)<;>(try simp [-List.getD_eq_getElem?_getD,-Int.pred_toNat] at h)<;>(try (exfalso; first | omega | contradiction))) | (refine And.intro (rng64 (by omega) (by omega)) ?_) | (refine And.intro ⟨by omega,by omega⟩ ?_) | (refine And.intro ⟨by omega,by omega,by omega⟩ ?_) | (intro _)))
        refine Exists.intro [.take 0,.take 2,.two 1 3,.take 4,.one 5] (And.intro (by kernel_rfl) ?_)
        refine Exists.intro ⟨[(4,.nl),(5,.i .i64 0),(11,.pt 11 0),(59,.s m.to)],[(11,[.i .i64 4,.rd .pstep ((m.p.take m.p.length).map keyP++[keyP m.key]),.i .i64 0,.i .i64 0,.i .u64 0,.s [],.nl,.nl,.s []])]⟩ (And.intro ?_ (And.intro ?_ ?_))
        · (repeat' (first | exact trivial | exact Or.inl rfl | exact Or.inr (Or.inl ⟨rfl,_,rfl⟩) | exact Or.inr (Or.inr (Or.inr ⟨_,_,_,rfl,rfl⟩)) | refine And.intro ?_ ?_))
        · (repeat' (first | exact trivial | exact Or.inl rfl | exact Or.inr (Or.inl ⟨rfl,_,rfl⟩) | exact Or.inr (Or.inr (Or.inr ⟨_,_,_,rfl,rfl⟩)) | refine And.intro ?_ ?_))
        (repeat' (first | exact trivial | exact Or.inl rfl | exact Or.inr ⟨rfl,_,rfl⟩ | refine And.intro ?_ ?_))
      · by_cases h2:m.kind = 2
        · have hr:opM a m = ⟨3,(m.p.take m.p.length).map keyP++[keyP m.key],zeroV,[]⟩:=by unfold opM; rw [if_neg h1,if_pos h2,hpe]
          rw [hr]
          (repeat' (first | (refine And.intro (fun h=>?_) (fun h=>?_)<;>(try simp [-List.getD_eq_getElem?_getD,-Int.pred_toNat] at h)<;>(try (exfalso; first | omega | contradiction))) | (refine And.intro (rng64 (by omega) (by omega)) ?_) | (refine And.intro ⟨by omega,by omega⟩ ?_) | (refine And.intro ⟨by omega,by omega,by omega⟩ ?_) | (intro _)))
          (repeat' (first | exact trivial | exact Or.inl rfl | exact Or.inr ⟨rfl,_,rfl⟩ | refine And.intro ?_ ?_))
        · by_cases h3:m.kind = 3
          · have hr:opM a m = ⟨2,(m.p.take m.p.length).map keyP++[keyP m.key],(ledV (stepV a m).1 (pathM m)).1,[]⟩:=by unfold opM; rw [if_neg h1,if_neg h2,if_pos h3,hpe]
            rw [hr]
            generalize ledV (stepV a m).1 (pathM m) = W at hget2
            obtain ⟨⟨wk,wn,wf,ws,wl,we⟩,e⟩:=W
            (repeat' (first | (refine And.intro (fun h=>?_) (fun h=>?_)<;>(try simp [-List.getD_eq_getElem?_getD,-Int.pred_toNat] at h)<;>(try (exfalso; first | omega | contradiction))) | (refine And.intro (rng64 (by omega) (by omega)) ?_) | (refine And.intro ⟨by omega,by omega⟩ ?_) | (refine And.intro ⟨by omega,by omega,by omega⟩ ?_) | (intro _)))
            refine Or.inl (Exists.intro _ (And.intro (hget2) ?_))
            (repeat' (first | exact trivial | exact Or.inl rfl | exact Or.inr ⟨rfl,_,rfl⟩ | refine And.intro ?_ ?_))
          · have hr:opM a m = ⟨1,(m.p.take m.p.length).map keyP++[keyP m.key],(ledV (stepV a m).1 (pathM m)).1,[]⟩:=by unfold opM; rw [if_neg h1,if_neg h2,if_neg h3,hpe]
            rw [hr]
            generalize ledV (stepV a m).1 (pathM m) = W at hget2
            obtain ⟨⟨wk,wn,wf,ws,wl,we⟩,e⟩:=W
            (repeat' (first | (refine And.intro (fun h=>?_) (fun h=>?_)<;>(try simp [-List.getD_eq_getElem?_getD,-Int.pred_toNat] at h)<;>(try (exfalso; first | omega | contradiction))) | (refine And.intro (rng64 (by omega) (by omega)) ?_) | (refine And.intro ⟨by omega,by omega⟩ ?_) | (refine And.intro ⟨by omega,by omega,by omega⟩ ?_) | (intro _)))
            refine Or.inl (Exists.intro _ (And.intro (hget2) ?_))
            (repeat' (first | exact trivial | exact Or.inl rfl | exact Or.inr ⟨rfl,_,rfl⟩ | refine And.intro ?_ ?_))
theorem s_ops (hp:HasPow) (hu:HasU8) (a:Val) (m:SX.Move) (ha:Mod a) (hm:ModM m):PSpec Tryd.prog 16 [.agg (encVal a),.agg (enc .move m)] (opsA a m) :=
  pspec_of_vcL Γ_good Tryd.func16 rfl Tryd.call16 Tryd.results16 Tryd.ntmps16 (Nat.le_of_ble_eq_true rfl) (w_ops hp hu a m ha hm)
theorem w_opOf (a:Val) (m:SX.Move) (ha:Mod a) (hm:ModM m) (hq:(stepV a m).2 = 0):vc Tryd.prog Γ 69 [2,3,4,5,7,8,17,18,19,20,38,48,54,57] (Tryd.f18.body.getD .skip) (postK Γ [.cell 4 46] (fun v=>RL v (.agg (enc .op (opM a m))))) ⟨argSlots 0 [.agg (encVal a),.agg (enc .move m)],[]⟩:=by
  have hA:=s_movedT a m ha hm
  have hw:=mod_stepV ha hm
  unfold prA at hA
  obtain ⟨_,_,hmf,_⟩:=stepV_good hq
  have hmo:=moveF_ok hmf
  have hled:=s_Led (pathM m) (stepV a m).1 (fun p hp=>by
    obtain ⟨k,_,rfl⟩:=List.mem_map.1 hp
    exact Int.le_refl _)
  unfold ledA at hled
  let l:List Str:=m.p++[m.key]
  have hln:l.length = m.p.length + 1:=by
    show (m.p++[m.key]).length = _
    rw [List.length_append]
    rfl
  (repeat' (first | (refine And.intro (fun h=>?_) (fun h=>?_)<;>(try simp [-List.getD_eq_getElem?_getD,-Int.pred_toNat] at h)<;>(try (exfalso; first | omega | contradiction))) | (refine And.intro (rng64 (by omega) (by omega)) ?_) | (refine And.intro ⟨by omega,by omega⟩ ?_) | (refine And.intro ⟨by omega,by omega,by omega⟩ ?_) | (intro _)))
  refine Exists.intro [.take 0,.take 3,.take 8,.tree 4 [1,2,4,5] (.opt 1 (.opt 2 (.opt 4 (.opt 5 .fin .non) .non) (.opt 4 (.opt 2 (.opt 5 .fin .non) (.opt 5 (.opt 2 .fin .non) .non)) .non)) (.opt 4 (.opt 1 (.opt 2 (.opt 5 .fin .non) (.opt 5 (.opt 2 .fin .non) .non)) (.opt 5 (.opt 1 (.opt 2 .fin .non) .non) .non)) .non)),.one 6,.take 7] (And.intro (by kernel_rfl) ?_)
  have hb:m.p.length * 16≤140737488355328:=by omega
  refine Exists.intro ⟨[(2,.pt 2 0),(3,.pt 3 0),(4,.pt 4 0),(5,.pt 5 0),(13,.vec 13 .str m.p),(16,.vec 16 .str [m.key]),(19,.i .i64 0)],[(2,encVal a),(3,enc .move m),(4,[.i .i64 0,.nl,.i .i64 0,.i .i64 0,.i .u64 0,.s [],.nl,.nl,.s []]),(5,[.i .i64 0,.nl,.i .i64 0,.i .i64 0,.i .u64 0,.s [],.nl,.nl,.s []])]⟩ (And.intro ?_ ?_)
  · (repeat' (first | exact trivial | exact Or.inl rfl | exact hb | refine And.intro ?_ ?_))
  refine And.intro (show (m.p.length + 1) * 16≤140737488355328 by omega) ?_
  (repeat' (first | (refine And.intro (fun h=>?_) (fun h=>?_)<;>(try simp [-List.getD_eq_getElem?_getD,-Int.pred_toNat] at h)<;>(try (exfalso; first | omega | contradiction))) | (refine And.intro (rng64 (by omega) (by omega)) ?_) | (refine And.intro ⟨by omega,by omega⟩ ?_) | (refine And.intro ⟨by omega,by omega,by omega⟩ ?_) | (intro _)))
  refine Exists.intro [] (Exists.intro [(5,1,60,.pstep)] (Exists.intro [(999,17)] (Exists.intro Nat (Exists.intro (fun i=>i≤l.length) (Exists.intro (fun i=>⟨[(2,.pt 2 0),(3,.pt 3 0),(4,.pt 4 0),(5,.pt 5 0),(17,.rd .str l),(18,.i .i64 l.length),(19,.i .i64 (i:Int))],[(2,encVal a),(3,enc .move m),(4,[.i .i64 0,.nl,.i .i64 0,.i .i64 0,.i .u64 0,.s [],.nl,.nl,.s []]),(5,[.i .i64 0,.vec 60 .pstep ((l.take i).map keyP),.i .i64 0,.i .i64 0,.i .u64 0,.s [],.nl,.nl,.s []])]⟩) (Exists.intro (fun i=>l.length - i) (Exists.intro 0 (And.intro (Nat.zero_le _) (And.intro ?_ ?_)))))))))
  · (repeat' (first | exact trivial | exact Or.inl rfl | exact Or.inr (Or.inl ⟨rfl,_,rfl⟩) | exact Or.inr (Or.inr (Or.inr ⟨_,_,_,rfl,rfl⟩)) | refine And.intro ?_ ?_))
  intro i hi
  refine And.intro (fun hz=>?_) (fun hz=>?_)
  · have hi2:=ltD hz
    have hg:=getI (τ:=.str) hi2
    have hll:((l.take i).map keyP).length = i:=by rw [List.length_map,List.length_take]; omega
    refine And.intro ⟨by omega,by omega⟩ ?_
    rw [hg]
    refine And.intro (show (((l.take i).map keyP).length + 1) * 24≤140737488355328 by omega) ?_
    (refine And.intro (rng64 (by omega) (by omega)) ?_)
    refine Exists.intro [(28,60)] (Exists.intro (i + 1) (And.intro hi2 (And.intro ?_ ?_)))
    · (repeat' (first | exact trivial | exact Or.inl rfl | exact Or.inl ((congrArg (fun x=>AV.vec 60 .pstep x) (map_snoc hi2).symm)) | refine And.intro ?_ ?_))
    · (exact Nat.sub_lt_sub_left (by omega) (by omega))
  · have hi2:=geD hi hz
    subst hi2
    have hpe:(l.take l.length).map keyP = pathM m:=by rw [List.take_length]; rfl
    rw [← hpe] at hled
    refine Or.inl (Exists.intro _ (And.intro (hA) ?_))
    by_cases h1:m.kind = 1
    · have hr:opM a m = ⟨4,(l.take l.length).map keyP,zeroV,m.to⟩:=by unfold opM; rw [if_pos h1,hpe]
      rw [hr]
      (repeat' (first | (refine And.intro (fun h=>?_) (fun h=>?_)<;>(try simp [-List.getD_eq_getElem?_getD,-Int.pred_toNat] at h)<;>(try (exfalso; first | omega | contradiction))) | (refine And.intro (rng64 (by omega) (by omega)) ?_) | (refine And.intro ⟨by omega,by omega⟩ ?_) | (refine And.intro ⟨by omega,by omega,by omega⟩ ?_) | (intro _)))
      refine Exists.intro [.take 0,.take 2,.two 1 3,.take 4,.one 5] (And.intro (by kernel_rfl) ?_)
      refine Exists.intro ⟨[(4,.pt 4 0),(5,.pt 5 0),(51,.s m.to)],[(4,[.i .i64 0,.nl,.i .i64 0,.i .i64 0,.i .u64 0,.s [],.nl,.nl,.s []]),(5,[.i .i64 4,.vec 60 .pstep ((l.take l.length).map keyP),.i .i64 0,.i .i64 0,.i .u64 0,.s [],.nl,.nl,.s []])]⟩ (And.intro ?_ (And.intro ?_ ?_))
      · (repeat' (first | exact trivial | exact Or.inl rfl | exact Or.inr (Or.inl ⟨rfl,_,rfl⟩) | exact Or.inr (Or.inr (Or.inr ⟨_,_,_,rfl,rfl⟩)) | refine And.intro ?_ ?_))
      · (repeat' (first | exact trivial | exact Or.inl rfl | exact Or.inr (Or.inl ⟨rfl,_,rfl⟩) | exact Or.inr (Or.inr (Or.inr ⟨_,_,_,rfl,rfl⟩)) | refine And.intro ?_ ?_))
      (repeat' (first | exact trivial | exact Or.inl rfl | exact Or.inr ⟨rfl,_,rfl⟩ | refine And.intro ?_ ?_))
    · by_cases h2:m.kind = 2
      · have hr:opM a m = ⟨3,(l.take l.length).map keyP,zeroV,[]⟩:=by unfold opM; rw [if_neg h1,if_pos h2,hpe]
        rw [hr]
        (repeat' (first | (refine And.intro (fun h=>?_) (fun h=>?_)<;>(try simp [-List.getD_eq_getElem?_getD,-Int.pred_toNat] at h)<;>(try (exfalso; first | omega | contradiction))) | (refine And.intro (rng64 (by omega) (by omega)) ?_) | (refine And.intro ⟨by omega,by omega⟩ ?_) | (refine And.intro ⟨by omega,by omega,by omega⟩ ?_) | (intro _)))
        (repeat' (first | exact trivial | exact Or.inl rfl | exact Or.inr ⟨rfl,_,rfl⟩ | refine And.intro ?_ ?_))
      · by_cases h3:m.kind = 3
        · have hr:opM a m = ⟨2,(l.take l.length).map keyP,(ledV (stepV a m).1 ((l.take l.length).map keyP)).1,[]⟩:=by unfold opM; rw [if_neg h1,if_neg h2,if_pos h3,hpe]
          rw [hr]
          (repeat' (first | (refine And.intro (fun h=>?_) (fun h=>?_)<;>(try simp [-List.getD_eq_getElem?_getD,-Int.pred_toNat] at h)<;>(try (exfalso; first | omega | contradiction))) | (refine And.intro (rng64 (by omega) (by omega)) ?_) | (refine And.intro ⟨by omega,by omega⟩ ?_) | (refine And.intro ⟨by omega,by omega,by omega⟩ ?_) | (intro _)))
          refine Or.inl (Exists.intro _ (And.intro (hled) ?_))
          (repeat' (first | exact trivial | exact Or.inl rfl | exact Or.inr ⟨rfl,_,rfl⟩ | refine And.intro ?_ ?_))
        · have hr:opM a m = ⟨1,(l.take l.length).map keyP,(ledV (stepV a m).1 ((l.take l.length).map keyP)).1,[]⟩:=by unfold opM; rw [if_neg h1,if_neg h2,if_neg h3,hpe]
          rw [hr]
          (repeat' (first | (refine And.intro (fun h=>?_) (fun h=>?_)<;>(try simp [-List.getD_eq_getElem?_getD,-Int.pred_toNat] at h)<;>(try (exfalso; first | omega | contradiction))) | (refine And.intro (rng64 (by omega) (by omega)) ?_) | (refine And.intro ⟨by omega,by omega⟩ ?_) | (refine And.intro ⟨by omega,by omega,by omega⟩ ?_) | (intro _)))
          refine Or.inl (Exists.intro _ (And.intro (hled) ?_))
          (repeat' (first | exact trivial | exact Or.inl rfl | exact Or.inr ⟨rfl,_,rfl⟩ | refine And.intro ?_ ?_))
theorem s_opOf (a:Val) (m:SX.Move) (ha:Mod a) (hm:ModM m) (hq:(stepV a m).2 = 0):PSpec Tryd.prog 18 [.agg (encVal a),.agg (enc .move m)] (.agg (enc .op (opM a m))) :=
  pspec_of_vcL Γ_good Tryd.func18 rfl Tryd.call18 Tryd.results18 Tryd.ntmps18 (Nat.le_of_ble_eq_true rfl) (w_opOf a m ha hm hq)
theorem vb_opM {a:Val} {m:SX.Move} (ha:Mod a) (hm:ModM m):VB (opM a m).v:=by
  have hl:VB (ledV (stepV a m).1 (pathM m)).1:=ledV_keep (R:=VB) vb_zero (fun v h x hx=>(vw_of_vb h).part hx |>.vb) (pathM m) _ (mod_stepV ha hm).vb
  unfold opM
  split
  · exact vb_zero
  · split
    · exact vb_zero
    · split
      · exact hl
      · exact hl
theorem w_lawM (hp:HasPow) (hu:HasU8) (a:Val) (m:SX.Move) (ha:Mod a) (hm:ModM m):vc Tryd.prog Γ 47 [2,3,4,5,6,7,8,22] (Tryd.f5.body.getD .skip) (postK Γ [.tmp 4] (fun v=>v = .b true)) ⟨argSlots 0 [.agg (encVal a),.agg (enc .move m)],[]⟩:=by
  have hO:=s_ops hp hu a m ha hm
  have hA:=s_movedT a m ha hm
  unfold prA at hA
  unfold opsA at hO
  by_cases hq:(stepV a m).2≠0
  · rw [if_pos hq] at hO
    refine Or.inl (Exists.intro _ (And.intro (hO) ?_))
    refine Or.inl (Exists.intro _ (And.intro (hA) ?_))
    (repeat' (first | (refine And.intro (fun h=>?_) (fun h=>?_)<;>(try simp [-List.getD_eq_getElem?_getD,-Int.pred_toNat] at h)<;>(try (exfalso; first | omega | contradiction))) | (refine And.intro (rng64 (by omega) (by omega)) ?_) | (refine And.intro ⟨by omega,by omega⟩ ?_) | (refine And.intro ⟨by omega,by omega,by omega⟩ ?_) | (intro _)))
    exact congrArg AV.b (beq_self_eq_true (stepV a m).2)
  · rw [if_neg hq] at hO
    have hq:(stepV a m).2 = 0:=Decidable.not_not.1 hq
    refine Or.inl (Exists.intro _ (And.intro (hO) ?_))
    refine Or.inl (Exists.intro _ (And.intro (hA) ?_))
    (repeat' (first | (refine And.intro (fun h=>?_) (fun h=>?_)<;>(try simp [-List.getD_eq_getElem?_getD,-Int.pred_toNat] at h)<;>(try (exfalso; first | omega | contradiction))) | (refine And.intro (rng64 (by omega) (by omega)) ?_) | (refine And.intro ⟨by omega,by omega⟩ ?_) | (refine And.intro ⟨by omega,by omega,by omega⟩ ?_) | (intro _)))
    refine Exists.intro [.blk [0,1,2,3,4,5,6,7,8,9,10,11,12,13,14,15,16]] (And.intro (by kernel_rfl) ?_)
    refine And.intro (fun _=>?_) (fun h=>by cases h)
    refine And.intro (fun _=>?_) (fun h=>by cases h)
    (repeat' (first | (refine And.intro (fun h=>?_) (fun h=>?_)<;>(try simp [-List.getD_eq_getElem?_getD,-Int.pred_toNat] at h)<;>(try (exfalso; first | omega | contradiction))) | (refine And.intro (rng64 (by omega) (by omega)) ?_) | (refine And.intro ⟨by omega,by omega⟩ ?_) | (refine And.intro ⟨by omega,by omega,by omega⟩ ?_) | (intro _)))
    refine And.intro ⟨Int.le_refl 0,Int.zero_lt_one⟩ ?_
    change forceL (enc Ty.op (opM a m)) _
    refine Exists.intro _ (And.intro (s_opOf a m ha hm hq) ?_)
    refine Exists.intro _ (And.intro (s_sameOp (opM a m) (vb_opM ha hm)) ?_)
    rfl
theorem s_lawM (hp:HasPow) (hu:HasU8) (a:Val) (m:SX.Move) (ha:Mod a) (hm:ModM m):PSpec Tryd.prog 5 [.agg (encVal a),.agg (enc .move m)] (.b true) :=
  pspec_of_vc Γ_good Tryd.func5 rfl Tryd.call5 Tryd.results5 Tryd.ntmps5 (Nat.le_of_ble_eq_true rfl) (w_lawM hp hu a m ha hm)
end
end Go.Proofs.YtmfchbkdakmjhaaDoor
end
section
namespace Go.SX
set_option linter.unusedSectionVars false
set_option linter.unusedVariables false
set_option linter.unusedSimpArgs false
open Go.RowKit Go.WideShapes Go.ChangeShapes Go.Deep
structure STy (P:Program) (T:TypeId) where
  (fs:Array Field) (K S:TypeId)
  hT:P.underlying T = some (.struct fs)
  sz:fs.size = 2
  cT:P.cellsOf T = 2
  h0:HasF fs 0 0 S
  h1:HasF fs 1 1 K
  uK:P.underlying K = some (.int .i64)
  uS:P.underlying S = some .string
  c:P.cellsOf K = 1∧P.cellsOf S = 1
structure OTy (P:Program) (T:TypeId) where
  (fs:Array Field) (K S Q V St:TypeId) (Tv:VTy P V) (S':STy P St)
  hT:P.underlying T = some (.struct fs)
  sz:fs.size = 4
  cT:P.cellsOf T = 9
  h0:HasF fs 0 0 K
  h1:HasF fs 1 1 Q
  h2:HasF fs 2 2 V
  h3:HasF fs 3 8 S
  uK:P.underlying K = some (.int .i64)
  uS:P.underlying S = some .string
  uQ:P.underlying Q = some (.slice St)
  c:P.cellsOf K = 1∧P.cellsOf S = 1∧P.cellsOf Q = 1
section
variable [Globs]
variable {H:Type} {encH:TypeId × Value→H} {P:Program} {W:World} {sp:Nat→Bool} {hd:Bool} {O:Nat→Prop} {bk:DataW H→Nat}
end
end Go.SX
end
section
namespace Go.SX
set_option linter.unusedSectionVars false
set_option linter.unusedVariables false
set_option linter.unusedSimpArgs false
open Go.RowKit Go.WideShapes Go.ChangeShapes Go.Deep
def bkT (s:Str):Nat:=s.length + 1
def bkM (m:Move):Nat:=bkV m.v + m.key.length + m.to.length + (m.p.map bkT).sum + 1
section
variable [Globs]
variable {H:Type} {encH:TypeId × Value→H} {P:Program} {W:World} {sp:Nat→Bool} {hd:Bool} {O:Nat→Prop} {bk:DataW H→Nat}
theorem arg_moveS {T : TypeId} (hbk : BulkS bk) (S : MTy P T) (hs : S.T.fs.size = 6) (hs2 : S.T.gs.size = 2) (hs3 : S.fs.size = 5) (hO : ∀ k, ¬ O k) {fuel : Nat} {cs : List Value} {x : DataW H × List MemPlace} (h : DataW.trod encH P W 0 sp hd fuel T cs = some x) :
    ∃ y:Move,All2 (Im O W) (enc .move y) cs∧bkM y≤bk x.1∧MB y:=by
  obtain ⟨n,ds,rfl,hl,hag,hds,hf⟩:=one_fieldS S.hM h
  rw [S.cM] at hl
  rw [hs3] at hds
  obtain ⟨c0,c1,c2⟩:=S.c
  match cs,hl,ds,hds with
  | [u0,u1,u2,u3,u4,u5,u6,u7,u8,u9],_,[d0,d1,d2,d3,d4],_ =>
    obtain ⟨y0,q0,k0⟩:=hf 0 0 _ S.h0
    obtain ⟨y1,q1,k1⟩:=hf 1 1 _ S.h1
    obtain ⟨y2,q2,k2⟩:=hf 2 2 _ S.h2
    obtain ⟨y3,q3,k3⟩:=hf 3 3 _ S.h3
    obtain ⟨y4,q4,k4⟩:=hf 4 4 _ S.h4
    simp only [List.getElem?_cons_zero,List.getElem?_cons_succ,Option.some.injEq] at k0 k1 k2 k3 k4
    subst k0 k1 k2 k3 k4
    rw [c0] at q0
    rw [c1] at q1
    rw [c2] at q2 q3
    rw [S.T.cV] at q4
    obtain ⟨k,e0,i0,w0⟩:=arg_int (O:=O) S.uK q0
    obtain ⟨p,vp,e1,i1,z1,_⟩:=arg_sliceS (O:=O) (τ:=.str) (m:=bkT) (R:=fun _=>True) hbk hO S.uQ c2 (fun n' hn cs' x' hx=>by
      obtain ⟨ks,kv,d0,j0,zz⟩:=arg_strS (O:=O) hbk S.uS hx
      subst d0
      exact ⟨ks,All2.cons j0 (All2.nil _),zz,trivial⟩) q1
    obtain ⟨s,vs,e2,i2,z2⟩:=arg_strS (O:=O) hbk S.uS q2
    obtain ⟨s',vs',e3,i3,z3⟩:=arg_strS (O:=O) hbk S.uS q3
    obtain ⟨y,j1,hyb,hy⟩:=arg_valS (O:=O) hbk S.T hs hs2 hO _ _ _ q4
    simp at e0 e1 e2 e3
    subst e0 e1 e2 e3
    refine ⟨⟨k,p,s,s',y⟩,All2.cons i0 (All2.cons i1 (All2.cons i2 (All2.cons i3 (by simpa using j1)))),?_,wf_i64 w0,hy⟩
    have h9:=hbk.ag [y0.1,y1.1,y2.1,y3.1,y4.1]
    have p0:=hbk.pos y0.1
    rw [hag]
    refine Nat.le_trans ?_ h9
    simp only [bkM,List.map_cons,List.map_nil,List.sum_cons,List.sum_nil]
    omega
end
end Go.SX
end
section
namespace Go.Proofs.YtmfchbkdakmjhaaDoor.moveTells
set_option linter.unusedSectionVars false
set_option linter.unusedSimpArgs false
set_option linter.unusedVariables false
open Go Go.SX Go.Ck Go.Vl Go.Up Go.Sp
open Go.ChangeShapes Go.WideShapes Go.ChangeAt Go.RowKit
set_option maxRecDepth 100000
theorem own:ownKnob Tryd.prog.godebug = none:=by kernel_rfl
theorem laidOut:laidOutB Tryd.prog = true:=by kernel_rfl
theorem cell_block {w:World} {g o:Nat} {k:IntKind} {n:Int} (h:w.cell? ⟨g,o,none⟩ = some (.int k n)):∃ cur e fz,w.heap[g]? = some (.cells cur e fz)∧cur[o]? = some (.int k n):=by
  unfold World.cell? at h
  split at h
  · rename_i cur e fz hh
    exact ⟨_,_,_,hh,by simpa using h⟩
  · cases h
noncomputable def vty [G:Globs]:VTy Tryd.prog 26 where
  fs:=_
  gs:=_
  K:=3
  N:=2
  U:=22
  S:=9
  L:=23
  E:=24
  En:=113
  hV:=Tryd.underlying26
  cV:=by kernel_rfl
  h0:=⟨_,rfl,rfl,rfl⟩
  h1:=⟨_,rfl,rfl,rfl⟩
  h2:=⟨_,rfl,rfl,rfl⟩
  h3:=⟨_,rfl,rfl,rfl⟩
  h4:=⟨_,rfl,rfl,rfl⟩
  h5:=⟨_,rfl,rfl,rfl⟩
  uK:=Tryd.underlying3
  uN:=Tryd.underlying2
  uU:=Tryd.underlying22
  uS:=Tryd.underlying9
  uL:=Tryd.underlying23
  uE:=Tryd.underlying24
  c:=⟨by kernel_rfl,by kernel_rfl,by kernel_rfl,by kernel_rfl,by kernel_rfl,by kernel_rfl⟩
  hE:=Tryd.underlying113
  cE:=by kernel_rfl
  g0:=⟨_,rfl,rfl,rfl⟩
  g1:=⟨_,rfl,rfl,rfl⟩
noncomputable def mty [G:Globs]:MTy Tryd.prog 29 where
  fs:=_
  K:=3
  Q:=27
  S:=9
  V:=26
  T:=vty
  hM:=Tryd.underlying29
  cM:=by kernel_rfl
  h0:=⟨_,rfl,rfl,rfl⟩
  h1:=⟨_,rfl,rfl,rfl⟩
  h2:=⟨_,rfl,rfl,rfl⟩
  h3:=⟨_,rfl,rfl,rfl⟩
  h4:=⟨_,rfl,rfl,rfl⟩
  uK:=Tryd.underlying3
  uQ:=Tryd.underlying27
  uS:=Tryd.underlying9
  c:=⟨by kernel_rfl,by kernel_rfl,by kernel_rfl⟩
theorem bulk_pos {H:Type} (d:DataW H):1≤Rows.uptoBulk d:=by
  cases d with
  | lit l=>cases l<;>simp [Rows.uptoBulk]
  | _=>simp [Rows.uptoBulk]
theorem bulk_sum {H:Type}:∀ ds:List (DataW H),Rows.uptoBulkAll ds = (ds.map Rows.uptoBulk).sum
  | []=>by simp [Rows.uptoBulkAll]
  | d::ds=>by simp [Rows.uptoBulkAll,bulk_sum ds]
theorem bulk_law {H:Type}:BulkS (H:=H) Rows.uptoBulk where
  sl:=fun els rest=>by
    have:=bulk_sum els
    simp only [Rows.uptoBulk]
    omega
  ag:=fun ds=>by
    have:=bulk_sum ds
    simp only [Rows.uptoBulk]
    omega
  st:=fun b=>by simp [Rows.uptoBulk]
  pos:=bulk_pos
theorem arg_vl {H : Type} {enc : TypeId × Value → H} {W : World} {v : Value} {d : DataW H} {ps : List MemPlace} {r : Reach} {b : Nat} (hval : Value.okWide Tryd.prog W r b 26 v)
    (h:DataW.Trod enc Tryd.prog W 0 (fun _=>true) true 26 v d ps):∃ y:Val,Im (fun _=>False) W (.agg (encVal y)) v∧VB y∧bkV y≤Rows.uptoBulk d:=by
  obtain ⟨cs,rfl,_⟩:=okWide_struct Tryd.underlying26 hval
  obtain ⟨fuel,hf⟩:=h
  letI:Globs:=⟨[]⟩
  obtain ⟨y,h1,h3,h2⟩:=arg_valS (O:=fun _=>False) bulk_law vty rfl rfl (fun _ h=>h) fuel _ _ hf
  have h1:All2 (Im (fun _=>False) W) (encVal y) cs.toList:=h1
  obtain ⟨l⟩:=cs
  refine ⟨y,.agg _ l h1.1 (fun v hv=>?_) h1.2,h2,h3⟩
  obtain ⟨j,hj,rfl⟩:=List.getElem_of_mem hv
  have hj':j < (encVal y).length:=by rw [h1.1]; exact hj
  exact plain_one (h1.2 j _ _ (List.getElem?_eq_getElem hj') (List.getElem?_eq_getElem hj)) (enc_plain .val y _ (List.getElem_mem hj'))
theorem arg_mv {H : Type} {enc : TypeId × Value → H} {W : World} {v : Value} {d : DataW H} {ps : List MemPlace} {r : Reach} {b : Nat} (hval : Value.okWide Tryd.prog W r b 29 v)
    (h:DataW.Trod enc Tryd.prog W 0 (fun _=>true) true 29 v d ps):∃ y:SX.Move,Im (fun _=>False) W (.agg (SX.enc .move y)) v∧MB y∧bkM y≤Rows.uptoBulk d:=by
  obtain ⟨cs,rfl,_⟩:=okWide_struct Tryd.underlying29 hval
  obtain ⟨fuel,hf⟩:=h
  letI:Globs:=⟨[]⟩
  obtain ⟨y,h1,h3,h2⟩:=arg_moveS (O:=fun _=>False) bulk_law mty rfl rfl rfl (fun _ h=>h) hf
  have h1:All2 (Im (fun _=>False) W) (SX.enc .move y) cs.toList:=h1
  obtain ⟨l⟩:=cs
  refine ⟨y,.agg _ l h1.1 (fun v hv=>?_) h1.2,h2,h3⟩
  obtain ⟨j,hj,rfl⟩:=List.getElem_of_mem hv
  have hj':j < (SX.enc .move y).length:=by rw [h1.1]; exact hj
  exact plain_one (h1.2 j _ _ (List.getElem?_eq_getElem hj') (List.getElem?_eq_getElem hj)) (enc_plain .move y _ (List.getElem_mem hj'))
theorem tabIs_of_reads {P : Program} {W : World} {name : String} {k : IntKind} {zs : List Int} {g : Nat} {t e : TypeId} {n : Nat}
    (hg:P.globalNamed name = some g) (hty:(P.globals[g]?).map (·.type) = some t) (ht:P.underlying t = some (.array n e)) (he:P.underlying e = some (.int k)) (hce:P.cellsOf e = 1) (hct:P.cellsOf t = n)
    (h:Lib.VarReads P W name (Lib.tabData k zs)):Lib.TabIs P W name k zs:=by
  obtain ⟨g',t',cs,fuel,p,hg',ht',hvar,hd⟩:=h
  obtain rfl:=Option.some.inj (hg.symm.trans hg')
  obtain rfl:=Option.some.inj (hty.symm.trans ht')
  unfold Lib.TabIs
  rw [hvar,← Lib.cells_of_tab ht he hce hct hd]
theorem tabIs_block {P:Program} {W w:World} {name:String} {k:IntKind} {zs:List Int} {g:Nat} (hg:P.globalNamed name = some g) (hh:w.heap[g]? = W.heap[g]?) (h:Lib.TabIs P W name k zs):Lib.TabIs P w name k zs:=by
  unfold Lib.TabIs World.var? at *
  rw [hg] at h ⊢
  simp only [Option.bind_some] at h ⊢
  rw [hh]
  exact h
theorem contract (H : Type) (enc : TypeId × Value → H) (W : World) (base : Nat) (args : Array Value) (ds gs : List (DataW H)) (before : List MemPlace)
    (hval:∀ (j:Nat) t v,Tryd.f5.params[j]? = some t→args[j]? = some v→Value.okWide Tryd.prog W .any base t v)
    (hW:DataW.Whole enc Tryd.prog Tryd.f5.params.toList Rows.moveTellsSpec.vars false W args.toList ds gs before) (hk:Rows.uptoSmall H (ds++gs) = true) (hL:laidMetH Tryd.prog Rows.moveTellsUptoRow.laid W) :
    Calls Tryd.prog 5 args W fun e W'=>∃ v,e = .returned v∧Rows.moveTellsSpec.post enc Tryd.prog Tryd.f5 false true false false W args v W':=by
  have hW':=hW
  obtain ⟨p,q,hA0,hV,rfl,hfz,hnd⟩:=hW
  have hA:DataW.TrodAll enc Tryd.prog W 0 (fun _=>true) true Tryd.f5.params.toList args.toList ds p:=hA0
  rw [Tryd.params5] at hA hval
  obtain ⟨v0,vs0,d0,ds0,p0,q0,hargs0,rfl,rfl,h0,r0⟩:=trodAll_cons hA
  obtain ⟨v1,vs1,d1,ds1,p1,q1,hargs1,rfl,rfl,h1,r1⟩:=trodAll_cons r0
  obtain ⟨rfl,rfl,rfl⟩:=trodAll_nil r1
  obtain rfl:args = #[v0,v1]:=by cases args; simp_all
  obtain ⟨rfl,rfl⟩:=trodVars_none hV
  obtain ⟨a0,i0,b0,bn0⟩:=arg_vl (hval 0 26 v0 rfl rfl) h0
  obtain ⟨o1,i1,b1,bn1⟩:=arg_mv (hval 1 29 v1 rfl rfl) h1
  have hW'':=hW'
  have bk:Rows.uptoBulkAll _≤1048576:=of_decide_eq_true hk
  simp only [List.append_nil,List.cons_append,List.nil_append,Rows.uptoBulkAll,Rows.uptoBulk,Array.length_toList] at bk
  have hL':laidMet Tryd.prog Rows.moveTellsUptoRow.laid W:=hL
  have hU:Lib.Utf8Tabs 1 2 W:=utf8Tabs_of_reads (ρ:=Tryd.lays260_ren) Tryd.lays260 ⟨by kernel_rfl,by kernel_rfl,by kernel_rfl,by kernel_rfl,by kernel_rfl,by kernel_rfl,by kernel_rfl⟩ (by have:=Lib.laidMet.reads hL' (.tail _ (.tail _ (.tail _ (.tail _ (.head _))))); rw [show Rows.laid_unicode_utf8_first = Lib.firstData from Pinned.utf8First_eq] at this; exact this) (by have:=Lib.laidMet.reads hL' (.tail _ (.tail _ (.tail _ (.head _)))); rw [show Rows.laid_unicode_utf8_acceptRanges = Lib.acceptData by kernel_rfl] at this; exact this)
  have hp10 : Lib.TabIs Tryd.prog W "internal/strconv.uint64pow10" .u64 Lib.pow10Tab := tabIs_of_reads (g := 0) (t := 199) (e := 22) (n := 20) (by kernel_rfl) (by kernel_rfl) Tryd.underlying199 Tryd.underlying22 (by kernel_rfl) (by kernel_rfl) (by have := Lib.laidMet.reads hL' (.tail _ (.tail _ (.head _))); rw [show Rows.laid_internal_strconv_uint64pow10 = Lib.tabData .u64 Lib.pow10Tab by kernel_rfl] at this; exact this)
  have g0 : Tryd.prog.globalNamed "internal/strconv.uint64pow10" = some 0 := by kernel_rfl
  obtain ⟨curp,ep,fzp,hhp,_⟩:=cell_block (hp10.cell g0 0 (by decide))
  obtain ⟨cur0,e0,fz0,hh0,_⟩:=cell_block (hU.1 0 (by decide))
  obtain ⟨cur1,e1,fz1,hh1,_⟩:=cell_block (hU.2 0 (by decide)).1
  let G:Globs:=⟨[(0,.cells curp ep fzp),(1,.cells cur0 e0 fz0),(2,.cells cur1 e1 fz1)]⟩
  have hpw:@HasPow G:=⟨_,.head _,fun w k0=>tabIs_block g0 (k0.trans hhp.symm) hp10⟩
  have hu:@HasU8 G:=⟨_,_,.tail _ (.head _),.tail _ (.tail _ (.head _)),fun w k0 k1=>by
    have c0:∀ o,w.cell? ⟨1,o,none⟩ = W.cell? ⟨1,o,none⟩:=fun o=>World.cell?_of_block (k0.trans hh0.symm)
    have c1:∀ o,w.cell? ⟨2,o,none⟩ = W.cell? ⟨2,o,none⟩:=fun o=>World.cell?_of_block (k1.trans hh1.symm)
    exact ⟨fun c hc=>(c0 c).trans (hU.1 c hc),fun i hi=>⟨(c1 _).trans (hU.2 i hi).1,(c1 _).trans (hU.2 i hi).2⟩⟩⟩
  have hG:@GlobOK G (fun _=>False) W:=fun p hp=>by
    rcases List.mem_cons.1 hp with rfl | hp
    · exact ⟨fun h=>h,hhp⟩
    rcases List.mem_cons.1 hp with rfl | hp
    · exact ⟨fun h=>h,hh0⟩
    · cases List.mem_singleton.1 hp
      exact ⟨fun h=>h,hh1⟩
  refine ((s_lawM (G:=G) hpw hu a0 o1 ⟨b0,by omega⟩ ⟨⟨b1.2,by have:bkM o1 = bkV o1.v + o1.key.length + o1.to.length + (o1.p.map bkT).sum + 1:=rfl; omega⟩,by have:bkM o1 = bkV o1.v + o1.key.length + o1.to.length + (o1.p.map bkT).sum + 1:=rfl; omega,by have:bkM o1 = bkV o1.v + o1.key.length + o1.to.length + (o1.p.map bkT).sum + 1:=rfl; omega⟩).2 (fun _=>False) W [v0,v1] (fun _ h=>h.elim) hG (All2.cons i0 (All2.cons i1 (All2.nil _)))).mono fun e W' ⟨v,he,hst,hv⟩=>?_
  subst he
  cases hv
  have hb:=hst.below
  have hlt:∀ x:MemPlace,x ∈ (p0++(p1++[]))++[]→x.block < W.heap.size:=fun x hx=>hW''.lt x hx
  have hargs':∀ sp:Nat→Bool,(∀ x:MemPlace,x ∈ (p0++(p1++[]))++[]→sp x.block = true)→DataW.TrodAll enc Tryd.prog W' 0 sp true [26,29] [v0,v1] [d0,d1] (p0++(p1++[])):=fun sp hsp =>
    trodAll_cons_mk (WideElems.Trod_stays laidOut (by kernel_rfl) (of_decide_eq_true (by kernel_rfl)) h0 (fun x hx=>hb.same (hlt x (by simp [hx]))) (fun x hx=>hsp x (by simp [hx]))) (trodAll_cons_mk (WideElems.Trod_stays laidOut (by kernel_rfl) (of_decide_eq_true (by kernel_rfl)) h1 (fun x hx=>hb.same (hlt x (by simp [hx]))) (fun x hx=>hsp x (by simp [hx]))) (trodAll_mk0))
  exact ⟨_,rfl,post_of_below (pa:=p0++(p1++[])) (pv:=[]) hW'' (fun _ _ _=>(trodAll_cons_mk (shut_bool Tryd.underlying4 _) trodAll_mk0)) (fun sp hsp=>hargs' sp hsp) (fun _ _=>rfl) rfl
    hb (ok_one (by kernel_rfl) rfl (okWide_bool_mk Tryd.underlying4 _))⟩
def layB (cs:List Value):Obj→Obj
  | .cells _ t frozen=>.cells cs.toArray t frozen
  | o=>o
noncomputable def laidWorld (os:Os):World :=
  { World.holding Tryd.prog os ⟨#[],#[],[]⟩ with
    heap:=(((((World.holding Tryd.prog os ⟨#[],#[],[]⟩).heap.modify 0 (layB (Lib.pow10Tab.map fun n=>Value.int .u64 n))).modify 1 (layB (Pinned.utf8FirstZ.map fun (n:Nat)=>Value.int .u8 (n:Int)))).modify 2
      (layB ([128,191,160,191,128,159,144,191,128,143,0,0,0,0,0,0,0,0,0,0,0,0,0,0,0,0,0,0,0,0,0,0].map fun n=>Value.int .u8 n))).modify 6
      (layB (Lib.deBruijn32tab.map fun (n:Nat)=>Value.int .u8 (n:Int)))).modify 7 (layB (Lib.deBruijn64tab.map fun (n:Nat)=>Value.int .u8 (n:Int))) }
theorem laid_met (os:Os):laidMet Tryd.prog Rows.moveTellsUptoRow.laid ((laidWorld os).forCall (fun _ _=>0) ⟨#[],#[.agg #[.int .i64 0,.int .i64 0,.int .u64 0,.string .empty,.slice none 0 0,.slice none 0 0],.agg #[.int .i64 0,.slice none 0 0,.string .empty,.string .empty,.int .i64 0,.int .i64 0,.int .u64 0,.string .empty,.slice none 0 0,.slice none 0 0]],[]⟩).memory :=
  laidMet_of_run' 8 (by kernel_rfl) (by kernel_rfl)
theorem reads (os:Os) {H:Type} (enc:TypeId × Value→H):∃ places,DataW.whole enc Tryd.prog ((laidWorld os).forCall (fun _ _=>0) ⟨#[],#[.agg #[.int .i64 0,.int .i64 0,.int .u64 0,.string .empty,.slice none 0 0,.slice none 0 0],.agg #[.int .i64 0,.slice none 0 0,.string .empty,.string .empty,.int .i64 0,.int .i64 0,.int .u64 0,.string .empty,.slice none 0 0,.slice none 0 0]],[]⟩).memory Tryd.f5.params.toList Rows.moveTellsSpec.vars false #[.agg #[.int .i64 0,.int .i64 0,.int .u64 0,.string .empty,.slice none 0 0,.slice none 0 0],.agg #[.int .i64 0,.slice none 0 0,.string .empty,.string .empty,.int .i64 0,.int .i64 0,.int .u64 0,.string .empty,.slice none 0 0,.slice none 0 0]].toList 8 = some ([.agg [.lit (.int .i64 0),.lit (.int .i64 0),.lit (.int .u64 0),.lit (.string []),.nil,.nil],.agg [.lit (.int .i64 0),.nil,.lit (.string []),.lit (.string []),.agg [.lit (.int .i64 0),.lit (.int .i64 0),.lit (.int .u64 0),.lit (.string []),.nil,.nil]]],[],places) :=
  ⟨[],by kernel_rfl⟩
set_option maxRecDepth 100000 in
theorem lifted (os : Os) (started : os.Started) (H : Type) (enc : TypeId × Value → H) (F : Stop.Interp) :
    ReturnsInHanded {} Tryd.checked os 5 .any ((Rows.OpenSpec.upto Rows.moveTellsSpec).preRow enc Tryd.prog Tryd.f5 Rows.moveTellsUptoRow.domain false Rows.moveTellsUptoRow.laid) (((Rows.OpenSpec.upto Rows.moveTellsSpec).at F).post enc Tryd.prog Tryd.f5 false true false false):=by
  obtain ⟨places,hx⟩:=reads os enc
  refine returnsInHanded_of_row (C:=Tryd.checked) (s:=Rows.OpenSpec.upto Rows.moveTellsSpec) own started (by kernel_rfl) Tryd.func5
    (witness_row_at (enc:=enc) (C:=Tryd.checked) false (laidWorld os) #[.agg #[.int .i64 0,.int .i64 0,.int .u64 0,.string .empty,.slice none 0 0,.slice none 0 0],.agg #[.int .i64 0,.slice none 0 0,.string .empty,.string .empty,.int .i64 0,.int .i64 0,.int .u64 0,.string .empty,.slice none 0 0,.slice none 0 0]] rfl (by kernel_rfl) (by kernel_rfl) (by kernel_rfl)
      (OpenSpec.preRow_of_cond 8 hx (by kernel_rfl) (fun k hk=>by cases hk; kernel_rfl) (by kernel_rfl) (laid_met os))) ?_
  intro W base args ds gs before hval hW _ hcond _ hL _ _
  exact contract H enc W base args ds gs before hval hW (hcond _ rfl) hL
theorem said:Rows.MoveTellsUptoSaid :=
  OpenClaim.holds_of_cond 5 Tryd.f5 rfl rfl rfl rfl rfl rfl rfl ⟨rfl,rfl,rfl,rfl,rfl⟩ rfl rfl rfl rfl rfl (by kernel_rfl) Tryd.func5 (by kernel_rfl)
    (of_decide_eq_true (by kernel_rfl)) (by unfold Func.isWrapper; first | (rw [if_pos (by decide +kernel)]; kernel_rfl) | (rw [if_neg (by decide +kernel)]; exact ⟨rfl,rfl⟩))
    (fun os started H enc _ F=>by rw [OpenClaim.pre_eq_preRow]; exact lifted os started H enc F)
theorem plain (f : FuncId) (fn : Func) (hf : Tryd.pinned.checked.prog.funcNamed "typecase/typecaselaw.MoveTells" = some f) (hfn : Tryd.pinned.checked.prog.funcs[f]? = some fn) :
    true = Tryd.pinned.checked.prog.looks []∧∀ (j:Nat) t,fn.params[j]? = some t→Tryd.pinned.checked.prog.wantsStandIn t = false:=by
  obtain rfl : f = 5 := Option.some.inj ((show Tryd.prog.funcNamed "typecase/typecaselaw.MoveTells" = some 5 by kernel_rfl).symm.trans hf) |>.symm
  obtain rfl:fn = Tryd.f5:=(Option.some.inj (Tryd.func5.symm.trans hfn)).symm
  refine ⟨by kernel_rfl,fun j t ht=>?_⟩
  rw [Tryd.params5] at ht
  have hm:=Array.mem_of_getElem? ht
  simp only [List.mem_toArray,List.mem_cons,List.not_mem_nil,or_false] at hm
  rcases hm with rfl | rfl
  · exact (show Tryd.prog.wantsStandIn 26 = false by kernel_rfl)
  · exact (show Tryd.prog.wantsStandIn 29 = false by kernel_rfl)
theorem proved:Rows.MoveTellsUptoCardSaid :=
  Claim7.holds_tied_plain_at .later [] _ _ _ _ said (fun _ h=>by cases h) (by kernel_rfl) (fun _ h=>by cases h) moveTellsUpto_row_tie rfl ⟨rfl,rfl⟩ (by kernel_rfl) rfl plain (by kernel_rfl)

end Go.Proofs.YtmfchbkdakmjhaaDoor.moveTells
end
