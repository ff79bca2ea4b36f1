/-
  A part of a proof: plain laws and walks, one after the other. No conditions.
-/
import Derived.Test.YtdcdmojbkmedpaaDoorFr4
import Derived.Deep.Slices
import Derived.Carry
import Derived.DataReads
set_option linter.constructorNameAsVariable false
set_option linter.unusedVariables false
set_option linter.unusedSimpArgs false
set_option linter.unusedSectionVars false
section
namespace Go.Proofs.YtdcdmojbkmedpaaDoor
open Go Go.SX Go.Bg Go.Fl Go.Nm
set_option maxRecDepth 100000
set_option maxHeartbeats 4000000
theorem take_one {r:Str} {n:Nat} (h:n < r.length):r.take n++(r.take (n + 1)).drop n = r.take (n + 1):=by
 have h1:=List.take_append_drop n (r.take (n + 1))
 rw [List.take_take,Nat.min_eq_left (by omega)] at h1
 exact h1
theorem drop_get (r:Str) (n:Nat):(r.drop n).getD 0 0 = r.getD n 0:=by
 rw [List.getD_eq_getElem?_getD,List.getElem?_drop,Nat.add_zero,← List.getD_eq_getElem?_getD]
theorem drop_get' (r:Str) (n k:Nat):(r.drop n).getD k 0 = r.getD (n + k) 0:=by
 rw [List.getD_eq_getElem?_getD,List.getElem?_drop,← List.getD_eq_getElem?_getD]
theorem more_at {r:Str} {i k:Nat} (h:k≤(tkD (r.drop i)).length):(i + k < r.length∧isB (r.getD (i + k) 0) = true)↔k < (tkD (r.drop i)).length:=by
 rw [← tk_more h,drop_get',List.length_drop]
 constructor
 ·rintro ⟨a,b⟩; exact ⟨by omega,b⟩
 ·rintro ⟨a,b⟩; exact ⟨by omega,b⟩
def resR (sg:Nat):Option LitF→Nat × Int
 | none=>(0,4)
 | some x=>if dv (x.w++x.f) = 0∨expR x < -500 then (sg,0) else if 400 < expR x then (0,7) else if nearF (dv (x.w++x.f)) (expR x) = 9218868437227405312 then (0,7) else (nearF (dv (x.w++x.f)) (expR x) + sg,0)
theorem take_at {r:Str} {i k:Nat} (h:i + k < r.length):(r.drop i).take k++(r.take (i + k + 1)).drop (i + k) = (r.drop i).take (k + 1):=by
 have h1:(r.take (i + k + 1)).drop (i + k) = [r[i + k]]:=by
  rw [List.take_add_one,List.getElem?_eq_getElem h,List.drop_append_of_le_length (by rw [List.length_take]; omega),List.drop_of_length_le (by rw [List.length_take]; omega)]
  rfl
 rw [h1,List.take_add_one,List.getElem?_drop,List.getElem?_eq_getElem h]
 rfl
section
variable [G:Globs]
theorem w_isDigit (s:Str) (i:Nat) (hs:s.length≤1000000):vc Tryd.prog Γ 21 [0,1,4] (Tryd.f115.body.getD .skip) (postK Γ [.tmp 4] (fun v=>v = .b (decide (i < s.length∧isB (s.getD i 0) = true)))) ⟨argSlots 0 [.s s,.i .i64 i],[]⟩:=by
 have hb:=isB_iff (s.getD i 0)
 intro _
 by_cases h:i < s.length∧isB (s.getD i 0) = true
 ·obtain ⟨h1,h2⟩:=h
  rw [decide_eq_true ⟨h1,h2⟩]
  obtain ⟨h3,h4⟩:=hb.1 h2
  (repeat' (first | (refine aN (fun h=>?_) (fun h=>?_)<;>(try simp [-List.getD_eq_getElem?_getD,-Int.pred_toNat] at h)<;>(try (exfalso; first | omega | contradiction))) | (refine rNG ?_) | (refine bN2 ?_) | (refine bN3 ?_) | (intro _)))
  show AV.b (decide (((s.getD i 0).toNat:Int)≤57)) = AV.b true
  rw [decide_eq_true (by omega)]
 ·rw [decide_eq_false h]
  have hx:i < s.length→¬ (48≤(s.getD i 0).toNat∧(s.getD i 0).toNat≤57):=fun h1 h2=>h ⟨h1,hb.2 h2⟩
  (repeat' (first | (refine aN (fun h=>?_) (fun h=>?_)<;>(try simp [-List.getD_eq_getElem?_getD,-Int.pred_toNat] at h)<;>(try (exfalso; first | omega | contradiction))) | (refine rNG ?_) | (refine bN2 ?_) | (refine bN3 ?_) | (intro _)))
  all_goals first
   | rfl
   | (show AV.b (decide (((s.getD i 0).toNat : Int) ≤ 57)) = AV.b false
      rw [decide_eq_false (by omega)])
theorem s_isDigit (s:Str) (i:Nat) (hs:s.length≤1000000):PSpec Tryd.prog 115 [.s s,.i .i64 i] (.b (decide (i < s.length∧isB (s.getD i 0) = true))) :=
 pspec_of_vc Γ_good Tryd.func115 rfl Tryd.call115 Tryd.results115 Tryd.ntmps115 (Nat.le_of_ble_eq_true rfl) (w_isDigit s i hs)
theorem w_readFloat (s:Str) (hs:s.length≤1048576):VCs Tryd.prog Γ 162 [0,2,3,4,5,6,7,8,9,10,11,14,16,23,27,32,58,62,67,80,84,88,106,110,116,119,121,135,150,153,158] (Tryd.f53.body.getD .skip) (postK Γ [.tmp 2,.tmp 3] (fun v=>v = rdA (rdR s))) ⟨argSlots 0 [.s s],[]⟩:=by
 refine VCs.seq (by first | exact Γ_good | exact Ctx.good_kp Γ_good _) ?_
 refine VCs.seq (by first | exact Γ_good | exact Ctx.good_kp Γ_good _) ?_
 intro _
 by_cases h80:80 < s.length
 ·rw [rdR,if_pos h80]
  (repeat' (first | (refine aN (fun h=>?_) (fun h=>?_)<;>(try simp [-List.getD_eq_getElem?_getD,-Int.pred_toNat] at h)<;>(try (exfalso; first | omega | contradiction))) | (refine rNG ?_) | (refine bN2 ?_) | (refine bN3 ?_) | (intro _)))
  rfl
 refine aN (fun h9=>absurd (of_decide_eq_true h9) (by omega)) (fun _=>?_)
 by_cases hn:s = [110,97,110]
 ·have hR:rdR s = (9221120237041090561,0):=by rw [rdR,if_neg h80,if_pos hn]
  rw [hR,hn]
  refine VCs.of_vc (by first | exact Γ_good | exact Ctx.good_kp Γ_good _) ?_
  (focus (refine aN ?_ (fun h9=>?_); rotate_left 1; (focus (exfalso; revert h9; first | decide | (simp<;>omega) | (intro h9; simp at h9<;>omega))); refine fun _=>?_))
  rfl
 refine VCs.seq (by first | exact Γ_good | exact Ctx.good_kp Γ_good _) ?_
 refine aN (fun h9=>absurd (eq_of_beq h9) hn) (fun _=>?_)
 have hcl:=cut_len s
 have p45:=pre_one (c:=45) (by decide) s
 refine VCs.seq (by first | exact Γ_good | exact Ctx.good_kp Γ_good _) ?_
 refine VCs.cut (by first | exact Γ_good | exact Ctx.good_kp Γ_good _) Unit (fun _=>True) (fun _=>⟨[(0,.s (cutP [45] s)),(2,.i .u64 0),(3,.i .i64 0),(4,.i .u64 (sgB s:Nat))],[]⟩) ?_ ?_
 ·have e1:(s.take (Int.toNat (s.length:Int))).drop (Int.toNat 1) = s.drop 1:=by rw [Int.toNat_natCast,List.take_length]; rfl
  unfold cutP sgB
  rw [p45]
  by_cases h45:s.getD 0 0 = 45
  ·rw [decide_eq_true h45,if_pos rfl,if_pos rfl]
   have hsl:0 < s.length:=by
    cases s with
    | nil=>exact absurd h45 (by decide)
    | cons _ _=>exact Nat.succ_pos _
   have hsn:s≠[]:=List.length_pos_iff.1 hsl
   have h45:(s.getD 0 0).toNat = 45:=by rw [h45]; rfl
   (repeat' (first | (refine aN (fun h=>?_) (fun h=>?_)<;>(try simp [-List.getD_eq_getElem?_getD,-Int.pred_toNat] at h)<;>(try (exfalso; first | omega | contradiction))) | (refine rNG ?_) | (refine bN2 ?_) | (refine bN3 ?_) | (intro _)))
   refine eX [.blk [0,1,2,3]] (aN (by kernel_rfl) ?_)
   (repeat' (first | (refine aN (fun h=>?_) (fun h=>?_)<;>(try simp [-List.getD_eq_getElem?_getD,-Int.pred_toNat] at h)<;>(try (exfalso; first | omega | contradiction))) | (refine rNG ?_) | (refine bN2 ?_) | (refine bN3 ?_) | (intro _)))
   refine eX () (aN trivial ?_)
   (repeat' (first | exact trivial | exact Or.inl rfl | exact Or.inl ((congrArg AV.s e1)) | refine aN ?_ ?_))
  ·rw [decide_eq_false h45,if_neg (by decide),if_neg (by decide)]
   have h45:(s.getD 0 0).toNat≠45:=fun h=>h45 (UInt8.toNat_inj.1 (by rw [h]; rfl))
   by_cases hs0:s = []
   ·rw [hs0]
    (repeat' (first | (refine aN (fun h=>?_) (fun h=>?_)<;>(try simp [-List.getD_eq_getElem?_getD,-Int.pred_toNat] at h)<;>(try (exfalso; first | omega | contradiction))) | (refine rNG ?_) | (refine bN2 ?_) | (refine bN3 ?_) | (intro _)))
    refine eX () (aN trivial ?_)
    (repeat' (first | exact trivial | exact Or.inl rfl | exact Or.inr (Or.inl ⟨rfl,_,rfl⟩) | exact Or.inr (Or.inr (Or.inr ⟨_,_,_,rfl,rfl⟩)) | refine aN ?_ ?_))
   ·have hsl:=List.length_pos_iff.2 hs0
    (repeat' (first | (refine aN (fun h=>?_) (fun h=>?_)<;>(try simp [-List.getD_eq_getElem?_getD,-Int.pred_toNat] at h)<;>(try (exfalso; first | omega | contradiction))) | (refine rNG ?_) | (refine bN2 ?_) | (refine bN3 ?_) | (intro _)))
    refine eX () (aN trivial ?_)
    (repeat' (first | exact trivial | exact Or.inl rfl | exact Or.inr (Or.inl ⟨rfl,_,rfl⟩) | exact Or.inr (Or.inr (Or.inr ⟨_,_,_,rfl,rfl⟩)) | refine aN ?_ ?_))
 rintro ⟨⟩ _
 have hsg:sgB s≤9223372036854775808:=by unfold sgB; split<;>omega
 have hR:rdR s = if cutP [45] s = [105,110,102] then ((9218868437227405312 + sgB s,0):Nat × Int) else resR (sgB s) (litP (cutP [45] s)):=by (rw [rdR,if_neg h80,if_neg hn])<;>rfl
 rw [hR]
 generalize sgB s = sg at *
 generalize cutP [45] s = r at *
 clear hR p45 hn
 by_cases hi:r = [105,110,102]
 ·rw [if_pos hi,hi]
  refine VCs.of_vc (by first | exact Γ_good | exact Ctx.good_kp Γ_good _) ?_
  (focus (refine aN ?_ (fun h9=>?_); rotate_left 1; (focus (exfalso; revert h9; first | decide | (simp<;>omega) | (intro h9; simp at h9<;>omega))); refine fun _=>?_))
  exact congrArg (fun z=>AV.tup [AV.i .u64 z,.i .i64 0]) (by rw [IntKind.wrap_u64]; omega)
 rw [if_neg hi]
 refine VCs.seq (by first | exact Γ_good | exact Ctx.good_kp Γ_good _) ?_
 refine aN (fun h9=>absurd (eq_of_beq h9) hi) (fun _=>?_)
 have h0:=tk_len r
 have h1:=tk_take r
 have h2:=dr_drop r
 refine VCs.seq (by first | exact Γ_good | exact Ctx.good_kp Γ_good _) ?_
 refine VCs.seq (by first | exact Γ_good | exact Ctx.good_kp Γ_good _) ?_
 refine VCs.cut (by first | exact Γ_good | exact Ctx.good_kp Γ_good _) Unit (fun _=>True) (fun _=>⟨[(0,.s r),(2,.i .u64 0),(3,.i .i64 0),(4,.i .u64 sg),(5,.i .i64 (tkD r).length),(6,.s (tkD r))],[]⟩) ?_ ?_
 ·refine eX [] (eX [] (eX [] (eX Nat (eX (fun n=>n≤(tkD r).length) (eX (fun n=>⟨[(0,.s r),(2,.i .u64 0),(3,.i .i64 0),(4,.i .u64 sg),(5,.i .i64 n),(6,.s (r.take n))],[]⟩) (eX (fun n=>(tkD r).length - n) (eX 0 (aN (Nat.zero_le _) (aN ?_ ?_)))))))))
  ·(repeat' (first | exact trivial | exact Or.inl rfl | exact Or.inr (Or.inl ⟨rfl,_,rfl⟩) | exact Or.inr (Or.inr (Or.inr ⟨_,_,_,rfl,rfl⟩)) | refine aN ?_ ?_))
  rintro n hn
  have hm:=tk_more hn
  refine Or.inl (eX _ (aN (s_isDigit r n (by omega)) ?_))
  by_cases hc:n < (tkD r).length
  ·have hmc:=hm.2 hc
   have e3:r.take n++(r.take (Int.toNat ((n:Int) + 1))).drop (Int.toNat (n:Int)) = r.take (n + 1):=take_one hmc.1
   rw [decide_eq_true hmc]
   (focus (refine aN ?_ (fun h9=>?_); rotate_left 1; (focus (exfalso; revert h9; first | decide | (simp<;>omega) | (intro h9; simp at h9<;>omega))); refine fun _=>?_))
   (repeat' (first | (refine aN (fun h=>?_) (fun h=>?_)<;>(try simp [-List.getD_eq_getElem?_getD,-Int.pred_toNat] at h)<;>(try (exfalso; first | omega | contradiction))) | (refine rNG ?_) | (refine bN2 ?_) | (refine bN3 ?_) | (intro _)))
   refine aN (by show (r.take n).length + ((r.take (Int.toNat ((n:Int) + 1))).drop (Int.toNat (n:Int))).length≤maxLen; rw [← List.length_append,e3,List.length_take]; unfold maxLen; omega) ?_
   (repeat' (first | (refine aN (fun h=>?_) (fun h=>?_)<;>(try simp [-List.getD_eq_getElem?_getD,-Int.pred_toNat] at h)<;>(try (exfalso; first | omega | contradiction))) | (refine rNG ?_) | (refine bN2 ?_) | (refine bN3 ?_) | (intro _)))
   refine eX [] (eX (n + 1) (aN hc (aN ?_ ?_)))
   ·(repeat' (first | exact trivial | exact Or.inl rfl | exact Or.inl ((congrArg AV.s e3)) | refine aN ?_ ?_))
   ·show (tkD r).length - (n + 1) < (tkD r).length - n
    omega
  ·have hn:n = (tkD r).length:=by omega
   rw [decide_eq_false (fun h=>hc (hm.1 h))]
   (focus (refine aN (fun h9=>?_) ?_; (focus (exfalso; revert h9; first | decide | (simp<;>omega) | (intro h9; simp at h9<;>omega))); refine fun _=>?_))
   refine eX () (aN trivial ?_)
   (repeat' (first | exact trivial | exact Or.inl rfl | exact Or.inl ((congrArg (fun k:Nat=>AV.i .i64 k) hn)) | exact Or.inl ((congrArg AV.s (by rw [hn]; exact h1))) | refine aN ?_ ?_))
 rintro ⟨⟩ _
 by_cases hw:tkD r = []
 ·rw [show litP r = none by unfold litP; rw [if_pos (.inl hw)],hw]
  refine VCs.of_vc (by first | exact Γ_good | exact Ctx.good_kp Γ_good _) ?_
  (repeat' (first | (refine aN (fun h=>?_) (fun h=>?_)<;>(try simp [-List.getD_eq_getElem?_getD,-Int.pred_toNat] at h)<;>(try (exfalso; first | omega | contradiction))) | (refine rNG ?_) | (refine bN2 ?_) | (refine bN3 ?_) | (intro _)))
  rfl
 have hwl:=List.length_pos_iff.2 hw
 have hg0:=(tk_get hwl).2.1
 by_cases hz:(tkD r).getD 0 0 = 48∧1 < (tkD r).length
 ·rw [show litP r = none by unfold litP; rw [if_pos (.inr (.inl hz))]]
  obtain ⟨hz,hz1⟩:=hz
  rw [← hg0] at hz
  have hz:=c48.1 hz
  refine VCs.of_vc (by first | exact Γ_good | exact Ctx.good_kp Γ_good _) ?_
  (repeat' (first | (refine aN (fun h=>?_) (fun h=>?_)<;>(try simp [-List.getD_eq_getElem?_getD,-Int.pred_toNat] at h)<;>(try (exfalso; first | omega | contradiction))) | (refine rNG ?_) | (refine bN2 ?_) | (refine bN3 ?_) | (intro _)))
  all_goals rfl
 by_cases hrn:drD r = []
 ·rw [show litP r = none by unfold litP; rw [if_pos (.inr (.inr hrn))]]
  rw [hrn] at h0
  have h0:(tkD r).length = r.length:=h0
  refine VCs.of_vc (by first | exact Γ_good | exact Ctx.good_kp Γ_good _) ?_
  (repeat' (first | (refine aN (fun h=>?_) (fun h=>?_)<;>(try simp [-List.getD_eq_getElem?_getD,-Int.pred_toNat] at h)<;>(try (exfalso; first | omega | contradiction))) | (refine rNG ?_) | (refine bN2 ?_) | (refine bN3 ?_) | (intro _)))
  all_goals rfl
 have hlit:litP r = if (drD r).getD 0 0 = 46 then (if tkD ((drD r).drop 1) = [] then none else litF (tkD r) (tkD ((drD r).drop 1)) (drD ((drD r).drop 1))) else litF (tkD r) [] (drD r):=by
  unfold litP
  rw [if_neg (by rintro (h | h | h); exact hw h; exact hz h; exact hrn h)]
 have hdl:=List.length_pos_iff.2 hrn
 rw [← hg0,c48] at hz
 rw [← h2,List.drop_drop,drop_get] at hlit
 generalize tkD r = w at *
 refine VCs.cut (by first | exact Γ_good | exact Ctx.good_kp Γ_good _) Unit (fun _=>True) (fun _=>⟨[(0,.s r),(2,.i .u64 0),(3,.i .i64 0),(4,.i .u64 sg),(5,.i .i64 w.length),(6,.s w)],[]⟩) ?_ ?_
 ·(repeat' (first | (refine aN (fun h=>?_) (fun h=>?_)<;>(try simp [-List.getD_eq_getElem?_getD,-Int.pred_toNat] at h)<;>(try (exfalso; first | omega | contradiction))) | (refine rNG ?_) | (refine bN2 ?_) | (refine bN3 ?_) | (intro _)))
  all_goals
   refine eX () (aN trivial ?_)
   (repeat' (first | exact trivial | exact Or.inl rfl | exact Or.inr (Or.inl ⟨rfl,_,rfl⟩) | exact Or.inr (Or.inr (Or.inr ⟨_,_,_,rfl,rfl⟩)) | refine aN ?_ ?_))
 rintro ⟨⟩ _
 refine VCs.seq (by first | exact Γ_good | exact Ctx.good_kp Γ_good _) ?_
 refine VCs.cut (by first | exact Γ_good | exact Ctx.good_kp Γ_good _) (Str × Nat) (fun x=>litP r = litF w x.1 (r.drop x.2)∧x.2≤r.length∧w.length + x.1.length≤x.2) (fun ⟨f,i⟩=>⟨[(0,.s r),(2,.i .u64 0),(3,.i .i64 0),(4,.i .u64 sg),(5,.i .i64 i),(6,.s (w++f)),(7,.i .i64 f.length)],[]⟩) ?_ ?_
 ·by_cases h46:r.getD w.length 0 = 46
  ·rw [if_pos h46] at hlit
   have h46:=c46.1 h46
   (repeat' (first | (refine aN (fun h=>?_) (fun h=>?_)<;>(try simp [-List.getD_eq_getElem?_getD,-Int.pred_toNat] at h)<;>(try (exfalso; first | omega | contradiction))) | (refine rNG ?_) | (refine bN2 ?_) | (refine bN3 ?_) | (intro _)))
   have ht:=tk_len (r.drop (w.length + 1))
   have htk:=tk_take (r.drop (w.length + 1))
   have htd:=dr_drop (r.drop (w.length + 1))
   rw [List.drop_drop] at htd
   rw [List.length_drop] at ht
   have hma:=fun k=>more_at (r:=r) (i:=w.length + 1) (k:=k)
   refine eX [] (eX [] (eX [] (eX Nat (eX (fun k=>k≤(tkD (r.drop (w.length + 1))).length) (eX (fun k=>⟨[(0,.s r),(2,.i .u64 0),(3,.i .i64 0),(4,.i .u64 sg),(5,.i .i64 ((w.length + 1 + k:Nat):Int)),(6,.s (w++(r.drop (w.length + 1)).take k)),(7,.i .i64 k)],[]⟩) (eX (fun k=>(tkD (r.drop (w.length + 1))).length - k) (eX 0 (aN (Nat.zero_le _) (aN ?_ ?_)))))))))
   ·(repeat' (first | exact trivial | exact Or.inl rfl | exact Or.inl ((congrArg AV.s (show w = w++[] from (List.append_nil w).symm))) | refine aN ?_ ?_))
   intro k hk
   have hm:=hma k hk
   refine Or.inl (eX _ (aN (s_isDigit r (w.length + 1 + k) (by omega)) ?_))
   by_cases hc:k < (tkD (r.drop (w.length + 1))).length
   ·have hmc:=hm.2 hc
    have e3:(w++(r.drop (w.length + 1)).take k)++(r.take (Int.toNat (((w.length + 1 + k:Nat):Int) + 1))).drop (Int.toNat ((w.length + 1 + k:Nat):Int)) = w++(r.drop (w.length + 1)).take (k + 1):=by
     rw [List.append_assoc]
     exact congrArg _ (take_at hmc.1)
    rw [decide_eq_true hmc]
    (focus (refine aN ?_ (fun h9=>?_); rotate_left 1; (focus (exfalso; revert h9; first | decide | (simp<;>omega) | (intro h9; simp at h9<;>omega))); refine fun _=>?_))
    (repeat' (first | (refine aN (fun h=>?_) (fun h=>?_)<;>(try simp [-List.getD_eq_getElem?_getD,-Int.pred_toNat] at h)<;>(try (exfalso; first | omega | contradiction))) | (refine rNG ?_) | (refine bN2 ?_) | (refine bN3 ?_) | (intro _)))
    refine aN (by show (w++(r.drop (w.length + 1)).take k).length + ((r.take (Int.toNat (((w.length + 1 + k:Nat):Int) + 1))).drop (Int.toNat ((w.length + 1 + k:Nat):Int))).length≤maxLen; rw [← List.length_append,e3,List.length_append,List.length_take,List.length_drop]; unfold maxLen; omega) ?_
    (repeat' (first | (refine aN (fun h=>?_) (fun h=>?_)<;>(try simp [-List.getD_eq_getElem?_getD,-Int.pred_toNat] at h)<;>(try (exfalso; first | omega | contradiction))) | (refine rNG ?_) | (refine bN2 ?_) | (refine bN3 ?_) | (intro _)))
    refine eX [] (eX (k + 1) (aN hc (aN ?_ ?_)))
    ·(repeat' (first | exact trivial | exact Or.inl rfl | exact Or.inl ((congrArg AV.s e3)) | refine aN ?_ ?_))
    ·show (tkD (r.drop (w.length + 1))).length - (k + 1) < (tkD (r.drop (w.length + 1))).length - k
     omega
   ·have hk:k = (tkD (r.drop (w.length + 1))).length:=by omega
    rw [decide_eq_false (fun h=>hc (hm.1 h))]
    (focus (refine aN (fun h9=>?_) ?_; (focus (exfalso; revert h9; first | decide | (simp<;>omega) | (intro h9; simp at h9<;>omega))); refine fun _=>?_))
    rw [hk,htk]
    by_cases hf:tkD (r.drop (w.length + 1)) = []
    ·rw [if_pos hf] at hlit
     rw [hlit,hf]
     (repeat' (first | (refine aN (fun h=>?_) (fun h=>?_)<;>(try simp [-List.getD_eq_getElem?_getD,-Int.pred_toNat] at h)<;>(try (exfalso; first | omega | contradiction))) | (refine rNG ?_) | (refine bN2 ?_) | (refine bN3 ?_) | (intro _)))
     rfl
    ·rw [if_neg hf,← htd] at hlit
     have hfl:=List.length_pos_iff.2 hf
     generalize tkD (r.drop (w.length + 1)) = f at *
     (repeat' (first | (refine aN (fun h=>?_) (fun h=>?_)<;>(try simp [-List.getD_eq_getElem?_getD,-Int.pred_toNat] at h)<;>(try (exfalso; first | omega | contradiction))) | (refine rNG ?_) | (refine bN2 ?_) | (refine bN3 ?_) | (intro _)))
     refine eX (f,w.length + 1 + f.length) (aN ⟨hlit,by dsimp only; omega,by dsimp only; omega⟩ ?_)
     (repeat' (first | exact trivial | exact Or.inl rfl | exact Or.inr (Or.inl ⟨rfl,_,rfl⟩) | exact Or.inr (Or.inr (Or.inr ⟨_,_,_,rfl,rfl⟩)) | refine aN ?_ ?_))
  ·rw [if_neg h46] at hlit
   rw [c46] at h46
   (repeat' (first | (refine aN (fun h=>?_) (fun h=>?_)<;>(try simp [-List.getD_eq_getElem?_getD,-Int.pred_toNat] at h)<;>(try (exfalso; first | omega | contradiction))) | (refine rNG ?_) | (refine bN2 ?_) | (refine bN3 ?_) | (intro _)))
   refine eX (([]:Str),w.length) (aN ⟨hlit,by dsimp only; omega,by dsimp only [List.length_nil]; omega⟩ ?_)
   (repeat' (first | exact trivial | exact Or.inl rfl | exact Or.inl ((congrArg AV.s (show w = w++[] from (List.append_nil w).symm))) | refine aN ?_ ?_))
 rintro ⟨f,i⟩ ⟨g1,g2,g3⟩
 dsimp only at g1 g2 g3
 clear hlit hdl hrn hz hg0 h0 h1 h2
 refine VCs.seq (by first | exact Γ_good | exact Ctx.good_kp Γ_good _) ?_
 refine VCs.cutS LitF (fun x=>litP r = some x) (fun x=>⟨[(4,.i .u64 sg),(6,.s (x.w++x.f)),(7,.i .i64 x.f.length),(8,.i .i64 (if x.mi then -(eR x.e:Int) else eR x.e))],[]⟩) ?_ ?_
 ·refine VCs.seq (by first | exact Γ_good | exact Ctx.good_kp Γ_good _) ?_
  intro _
  (conv=>whnf)
  refine VCs.cond rfl (fun h=>?_) (fun h=>?_)
  rotate_left
  ·have hil:¬ (i:Int) < r.length:=of_decide_eq_false h
   have hd0:r.drop i = []:=List.drop_of_length_le (by omega)
   rw [hd0,litF,if_pos rfl] at g1
   refine VCs.of_vc (by first | exact Γ_good | exact Ctx.good_kp Γ_good _) ?_
   refine eX (⟨w,f,false,[]⟩:LitF) (aN g1 ?_)
   (repeat' (first | exact trivial | exact Or.inl rfl | exact Or.inr (Or.inl ⟨rfl,_,rfl⟩) | exact Or.inr (Or.inr (Or.inr ⟨_,_,_,rfl,rfl⟩)) | refine aN ?_ ?_))
  have hil:(i:Int) < r.length:=of_decide_eq_true h
  have hil:i < r.length:=by omega
  clear h
  have hdn:r.drop i≠[]:=fun h=>by have:=congrArg List.length h; rw [List.length_drop] at this; simp at this; omega
  ·by_cases h101:r.getD i 0 = 101
   rotate_left
   ·have hl:litP r = none:=by rw [g1,litF,if_neg hdn,drop_get,if_pos h101]
    rw [c101] at h101
    rw [hl]
    refine VCs.of_vc (by first | exact Γ_good | exact Ctx.good_kp Γ_good _) ?_
    (repeat' (first | (refine aN (fun h=>?_) (fun h=>?_)<;>(try simp [-List.getD_eq_getElem?_getD,-Int.pred_toNat] at h)<;>(try (exfalso; first | omega | contradiction))) | (refine rNG ?_) | (refine bN2 ?_) | (refine bN3 ?_) | (intro _)))
    rfl
   have hlit:litP r = litE w f (r.drop (i + 1)):=by rw [g1,litF,if_neg hdn,drop_get,if_neg (fun h=>h h101),List.drop_drop]
   have h101:=c101.1 h101
   have hgd:=drop_get r (i + 1)
   unfold litE at hlit
   dsimp only at hlit
   rw [hgd] at hlit
   refine VCs.cut (by first | exact Γ_good | exact Ctx.good_kp Γ_good _) Unit (fun _=>True) (fun _=>⟨[(0,.s r),(2,.i .u64 0),(3,.i .i64 0),(4,.i .u64 sg),(5,.i .i64 i),(6,.s (w++f)),(7,.i .i64 f.length),(8,.i .i64 0)],[]⟩) ?_ ?_
   ·(repeat' (first | (refine aN (fun h=>?_) (fun h=>?_)<;>(try simp [-List.getD_eq_getElem?_getD,-Int.pred_toNat] at h)<;>(try (exfalso; first | omega | contradiction))) | (refine rNG ?_) | (refine bN2 ?_) | (refine bN3 ?_) | (intro _)))
    refine eX () (aN trivial ?_)
    (repeat' (first | exact trivial | exact Or.inl rfl | exact Or.inr (Or.inl ⟨rfl,_,rfl⟩) | exact Or.inr (Or.inr (Or.inr ⟨_,_,_,rfl,rfl⟩)) | refine aN ?_ ?_))
   rintro ⟨⟩ _
   have hi1:i + 1≤r.length:=hil
   have hwi:w.length + f.length≤i + 1:=by omega
   refine VCs.seq (by first | exact Γ_good | exact Ctx.good_kp Γ_good _) ?_
   (repeat' (first | (refine aN (fun h=>?_) (fun h=>?_)<;>(try simp [-List.getD_eq_getElem?_getD,-Int.pred_toNat] at h)<;>(try (exfalso; first | omega | contradiction))) | (refine rNG ?_) | (refine bN2 ?_) | (refine bN3 ?_) | (intro _)))
   refine VCs.cut (by first | exact Γ_good | exact Ctx.good_kp Γ_good _) Unit (fun _=>True) (fun _=>⟨[(0,.s r),(2,.i .u64 0),(3,.i .i64 0),(4,.i .u64 sg),(5,.i .i64 ((i + 1:Nat):Int)),(6,.s (w++f)),(7,.i .i64 f.length),(8,.i .i64 0),(9,.i .i64 1)],[]⟩) ?_ ?_
   ·refine eX () (aN trivial ?_)
    (repeat' (first | exact trivial | exact Or.inl rfl | exact Or.inr (Or.inl ⟨rfl,_,rfl⟩) | exact Or.inr (Or.inr (Or.inr ⟨_,_,_,rfl,rfl⟩)) | refine aN ?_ ?_))
   rintro ⟨⟩ _
   clear g1 g2 g3 h101 hil hdn
   generalize i + 1 = n at *
   refine VCs.cut (by first | exact Γ_good | exact Ctx.good_kp Γ_good _) Nat (fun j=>j≤r.length∧(if r.getD n 0 = 45∨r.getD n 0 = 43 then (r.drop n).drop 1 else r.drop n) = r.drop j) (fun j=>⟨[(0,.s r),(2,.i .u64 0),(3,.i .i64 0),(4,.i .u64 sg),(5,.i .i64 j),(6,.s (w++f)),(7,.i .i64 f.length),(8,.i .i64 0),(9,.i .i64 (if r.getD n 0 = 45 then -1 else 1))],[]⟩) ?_ ?_
   ·have hlt : r.getD n 0 = 45 ∨ r.getD n 0 = 43 → n < r.length := fun h => by
     rcases Nat.lt_or_ge n r.length with h1 | h1
     ·exact h1
     ·rw [List.getD_eq_getElem?_getD,List.getElem?_eq_none h1] at h
      rcases h with h | h<;>exact absurd h (by decide)
    by_cases h45:r.getD n 0 = 45
    ·have hl:=hlt (.inl h45)
     rw [if_pos (.inl h45),if_pos h45,List.drop_drop]
     have h45:(r.getD n 0).toNat = 45:=by rw [h45]; rfl
     (repeat' (first | (refine aN (fun h=>?_) (fun h=>?_)<;>(try simp [-List.getD_eq_getElem?_getD,-Int.pred_toNat] at h)<;>(try (exfalso; first | omega | contradiction))) | (refine rNG ?_) | (refine bN2 ?_) | (refine bN3 ?_) | (intro _)))
     refine eX (n + 1) (aN ⟨hl,rfl⟩ ?_)
     (repeat' (first | exact trivial | exact Or.inl rfl | exact Or.inr (Or.inl ⟨rfl,_,rfl⟩) | exact Or.inr (Or.inr (Or.inr ⟨_,_,_,rfl,rfl⟩)) | refine aN ?_ ?_))
    by_cases h43:r.getD n 0 = 43
    ·have hl:=hlt (.inr h43)
     rw [if_pos (.inr h43),if_neg h45,List.drop_drop]
     have h43:(r.getD n 0).toNat = 43:=by rw [h43]; rfl
     (repeat' (first | (refine aN (fun h=>?_) (fun h=>?_)<;>(try simp [-List.getD_eq_getElem?_getD,-Int.pred_toNat] at h)<;>(try (exfalso; first | omega | contradiction))) | (refine rNG ?_) | (refine bN2 ?_) | (refine bN3 ?_) | (intro _)))
     refine eX (n + 1) (aN ⟨hl,rfl⟩ ?_)
     (repeat' (first | exact trivial | exact Or.inl rfl | exact Or.inr (Or.inl ⟨rfl,_,rfl⟩) | exact Or.inr (Or.inr (Or.inr ⟨_,_,_,rfl,rfl⟩)) | refine aN ?_ ?_))
    ·rw [if_neg (by rintro (h | h); exact h45 h; exact h43 h),if_neg h45]
     have h45:(r.getD n 0).toNat≠45:=fun h=>h45 (UInt8.toNat_inj.1 (by rw [h]; rfl))
     have h43:(r.getD n 0).toNat≠43:=fun h=>h43 (UInt8.toNat_inj.1 (by rw [h]; rfl))
     (repeat' (first | (refine aN (fun h=>?_) (fun h=>?_)<;>(try simp [-List.getD_eq_getElem?_getD,-Int.pred_toNat] at h)<;>(try (exfalso; first | omega | contradiction))) | (refine rNG ?_) | (refine bN2 ?_) | (refine bN3 ?_) | (intro _)))
     all_goals
      refine eX n (aN ⟨hi1,rfl⟩ ?_)
      (repeat' (first | exact trivial | exact Or.inl rfl | exact Or.inr (Or.inl ⟨rfl,_,rfl⟩) | exact Or.inr (Or.inr (Or.inr ⟨_,_,_,rfl,rfl⟩)) | refine aN ?_ ?_))
   rintro j ⟨j1,j2⟩
   rw [j2] at hlit
   have ht:=tk_len (r.drop j)
   have htk:=tk_take (r.drop j)
   have hisd:=tk_isd (r.drop j)
   rw [List.length_drop] at ht
   have hma:=fun k=>more_at (r:=r) (i:=j) (k:=k)
   have hm0:=hma 0 (Nat.zero_le _)
   rw [Nat.add_zero] at hm0
   refine VCs.seq (by first | exact Γ_good | exact Ctx.good_kp Γ_good _) ?_
   refine Or.inl (eX _ (aN (s_isDigit r j (by omega)) ?_))
   by_cases he:tkD (r.drop j) = []
   ·rw [if_pos (.inl he)] at hlit
    rw [decide_eq_false (fun h=>by have:=hm0.1 h; rw [he] at this; exact absurd this (Nat.lt_irrefl _)),hlit]
    (focus (refine aN ?_ (fun h9=>?_); rotate_left 1; (focus (exfalso; revert h9; first | decide | (simp<;>omega) | (intro h9; simp at h9<;>omega))); refine fun _=>?_))
    rfl
   have hel:=List.length_pos_iff.2 he
   rw [decide_eq_true (hm0.2 hel)]
   (focus (refine aN (fun h9=>?_) ?_; (focus (exfalso; revert h9; first | decide | (simp<;>omega) | (intro h9; simp at h9<;>omega))); refine fun _=>?_))
   refine VCs.cut (by first | exact Γ_good | exact Ctx.good_kp Γ_good _) Unit (fun _=>True) (fun _=>⟨[(0,.s r),(2,.i .u64 0),(3,.i .i64 0),(4,.i .u64 sg),(5,.i .i64 ((j + (tkD (r.drop j)).length:Nat):Int)),(6,.s (w++f)),(7,.i .i64 f.length),(8,.i .i64 (eR (tkD (r.drop j)):Nat)),(9,.i .i64 (if r.getD n 0 = 45 then -1 else 1))],[]⟩) ?_ ?_
   ·refine eX [] (eX [] (eX [] (eX Nat (eX (fun k=>k≤(tkD (r.drop j)).length) (eX (fun k=>⟨[(0,.s r),(2,.i .u64 0),(3,.i .i64 0),(4,.i .u64 sg),(5,.i .i64 ((j + k:Nat):Int)),(6,.s (w++f)),(7,.i .i64 f.length),(8,.i .i64 (eR ((tkD (r.drop j)).take k):Nat)),(9,.i .i64 (if r.getD n 0 = 45 then -1 else 1))],[]⟩) (eX (fun k=>(tkD (r.drop j)).length - k) (eX 0 (aN (Nat.zero_le _) (aN ?_ ?_)))))))))
    ·(repeat' (first | exact trivial | exact Or.inl rfl | exact Or.inr (Or.inl ⟨rfl,_,rfl⟩) | exact Or.inr (Or.inr (Or.inr ⟨_,_,_,rfl,rfl⟩)) | refine aN ?_ ?_))
    intro k hk
    have hm:=hma k hk
    refine Or.inl (eX _ (aN (s_isDigit r (j + k) (by omega)) ?_))
    by_cases hc:k < (tkD (r.drop j)).length
    ·have hmc:=hm.2 hc
     rw [decide_eq_true hmc]
     have hg:r.getD (j + k) 0 = (tkD (r.drop j)).getD k 0:=by rw [← drop_get']; exact (tk_get hc).2.1
     have hd:isd (r.getD (j + k) 0):=isB_isd.1 hmc.2
     have hb:=byte_sub hd
     have hs:=eR_snoc ((tkD (r.drop j)).take k) ((tkD (r.drop j)).getD k 0)
     have htt:(tkD (r.drop j)).take k++[(tkD (r.drop j)).getD k 0] = (tkD (r.drop j)).take (k + 1):=by
      rw [List.take_add_one,List.getElem?_eq_getElem hc,List.getD_eq_getElem?_getD,List.getElem?_eq_getElem hc]
      rfl
     rw [htt,← hg] at hs
     have hd2:(r.getD (j + k) 0).toNat - 48≤9:=by unfold isd at hd; omega
     generalize eR ((tkD (r.drop j)).take k) = e1 at *
     (focus (refine aN ?_ (fun h9=>?_); rotate_left 1; (focus (exfalso; revert h9; first | decide | (simp<;>omega) | (intro h9; simp at h9<;>omega))); refine fun _=>?_))
     refine aN (fun h=>?_) (fun h=>?_)
     ·have h:(e1:Int) < 10000:=of_decide_eq_true h
      have h:e1 < 10000:=by omega
      rw [if_pos h] at hs
      have hv:(e1:Int) * 10 + IntKind.i64.wrap (IntKind.u8.wrap (((r.getD (j + k) 0).toNat:Int) - 48)) = ((eR ((tkD (r.drop j)).take (k + 1)):Nat):Int):=by
       rw [hb,hs]; omega
      (refine rNG ?_)
      refine bN2 ?_
      refine aN (rng64 (by show _≤(e1:Int) * 10 + IntKind.i64.wrap (IntKind.u8.wrap (((r.getD (j + k) 0).toNat:Int) - 48)); rw [hb]; omega) (by show (e1:Int) * 10 + IntKind.i64.wrap (IntKind.u8.wrap (((r.getD (j + k) 0).toNat:Int) - 48))≤_; rw [hb]; omega)) ?_
      (refine rNG ?_)
      refine eX [] (eX (k + 1) (aN hc (aN ?_ ?_)))
      ·(repeat' (first | exact trivial | exact Or.inl rfl | exact Or.inl ((congrArg (AV.i .i64) hv)) | refine aN ?_ ?_))
      ·show (tkD (r.drop j)).length - (k + 1) < (tkD (r.drop j)).length - k
       omega
     ·have h:¬ (e1:Int) < 10000:=of_decide_eq_false h
      have h:¬ e1 < 10000:=by omega
      rw [if_neg h] at hs
      (refine rNG ?_)
      refine eX [] (eX (k + 1) (aN hc (aN ?_ ?_)))
      ·(repeat' (first | exact trivial | exact Or.inl rfl | exact Or.inl ((congrArg (fun z:Nat=>AV.i .i64 z) hs.symm)) | refine aN ?_ ?_))
      ·show (tkD (r.drop j)).length - (k + 1) < (tkD (r.drop j)).length - k
       omega
    ·have hk:k = (tkD (r.drop j)).length:=by omega
     rw [decide_eq_false (fun h=>hc (hm.1 h))]
     (focus (refine aN (fun h9=>?_) ?_; (focus (exfalso; revert h9; first | decide | (simp<;>omega) | (intro h9; simp at h9<;>omega))); refine fun _=>?_))
     refine eX () (aN trivial ?_)
     (repeat' (first | exact trivial | exact Or.inl rfl | exact Or.inl ((congrArg (fun k:Nat=>AV.i .i64 ((j + k:Nat):Int)) hk)) | exact Or.inl ((congrArg (fun z:Nat=>AV.i .i64 z) (by rw [hk,List.take_length]))) | refine aN ?_ ?_))
   rintro ⟨⟩ _
   have hel2:=eR_le hisd
   by_cases hd0:drD (r.drop j) = []
   rotate_left
   ·rw [if_pos (.inr hd0)] at hlit
    have hdl:=List.length_pos_iff.2 hd0
    rw [hlit]
    refine VCs.of_vc (by first | exact Γ_good | exact Ctx.good_kp Γ_good _) ?_
    (repeat' (first | (refine aN (fun h=>?_) (fun h=>?_)<;>(try simp [-List.getD_eq_getElem?_getD,-Int.pred_toNat] at h)<;>(try (exfalso; first | omega | contradiction))) | (refine rNG ?_) | (refine bN2 ?_) | (refine bN3 ?_) | (intro _)))
    rfl
   rw [if_neg (by rintro (h | h); exact he h; exact h hd0)] at hlit
   rw [hd0] at ht
   have ht:(tkD (r.drop j)).length + 0 = r.length - j:=ht
   generalize tkD (r.drop j) = ex at *
   refine VCs.of_vc (by first | exact Γ_good | exact Ctx.good_kp Γ_good _) ?_
   (repeat' (first | (refine aN (fun h=>?_) (fun h=>?_)<;>(try simp [-List.getD_eq_getElem?_getD,-Int.pred_toNat] at h)<;>(try (exfalso; first | omega | contradiction))) | (refine rNG ?_) | (refine bN2 ?_) | (refine bN3 ?_) | (intro _)))
   refine aN (rng64 (by split<;>omega) (by split<;>omega)) ?_
   have hmul:(eR ex:Int) * (if r.getD n 0 = 45 then -1 else 1) = (if decide (r.getD n 0 = 45) = true then -(eR ex:Int) else eR ex):=by
    by_cases h:r.getD n 0 = 45
    ·rw [if_pos h,decide_eq_true h,if_pos rfl]; omega
    ·rw [if_neg h,decide_eq_false h,if_neg (by decide)]; omega
   refine eX (⟨w,f,decide (r.getD n 0 = 45),ex⟩:LitF) (aN hlit ?_)
   (repeat' (first | exact trivial | exact Or.inl rfl | exact Or.inl ((congrArg (AV.i .i64) hmul)) | refine aN ?_ ?_))
 rintro x hx
 obtain ⟨y1,y2,y3⟩:=litP_good hx
 have hm:=dv80 hx (by omega)
 have hel:=eR_le y2
 have hfl:x.f.length≤80:=by rw [List.length_append] at y3; omega
 rw [hx]
 have hres:resR sg (some x) = if dv (x.w++x.f) = 0∨expR x < -500 then (sg,0) else if 400 < expR x then (0,7) else if nearF (dv (x.w++x.f)) (expR x) = 9218868437227405312 then (0,7) else (nearF (dv (x.w++x.f)) (expR x) + sg,0):=rfl
 rw [hres]
 have hex:expR x = (if x.mi then -(eR x.e:Int) else eR x.e) - x.f.length:=rfl
 have hir : -100000≤(if x.mi then -(eR x.e:Int) else eR x.e)∧(if x.mi then -(eR x.e:Int) else eR x.e)≤100000:=by split<;>omega
 have qo:=s_ofDigits (x.w++x.f) y1 (by omega)
 rw [hex]
 generalize (if x.mi then -(eR x.e:Int) else eR x.e) = ee at *
 generalize x.w++x.f = d at *
 generalize hfe:x.f.length = fl at *
 have hml:(dg 10000 (dv d)).length≤80:=dg_len_le b10 _ _ (Nat.lt_of_lt_of_le hm (Nat.pow_le_pow_left (by decide) _))
 refine VCs.of_vc (by first | exact Γ_good | exact Ctx.good_kp Γ_good _) ?_
 (refine rNG ?_)
 refine Or.inl (eX _ (aN (qo) ?_))
 by_cases hz:dv d = 0
 ·rw [if_pos (.inl hz),hz,show dg 10000 0 = [] from (dg_nil_iff b10 0).2 rfl]
  (repeat' (first | (refine aN (fun h=>?_) (fun h=>?_)<;>(try simp [-List.getD_eq_getElem?_getD,-Int.pred_toNat] at h)<;>(try (exfalso; first | omega | contradiction))) | (refine rNG ?_) | (refine bN2 ?_) | (refine bN3 ?_) | (intro _)))
  rfl
 have hnz:(dg 10000 (dv d)).length≠0:=fun h=>hz ((dg_nil_iff b10 _).1 (List.eq_nil_of_length_eq_zero h))
 intro _
 refine aN (fun _=>?_) (fun h9=>absurd (eq_of_beq h9) (by omega))
 by_cases h5:ee - fl < -500
 ·rw [if_pos (.inr h5)]
  refine aN (fun _=>rfl) (fun h9=>?_)
  rw [cond_false] at h9
  exact absurd h5 (of_decide_eq_false h9)
 rw [if_neg (by omega)]
 refine aN (fun h9=>?_) (fun _=>?_)
 ·rw [cond_false] at h9
  exact absurd (of_decide_eq_true h9) h5
 by_cases h4:400 < ee - fl
 ·rw [if_pos h4]
  refine aN (fun _=>rfl) (fun h9=>absurd h4 (of_decide_eq_false h9))
 rw [if_neg h4]
 refine aN (fun h9=>absurd (of_decide_eq_true h9) h4) (fun _=>?_)
 have qn:=s_nearestOf (dv d) (ee - fl) (by omega) (by omega) (by omega)
 have hnl:=nearF_le (dv d) (ee - fl)
 generalize nearF (dv d) (ee - fl) = b at *
 refine Or.inl (eX _ (aN (qn) ?_))
 by_cases hb:b = 9218868437227405312
 ·rw [if_pos hb]
  refine aN (fun _=>?_) (fun h9=>absurd (show (b:Int) = 9218868437227405312 by omega) (ne_of_beq_false h9))
  rfl
 ·rw [if_neg hb]
  refine aN (fun h9=>absurd (show (b:Int) = 9218868437227405312 from eq_of_beq h9) (by omega)) (fun _=>?_)
  exact congrArg (fun z=>AV.tup [AV.i .u64 z,.i .i64 0]) (by rw [IntKind.wrap_u64]; omega)
theorem s_readFloat (s:Str) (hs:s.length≤1048576):PSpec Tryd.prog 53 [.s s] (rdA (rdR s)) :=
 pspec_of_VCs Γ_good Tryd.func53 rfl Tryd.call53 Tryd.results53 Tryd.ntmps53 (Nat.le_of_ble_eq_true rfl) (w_readFloat s hs) Γ_good
end
end Go.Proofs.YtdcdmojbkmedpaaDoor
end
section
namespace Go.Proofs.YtdcdmojbkmedpaaDoor
open Go Go.SX Go.Bg Go.Fl Go.Nm
set_option maxRecDepth 100000
set_option maxHeartbeats 4000000
section
variable [G:Globs]
theorem w_floatReads (s:Str) (hs:s.length≤1048576):vc Tryd.prog Γ 25 [0,2,3,4,5,6] (Tryd.f10.body.getD .skip) (postK Γ [.tmp 2] (fun v=>v = .b true)) ⟨argSlots 0 [.s s],[]⟩:=by
 have h1:=s_read2 s hs
 have h2:=s_readFloat s hs
 rw [rd_same] at h1
 generalize rdR s = p at *
 unfold rdA at h1 h2
 refine Or.inl (eX _ (aN (h1) ?_))
 refine Or.inl (eX _ (aN (h2) ?_))
 refine aN (fun _=>?_) (fun h9=>absurd rfl (ne_of_beq_false h9))
 show AV.b (p.2 == p.2) = AV.b true
 rw [beq_self_eq_true]
theorem s_floatReads (s:Str) (hs:s.length≤1048576):PSpec Tryd.prog 10 [.s s] (.b true) :=
 pspec_of_vc Γ_good Tryd.func10 rfl Tryd.call10 Tryd.results10 Tryd.ntmps10 (Nat.le_of_ble_eq_true rfl) (w_floatReads s hs)
end
end Go.Proofs.YtdcdmojbkmedpaaDoor
end
section
namespace Go.SX
variable [Globs]
open Go.RowKit Go.WideShapes Go.ChangeShapes Go.Deep
section
variable {H:Type} {encH:TypeId × Value→H} {P:Program} {W:World} {sp:Nat→Bool} {hd:Bool} {O:Nat→Prop}

end
end Go.SX
end
section
namespace Go.SX
variable [Globs]
open Go.RowKit Go.WideShapes Go.ChangeShapes Go.Deep
section
variable {H:Type} {encH:TypeId × Value→H} {P:Program} {W:World} {sp:Nat→Bool} {hd:Bool} {O:Nat→Prop}
end
end Go.SX
end
