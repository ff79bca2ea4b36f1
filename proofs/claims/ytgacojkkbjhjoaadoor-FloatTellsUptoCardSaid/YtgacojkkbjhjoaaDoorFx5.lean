/-
  'typecaselaw.FloatTells' returns true,whatever the input,where what comes in is of bulk at most 1048576,and the input reads as it did. No conditions.
-/
import Derived.Test.YtgacojkkbjhjoaaDoorFx4
import Derived.Laws.Bits64b
import Derived.Lib.ItoaLen
import Derived.Deep.Slices
import Derived.Carry
import Derived.DataReads
import Derived.Test.YtgacojkkbjhjoaaDoorRows
import Derived.WalkKit
import Derived.ProofKit
import Derived.OpenShut
import Derived.JoinedCond
import Derived.ChangeMaps5
import Derived.Test.YtgacojkkbjhjoaaDoorCards
import Derived.Test.YtgacojkkbjhjoaaDoorTie
import Derived.Deep.DeepHandedRow
import Derived.Lib.LaidU8
import Derived.PinnedBridge
import Derived.Shelf.Spec.TrailingZeros
set_option linter.constructorNameAsVariable false
set_option linter.unusedVariables false
set_option linter.unusedSimpArgs false
set_option linter.unusedSectionVars false
section
namespace Go.Proofs.YtgacojkkbjhjoaaDoor
set_option linter.unusedSectionVars false
set_option linter.unusedSimpArgs false
set_option linter.unusedVariables false
open Go Go.SX Go.Bg Go.Fl
set_option maxRecDepth 100000
set_option maxHeartbeats 4000000
def parts (b:Nat):Nat × Int × Int :=
  if b / 4503599627370496 % 2048 = 2047 then (0,0,if b % 4503599627370496 = 0 then 1 else 2)
  else if b / 4503599627370496 % 2048 = 0 then (b % 4503599627370496,-1074,0) else (b % 4503599627370496 + 4503599627370496,(b / 4503599627370496 % 2048:Nat) - 1075,0)
def partsA (b:Nat):AV:=.tup [.i .u64 (parts b).1,.i .i64 (parts b).2.1,.i .i64 (parts b).2.2]
theorem shr52 (b:Nat):(b:Int).fdiv (2 ^ (min (Int.toNat 52) IntKind.u64.bits)) = ((b / 4503599627370496:Nat):Int):=by
  rw [show min (Int.toNat 52) IntKind.u64.bits = 52 from rfl,Int.fdiv_eq_ediv_of_nonneg _ (by decide)]
  rfl
theorem and_mask {b k:Nat} {c:Int} (hb:b < 18446744073709551616) (hc:(BitVec.ofInt 64 c).toNat = 2 ^ k - 1):bits .and .u64 (b:Int) c = ((b % 2 ^ k:Nat):Int):=by
  have h2:(BitVec.ofInt 64 (b:Int)).toNat = b:=by rw [BitVec.toNat_ofInt]; omega
  have key:(BitVec.ofInt 64 (b:Int) &&& BitVec.ofInt 64 c).toNat = b % 2 ^ k:=by rw [BitVec.toNat_and,hc,h2,Nat.and_two_pow_sub_one_eq_mod]
  show IntKind.u64.wrap ((BitVec.ofInt 64 (b:Int) &&& BitVec.ofInt 64 c).toNat:Nat) = _
  have h3:b % 2 ^ k≤b:=Nat.mod_le _ _
  rw [key,IntKind.wrap_u64]
  generalize b % 2 ^ k = z at *
  omega
theorem or_hidden {f:Nat} (h:f < 4503599627370496):bits .or .u64 (f:Int) 4503599627370496 = ((f + 4503599627370496:Nat):Int):=by
  have h1:(BitVec.ofInt 64 4503599627370496).toNat = 4503599627370496:=by decide
  have h2:(BitVec.ofInt 64 (f:Int)).toNat = f:=by rw [BitVec.toNat_ofInt]; omega
  have key:(BitVec.ofInt 64 (f:Int) ||| BitVec.ofInt 64 4503599627370496).toNat = f + 4503599627370496:=by
    rw [BitVec.toNat_or,h1,h2]
    have:=Nat.two_pow_add_eq_or_of_lt (i:=52) (b:=f) (by simpa using h) 1
    rw [Nat.or_comm]
    simp at this
    omega
  show IntKind.u64.wrap ((BitVec.ofInt 64 (f:Int) ||| BitVec.ofInt 64 4503599627370496).toNat:Nat) = _
  rw [key,IntKind.wrap_u64]
  omega
theorem ratN_tN (c:Nat) (k:Int):ratN c k = tN c k:=by
  unfold ratN tN
  split
  · rw [show k.toNat = 0 by omega,Nat.pow_zero,Nat.mul_one]
  · rfl
theorem ratD_tD (k:Int):ratD k = tD k:=by
  unfold ratD tD
  split
  · rfl
  · rw [show (-k).toNat = 0 by omega,Nat.pow_zero]
section
variable [G:Globs]
theorem w_partsW (b:Nat) (hb:b < 18446744073709551616):vc Tryd.prog Γ 31 [0,2,3,4,5,6,13,20,23] (Tryd.f10.body.getD .skip) (postK Γ [.tmp 2,.tmp 3,.tmp 4] (fun v=>v = partsA b)) ⟨argSlots 0 [.i .u64 b],[]⟩:=by
  have e1:bits .and .u64 ((b:Int).fdiv (2 ^ (min (Int.toNat 52) IntKind.u64.bits))) 2047 = ((b / 4503599627370496 % 2048:Nat):Int):=by
    rw [shr52]
    exact and_mask (k:=11) (by omega) (by decide)
  have e2:bits .and .u64 (b:Int) 4503599627370495 = ((b % 4503599627370496:Nat):Int):=and_mask (k:=52) hb (by decide)
  have hf:b % 4503599627370496 < 4503599627370496:=Nat.mod_lt _ (by decide)
  have he:b / 4503599627370496 % 2048 < 2048:=Nat.mod_lt _ (by decide)
  have hw:IntKind.i64.wrap ((b / 4503599627370496 % 2048:Nat):Int) = ((b / 4503599627370496 % 2048:Nat):Int):=by rw [IntKind.wrap_i64]; omega
  unfold partsA parts
  refine And.intro (by decide) ?_
  (conv=>whnf)
  rw [e1,e2,hw]
  have eo:=or_hidden hf
  generalize b / 4503599627370496 % 2048 = x at *
  generalize b % 4503599627370496 = f at *
  by_cases hx:x = 2047
  · rw [if_pos hx]
    by_cases hf0:f = 0
    · rw [if_pos hf0]
      (repeat' (first | (refine And.intro (fun h=>?_) (fun h=>?_)<;>(try simp [-List.getD_eq_getElem?_getD,-Int.pred_toNat] at h)<;>(try (exfalso; first | omega | contradiction))) | (refine And.intro (rng64 (by omega) (by omega)) ?_) | (refine And.intro ⟨by omega,by omega⟩ ?_) | (refine And.intro ⟨by omega,by omega,by omega⟩ ?_) | (intro _)))
      rfl
    · rw [if_neg hf0]
      (repeat' (first | (refine And.intro (fun h=>?_) (fun h=>?_)<;>(try simp [-List.getD_eq_getElem?_getD,-Int.pred_toNat] at h)<;>(try (exfalso; first | omega | contradiction))) | (refine And.intro (rng64 (by omega) (by omega)) ?_) | (refine And.intro ⟨by omega,by omega⟩ ?_) | (refine And.intro ⟨by omega,by omega,by omega⟩ ?_) | (intro _)))
      rfl
  rw [if_neg hx]
  by_cases h0:x = 0
  · rw [if_pos h0]
    (repeat' (first | (refine And.intro (fun h=>?_) (fun h=>?_)<;>(try simp [-List.getD_eq_getElem?_getD,-Int.pred_toNat] at h)<;>(try (exfalso; first | omega | contradiction))) | (refine And.intro (rng64 (by omega) (by omega)) ?_) | (refine And.intro ⟨by omega,by omega⟩ ?_) | (refine And.intro ⟨by omega,by omega,by omega⟩ ?_) | (intro _)))
    rfl
  · rw [if_neg h0]
    (repeat' (first | (refine And.intro (fun h=>?_) (fun h=>?_)<;>(try simp [-List.getD_eq_getElem?_getD,-Int.pred_toNat] at h)<;>(try (exfalso; first | omega | contradiction))) | (refine And.intro (rng64 (by omega) (by omega)) ?_) | (refine And.intro ⟨by omega,by omega⟩ ?_) | (refine And.intro ⟨by omega,by omega,by omega⟩ ?_) | (intro _)))
    exact congrArg (fun z=>AV.tup [.i .u64 z,.i .i64 ((x:Int) - 1075),.i .i64 0]) eo
theorem s_partsW (b:Nat) (hb:b < 18446744073709551616):PSpec Tryd.prog 10 [.i .u64 b] (partsA b) :=
  pspec_of_vc Γ_good Tryd.func10 rfl Tryd.call10 Tryd.results10 Tryd.ntmps10 (Nat.le_of_ble_eq_true rfl) (w_partsW b hb)
theorem d1:dg 4294967296 1 = [1]:=dg_one (n:=1) (by decide) (by decide)
theorem mod_two32 (n:Nat):n % 4294967296 % 2 = n % 2:=by omega
theorem vl_two_words (n:Nat):vl 4294967296 [((n % 4294967296:Nat):Int),((n / 4294967296:Nat):Int)] = n:=by
  simp only [vl,Int.toNat_natCast]
  omega
theorem dg_first {n:Nat} (h:0 < n):(dg 4294967296 n).getD 0 0 = ((n % 4294967296:Nat):Int):=by
  obtain ⟨k,rfl⟩:∃ k,n = k + 1:=⟨n - 1,by omega⟩
  rw [dg,dgF,if_neg (by omega)]
  rfl
theorem and1_32 (q:Nat) (h:q < 4294967296):bits .and .u32 (q:Int) 1 = ((q % 2:Nat):Int):=by
  have h1:(BitVec.ofInt 32 1).toNat = 2 ^ 1 - 1:=by decide
  have key:(BitVec.ofInt 32 (q:Int) &&& BitVec.ofInt 32 1).toNat = ((q:Int) % ((2 ^ 32:Nat):Int)).toNat % 2 ^ 1:=by
    rw [BitVec.toNat_and,BitVec.toNat_ofInt,h1,Nat.and_two_pow_sub_one_eq_mod]
  show IntKind.u32.wrap ((BitVec.ofInt 32 (q:Int) &&& BitVec.ofInt 32 1).toNat:Nat) = ((q % 2:Nat):Int)
  rw [key,IntKind.wrap_u32]
  omega
theorem w_natW (n:Nat) (hn:n < 18446744073709551616):vc Tryd.prog Γ 10 [0,2] (Tryd.f24.body.getD .skip) (postK Γ [.tmp 2] (fun v=>v = .rd .u32 (dg 4294967296 n))) ⟨argSlots 0 [.i .u64 n],[]⟩:=by
  have e1:IntKind.u32.wrap (n:Int) = ((n % 4294967296:Nat):Int):=by rw [IntKind.wrap_u32]; omega
  have e2:IntKind.u32.wrap ((n:Int).fdiv (2 ^ (min (Int.toNat 32) IntKind.u64.bits))) = ((n / 4294967296:Nat):Int):=by rw [shr32,IntKind.wrap_u32]; omega
  have q:=s_trim [((n % 4294967296:Nat):Int),((n / 4294967296:Nat):Int)] (Dg.cons ⟨by omega,by omega⟩ (Dg.cons ⟨by omega,by omega⟩ (Dg.nil _))) (show 2≤1000000 by decide)
  rw [vl_two_words,← e1,← e2] at q
  refine And.intro (by decide) ?_
  refine Or.inl (Exists.intro _ (And.intro (q) ?_))
  rfl
theorem s_natW (n:Nat) (hn:n < 18446744073709551616):PSpec Tryd.prog 24 [.i .u64 n] (.rd .u32 (dg 4294967296 n)) :=
  pspec_of_vc Γ_good Tryd.func24 rfl Tryd.call24 Tryd.results24 Tryd.ntmps24 (Nat.le_of_ble_eq_true rfl) (w_natW n hn)
theorem w_oddW (n:Nat):vc Tryd.prog Γ 13 [0,2] (Tryd.f70.body.getD .skip) (postK Γ [.tmp 2] (fun v=>v = .b (decide (n % 2 = 1)))) ⟨argSlots 0 [.rd .u32 (dg 4294967296 n)],[]⟩:=by
  intro _
  by_cases h0:n = 0
  · subst h0
    rw [show dg 4294967296 0 = [] from (dg_nil_iff b32 0).2 rfl]
    (focus (refine And.intro (fun h9=>?_) ?_; (focus (exfalso; revert h9; first | decide | (simp<;>omega) | (intro h9; simp at h9<;>omega))); refine fun _=>?_))
    rfl
  have hl:0 < (dg 4294967296 n).length:=List.length_pos_iff.2 fun h=>h0 ((dg_nil_iff b32 n).1 h)
  have hg:=dg_first (n:=n) (by omega)
  have ha:=and1_32 (n % 4294967296) (Nat.mod_lt _ (by decide))
  rw [mod_two32] at ha
  refine And.intro (fun _=>?_) (fun h9=>absurd (show (0:Int) < ((dg 4294967296 n).length:Int) by omega) (of_decide_eq_false h9))
  refine And.intro ⟨by omega,by omega⟩ ?_
  (conv=>whnf)
  rw [show (dg 4294967296 n).getD (Int.toNat 0) (dflt .u32) = ((n % 4294967296:Nat):Int) from hg,ha]
  refine congrArg AV.b ?_
  show (((n % 2:Nat):Int) == 1) = decide (n % 2 = 1)
  rcases Nat.mod_two_eq_zero_or_one n with h | h<;>rw [h]<;>rfl
theorem s_oddW (n:Nat):PSpec Tryd.prog 70 [.rd .u32 (dg 4294967296 n)] (.b (decide (n % 2 = 1))) :=
  pspec_of_vc Γ_good Tryd.func70 rfl Tryd.call70 Tryd.results70 Tryd.ntmps70 (Nat.le_of_ble_eq_true rfl) (w_oddW n)
theorem w_belowW (N D:Nat) (p:Int) (hN:(dg 4294967296 N).length≤100000) (hD:(dg 4294967296 D).length≤100000) (h1 : -1000≤p) (h2:p≤1000):vc Tryd.prog Γ 23 [0,1,2,6,7,8] (Tryd.f63.body.getD .skip) (postK Γ [.tmp 6] (fun v=>v = .b (decide (N * tD p < tN D p)))) ⟨argSlots 0 [.rd .u32 (dg 4294967296 N),.rd .u32 (dg 4294967296 D),.i .i64 p],[]⟩:=by
  have qr:=s_ratio 1 p (by rw [d1]; decide) h1 h2
  have lN:=ratN_len (m:=1) (e:=p) (K:=1) (by rw [d1]; decide) h2
  have lD:=ratD_len h1
  rw [ratN_tN,ratD_tD,d1] at qr
  rw [ratN_tN] at lN
  rw [ratD_tD] at lD
  have ht:D * tN 1 p = tN D p:=by unfold tN; rw [Nat.one_mul]
  have q1:=s_mul (dg 4294967296 N) (dg 4294967296 (tD p)) (dg_Dg b32 _) (dg_Dg b32 _) (by omega) (by omega)
  have q2:=s_mul (dg 4294967296 D) (dg 4294967296 (tN 1 p)) (dg_Dg b32 _) (dg_Dg b32 _) (by omega) (by omega)
  rw [vl_dg b32,vl_dg b32] at q1 q2
  have l1:=mul_len hN lD
  have l2:=mul_len hD lN
  have q3:=s_cmp (dg 4294967296 (N * tD p)) (dg 4294967296 (D * tN 1 p)) (dg_Dg b32 _) (dg_Dg b32 _) (by omega) (by omega)
  rw [vl_dg b32,vl_dg b32] at q3
  rw [ht] at q2 q3
  have hc:decide (cmpN (N * tD p) (tN D p) < 0) = decide (N * tD p < tN D p):=by
    by_cases h:N * tD p < tN D p
    · rw [decide_eq_true h,decide_eq_true (by unfold cmpN; rw [if_pos h]; decide)]
    · rw [decide_eq_false h,decide_eq_false fun h9=>h (cmpN_lt h9)]
  refine Or.inl (Exists.intro _ (And.intro (qr) ?_))
  refine Or.inl (Exists.intro _ (And.intro (q1) ?_))
  refine Or.inl (Exists.intro _ (And.intro (q2) ?_))
  refine Or.inl (Exists.intro _ (And.intro (q3) ?_))
  exact congrArg AV.b hc
theorem s_belowW (N D:Nat) (p:Int) (hN:(dg 4294967296 N).length≤100000) (hD:(dg 4294967296 D).length≤100000) (h1 : -1000≤p) (h2:p≤1000):PSpec Tryd.prog 63 [.rd .u32 (dg 4294967296 N),.rd .u32 (dg 4294967296 D),.i .i64 p] (.b (decide (N * tD p < tN D p))) :=
  pspec_of_vc Γ_good Tryd.func63 rfl Tryd.call63 Tryd.results63 Tryd.ntmps63 (Nat.le_of_ble_eq_true rfl) (w_belowW N D p hN hD h1 h2)
end
end Go.Proofs.YtgacojkkbjhjoaaDoor
end
section
namespace Go.Proofs.YtgacojkkbjhjoaaDoor
set_option linter.unusedSectionVars false
set_option linter.unusedSimpArgs false
set_option linter.unusedVariables false
open Go Go.SX Go.Bg Go.Fl
set_option maxRecDepth 100000
set_option maxHeartbeats 4000000
theorem tdiv10_rng {x:Int} (h1 : -3400≤x) (h2:x≤3400) : -340≤x.tdiv 10∧x.tdiv 10≤340:=by
  rcases Int.le_total 0 x with h | h
  · obtain ⟨n,rfl⟩:∃ n:Nat,x = n:=⟨x.toNat,by omega⟩
    have:(n:Int).tdiv 10 = ((n / 10:Nat):Int):=rfl
    omega
  · obtain ⟨n,rfl⟩:∃ n:Nat,x = -(n:Int):=⟨(-x).toNat,by omega⟩
    have:(n:Int).tdiv 10 = ((n / 10:Nat):Int):=rfl
    rw [Int.neg_tdiv]
    omega
theorem bel_high {m:Nat} {e:Int} (h:Canon m e):Bel m e 400:=by
  obtain ⟨h1,h2,h3,h4,h5⟩:=h
  unfold Bel qN qD vN tD tN
  obtain ⟨j,hj⟩:∃ j:Nat,j = 400:=⟨_,rfl⟩
  obtain ⟨a,ha⟩:∃ a:Nat,a = 971:=⟨_,rfl⟩
  rw [show ((-400:Int)).toNat = 0 from rfl,Nat.pow_zero,Nat.mul_one,show (400:Int).toNat = j by omega]
  have q1:m * 2 ^ e.toNat < 2 ^ 53 * 2 ^ a:=Nat.mul_lt_mul_of_lt_of_le h4 (Nat.pow_le_pow_right (by decide) (by omega)) (Nat.pow_pos (by decide))
  have q2:2 ^ 53 * 2 ^ a≤10 ^ j:=by
    rw [← Nat.pow_add]
    refine Nat.le_trans (Nat.pow_le_pow_right (n:=2) (j:=3 * j) (by decide) (by omega)) ?_
    rw [Nat.pow_mul]
    exact Nat.pow_le_pow_left (by decide) _
  have q3:1 * 10 ^ j≤vD e * 10 ^ j:=Nat.mul_le_mul_right _ (vD_pos e)
  omega
theorem bel_low {m:Nat} {e:Int} (h:Canon m e):¬ Bel m e (-400):=by
  obtain ⟨h1,h2,h3,h4,h5⟩:=h
  unfold Bel qN qD vN vD tD tN
  obtain ⟨j,hj⟩:∃ j:Nat,j = 400:=⟨_,rfl⟩
  rw [show ((-400:Int)).toNat = 0 from rfl,Nat.pow_zero,Nat.mul_one,show (- -400:Int).toNat = j by omega]
  have q2:2 ^ (-e).toNat≤10 ^ j:=by
    refine Nat.le_trans (Nat.pow_le_pow_right (n:=2) (j:=3 * j) (by decide) (by omega)) ?_
    rw [Nat.pow_mul]
    exact Nat.pow_le_pow_left (by decide) _
  have q3:1 * 10 ^ j≤m * 2 ^ e.toNat * 10 ^ j:=Nat.mul_le_mul_right _ (Nat.mul_pos h3 (Nat.pow_pos (by decide)))
  omega
section
variable [G:Globs]
theorem vN_len {m:Nat} {e:Int} (h:Canon m e):(dg 4294967296 (vN m e)).length≤33:=by
  have h2:(dg 4294967296 m).length≤2:=dg_len_le b32 _ _ (Nat.lt_of_lt_of_le h.m1 (by decide))
  have:=up_len (p:=e.toNat) (k:=31) (by have:=h.hi; omega) h2
  rw [Nat.mul_comm] at this
  exact this
theorem vD_len {m:Nat} {e:Int} (h:Canon m e):(dg 4294967296 (vD e)).length≤35:=by
  have h2:(dg 4294967296 1).length≤1:=by rw [d1]; decide
  have:=up_len (m:=1) (p:=(-e).toNat) (k:=34) (by have:=h.lo; omega) h2
  rw [Nat.mul_one] at this
  exact this
theorem w_magW (m:Nat) (e:Int) (h:Canon m e):vc Tryd.prog Γ 28 [0,1,4,5,17,24] (Tryd.f26.body.getD .skip) (postK Γ [.tmp 4] (fun v=>v = .i .i64 (topOf m e))) ⟨argSlots 0 [.rd .u32 (dg 4294967296 (vN m e)),.rd .u32 (dg 4294967296 (vD e))],[]⟩:=by
  have lN:=vN_len h
  have lD:=vD_len h
  have hhi:=bel_high h
  have hlo:=bel_low h
  have bN:=len_bl lN
  have bD:=len_bl lD
  have qN':=s_len (dg 4294967296 (vN m e)) (dg_Dg b32 _) (by omega)
  have qD':=s_len (dg 4294967296 (vD e)) (dg_Dg b32 _) (by omega)
  rw [vl_dg b32] at qN' qD'
  have qb:=fun p h1 h2=>s_belowW (vN m e) (vD e) p (by omega) (by omega) h1 h2
  have hB:∀ p,Bel m e p↔vN m e * tD p < tN (vD e) p:=fun p=>Iff.rfl
  have hmono:=fun {p q:Int} (hb:Bel m e p) (hq:p≤q)=>by
    have:=bel_mono hb (q - p).toNat
    rwa [show p + ((q - p).toNat:Int) = q by omega] at this
  have ht:=tdiv10_rng (x:=(((bl (vN m e):Nat):Int) - ((bl (vD e):Nat):Int)) * 3) (by omega) (by omega)
  refine Or.inl (Exists.intro _ (And.intro (qN') ?_))
  refine Or.inl (Exists.intro _ (And.intro (qD') ?_))
  (repeat' (first | (refine And.intro (fun h=>?_) (fun h=>?_)<;>(try simp [-List.getD_eq_getElem?_getD,-Int.pred_toNat] at h)<;>(try (exfalso; first | omega | contradiction))) | (refine And.intro (rng64 (by omega) (by omega)) ?_) | (refine And.intro ⟨by omega,by omega⟩ ?_) | (refine And.intro ⟨by omega,by omega,by omega⟩ ?_) | (intro _)))
  refine And.intro (by decide) ?_
  refine And.intro (rng64 (by omega) (by omega)) ?_
  generalize Int.tdiv ((((bl (vN m e):Nat):Int) - ((bl (vD e):Nat):Int)) * 3) 10 = p0 at *
  refine Exists.intro [] (Exists.intro [] (Exists.intro [] (Exists.intro Int (Exists.intro (fun p=>-340≤p∧p≤400) (Exists.intro (fun p=>⟨[(0,.rd .u32 (dg 4294967296 (vN m e))),(1,.rd .u32 (dg 4294967296 (vD e))),(5,.i .i64 p)],[]⟩) (Exists.intro (fun p=>(400 - p).toNat) (Exists.intro p0 (And.intro ⟨by omega,by omega⟩ (And.intro ?_ ?_)))))))))
  · (repeat' (first | exact trivial | exact Or.inl rfl | exact Or.inr (Or.inl ⟨rfl,_,rfl⟩) | exact Or.inr (Or.inr (Or.inr ⟨_,_,_,rfl,rfl⟩)) | refine And.intro ?_ ?_))
  rintro p ⟨i1,i2⟩
  refine Or.inl (Exists.intro _ (And.intro (qb p (by omega) (by omega)) ?_))
  by_cases hb:Bel m e p
  rotate_left
  · have hp4:p≠400:=fun h=>hb (h ▸ hhi)
    rw [decide_eq_false (show ¬ (vN m e * tD p < tN (vD e) p) from hb)]
    (focus (refine And.intro ?_ (fun h9=>?_); rotate_left 1; (focus (exfalso; revert h9; first | decide | (simp<;>omega) | (intro h9; simp at h9<;>omega))); refine fun _=>?_))
    (repeat' (first | (refine And.intro (fun h=>?_) (fun h=>?_)<;>(try simp [-List.getD_eq_getElem?_getD,-Int.pred_toNat] at h)<;>(try (exfalso; first | omega | contradiction))) | (refine And.intro (rng64 (by omega) (by omega)) ?_) | (refine And.intro ⟨by omega,by omega⟩ ?_) | (refine And.intro ⟨by omega,by omega,by omega⟩ ?_) | (intro _)))
    refine Exists.intro [] (Exists.intro (p + 1) (And.intro ⟨by omega,by omega⟩ (And.intro ?_ ?_)))
    · (repeat' (first | exact trivial | exact Or.inl rfl | exact Or.inr (Or.inl ⟨rfl,_,rfl⟩) | exact Or.inr (Or.inr (Or.inr ⟨_,_,_,rfl,rfl⟩)) | refine And.intro ?_ ?_))
    · show (400 - (p + 1)).toNat < (400 - p).toNat
      omega
  rw [decide_eq_true (show vN m e * tD p < tN (vD e) p from hb)]
  (focus (refine And.intro (fun h9=>?_) ?_; (focus (exfalso; revert h9; first | decide | (simp<;>omega) | (intro h9; simp at h9<;>omega))); refine fun _=>?_))
  refine Exists.intro [] (Exists.intro [] (Exists.intro [] (Exists.intro Int (Exists.intro (fun p=>-399≤p∧p≤400∧Bel m e p) (Exists.intro (fun p=>⟨[(0,.rd .u32 (dg 4294967296 (vN m e))),(1,.rd .u32 (dg 4294967296 (vD e))),(5,.i .i64 p)],[]⟩) (Exists.intro (fun p=>(p + 400).toNat) (Exists.intro p (And.intro ⟨by omega,by omega,hb⟩ (And.intro ?_ ?_)))))))))
  · (repeat' (first | exact trivial | exact Or.inl rfl | exact Or.inr (Or.inl ⟨rfl,_,rfl⟩) | exact Or.inr (Or.inr (Or.inr ⟨_,_,_,rfl,rfl⟩)) | refine And.intro ?_ ?_))
  clear hb i1 i2
  rintro p ⟨i1,i2,hb⟩
  have qp:=qb (p - 1) (by omega) (by omega)
  (refine And.intro (rng64 (by omega) (by omega)) ?_)
  refine Or.inl (Exists.intro _ (And.intro (qp) ?_))
  by_cases hc:Bel m e (p - 1)
  · have hp4:p - 1≠-400:=fun h=>hlo (h ▸ hc)
    rw [decide_eq_true (show vN m e * tD (p - 1) < tN (vD e) (p - 1) from hc)]
    (focus (refine And.intro ?_ (fun h9=>?_); rotate_left 1; (focus (exfalso; revert h9; first | decide | (simp<;>omega) | (intro h9; simp at h9<;>omega))); refine fun _=>?_))
    (repeat' (first | (refine And.intro (fun h=>?_) (fun h=>?_)<;>(try simp [-List.getD_eq_getElem?_getD,-Int.pred_toNat] at h)<;>(try (exfalso; first | omega | contradiction))) | (refine And.intro (rng64 (by omega) (by omega)) ?_) | (refine And.intro ⟨by omega,by omega⟩ ?_) | (refine And.intro ⟨by omega,by omega,by omega⟩ ?_) | (intro _)))
    refine Exists.intro [] (Exists.intro (p - 1) (And.intro ⟨by omega,by omega,hc⟩ (And.intro ?_ ?_)))
    · (repeat' (first | exact trivial | exact Or.inl rfl | exact Or.inr (Or.inl ⟨rfl,_,rfl⟩) | exact Or.inr (Or.inr (Or.inr ⟨_,_,_,rfl,rfl⟩)) | refine And.intro ?_ ?_))
    · show (p - 1 + 400).toNat < (p + 400).toNat
      omega
  · rw [decide_eq_false (show ¬ (vN m e * tD (p - 1) < tN (vD e) (p - 1)) from hc)]
    (focus (refine And.intro (fun h9=>?_) ?_; (focus (exfalso; revert h9; first | decide | (simp<;>omega) | (intro h9; simp at h9<;>omega))); refine fun _=>?_))
    rw [topOf_eq ⟨hb,hc⟩]
    rfl
theorem s_magW (m:Nat) (e:Int) (h:Canon m e):PSpec Tryd.prog 26 [.rd .u32 (dg 4294967296 (vN m e)),.rd .u32 (dg 4294967296 (vD e))] (.i .i64 (topOf m e)) :=
  pspec_of_vc Γ_good Tryd.func26 rfl Tryd.call26 Tryd.results26 Tryd.ntmps26 (Nat.le_of_ble_eq_true rfl) (w_magW m e h)
end
end Go.Proofs.YtgacojkkbjhjoaaDoor
end
section
namespace Go.Proofs.YtgacojkkbjhjoaaDoor
set_option linter.unusedSectionVars false
set_option linter.unusedSimpArgs false
set_option linter.unusedVariables false
open Go Go.SX Go.Bg
set_option maxRecDepth 100000
set_option maxHeartbeats 0
theorem tmod10 (m:Nat):(m:Int).tmod 10 = ((m % 10:Nat):Int):=rfl
theorem tdiv10 (m:Nat):(m:Int).tdiv 10 = ((m / 10:Nat):Int):=rfl
theorem digits_next {i j z V : Nat} {m : List Int} (hj : j < 4) (h2 : Dg 10 m) (h3 : m.length = 4 * i + j) (h4 : z < 10 ^ (4 - j)) (h5 : vl 10 m + 10 ^ (4 * i + j) * z = V) :
    j + 1≤4∧Dg 10 (m++[((z % 10:Nat):Int)])∧(m++[((z % 10:Nat):Int)]).length = 4 * i + (j + 1)∧z / 10 < 10 ^ (4 - (j + 1))∧vl 10 (m++[((z % 10:Nat):Int)]) + 10 ^ (4 * i + (j + 1)) * (z / 10) = V:=by
  refine ⟨hj,h2.snoc ⟨by omega,by omega⟩,by simp [h3]; omega,?_,?_⟩
  · rw [Nat.div_lt_iff_lt_mul (by decide),← Nat.pow_succ,show (4 - (j + 1)).succ = 4 - j by omega]
    exact h4
  · rw [vl_snoc,h3,Int.toNat_natCast,show 4 * i + (j + 1) = (4 * i + j) + 1 by omega,Nat.pow_succ,Nat.mul_assoc,Nat.add_assoc,← Nat.mul_add,Nat.mod_add_div]
    exact h5
section
variable [G:Globs]
theorem w_digits (a:List Int) (ha:Dg 10000 a) (hla:a.length≤1000000):vc Tryd.prog Γ 42 [0,2,3,4,5,7,8,9,15,16,36,40] (Tryd.f31.body.getD .skip) (postK Γ [.tmp 2] (fun v=>v = .s (decS (vl 10000 a)))) ⟨argSlots 0 [.rd .int a],[]⟩:=by
  intro _
  refine Exists.intro [] (Exists.intro [] (Exists.intro [] (Exists.intro (Nat × List Int) (Exists.intro (fun x=>x.1≤a.length∧Dg 10 x.2∧x.2.length = 4 * x.1∧vl 10 x.2 = vl 10000 (a.take x.1)) (Exists.intro (fun ⟨i,l⟩=>⟨[(0,.rd .int a),(3,.s (dstr l)),(7,.i .i64 a.length),(8,.i .i64 i)],[]⟩) (Exists.intro (fun x=>a.length - x.1) (Exists.intro (0,[]) (And.intro ⟨by simp,Dg.nil _,rfl,rfl⟩ (And.intro ?_ ?_)))))))))
  · (repeat' (first | exact trivial | exact Or.inl rfl | exact Or.inr (Or.inl ⟨rfl,_,rfl⟩) | exact Or.inr (Or.inr (Or.inr ⟨_,_,_,rfl,rfl⟩)) | refine And.intro ?_ ?_))
  · rintro ⟨i,l⟩ ⟨h1,h2,h3,h4⟩
    dsimp only at h1 h2 h3 h4
    refine And.intro (fun hc=>?_) (fun hc=>?_)
    · have hi : i < a.length := by have : (i : Int) < (a.length : Int) := of_decide_eq_true hc
                                   omega
      clear hc
      obtain ⟨x,hx,hxl,hxn⟩:=getN ha i
      refine And.intro ⟨by omega,by omega⟩ ?_
      refine Exists.intro [] (Exists.intro [] (Exists.intro [] (Exists.intro (Nat × Nat × List Int) (Exists.intro (fun y=>y.1≤4∧Dg 10 y.2.2∧y.2.2.length = 4 * i + y.1∧y.2.1 < 10 ^ (4 - y.1)∧vl 10 y.2.2 + 10 ^ (4 * i + y.1) * y.2.1 = vl 10000 (a.take (i + 1))) (Exists.intro (fun ⟨j,z,l⟩=>⟨[(0,.rd .int a),(3,.s (dstr l)),(5,.i .i64 z),(7,.i .i64 a.length),(8,.i .i64 i),(15,.i .i64 j)],[]⟩) (Exists.intro (fun y=>4 - y.1) (Exists.intro (0,x,l) (And.intro ⟨by simp,h2,by simp [h3],by simp; omega,by dsimp only; rw [h4,vl_take_succ,hxn,Nat.add_zero,Nat.pow_mul]⟩ (And.intro ?_ ?_)))))))))
      · (repeat' (first | exact trivial | exact Or.inl rfl | exact Or.inl ((congrArg (AV.i .i64) hx)) | refine And.intro ?_ ?_))
      · rintro ⟨j,z,m⟩ ⟨g1,g2,g3,g4,g5⟩
        dsimp only at g1 g2 g3 g4 g5
        refine And.intro (fun hd=>?_) (fun hd=>?_)
        · have hj : j < 4 := by have : (j : Int) < 4 := of_decide_eq_true hd
                                omega
          clear hd
          have hz:z < 10000:=Nat.lt_of_lt_of_le g4 (Nat.pow_le_pow_right (i:=4 - j) (j:=4) (by decide) (by omega))
          have hml:(dstr m).length = 4 * i + j:=by rw [dstr_len,g3]
          have he:ofB (IntKind.u8.wrap (48 + (z:Int).tmod 10)) = dch ((z % 10:Nat):Int):=by
            rw [tmod10,IntKind.wrap_u8,ofB,dch]
            congr 1
            omega
          refine And.intro (by decide) ?_
          refine And.intro (rng64 (by rw [tmod10]; omega) (by rw [tmod10]; omega)) ?_
          refine And.intro (by show 1 + (dstr m).length≤maxLen; unfold maxLen; omega) ?_
          refine And.intro (by decide) ?_
          refine And.intro (rng64 (by rw [tdiv10]; omega) (by rw [tdiv10]; omega)) ?_
          (refine And.intro (rng64 (by omega) (by omega)) ?_)
          refine Exists.intro [] (Exists.intro (j + 1,z / 10,m++[((z % 10:Nat):Int)]) (And.intro (digits_next hj g2 g3 g4 g5) (And.intro ?_ ?_)))
          · (repeat' (first | exact trivial | exact Or.inl rfl | exact Or.inl ((by rw [dstr_snoc,← he]; rfl)) | refine And.intro ?_ ?_))
          · show 4 - (j + 1) < 4 - j
            omega
        · have hj : j = 4 := by have : ¬ (j : Int) < 4 := of_decide_eq_false hd
                                omega
          subst hj
          have g4:z = 0:=by simpa using g4
          subst g4
          rw [Nat.mul_zero,Nat.add_zero] at g5
          (refine And.intro (rng64 (by omega) (by omega)) ?_)
          refine Exists.intro [] (Exists.intro (i + 1,m) (And.intro ⟨hi,g2,by dsimp only; omega,g5⟩ (And.intro ?_ ?_)))
          · (repeat' (first | exact trivial | exact Or.inl rfl | exact Or.inr (Or.inl ⟨rfl,_,rfl⟩) | exact Or.inr (Or.inr (Or.inr ⟨_,_,_,rfl,rfl⟩)) | refine And.intro ?_ ?_))
          · show a.length - (i + 1) < a.length - i
            omega
    · have hi : i = a.length := by have : ¬ (i : Int) < (a.length : Int) := of_decide_eq_false hc
                                   omega
      subst hi
      rw [List.take_length] at h4
      clear hc
      refine Exists.intro [] (Exists.intro [] (Exists.intro [] (Exists.intro Nat (Exists.intro (fun k=>k≤l.length∧∀ t,k≤t→l.getD t 0 = 0) (Exists.intro (fun k=>⟨[(3,.s (dstr (l.take k)))],[]⟩) (Exists.intro (fun k=>k) (Exists.intro l.length (And.intro ⟨Nat.le_refl _,fun i hi=>by rw [List.getD_eq_getElem?_getD,List.getElem?_eq_none hi]; rfl⟩ (And.intro ?_ ?_)))))))))
      · (repeat' (first | exact trivial | exact Or.inl rfl | exact Or.inl ((by rw [List.take_length])) | refine And.intro ?_ ?_))
      · rintro k ⟨hk,hz⟩
        intro hlen; replace hlen:=len_le hlen
        have hlk:(l.take k).length = k:=by rw [List.length_take]; omega
        refine And.intro (fun hg=>?_) (fun hg=>?_)
        · have hg : 0 < k := by
            have:(0:Int) < ((dstr (l.take k)).length:Int):=of_decide_eq_true hg
            rw [dstr_len,hlk] at this
            omega
          obtain ⟨j,rfl⟩:∃ j,k = j + 1:=⟨k - 1,by omega⟩
          have hgj:=h2.getD (by decide) j
          have hst:dstr (l.take (j + 1)) = dch (l.getD j 0)::dstr (l.take j):=by
            rw [List.take_add_one,List.getElem?_eq_getElem (by omega),List.getD_eq_getElem?_getD,List.getElem?_eq_getElem (by omega)]
            exact dstr_snoc _ _
          rw [hst]
          refine And.intro ⟨by omega,by simp⟩ ?_
          refine And.intro (fun hq=>?_) (fun hq=>?_)
          · have hq : l.getD j 0 = 0 := by
              have h9:(((dch (l.getD j 0)).toNat:Int) == 48) = true:=hq
              have h9:=eq_of_beq h9
              rw [dch_nat hgj] at h9
              omega
            refine And.intro ⟨by omega,by simp; omega,by simp⟩ ?_
            refine Exists.intro [] (Exists.intro j (And.intro ⟨by omega,zero_below hz hq⟩ (And.intro ?_ ?_)))
            · (repeat' (first | exact trivial | exact Or.inl rfl | exact Or.inl ((by simp)) | refine And.intro ?_ ?_))
            · show j < j + 1
              omega
          · have hq : l.getD j 0 ≠ 0 := by
              intro h0
              have h9:(((dch (l.getD j 0)).toNat:Int) == 48) = false:=hq
              rw [h0] at h9
              exact absurd h9 (by decide)
            have hfin:l.take (j + 1) = dg 10 (vl 10 l):=canonTake (by decide) h2 hk (Or.inr (by simpa using hq)) hz
            refine And.intro (fun h8=>absurd h8 (by simp)) (fun _=>?_)
            refine congrArg AV.s ?_
            rw [← hst,hfin,h4,decS,if_neg]
            intro h0
            rw [h4,h0] at hfin
            have:=congrArg List.length hfin
            rw [hlk] at this
            simp at this
        · have hk0 : k = 0 := by
            have:¬ (0:Int) < ((dstr (l.take k)).length:Int):=of_decide_eq_false hg
            rw [dstr_len,hlk] at this
            omega
          subst hk0
          have hfin:l.take 0 = dg 10 (vl 10 l):=canonTake (by decide) h2 (Nat.zero_le _) (Or.inl rfl) hz
          have h0:vl 10000 a = 0:=by rw [← h4]; exact (dg_nil_iff (by decide) _).1 hfin.symm
          refine And.intro (fun h8=>absurd h8 (by simp)) (fun _=>?_)
          refine And.intro (fun h8=>?_) (fun h8=>absurd h8 (by simp [dstr]))
          refine congrArg AV.s ?_
          rw [h0]
          rfl
theorem s_digits (a:List Int) (ha:Dg 10000 a) (hla:a.length≤1000000):PSpec Tryd.prog 31 [.rd .int a] (.s (decS (vl 10000 a))) :=
  pspec_of_vc Γ_good Tryd.func31 rfl Tryd.call31 Tryd.results31 Tryd.ntmps31 (Nat.le_of_ble_eq_true rfl) (w_digits a ha hla)
end
end Go.Proofs.YtgacojkkbjhjoaaDoor
end
section
namespace Go.Proofs.YtgacojkkbjhjoaaDoor
set_option linter.unusedSectionVars false
set_option linter.unusedSimpArgs false
set_option linter.unusedVariables false
open Go Go.SX Go.Bg
set_option maxRecDepth 100000
set_option maxHeartbeats 0
theorem byte_sub {c:UInt8} (h:isd c):IntKind.i64.wrap (IntKind.u8.wrap ((c.toNat:Int) - 48)) = ((c.toNat - 48:Nat):Int):=by
  obtain ⟨h1,h2⟩:=h
  rw [IntKind.wrap_u8,IntKind.wrap_i64]
  omega
theorem isd_get {s:Str} (h:∀ c ∈ s,isd c) {k:Nat} (hk:k < s.length):isd (s.getD k 0):=by
  rw [List.getD_eq_getElem?_getD,List.getElem?_eq_getElem hk]
  exact h _ (List.getElem_mem hk)
theorem chunk {s:Str} {k n:Nat} (hk:k≤s.length) (hn:n≤k):dv (s.take k) = dv (s.take n) * 10 ^ (k - n) + dv ((s.take k).drop n):=by
  have:=dv_split (s.take k) n
  rw [List.take_take,Nat.min_eq_left hn,List.length_drop,List.length_take,Nat.min_eq_left hk] at this
  exact this
theorem chunk_next {s:Str} {k n m:Nat} (hk:k≤s.length) (hm:m < k) (hn:n≤m):dv ((s.take (m + 1)).drop n) = dv ((s.take m).drop n) * 10 + ((s.getD m 0).toNat - 48):=by
  have:(s.take (m + 1)).drop n = (s.take m).drop n++[s.getD m 0]:=by
    rw [List.take_add_one,List.getElem?_eq_getElem (by omega),List.getD_eq_getElem?_getD,List.getElem?_eq_getElem (by omega),List.drop_append_of_le_length (by rw [List.length_take]; omega)]
    rfl
  rw [this,dv_snoc]
theorem ofd_next {s : Str} {k n x : Nat} {o : List Int} (h1 : k ≤ s.length) (h2 : Dg 10000 o) (h3 : o.length + k ≤ s.length) (h4 : vl 10000 o + 10000 ^ o.length * dv (s.take k) = dv s) (hx : x < 10000) (hc : dv (s.take k) = dv (s.take n) * 10 ^ (k - n) + x)
    (hn:n + 4 = k∨(n = 0∧k < 4)) (hk:0 < k) :
    n≤s.length∧Dg 10000 (o++[(x:Int)])∧(o++[(x:Int)]).length + n≤s.length∧vl 10000 (o++[(x:Int)]) + 10000 ^ (o++[(x:Int)]).length * dv (s.take n) = dv s:=by
  refine ⟨by omega,h2.snoc ⟨by omega,by omega⟩,by simp; omega,?_⟩
  rw [vl_snoc,List.length_append,List.length_singleton,Int.toNat_natCast,Nat.pow_succ,← h4,hc,Nat.mul_assoc,Nat.add_assoc,← Nat.mul_add]
  rcases hn with h | ⟨rfl,h⟩
  · rw [show k - n = 4 by omega,Nat.add_comm x,Nat.mul_comm 10000]
  · rw [List.take_zero,dv]
    simp
section
variable [G:Globs]
theorem w_ofDigits (s:Str) (hs:∀ c ∈ s,isd c) (hl:s.length≤1000000):vc Tryd.prog Γ 38 [0,2,3,4,5,6,9,18] (Tryd.f32.body.getD .skip) (postK Γ [.tmp 2] (fun v=>v = .rd .int (dg 10000 (dv s)))) ⟨argSlots 0 [.s s],[]⟩:=by
  refine Exists.intro [(3,3,.int)] (Exists.intro [] (Exists.intro [] (Exists.intro (Nat × List Int) (Exists.intro (fun x=>x.1≤s.length∧Dg 10000 x.2∧x.2.length + x.1≤s.length∧vl 10000 x.2 + 10000 ^ x.2.length * dv (s.take x.1) = dv s) (Exists.intro (fun ⟨k,o⟩=>⟨[(0,.s (s.take k)),(3,.vec 3 .int o)],[]⟩) (Exists.intro (fun x=>x.1) (Exists.intro (s.length,[]) (And.intro ⟨Nat.le_refl _,Dg.nil _,by simp,by simp [vl]⟩ (And.intro ?_ ?_)))))))))
  · (repeat' (first | exact trivial | exact Or.inl rfl | exact Or.inl ((by rw [List.take_length])) | refine And.intro ?_ ?_))
  · rintro ⟨k,o⟩ ⟨h1,h2,h3,h4⟩
    dsimp only at h1 h2 h3 h4
    have hlk:(s.take k).length = k:=by rw [List.length_take]; omega
    intro _
    refine And.intro (fun hc=>?_) (fun hc=>?_)
    · have hk : 0 < k := by
        have:(0:Int) < ((s.take k).length:Int):=of_decide_eq_true hc
        omega
      clear hc
      intro _
      (refine And.intro (rng64 (by omega) (by omega)) ?_)
      obtain ⟨n,hn,hn2⟩:∃ n:Nat,(if (0:Int) < ((s.take k).length:Int) - 4 then ((s.take k).length:Int) - 4 else 0) = n∧((n + 4 = k)∨(n = 0∧k < 4)):=by
        rw [hlk]
        rcases Nat.lt_or_ge k 5 with h | h
        · exact ⟨0,by rw [if_neg (by omega)]; rfl,by omega⟩
        · exact ⟨k - 4,by rw [if_pos (by omega)]; omega,by omega⟩
      refine Exists.intro [] (Exists.intro [] (Exists.intro [] (Exists.intro (Nat × Nat) (Exists.intro (fun x=>n≤x.1∧x.1≤k∧x.2 = dv ((s.take x.1).drop n)) (Exists.intro (fun ⟨m,x⟩=>⟨[(0,.s (s.take k)),(3,.vec 3 .int o),(4,.i .i64 n),(5,.i .i64 x),(6,.i .i64 m)],[]⟩) (Exists.intro (fun x=>k - x.1) (Exists.intro (n,0) (And.intro ⟨by simp,by dsimp only; omega,by dsimp only; rw [List.drop_of_length_le (by rw [List.length_take]; omega)]; rfl⟩ (And.intro ?_ ?_)))))))))
      · (repeat' (first | exact trivial | exact Or.inl rfl | exact Or.inl ((congrArg (AV.i .i64) hn)) | refine And.intro ?_ ?_))
      · rintro ⟨m,x⟩ ⟨g1,g2,g3⟩
        dsimp only at g1 g2 g3
        have hxl:x < 10 ^ (m - n):=by
          rw [g3]
          have:=dv_lt (s:=(s.take m).drop n) (fun c hc=>hs c (List.mem_of_mem_take (List.mem_of_mem_drop hc)))
          rwa [List.length_drop,List.length_take,Nat.min_eq_left (by omega)] at this
        intro _
        refine And.intro (fun hd=>?_) (fun hd=>?_)
        · have hm : m < k := by have : (m : Int) < ((s.take k).length : Int) := of_decide_eq_true hd
                                omega
          clear hd
          have hx3:x < 1000:=Nat.lt_of_lt_of_le hxl (Nat.pow_le_pow_right (i:=m - n) (j:=3) (by decide) (by omega))
          have hg:isd (s.getD m 0):=isd_get hs (by omega)
          have he:(s.take k).getD (Int.toNat (m:Int)) 0 = s.getD m 0:=by
            rw [Int.toNat_natCast,List.getD_eq_getElem?_getD,List.getD_eq_getElem?_getD,List.getElem?_take_of_lt hm]
          have hb:=hg.2
          (refine And.intro (rng64 (by omega) (by omega)) ?_)
          refine And.intro ⟨by omega,by omega⟩ ?_
          refine And.intro (rng64 (by rw [he,byte_sub hg]; omega) (by rw [he,byte_sub hg]; omega)) ?_
          (refine And.intro (rng64 (by omega) (by omega)) ?_)
          refine Exists.intro [] (Exists.intro (m + 1,x * 10 + ((s.getD m 0).toNat - 48)) (And.intro ⟨by dsimp only; omega,hm,by dsimp only; rw [chunk_next h1 hm g1,← g3]⟩ (And.intro ?_ ?_)))
          · (repeat' (first | exact trivial | exact Or.inl rfl | exact Or.inl ((by rw [he,byte_sub hg]; rfl)) | refine And.intro ?_ ?_))
          · show k - (m + 1) < k - m
            omega
        · have hm : m = k := by have : ¬ (m : Int) < ((s.take k).length : Int) := of_decide_eq_false hd
                                omega
          subst hm
          have hx4:x < 10000:=Nat.lt_of_lt_of_le hxl (Nat.pow_le_pow_right (i:=m - n) (j:=4) (by decide) (by omega))
          refine And.intro (by show (o.length + 1) * 8≤_; omega) ?_
          refine And.intro ⟨by omega,by omega,by omega⟩ ?_
          have hch:=chunk h1 g1
          rw [← g3] at hch
          refine Exists.intro [(32,3)] (Exists.intro (n,o++[(x:Int)]) (And.intro (ofd_next h1 h2 h3 h4 hx4 hch hn2 hk) (And.intro ?_ ?_)))
          · (repeat' (first | exact trivial | exact Or.inl rfl | exact Or.inl ((congrArg AV.s (by rw [Int.toNat_natCast,List.take_take,Nat.min_eq_left g1]; rfl))) | refine And.intro ?_ ?_))
          · show n < m
            omega
    · have hk : k = 0 := by
        have:¬ (0:Int) < ((s.take k).length:Int):=of_decide_eq_false hc
        omega
      subst hk
      have h4:vl 10000 o = dv s:=by simpa [dv] using h4
      refine Or.inl (Exists.intro _ (And.intro (s_cut o h2) ?_))
      exact congrArg (fun n=>AV.rd .int (dg 10000 n)) h4
theorem s_ofDigits (s:Str) (hs:∀ c ∈ s,isd c) (hl:s.length≤1000000):PSpec Tryd.prog 32 [.s s] (.rd .int (dg 10000 (dv s))) :=
  pspec_of_vc Γ_good Tryd.func32 rfl Tryd.call32 Tryd.results32 Tryd.ntmps32 (Nat.le_of_ble_eq_true rfl) (w_ofDigits s hs hl)
end
end Go.Proofs.YtgacojkkbjhjoaaDoor
end
section
namespace Go.Proofs.YtgacojkkbjhjoaaDoor
set_option linter.unusedSectionVars false
set_option linter.unusedSimpArgs false
set_option linter.unusedVariables false
open Go Go.SX Go.Bg
set_option maxRecDepth 100000
set_option maxHeartbeats 0
theorem dig_u32 {r:Nat} (hr:r < 4294967296):IntKind.u8.wrap (IntKind.u32.wrap (48 + Int.tmod (r:Int) 10)) = ((48 + r % 10:Nat):Int):=by
  rw [tmod10,IntKind.wrap_u32',IntKind.wrap_u8]
  omega
def d48 (l:List Int):List Int:=l.map fun d=>48 + d
theorem dec_len {m k:Nat} (h:(dg 4294967296 m).length≤k):(dg 10 m).length≤10 * k:=dg_len_le (by decide) _ _ (by
  rw [Nat.pow_mul]
  exact Nat.lt_of_lt_of_le (Nat.lt_of_lt_of_le (dg_lt_pow b32 m) (Nat.pow_le_pow_right (by decide) h)) (Nat.pow_le_pow_left (by decide) k))
theorem text_len {m:Nat} (h:(dg 4294967296 m).length≤100000):(dg 10 m).length≤1000000:=dec_len h
theorem text_next {k r N : Nat} (hk : k < 9) (hr : r < 10 ^ (9 - k)) (h0 : 0 < N ∨ 0 < r) :
    dg 10 (r + 10 ^ (9 - k) * N) = ((r % 10:Nat):Int)::dg 10 (r / 10 + 10 ^ (9 - (k + 1)) * N)∧r / 10 < 10 ^ (9 - (k + 1)):=by
  have e:9 - k = (9 - (k + 1)) + 1:=by omega
  have hp:10 ^ (9 - k) = 10 * 10 ^ (9 - (k + 1)):=by rw [e,Nat.pow_succ,Nat.mul_comm]
  rw [hp] at hr ⊢
  have hpos:0 < r + 10 * 10 ^ (9 - (k + 1)) * N:=by
    rcases h0 with h | h
    · have:0 < 10 * 10 ^ (9 - (k + 1)) * N:=Nat.mul_pos (Nat.mul_pos (by decide) (Nat.pow_pos (by decide))) h
      omega
    · omega
  rw [dg_pos (by decide) hpos,Nat.mul_assoc,Nat.add_mul_mod_self_left,Nat.add_mul_div_left _ _ (by decide)]
  exact ⟨rfl,by omega⟩
def swp (l:List Int) (i:Nat):List Int:=(List.range l.length).map fun t=>if t < i∨l.length≤t + i then l.getD (l.length - 1 - t) 0 else l.getD t 0
theorem swp_len (l:List Int) (i:Nat):(swp l i).length = l.length:=by simp [swp]
theorem swp_get {l:List Int} {i t:Nat} (h:t < l.length):(swp l i).getD t 0 = if t < i∨l.length≤t + i then l.getD (l.length - 1 - t) 0 else l.getD t 0:=by
  rw [swp,List.getD_eq_getElem?_getD,List.getElem?_map,List.getElem?_range h]
  rfl
theorem swp_zero (l:List Int):swp l 0 = l:=by
  refine List.ext_getElem (by simp [swp]) fun t h1 h2=>?_
  have:=swp_get (l:=l) (i:=0) h2
  rw [if_neg (by omega),List.getD_eq_getElem?_getD,List.getD_eq_getElem?_getD,List.getElem?_eq_getElem h1,List.getElem?_eq_getElem h2] at this
  exact this
theorem swp_end {l:List Int} {i:Nat} (h:l.length≤2 * i + 1):swp l i = l.reverse:=by
  refine List.ext_getElem (by simp [swp]) fun t h1 h2=>?_
  have ht:t < l.length:=by rw [swp_len] at h1; exact h1
  have:=swp_get (l:=l) (i:=i) ht
  rw [List.getD_eq_getElem?_getD,List.getElem?_eq_getElem h1] at this
  rw [List.getElem_reverse]
  by_cases hc:t < i∨l.length≤t + i
  · rw [if_pos hc,List.getD_eq_getElem?_getD,List.getElem?_eq_getElem (by omega)] at this
    exact this
  · rw [if_neg hc,List.getD_eq_getElem?_getD,List.getElem?_eq_getElem ht] at this
    have e:l.length - 1 - t = t:=by omega
    simp only [e]
    exact this
theorem swp_next {l:List Int} {i j:Nat} (hj:i + j + 1 = l.length) (h:i < j):((swp l i).set i ((swp l i).getD j 0)).set j ((swp l i).getD i 0) = swp l (i + 1):=by
  refine List.ext_getElem (by simp [swp]) fun t h1 h2=>?_
  have ht:t < l.length:=by rw [swp_len] at h2; exact h2
  have e:=swp_get (l:=l) (i:=i + 1) ht
  rw [List.getD_eq_getElem?_getD,List.getElem?_eq_getElem h2] at e
  simp only [Option.getD_some] at e
  rw [e,List.getElem_set]
  by_cases hjt:j = t
  · subst hjt
    rw [if_pos rfl,if_pos (by omega),swp_get (by omega),if_neg (by omega)]
    congr 1
    omega
  · rw [if_neg hjt,List.getElem_set]
    by_cases hit:i = t
    · subst hit
      rw [if_pos rfl,if_pos (by omega),swp_get (by omega),if_neg (by omega)]
      congr 1
      omega
    · rw [if_neg hit]
      have e3:=swp_get (l:=l) (i:=i) ht
      rw [List.getD_eq_getElem?_getD,List.getElem?_eq_getElem (by rw [swp_len]; exact ht)] at e3
      simp only [Option.getD_some] at e3
      rw [e3]
      by_cases hc:t < i∨l.length≤t + i
      · rw [if_pos hc,if_pos (by omega)]
      · rw [if_neg hc,if_neg (by omega)]
theorem d48_snoc (q:List Int) (r:Nat):d48 (q++[((r % 10:Nat):Int)]) = d48 q++[((48 + r % 10:Nat):Int)]:=by simp [d48]
theorem d48_str {l:List Int} (h:Dg 10 l):(d48 l).reverse.map ofB = dstr l:=by
  rw [d48,dstr,← List.map_reverse,List.map_map]
  refine List.map_congr_left fun d hd=>?_
  have:=h d (List.mem_reverse.1 hd)
  simp only [Function.comp_apply,ofB,dch]
  congr 1
  omega
section
variable [G:Globs]
theorem w_text (a:List Int) (ha:Dg 4294967296 a) (hla:a.length≤100000):vc Tryd.prog Γ 69 [0,2,3,4,5,6,7,12,15,31,48] (Tryd.f71.body.getD .skip) (postK Γ [.tmp 2] (fun v=>v = .s (decS (vl 4294967296 a)))) ⟨argSlots 0 [.rd .u32 a],[]⟩:=by
  refine Or.inl (Exists.intro _ (And.intro (s_trimmed a ha) ?_))
  have hml:(dg 4294967296 (vl 4294967296 a)).length≤100000:=Nat.le_trans (dg_len_le b32 _ _ (vl_lt ha)) hla
  generalize vl 4294967296 a = m at hml
  intro _
  refine And.intro (fun h2=>?_) (fun h2=>?_)
  · have h2 : m = 0 := by
      have:=eq_of_beq h2
      rcases Nat.eq_zero_or_pos m with h | h
      · exact h
      · have:=dg_len_pos b32 h
        omega
    subst h2
    rfl
  · have hm : 0 < m := by
      have:=ne_of_beq_false h2
      rcases Nat.eq_zero_or_pos m with h | h
      · subst h; exact absurd rfl this
      · exact h
    refine Exists.intro [(3,3,.u8)] (Exists.intro [] (Exists.intro [] (Exists.intro (Nat × List Int) (Exists.intro (fun x=>x.1≤m∧x.2++dg 10 x.1 = dg 10 m) (Exists.intro (fun ⟨n,o⟩=>⟨[(0,.rd .u32 (dg 4294967296 n)),(3,.vec 3 .u8 (d48 o))],[]⟩) (Exists.intro (fun x=>x.1) (Exists.intro (m,[]) (And.intro ⟨Nat.le_refl _,rfl⟩ (And.intro ?_ ?_)))))))))
    · (repeat' (first | exact trivial | exact Or.inl rfl | exact Or.inr (Or.inl ⟨rfl,_,rfl⟩) | exact Or.inr (Or.inr (Or.inr ⟨_,_,_,rfl,rfl⟩)) | refine And.intro ?_ ?_))
    · rintro ⟨n,o⟩ ⟨g3,g4⟩
      dsimp only at g3 g4
      have hnl:=Nat.le_trans (dg_len_mono b32 g3) hml
      intro _
      refine And.intro (fun hc=>?_) (fun hc=>?_)
      · have hn : 0 < n := by
          have:(0:Int) < ((dg 4294967296 n).length:Int):=of_decide_eq_true hc
          rcases Nat.eq_zero_or_pos n with h | h
          · subst h; simp at this
          · exact h
        have qw:=s_byWord (dg 4294967296 n) 1000000000 (dg_Dg b32 n) (by omega) (by decide) (by decide)
        rw [vl_dg b32] at qw
        refine Or.inl (Exists.intro _ (And.intro (qw) ?_))
        have htl:=text_len hml
        have hrl:n % 1000000000 < 1000000000:=Nat.mod_lt _ (by decide)
        have hNl:(dg 4294967296 (n / 1000000000)).length≤100000:=Nat.le_trans (dg_len_mono b32 (Nat.div_le_self n 1000000000)) hnl
        have hnd:n = n % 1000000000 + 10 ^ 9 * (n / 1000000000):=by omega
        have hNn:n / 1000000000 < n:=by omega
        generalize n / 1000000000 = N at hNl hnd hNn
        refine Exists.intro [] (Exists.intro [] (Exists.intro [] (Exists.intro (Nat × Nat × List Int) (Exists.intro (fun x=>x.1≤9∧x.2.1 < 10 ^ (9 - x.1)∧x.2.2++dg 10 (x.2.1 + 10 ^ (9 - x.1) * N) = dg 10 m) (Exists.intro (fun ⟨k,r,o⟩=>⟨[(0,.rd .u32 (dg 4294967296 N)),(3,.vec 3 .u8 (d48 o)),(4,.i .u32 r),(5,.i .i64 k)],[]⟩) (Exists.intro (fun x=>9 - x.1) (Exists.intro (0,n % 1000000000,o) (And.intro ⟨by simp,by exact hrl,by dsimp only; rw [← g4]; exact congrArg (fun z=>o++dg 10 z) hnd.symm⟩ (And.intro ?_ ?_)))))))))
        · (repeat' (first | exact trivial | exact Or.inl rfl | exact Or.inr (Or.inl ⟨rfl,_,rfl⟩) | exact Or.inr (Or.inr (Or.inr ⟨_,_,_,rfl,rfl⟩)) | refine And.intro ?_ ?_))
        · rintro ⟨k,r,q⟩ ⟨f1,f2,f3⟩
          dsimp only at f1 f2 f3
          have hN0:(dg 4294967296 N).length = 0∨0 < N:=by
            rcases Nat.eq_zero_or_pos N with h | h
            · subst h; exact .inl rfl
            · exact .inr h
          have hN1:0 < N→0 < (dg 4294967296 N).length:=dg_len_pos b32
          have hrW:r < 4294967296:=Nat.lt_of_lt_of_le f2 (Nat.le_trans (Nat.pow_le_pow_right (i:=9 - k) (j:=9) (by decide) (by omega)) (by decide))
          repeat' (first | (refine And.intro (fun h=>?_) (fun h=>?_)<;>(try simp [-List.getD_eq_getElem?_getD,-Int.pred_toNat] at h)) | intro _)
          all_goals (try simp only [dg_nil_iff b32,List.length_pos_iff,ne_eq] at *)
          all_goals first | (exfalso; omega) | skip
          all_goals first
            | (have hT : r + 10 ^ (9 - k) * N = N := by
                 have h9:k = 9∨(r = 0∧N = 0):=by omega
                 rcases h9 with rfl | ⟨rfl,rfl⟩
                 · rw [Nat.sub_self,Nat.pow_zero] at f2 ⊢; omega
                 · simp
               rw [hT] at f3
               refine Exists.intro [] (Exists.intro (N,q) (And.intro ⟨by dsimp only; omega,f3⟩ (And.intro ?_ ?_)))
               · (repeat' (first | exact trivial | exact Or.inl rfl | exact Or.inr (Or.inl ⟨rfl,_,rfl⟩) | exact Or.inr (Or.inr (Or.inr ⟨_,_,_,rfl,rfl⟩)) | refine And.intro ?_ ?_))
               · exact hNn)
            | skip
          all_goals
            have hk:k < 9:=by omega
            have nx:=text_next (N:=N) hk f2 (by omega)
            rw [nx.1] at f3
            have hql:q.length < 1000000:=by
              have:=congrArg List.length f3
              rw [List.length_append,List.length_cons] at this
              omega
            have hl48:(d48 q).length = q.length:=by simp [d48]
            refine And.intro (by decide) ?_
            refine And.intro (by show ((d48 q).length + 1) * 1≤_; omega) ?_
            refine And.intro (by decide) ?_
            refine And.intro ⟨by rw [tdiv10]; omega,by rw [tdiv10]; omega⟩ ?_
            (refine And.intro (rng64 (by omega) (by omega)) ?_)
            have e48:=dig_u32 hrW
            refine Exists.intro [(40,3)] (Exists.intro (k + 1,r / 10,q++[((r % 10:Nat):Int)]) (And.intro ⟨hk,nx.2,by dsimp only; rw [← f3,List.append_assoc]; rfl⟩ (And.intro ?_ ?_)))
            · (repeat' (first | exact trivial | exact Or.inl rfl | exact Or.inl (((congrArg (fun x:Int=>AV.vec 3 .u8 (d48 q++[x])) e48).trans (congrArg (AV.vec 3 .u8) (d48_snoc q r).symm))) | refine And.intro ?_ ?_))
            · show 9 - (k + 1) < 9 - k
              omega
      · have hn : n = 0 := by
          have:¬ (0:Int) < ((dg 4294967296 n).length:Int):=of_decide_eq_false hc
          rcases Nat.eq_zero_or_pos n with h | h
          · exact h
          · have:=dg_len_pos b32 h
            omega
        subst hn
        rw [dg_zero,List.append_nil] at g4
        subst g4
        intro _
        have hL:(d48 (dg 10 m)).length = (dg 10 m).length:=by simp [d48]
        have hLl:=text_len hml
        have hLp:=dg_len_pos (B:=10) (by decide) hm
        have hD:=dg_Dg (B:=10) (by decide) m
        have hfin:AV.s (((d48 (dg 10 m)).reverse).map ofB) = AV.s (decS m):=by
          rw [d48_str hD,decS,if_neg (by omega)]
        generalize d48 (dg 10 m) = l at hL hfin
        (refine And.intro (rng64 (by omega) (by omega)) ?_)
        refine Exists.intro [] (Exists.intro [] (Exists.intro [] (Exists.intro Nat (Exists.intro (fun i=>2 * i≤l.length + 1) (Exists.intro (fun i=>⟨[(3,.vec 3 .u8 (swp l i)),(6,.i .i64 i),(7,.i .i64 ((l.length:Int) - 1 - i))],[]⟩) (Exists.intro (fun i=>l.length + 1 - i) (Exists.intro 0 (And.intro (by simp) (And.intro ?_ ?_)))))))))
        · (repeat' (first | exact trivial | exact Or.inl rfl | exact Or.inl ((by first | rw [swp_zero] | simp)) | refine And.intro ?_ ?_))
        · rintro i hi
          refine And.intro (fun hd=>?_) (fun hd=>?_)
          · have hd:(i:Int) < (l.length:Int) - 1 - i:=of_decide_eq_true hd
            obtain ⟨j,hj⟩:∃ j:Nat,(l.length:Int) - 1 - i = j:=⟨((l.length:Int) - 1 - i).toNat,by omega⟩
            rw [hj]
            have hsl:=swp_len l i
            have hsl2:((swp l i).set i ((swp l i).getD j 0)).length = l.length:=by rw [List.length_set,hsl]
            refine Exists.intro [.take 0,.take 1,.take 2,.take 3,.blk [4,5,6,7,8,9,10,11,12],.one 13,.take 14,.one 15] (And.intro (by kernel_rfl) ?_)
            refine And.intro ⟨by omega,by omega⟩ ?_
            refine And.intro ⟨by omega,by omega⟩ ?_
            refine And.intro ⟨by omega,by omega⟩ ?_
            refine And.intro ⟨by omega,by show (j:Int) < (((swp l i).set i ((swp l i).getD j 0)).length:Int); omega⟩ ?_
            (refine And.intro (rng64 (by omega) (by omega)) ?_)
            (refine And.intro (rng64 (by omega) (by omega)) ?_)
            refine Exists.intro [] (Exists.intro (i + 1) (And.intro (by dsimp only; omega) (And.intro ?_ ?_)))
            · (repeat' (first | exact trivial | exact Or.inl rfl | exact Or.inl ((by first | exact congrArg (AV.vec 3 .u8) (swp_next (by omega) (by omega)) | exact congrArg (AV.i .i64) (by omega))) | refine And.intro ?_ ?_))
            · show l.length + 1 - (i + 1) < l.length + 1 - i
              omega
          · have hd:¬ (i:Int) < (l.length:Int) - 1 - i:=of_decide_eq_false hd
            rw [← hfin,← swp_end (l:=l) (i:=i) (by omega)]
            rfl
theorem s_text (a:List Int) (ha:Dg 4294967296 a) (hla:a.length≤100000):PSpec Tryd.prog 71 [.rd .u32 a] (.s (decS (vl 4294967296 a))) :=
  pspec_of_vc Γ_good Tryd.func71 rfl Tryd.call71 Tryd.results71 Tryd.ntmps71 (Nat.le_of_ble_eq_true rfl) (w_text a ha hla)
end
end Go.Proofs.YtgacojkkbjhjoaaDoor
end
section
namespace Go.Proofs.YtgacojkkbjhjoaaDoor
set_option linter.unusedSectionVars false
set_option linter.unusedSimpArgs false
set_option linter.unusedVariables false
open Go Go.SX Go.Bg Go.Fl
set_option maxRecDepth 100000
set_option maxHeartbeats 4000000
open Classical in
noncomputable def nrA (m:Nat) (e k:Int):AV:=if acc m e k then .tup [.s (shRes (pickQ m e k) k).1,.i .i64 (shRes (pickQ m e k) k).2,.b true] else .tup [.s [],.i .i64 0,.b false]
theorem nearF_ok {m c:Nat} {e k:Int} (h:Canon m e) (hc:0 < c):nearF c k = bitsE m e↔okQ m e k c:=by
  unfold nearF okQ
  rw [if_neg (by omega),ratN_tN,ratD_tD]
  exact near_iff h (Nat.mul_pos hc (Nat.pow_pos (by decide))) (tD_pos k)
theorem bl_19 {n:Nat} (h:n≤10 ^ 19):bl n≤1280:=by
  rcases Nat.eq_zero_or_pos n with h0 | h0
  · subst h0; exact Nat.zero_le _
  · obtain ⟨k,k1,k2,_⟩:=bl_bounds h0
    have h2:2 ^ k < 2 ^ 80:=Nat.lt_of_le_of_lt (Nat.le_trans k2 h) (by decide)
    have:=(Nat.pow_lt_pow_iff_right (a:=2) (by decide)).1 h2
    omega
section
variable [G:Globs]
theorem s_trimRight (s:Str) (hs:s.length≤1000000):PSpec Tryd.prog 72 [.s s,.s [48]] (.s (strip s)):=by
  refine ⟨Tryd.call72,fun O w vs hO hG hargs=>?_⟩
  obtain ⟨v0,vs0,rfl,h0,h⟩:=hargs.cons_inv
  obtain ⟨v1,vs1,rfl,h1,h⟩:=h.cons_inv
  obtain rfl:=h.nil_inv
  cases h0
  cases h1
  refine (Tryd.strings_TrimRight_one ⟨s.toArray⟩ 48 (by decide) w (by show s.length≤9223372036854775807; omega)).mono fun e w' ⟨he,hw⟩=>?_
  subst he hw
  refine ⟨_,rfl,Stp.refl _ _,?_⟩
  have hl:=strip_le s
  exact Im.s (strip s) (by unfold maxLen; omega)
open Classical
theorem w_nearW (m:Nat) (e k:Int) (h:Canon m e) (h1 : -1000≤k) (h2:k≤1000) (h3:0 < lowQ m e k) (h4:lowQ m e k < 10 ^ 19):VCs Tryd.prog Γ 110 [0,1,2,3,8,9,10,11,12,13,14,16,17,19,21,22,23,46,67,76] (Tryd.f27.body.getD .skip) (postK Γ [.tmp 8,.tmp 9,.tmp 10] (fun v=>v = nrA m e k)) ⟨argSlots 0 [.rd .u32 (dg 4294967296 (vN m e)),.rd .u32 (dg 4294967296 (vD e)),.i .i64 k,.i .u64 (bitsE m e:Nat)],[]⟩:=by
  have lN:=vN_len h
  have lD:=vD_len h
  have qr:=s_ratio 1 k (by rw [d1]; decide) h1 h2
  have lA:=ratN_len (m:=1) (e:=k) (K:=1) (by rw [d1]; decide) h2
  have lB:=ratD_len h1
  rw [ratN_tN,ratD_tD,d1] at qr
  rw [ratN_tN] at lA
  rw [ratD_tD] at lB
  have ht:vD e * tN 1 k = qD e k:=by unfold qD tN; rw [Nat.one_mul]
  have hq:vN m e * tD k = qN m e k:=rfl
  have q1:=s_mul (dg 4294967296 (vN m e)) (dg 4294967296 (tD k)) (dg_Dg b32 _) (dg_Dg b32 _) (by omega) (by omega)
  have q2:=s_mul (dg 4294967296 (vD e)) (dg 4294967296 (tN 1 k)) (dg_Dg b32 _) (dg_Dg b32 _) (by omega) (by omega)
  rw [vl_dg b32,vl_dg b32] at q1 q2
  have l1:=mul_len lN lB
  have l2:=mul_len lD lA
  rw [ht] at q2 l2
  rw [hq] at q1 l1
  have hd0:=qD_pos e k
  have q3:=s_divMod (dg 4294967296 (qN m e k)) (dg 4294967296 (qD e k)) (dg_Dg b32 _) (dg_Dg b32 _) (by omega) (by omega)
  rw [vl_dg b32,vl_dg b32,divR,if_neg (by omega)] at q3
  have okL:=nearF_ok (k:=k) h h3
  have hhp:0 < highQ m e k:=by unfold highQ; split<;>omega
  have okH:=nearF_ok (k:=k) h hhp
  have hhl:highQ m e k≤10 ^ 19:=by unfold highQ; split<;>omega
  have hH:highQ m e k = if remQ m e k = 0 then lowQ m e k else lowQ m e k + 1:=rfl
  have hrl:=Nat.mod_lt (qN m e k) hd0
  have hpick:pickQ m e k = if ¬ okQ m e k (lowQ m e k)∨(okQ m e k (highQ m e k)∧(qD e k < 2 * remQ m e k∨(2 * remQ m e k = qD e k∧lowQ m e k % 2 = 1))) then highQ m e k else lowQ m e k:=rfl
  have hR:remQ m e k = qN m e k % qD e k:=rfl
  have hL:lowQ m e k = qN m e k / qD e k:=rfl
  rw [← hL,← hR] at q3
  rw [← hR] at hrl
  refine VCs.seq (by first | exact Γ_good | exact Ctx.good_kp Γ_good _) ?_
  refine VCs.seq (by first | exact Γ_good | exact Ctx.good_kp Γ_good _) ?_
  refine Or.inl (Exists.intro _ (And.intro (qr) ?_))
  refine VCs.seq (by first | exact Γ_good | exact Ctx.good_kp Γ_good _) ?_
  refine Or.inl (Exists.intro _ (And.intro (q1) ?_))
  refine Or.inl (Exists.intro _ (And.intro (q2) ?_))
  refine VCs.seq (by first | exact Γ_good | exact Ctx.good_kp Γ_good _) ?_
  refine Or.inl (Exists.intro _ (And.intro (q3) ?_))
  refine VCs.seq (by first | exact Γ_good | exact Ctx.good_kp Γ_good _) ?_
  have qa1:=s_add (dg 4294967296 (lowQ m e k)) [1] (dg_Dg b32 _) (Dg.cons ⟨by decide,by decide⟩ (Dg.nil _)) (by have:=dg_len_le b32 1 1 (by decide) ; have:=dg_len_le b32 3 (lowQ m e k) (Nat.lt_trans h4 (by decide)); omega) (by decide)
  rw [vl_dg b32,show vl 4294967296 [1] = 1 from rfl] at qa1
  have l3:(dg 4294967296 (lowQ m e k)).length≤3:=dg_len_le b32 3 _ (Nat.lt_trans h4 (by decide))
  have l4:(dg 4294967296 (highQ m e k)).length≤3:=dg_len_le b32 3 _ (Nat.lt_of_le_of_lt hhl (by decide))
  have l5:(dg 4294967296 (remQ m e k)).length≤1037:=Nat.le_trans (dg_len_le b32 _ _ (Nat.lt_trans hrl (dg_lt_pow b32 _))) l2
  have l6:=sum_len hrl l2
  have qn1:=s_near (dg 4294967296 (lowQ m e k)) k (dg_Dg b32 _) (by omega)
  have qn2:=s_near (dg 4294967296 (highQ m e k)) k (dg_Dg b32 _) (by omega)
  have qa2:=s_add (dg 4294967296 (remQ m e k)) (dg 4294967296 (remQ m e k)) (dg_Dg b32 _) (dg_Dg b32 _) (by omega) (by omega)
  have qc:=s_cmp (dg 4294967296 (remQ m e k + remQ m e k)) (dg 4294967296 (qD e k)) (dg_Dg b32 _) (dg_Dg b32 _) (by omega) (by omega)
  have b1:=bl_19 (Nat.le_of_lt h4)
  have b2:=bl_19 hhl
  rw [vl_dg b32,nearA,if_neg (by omega)] at qn1 qn2
  rw [vl_dg b32] at qa2
  rw [vl_dg b32,vl_dg b32] at qc
  have qo:=s_oddW (lowQ m e k)
  have hpl:pickQ m e k≤10 ^ 19∧0 < pickQ m e k:=by rw [hpick]; split<;>omega
  have qt:=s_text (dg 4294967296 (pickQ m e k)) (dg_Dg b32 _) (by have:=dg_len_le b32 3 (pickQ m e k) (Nat.lt_of_le_of_lt hpl.1 (by decide)); omega)
  rw [vl_dg b32] at qt
  have hdl:(decS (pickQ m e k)).length≤20:=by rw [decS_len hpl.2]; exact dg_len_le b10d 20 _ (Nat.lt_of_le_of_lt hpl.1 (by decide))
  have qs:=s_trimRight (decS (pickQ m e k)) (by omega)
  refine VCs.cut (by first | exact Γ_good | exact Ctx.good_kp Γ_good _) Unit (fun _=>True) (fun _=>⟨[(1,.rd .u32 (dg 4294967296 (qD e k))),(2,.i .i64 k),(3,.i .u64 (bitsE m e:Nat)),(13,.rd .u32 (dg 4294967296 (lowQ m e k))),(14,.rd .u32 (dg 4294967296 (remQ m e k))),(16,.rd .u32 (dg 4294967296 (highQ m e k)))],[]⟩) ?_ ?_
  · by_cases hr:remQ m e k = 0
    · have hl0:(dg 4294967296 (remQ m e k)).length = 0:=by rw [hr,(dg_nil_iff b32 0).2 rfl]; rfl
      rw [if_pos hr] at hH
      intro _
      refine And.intro (fun h9=>absurd (of_decide_eq_true h9) (by omega)) (fun _=>?_)
      refine Exists.intro () (And.intro trivial ?_)
      (repeat' (first | exact trivial | exact Or.inl rfl | exact Or.inl ((congrArg (fun n=>AV.rd .u32 (dg 4294967296 n)) hH.symm)) | refine And.intro ?_ ?_))
    · have hl0:0 < (dg 4294967296 (remQ m e k)).length:=List.length_pos_iff.2 fun h=>hr ((dg_nil_iff b32 _).1 h)
      rw [if_neg hr] at hH
      intro _
      refine And.intro (fun _=>?_) (fun h9=>absurd (show (0:Int) < ((dg 4294967296 (remQ m e k)).length:Int) by omega) (of_decide_eq_false h9))
      refine Or.inl (Exists.intro _ (And.intro (qa1) ?_))
      refine Exists.intro () (And.intro trivial ?_)
      (repeat' (first | exact trivial | exact Or.inl rfl | exact Or.inl ((congrArg (fun n=>AV.rd .u32 (dg 4294967296 n)) hH.symm)) | refine And.intro ?_ ?_))
  rintro ⟨⟩ _
  refine VCs.seq (by first | exact Γ_good | exact Ctx.good_kp Γ_good _) ?_
  refine Or.inl (Exists.intro _ (And.intro (qn1) ?_))
  refine VCs.seq (by first | exact Γ_good | exact Ctx.good_kp Γ_good _) ?_
  refine Or.inl (Exists.intro _ (And.intro (qn2) ?_))
  refine VCs.seq (by first | exact Γ_good | exact Ctx.good_kp Γ_good _) ?_
  refine Or.inl (Exists.intro _ (And.intro (qa2) ?_))
  refine Or.inl (Exists.intro _ (And.intro (qc) ?_))
  have hacc:acc m e k↔okQ m e k (lowQ m e k)∨okQ m e k (highQ m e k):=Iff.rfl
  refine VCs.cut (by first | exact Γ_good | exact Ctx.good_kp Γ_good _) Unit (fun _=>acc m e k) (fun _=>⟨[(2,.i .i64 k),(13,.rd .u32 (dg 4294967296 (pickQ m e k)))],[]⟩) ?_ ?_
  · clear qn1 qn2 qa1 qa2 q1 q2 q3 qr qc qt qs
    generalize nearF (lowQ m e k) k = x at *
    generalize nearF (highQ m e k) k = y at *
    generalize bitsE m e = b at *
    by_cases hx:okQ m e k (lowQ m e k)
    · have hxb:=okL.2 hx
      have ha:=hacc.2 (.inl hx)
      by_cases hy:okQ m e k (highQ m e k)
      · have hyb:=okH.2 hy
        rcases Nat.lt_trichotomy (remQ m e k + remQ m e k) (qD e k) with h9 | h9 | h9
        · rw [if_neg (by rintro (z | ⟨_,z⟩); exact z hx; omega)] at hpick
          have hc:cmpN (remQ m e k + remQ m e k) (qD e k) = -1:=by unfold cmpN; rw [if_pos h9]
          rw [hc]
          (repeat' (first | (refine And.intro (fun h=>?_) (fun h=>?_)<;>(try simp [-List.getD_eq_getElem?_getD,-Int.pred_toNat] at h)<;>(try (exfalso; first | omega | contradiction))) | (refine And.intro (rng64 (by omega) (by omega)) ?_) | (refine And.intro ⟨by omega,by omega⟩ ?_) | (refine And.intro ⟨by omega,by omega,by omega⟩ ?_) | (intro _)))
          refine Exists.intro () (And.intro ha ?_)
          (repeat' (first | exact trivial | exact Or.inl rfl | exact Or.inl ((congrArg (fun n=>AV.rd .u32 (dg 4294967296 n)) hpick.symm)) | refine And.intro ?_ ?_))
        · have hc:cmpN (remQ m e k + remQ m e k) (qD e k) = 0:=by unfold cmpN; rw [if_neg (by omega),if_neg (by omega)]
          rw [hc]
          (repeat' (first | (refine And.intro (fun h=>?_) (fun h=>?_)<;>(try simp [-List.getD_eq_getElem?_getD,-Int.pred_toNat] at h)<;>(try (exfalso; first | omega | contradiction))) | (refine And.intro (rng64 (by omega) (by omega)) ?_) | (refine And.intro ⟨by omega,by omega⟩ ?_) | (refine And.intro ⟨by omega,by omega,by omega⟩ ?_) | (intro _)))
          refine Or.inl (Exists.intro _ (And.intro (qo) ?_))
          by_cases hp:lowQ m e k % 2 = 1
          · rw [if_pos (.inr ⟨hy,.inr ⟨by omega,hp⟩⟩)] at hpick
            rw [decide_eq_true hp]
            (repeat' (first | (refine And.intro (fun h=>?_) (fun h=>?_)<;>(try simp [-List.getD_eq_getElem?_getD,-Int.pred_toNat] at h)<;>(try (exfalso; first | omega | contradiction))) | (refine And.intro (rng64 (by omega) (by omega)) ?_) | (refine And.intro ⟨by omega,by omega⟩ ?_) | (refine And.intro ⟨by omega,by omega,by omega⟩ ?_) | (intro _)))
            refine Exists.intro () (And.intro ha ?_)
            (repeat' (first | exact trivial | exact Or.inl rfl | exact Or.inl ((congrArg (fun n=>AV.rd .u32 (dg 4294967296 n)) hpick.symm)) | refine And.intro ?_ ?_))
          · rw [if_neg (by rintro (z | ⟨_,z | ⟨_,z⟩⟩); exact z hx; omega; exact hp z)] at hpick
            rw [decide_eq_false hp]
            (repeat' (first | (refine And.intro (fun h=>?_) (fun h=>?_)<;>(try simp [-List.getD_eq_getElem?_getD,-Int.pred_toNat] at h)<;>(try (exfalso; first | omega | contradiction))) | (refine And.intro (rng64 (by omega) (by omega)) ?_) | (refine And.intro ⟨by omega,by omega⟩ ?_) | (refine And.intro ⟨by omega,by omega,by omega⟩ ?_) | (intro _)))
            refine Exists.intro () (And.intro ha ?_)
            (repeat' (first | exact trivial | exact Or.inl rfl | exact Or.inl ((congrArg (fun n=>AV.rd .u32 (dg 4294967296 n)) hpick.symm)) | refine And.intro ?_ ?_))
        · rw [if_pos (.inr ⟨hy,.inl (by omega)⟩)] at hpick
          have hc:cmpN (remQ m e k + remQ m e k) (qD e k) = 1:=by unfold cmpN; rw [if_neg (by omega),if_pos h9]
          rw [hc]
          (repeat' (first | (refine And.intro (fun h=>?_) (fun h=>?_)<;>(try simp [-List.getD_eq_getElem?_getD,-Int.pred_toNat] at h)<;>(try (exfalso; first | omega | contradiction))) | (refine And.intro (rng64 (by omega) (by omega)) ?_) | (refine And.intro ⟨by omega,by omega⟩ ?_) | (refine And.intro ⟨by omega,by omega,by omega⟩ ?_) | (intro _)))
          refine Exists.intro () (And.intro ha ?_)
          (repeat' (first | exact trivial | exact Or.inl rfl | exact Or.inl ((congrArg (fun n=>AV.rd .u32 (dg 4294967296 n)) hpick.symm)) | refine And.intro ?_ ?_))
      · have hyb:y≠b:=fun h=>hy (okH.1 h)
        rw [if_neg (by rintro (z | ⟨z,_⟩); exact z hx; exact hy z)] at hpick
        (repeat' (first | (refine And.intro (fun h=>?_) (fun h=>?_)<;>(try simp [-List.getD_eq_getElem?_getD,-Int.pred_toNat] at h)<;>(try (exfalso; first | omega | contradiction))) | (refine And.intro (rng64 (by omega) (by omega)) ?_) | (refine And.intro ⟨by omega,by omega⟩ ?_) | (refine And.intro ⟨by omega,by omega,by omega⟩ ?_) | (intro _)))
        refine Exists.intro () (And.intro ha ?_)
        (repeat' (first | exact trivial | exact Or.inl rfl | exact Or.inl ((congrArg (fun n=>AV.rd .u32 (dg 4294967296 n)) hpick.symm)) | refine And.intro ?_ ?_))
    · have hxb:x≠b:=fun h=>hx (okL.1 h)
      by_cases hy:okQ m e k (highQ m e k)
      · have hyb:=okH.2 hy
        have ha:=hacc.2 (.inr hy)
        rw [if_pos (.inl hx)] at hpick
        (repeat' (first | (refine And.intro (fun h=>?_) (fun h=>?_)<;>(try simp [-List.getD_eq_getElem?_getD,-Int.pred_toNat] at h)<;>(try (exfalso; first | omega | contradiction))) | (refine And.intro (rng64 (by omega) (by omega)) ?_) | (refine And.intro ⟨by omega,by omega⟩ ?_) | (refine And.intro ⟨by omega,by omega,by omega⟩ ?_) | (intro _)))
        refine Exists.intro () (And.intro ha ?_)
        (repeat' (first | exact trivial | exact Or.inl rfl | exact Or.inl ((congrArg (fun n=>AV.rd .u32 (dg 4294967296 n)) hpick.symm)) | refine And.intro ?_ ?_))
      · have hyb:y≠b:=fun h=>hy (okH.1 h)
        have hn:nrA m e k = .tup [.s [],.i .i64 0,.b false]:=by unfold nrA; rw [if_neg (by rintro (z | z); exact hx z; exact hy z)]
        rw [hn]
        (repeat' (first | (refine And.intro (fun h=>?_) (fun h=>?_)<;>(try simp [-List.getD_eq_getElem?_getD,-Int.pred_toNat] at h)<;>(try (exfalso; first | omega | contradiction))) | (refine And.intro (rng64 (by omega) (by omega)) ?_) | (refine And.intro ⟨by omega,by omega⟩ ?_) | (refine And.intro ⟨by omega,by omega,by omega⟩ ?_) | (intro _)))
        rfl
  rintro ⟨⟩ ha
  have hn:nrA m e k = .tup [.s (shRes (pickQ m e k) k).1,.i .i64 (shRes (pickQ m e k) k).2,.b true]:=by unfold nrA; rw [if_pos ha]
  rw [hn]
  refine VCs.of_vc (by first | exact Γ_good | exact Ctx.good_kp Γ_good _) ?_
  refine Or.inl (Exists.intro _ (And.intro (qt) ?_))
  refine Or.inl (Exists.intro _ (And.intro (qs) ?_))
  have hsl:=strip_le (decS (pickQ m e k))
  intro _
  (repeat' (first | (refine And.intro (fun h=>?_) (fun h=>?_)<;>(try simp [-List.getD_eq_getElem?_getD,-Int.pred_toNat] at h)<;>(try (exfalso; first | omega | contradiction))) | (refine And.intro (rng64 (by omega) (by omega)) ?_) | (refine And.intro ⟨by omega,by omega⟩ ?_) | (refine And.intro ⟨by omega,by omega,by omega⟩ ?_) | (intro _)))
  (conv=>whnf)
  exact congrArg (fun z=>AV.tup [.s (strip (decS (pickQ m e k))),.i .i64 z,.b true]) (show k + ((decS (pickQ m e k)).length:Int) - ((strip (decS (pickQ m e k))).length:Int) = k + (((decS (pickQ m e k)).length - (strip (decS (pickQ m e k))).length:Nat):Int) by omega)
theorem s_nearW (m:Nat) (e k:Int) (h:Canon m e) (h1 : -1000≤k) (h2:k≤1000) (h3:0 < lowQ m e k) (h4:lowQ m e k < 10 ^ 19):PSpec Tryd.prog 27 [.rd .u32 (dg 4294967296 (vN m e)),.rd .u32 (dg 4294967296 (vD e)),.i .i64 k,.i .u64 (bitsE m e:Nat)] (nrA m e k) :=
  pspec_of_VCs Γ_good Tryd.func27 rfl Tryd.call27 Tryd.results27 Tryd.ntmps27 (Nat.le_of_ble_eq_true rfl) (w_nearW m e k h h1 h2 h3 h4) Γ_good
end
end Go.Proofs.YtgacojkkbjhjoaaDoor
end
section
namespace Go.Proofs.YtgacojkkbjhjoaaDoor
set_option linter.unusedSectionVars false
set_option linter.unusedSimpArgs false
set_option linter.unusedVariables false
open Go Go.SX Go.Bg Go.Fl
set_option maxRecDepth 100000
set_option maxHeartbeats 4000000
open Classical in
noncomputable def shortA (b:Nat):AV:=if 0 < (parts b).2.2∨(parts b).1 = 0 then .tup [.s [],.i .i64 0,.i .i64 1] else .tup [.s (shortR (parts b).1 (parts b).2.1).1,.i .i64 (shortR (parts b).1 (parts b).2.1).2,.i .i64 0]
theorem parts_canon {b:Nat} (h1:¬ 0 < (parts b).2.2) (h2:¬ (parts b).1 = 0):Canon (parts b).1 (parts b).2.1:=by
  unfold parts at *
  have hx:b / 4503599627370496 % 2048 < 2048:=Nat.mod_lt _ (by decide)
  have hf:b % 4503599627370496 < 4503599627370496:=Nat.mod_lt _ (by decide)
  generalize b / 4503599627370496 % 2048 = x at *
  generalize b % 4503599627370496 = f at *
  by_cases hx1:x = 2047
  · rw [if_pos hx1] at h1
    exact absurd (show (0:Int) < (if f = 0 then 1 else 2) by split<;>decide) h1
  rw [if_neg hx1] at h1 h2 ⊢
  by_cases hx0:x = 0
  · rw [if_pos hx0] at h1 h2 ⊢
    exact ⟨by dsimp only; decide,by dsimp only; decide,by dsimp only at *; omega,by dsimp only at *; omega,fun _=>rfl⟩
  · rw [if_neg hx0] at h1 h2 ⊢
    exact ⟨by dsimp only at *; omega,by dsimp only at *; omega,by dsimp only at *; omega,by dsimp only at *; omega,fun h=>by dsimp only at *; omega⟩
theorem parts_bits {b:Nat} (hb:b < 18446744073709551616) (h1:¬ 0 < (parts b).2.2) (h2:¬ (parts b).1 = 0):bitsE (parts b).1 (parts b).2.1 = b % 9223372036854775808:=by
  unfold parts at *
  have hx:b / 4503599627370496 % 2048 < 2048:=Nat.mod_lt _ (by decide)
  have hf:b % 4503599627370496 < 4503599627370496:=Nat.mod_lt _ (by decide)
  have hb2:b % 9223372036854775808 = b / 4503599627370496 % 2048 * 4503599627370496 + b % 4503599627370496:=by omega
  rw [hb2]
  generalize b / 4503599627370496 % 2048 = x at *
  generalize b % 4503599627370496 = f at *
  by_cases hx1:x = 2047
  · rw [if_pos hx1] at h1
    exact absurd (show (0:Int) < (if f = 0 then 1 else 2) by split<;>decide) h1
  rw [if_neg hx1] at h1 h2 ⊢
  by_cases hx0:x = 0
  · rw [if_pos hx0] at h1 h2 ⊢
    subst hx0
    rw [Nat.zero_mul,Nat.zero_add]
    exact bits_lo (by dsimp only; decide) hf
  · rw [if_neg hx0] at h1 h2 ⊢
    dsimp only
    rw [bits_hi (by omega) (by omega)]
    have:((x:Int) - 1075 + 1075).toNat = x:=by omega
    rw [this]
    omega
theorem top_ex {m:Nat} {e p0:Int} (h0:¬ Bel m e p0):∀ n:Nat,Bel m e (p0 + n)→∃ p,p0 < p∧p≤p0 + n∧IsTop m e p:=by
  intro n
  induction n with
  | zero=>intro h; exact absurd (by simpa using h) h0
  | succ n ih =>
    intro h
    by_cases hb:Bel m e (p0 + n)
    · obtain ⟨p,h1,h2,h3⟩:=ih hb
      exact ⟨p,h1,by omega,h3⟩
    · exact ⟨p0 + (n + 1:Nat),by omega,Int.le_refl _,h,by rw [show p0 + ((n + 1:Nat):Int) - 1 = p0 + n by omega]; exact hb⟩
theorem top_is {m:Nat} {e:Int} (h:Canon m e):IsTop m e (topOf m e)∧-400 < topOf m e∧topOf m e≤400:=by
  obtain ⟨p,h1,h2,h3⟩:=top_ex (bel_low h) 800 (bel_high h)
  rw [topOf_eq h3]
  exact ⟨h3,h1,by omega⟩
theorem andNot_sign {b:Nat} (hb:b < 18446744073709551616):bits .andNot .u64 (b:Int) 9223372036854775808 = ((b % 9223372036854775808:Nat):Int):=by
  have h1:(~~~ (BitVec.ofInt 64 9223372036854775808)).toNat = 2 ^ 63 - 1:=by decide
  have h2:(BitVec.ofInt 64 (b:Int)).toNat = b:=by rw [BitVec.toNat_ofInt]; omega
  have key:(BitVec.ofInt 64 (b:Int) &&& ~~~ (BitVec.ofInt 64 9223372036854775808)).toNat = b % 2 ^ 63:=by rw [BitVec.toNat_and,h1,h2,Nat.and_two_pow_sub_one_eq_mod]
  show IntKind.u64.wrap ((BitVec.ofInt 64 (b:Int) &&& ~~~ (BitVec.ofInt 64 9223372036854775808)).toNat:Nat) = _
  rw [key,IntKind.wrap_u64]
  omega
section
variable [G:Globs]
theorem w_shortW (b:Nat) (hb:b < 18446744073709551616):VCs Tryd.prog Γ 65 [0,2,3,4,5,6,7,8,9,10,11,12,13,14,26,31,62] (Tryd.f7.body.getD .skip) (postK Γ [.tmp 2,.tmp 3,.tmp 4] (fun v=>v = shortA b)) ⟨argSlots 0 [.i .u64 b],[]⟩:=by
  have qp:=s_partsW b hb
  have hcan:=parts_canon (b:=b)
  have hbit:=parts_bits hb
  have hs:shortA b = if 0 < (parts b).2.2∨(parts b).1 = 0 then .tup [.s [],.i .i64 0,.i .i64 1] else .tup [.s (shortR (parts b).1 (parts b).2.1).1,.i .i64 (shortR (parts b).1 (parts b).2.1).2,.i .i64 0]:=rfl
  rw [hs]
  unfold partsA at qp
  generalize (parts b).2.2 = kd at *
  generalize (parts b).2.1 = e at *
  generalize (parts b).1 = m at *
  refine VCs.seq (by first | exact Γ_good | exact Ctx.good_kp Γ_good _) ?_
  refine VCs.seq (by first | exact Γ_good | exact Ctx.good_kp Γ_good _) ?_
  refine Or.inl (Exists.intro _ (And.intro (qp) ?_))
  by_cases h1:0 < kd
  · rw [if_pos (.inl h1)]
    refine VCs.of_vc (by first | exact Γ_good | exact Ctx.good_kp Γ_good _) ?_
    (repeat' (first | (refine And.intro (fun h=>?_) (fun h=>?_)<;>(try simp [-List.getD_eq_getElem?_getD,-Int.pred_toNat] at h)<;>(try (exfalso; first | omega | contradiction))) | (refine And.intro (rng64 (by omega) (by omega)) ?_) | (refine And.intro ⟨by omega,by omega⟩ ?_) | (refine And.intro ⟨by omega,by omega,by omega⟩ ?_) | (intro _)))
    rfl
  by_cases h2:m = 0
  · rw [if_pos (.inr h2)]
    refine VCs.of_vc (by first | exact Γ_good | exact Ctx.good_kp Γ_good _) ?_
    (repeat' (first | (refine And.intro (fun h=>?_) (fun h=>?_)<;>(try simp [-List.getD_eq_getElem?_getD,-Int.pred_toNat] at h)<;>(try (exfalso; first | omega | contradiction))) | (refine And.intro (rng64 (by omega) (by omega)) ?_) | (refine And.intro ⟨by omega,by omega⟩ ?_) | (refine And.intro ⟨by omega,by omega,by omega⟩ ?_) | (intro _)))
    rfl
  rw [if_neg (by rintro (h | h); exact h1 h; exact h2 h)]
  have h:=hcan h1 h2
  have hbit:=hbit h1 h2
  have lm:=h.m1
  have qn:=s_natW m (by omega)
  refine VCs.cut (by first | exact Γ_good | exact Ctx.good_kp Γ_good _) Unit (fun _=>True) (fun _=>⟨[(0,.i .u64 b),(5,.i .u64 m),(6,.i .i64 e)],[]⟩) ?_ ?_
  · (repeat' (first | (refine And.intro (fun h=>?_) (fun h=>?_)<;>(try simp [-List.getD_eq_getElem?_getD,-Int.pred_toNat] at h)<;>(try (exfalso; first | omega | contradiction))) | (refine And.intro (rng64 (by omega) (by omega)) ?_) | (refine And.intro ⟨by omega,by omega⟩ ?_) | (refine And.intro ⟨by omega,by omega,by omega⟩ ?_) | (intro _)))
    refine Exists.intro () (And.intro trivial ?_)
    (repeat' (first | exact trivial | exact Or.inl rfl | exact Or.inr (Or.inl ⟨rfl,_,rfl⟩) | exact Or.inr (Or.inr (Or.inr ⟨_,_,_,rfl,rfl⟩)) | refine And.intro ?_ ?_))
  rintro ⟨⟩ _
  refine VCs.seq (by first | exact Γ_good | exact Ctx.good_kp Γ_good _) ?_
  refine Or.inl (Exists.intro _ (And.intro (qn) ?_))
  have hlo:=h.lo
  have hhi:=h.hi
  have lmd:(dg 4294967296 m).length≤2:=dg_len_le b32 _ _ (Nat.lt_of_lt_of_le h.m1 (by decide))
  refine VCs.cut (by first | exact Γ_good | exact Ctx.good_kp Γ_good _) AV (fun u=>(u = .vec 29 .u32 [1]∧vD e = 1)∨u = .rd .u32 (dg 4294967296 (vD e))) (fun u=>⟨[(0,.i .u64 b),(8,.rd .u32 (dg 4294967296 (vN m e))),(9,u)],[]⟩) ?_ ?_
  · by_cases he:0≤e
    · obtain ⟨p,rfl⟩:∃ p:Nat,e = p:=⟨e.toNat,by omega⟩
      have qs:=s_shift (dg 4294967296 m) (p:Int) (dg_Dg b32 _) (by omega) (by omega)
      rw [vl_dg b32,shiftR_up h.m0 (by omega),show 2 ^ p * m = vN m (p:Int) by unfold vN; rw [Int.toNat_natCast,Nat.mul_comm]] at qs
      have hv:vD (p:Int) = 1:=by unfold vD; rw [show (-(p:Int)).toNat = 0 by omega,Nat.pow_zero]
      (repeat' (first | (refine And.intro (fun h=>?_) (fun h=>?_)<;>(try simp [-List.getD_eq_getElem?_getD,-Int.pred_toNat] at h)<;>(try (exfalso; first | omega | contradiction))) | (refine And.intro (rng64 (by omega) (by omega)) ?_) | (refine And.intro ⟨by omega,by omega⟩ ?_) | (refine And.intro ⟨by omega,by omega,by omega⟩ ?_) | (intro _)))
      refine Or.inl (Exists.intro _ (And.intro (qs) ?_))
      refine Exists.intro (AV.vec 29 .u32 [1]) (And.intro (.inl ⟨rfl,hv⟩) ?_)
      (repeat' (first | exact trivial | exact Or.inl rfl | exact Or.inr (Or.inl ⟨rfl,_,rfl⟩) | exact Or.inr (Or.inr (Or.inr ⟨_,_,_,rfl,rfl⟩)) | refine And.intro ?_ ?_))
    · obtain ⟨p,hp,rfl⟩:∃ p:Nat,0 < p∧e = -(p:Int):=⟨(-e).toNat,by omega,by omega⟩
      obtain ⟨dv',hdv⟩:∃ d,d = vD (-(p:Int)):=⟨_,rfl⟩
      rw [← hdv]
      have qs:=s_shift [1] (p:Int) (Dg.cons ⟨by decide,by decide⟩ (Dg.nil _)) (by decide) (by omega)
      rw [show vl 4294967296 [1] = 1 from rfl,shiftR_up (by decide) (by omega),show 2 ^ p * 1 = dv' by rw [hdv]; unfold vD; rw [show (- -(p:Int)).toNat = p by omega,Nat.mul_one],show (p:Int) = 0 - -(p:Int) by omega] at qs
      have hv:vN m (-(p:Int)) = m:=by unfold vN; rw [show (-(p:Int)).toNat = 0 by omega,Nat.pow_zero,Nat.mul_one]
      rw [hv]
      (repeat' (first | (refine And.intro (fun h=>?_) (fun h=>?_)<;>(try simp [-List.getD_eq_getElem?_getD,-Int.pred_toNat] at h)<;>(try (exfalso; first | omega | contradiction))) | (refine And.intro (rng64 (by omega) (by omega)) ?_) | (refine And.intro ⟨by omega,by omega⟩ ?_) | (refine And.intro ⟨by omega,by omega,by omega⟩ ?_) | (intro _)))
      refine Or.inl (And.intro (rng64 (by omega) (by omega)) ?_)
      refine Or.inl (Exists.intro _ (And.intro (qs) ?_))
      refine Exists.intro (AV.rd .u32 (dg 4294967296 dv')) (And.intro (.inr rfl) ?_)
      (repeat' (first | exact trivial | exact Or.inl rfl | exact Or.inr (Or.inl ⟨rfl,_,rfl⟩) | exact Or.inr (Or.inr (Or.inr ⟨_,_,_,rfl,rfl⟩)) | refine And.intro ?_ ?_))
  rintro u hu
  have qm:=s_magW m e h
  refine VCs.cut (by first | exact Γ_good | exact Ctx.good_kp Γ_good _) Unit (fun _=>True) (fun _=>⟨[(0,.i .u64 b),(8,.rd .u32 (dg 4294967296 (vN m e))),(9,.rd .u32 (dg 4294967296 (vD e))),(10,.i .i64 (topOf m e))],[]⟩) ?_ ?_
  · rcases hu with ⟨rfl,hv⟩ | rfl
    · rw [hv,d1] at qm ⊢
      refine Or.inl (Exists.intro _ (And.intro (qm) ?_))
      refine Exists.intro () (And.intro trivial ?_)
      (repeat' (first | exact trivial | exact Or.inl rfl | exact Or.inr (Or.inl ⟨rfl,_,rfl⟩) | exact Or.inr (Or.inr (Or.inr ⟨_,_,_,rfl,rfl⟩)) | refine And.intro ?_ ?_))
    · refine Or.inl (Exists.intro _ (And.intro (qm) ?_))
      refine Exists.intro () (And.intro trivial ?_)
      (repeat' (first | exact trivial | exact Or.inl rfl | exact Or.inr (Or.inl ⟨rfl,_,rfl⟩) | exact Or.inr (Or.inr (Or.inr ⟨_,_,_,rfl,rfl⟩)) | refine And.intro ?_ ?_))
  rintro ⟨⟩ _
  refine VCs.seq (by first | exact Γ_good | exact Ctx.good_kp Γ_good _) ?_
  obtain ⟨ht,t1,t2⟩:=top_is h
  have hend:=acc_end h ht.2
  have hl:=fun n (hn:1≤n)=>top_low ht.2 (n:=n) hn
  have hlt:=fun n=>low_lt ht.1 n
  have hsh:shortR m e = shRes (pickQ m e (topOf m e - bestN m e)) (topOf m e - bestN m e):=rfl
  have hbest:bestN m e = lst (fun n=>acc m e (topOf m e - n)) 18 1:=rfl
  generalize topOf m e = tp at *
  have ean:=andNot_sign hb
  rw [← hbit] at ean
  refine VCs.of_vc (by first | exact Γ_good | exact Ctx.good_kp Γ_good _) ?_
  refine Exists.intro [] (Exists.intro [] (Exists.intro [] (Exists.intro Nat (Exists.intro (fun n=>1≤n∧n≤18∧∀ j,1≤j→j < n→¬ acc m e (tp - j)) (Exists.intro (fun n=>⟨[(0,.i .u64 b),(8,.rd .u32 (dg 4294967296 (vN m e))),(9,.rd .u32 (dg 4294967296 (vD e))),(10,.i .i64 tp),(11,.i .i64 n)],[]⟩) (Exists.intro (fun n=>18 - n) (Exists.intro 1 (And.intro ⟨Nat.le_refl _,by decide,fun j h1 h2=>by omega⟩ (And.intro ?_ ?_)))))))))
  · (repeat' (first | exact trivial | exact Or.inl rfl | exact Or.inr (Or.inl ⟨rfl,_,rfl⟩) | exact Or.inr (Or.inr (Or.inr ⟨_,_,_,rfl,rfl⟩)) | refine And.intro ?_ ?_))
  rintro n ⟨i1,i2,i3⟩
  have q:=s_nearW m e (tp - n) h (by omega) (by omega) (hl n i1) (Nat.lt_of_lt_of_le (hlt n) (Nat.pow_le_pow_right (by decide) (by omega)))
  rw [← ean] at q
  unfold nrA at q
  (repeat' (first | (refine And.intro (fun h=>?_) (fun h=>?_)<;>(try simp [-List.getD_eq_getElem?_getD,-Int.pred_toNat] at h)<;>(try (exfalso; first | omega | contradiction))) | (refine And.intro (rng64 (by omega) (by omega)) ?_) | (refine And.intro ⟨by omega,by omega⟩ ?_) | (refine And.intro ⟨by omega,by omega,by omega⟩ ?_) | (intro _)))
  by_cases ha:acc m e (tp - n)
  · rw [if_pos ha] at q
    have hb':bestN m e = n:=by rw [hbest]; exact lst_eq i1 (by omega) ha i3
    rw [hsh,hb']
    refine Or.inl (Exists.intro _ (And.intro (q) ?_))
    (repeat' (first | (refine And.intro (fun h=>?_) (fun h=>?_)<;>(try simp [-List.getD_eq_getElem?_getD,-Int.pred_toNat] at h)<;>(try (exfalso; first | omega | contradiction))) | (refine And.intro (rng64 (by omega) (by omega)) ?_) | (refine And.intro ⟨by omega,by omega⟩ ?_) | (refine And.intro ⟨by omega,by omega,by omega⟩ ?_) | (intro _)))
    rfl
  · rw [if_neg ha] at q
    have hn:n≠18:=fun h9=>ha (by rw [h9]; exact hend)
    refine Or.inl (Exists.intro _ (And.intro (q) ?_))
    (repeat' (first | (refine And.intro (fun h=>?_) (fun h=>?_)<;>(try simp [-List.getD_eq_getElem?_getD,-Int.pred_toNat] at h)<;>(try (exfalso; first | omega | contradiction))) | (refine And.intro (rng64 (by omega) (by omega)) ?_) | (refine And.intro ⟨by omega,by omega⟩ ?_) | (refine And.intro ⟨by omega,by omega,by omega⟩ ?_) | (intro _)))
    refine Exists.intro [] (Exists.intro (n + 1) (And.intro ⟨by omega,by omega,fun j h1 h2=>by rcases Nat.lt_or_ge j n with h9 | h9; exact i3 j h1 h9; rw [show j = n by omega]; exact ha⟩ (And.intro ?_ ?_)))
    · (repeat' (first | exact trivial | exact Or.inl rfl | exact Or.inr (Or.inl ⟨rfl,_,rfl⟩) | exact Or.inr (Or.inr (Or.inr ⟨_,_,_,rfl,rfl⟩)) | refine And.intro ?_ ?_))
    · show 18 - (n + 1) < 18 - n
      omega
theorem s_shortW (b:Nat) (hb:b < 18446744073709551616):PSpec Tryd.prog 7 [.i .u64 b] (shortA b) :=
  pspec_of_VCs Γ_good Tryd.func7 rfl Tryd.call7 Tryd.results7 Tryd.ntmps7 (Nat.le_of_ble_eq_true rfl) (w_shortW b hb) Γ_good
end
end Go.Proofs.YtgacojkkbjhjoaaDoor
end
section
namespace Go.Proofs.YtgacojkkbjhjoaaDoor
set_option linter.unusedSectionVars false
set_option linter.unusedSimpArgs false
set_option linter.unusedVariables false
open Go Go.SX Go.Bg
set_option maxRecDepth 100000
set_option maxHeartbeats 4000000
section
variable [G:Globs]
end
end Go.Proofs.YtgacojkkbjhjoaaDoor
end
section
namespace Go.Proofs.YtgacojkkbjhjoaaDoor
set_option linter.unusedSectionVars false
set_option linter.unusedSimpArgs false
set_option linter.unusedVariables false
open Go Go.SX Go.Bg Go.Fl
set_option maxRecDepth 100000
set_option maxHeartbeats 4000000
theorem mul_len10 {a b j k:Nat} (ha:(dg 10000 a).length≤j) (hb:(dg 10000 b).length≤k):(dg 10000 (a * b)).length≤j + k:=dg_len_le b10 _ _ (by
  rw [Nat.pow_add]
  exact Nat.mul_lt_mul'' (Nat.lt_of_lt_of_le (dg_lt_pow b10 a) (Nat.pow_le_pow_right (by decide) ha)) (Nat.lt_of_lt_of_le (dg_lt_pow b10 b) (Nat.pow_le_pow_right (by decide) hb)))
section
variable [G:Globs]
end
end Go.Proofs.YtgacojkkbjhjoaaDoor
end
section
namespace Go.Proofs.YtgacojkkbjhjoaaDoor
set_option linter.unusedSectionVars false
set_option linter.unusedSimpArgs false
set_option linter.unusedVariables false
open Go Go.SX Go.Bg Go.Fl
set_option maxRecDepth 100000
set_option maxHeartbeats 4000000
theorem hidden_add {f:Nat} (h:f < 4503599627370496):IntKind.u64.wrap ((f:Int) + 4503599627370496) = ((f + 4503599627370496:Nat):Int):=by rw [IntKind.wrap_u64]; omega
section
variable [G:Globs]
theorem w_fparts (b:Nat) (hb:b < 18446744073709551616):vc Tryd.prog Γ 28 [0,2,3,4,5,6,18,20,22] (Tryd.f8.body.getD .skip) (postK Γ [.tmp 2,.tmp 3,.tmp 4] (fun v=>v = partsA b)) ⟨argSlots 0 [.i .u64 b],[]⟩:=by
  have e1:((b:Int).tdiv 4503599627370496).tmod 2048 = ((b / 4503599627370496 % 2048:Nat):Int):=rfl
  have e2:(b:Int).tmod 4503599627370496 = ((b % 4503599627370496:Nat):Int):=rfl
  have hf:b % 4503599627370496 < 4503599627370496:=Nat.mod_lt _ (by decide)
  have he:b / 4503599627370496 % 2048 < 2048:=Nat.mod_lt _ (by decide)
  have hw:IntKind.i64.wrap ((b / 4503599627370496 % 2048:Nat):Int) = ((b / 4503599627370496 % 2048:Nat):Int):=by rw [IntKind.wrap_i64]; omega
  unfold partsA parts
  have hq:(b:Int).tdiv 4503599627370496 = ((b / 4503599627370496:Nat):Int):=rfl
  refine And.intro (by decide) ?_
  refine And.intro (by decide) ?_
  refine And.intro ⟨by rw [hq]; omega,by rw [hq]; omega⟩ ?_
  refine And.intro (by decide) ?_
  (conv=>whnf)
  rw [e1,e2,hw]
  generalize b / 4503599627370496 % 2048 = x at *
  generalize b % 4503599627370496 = f at *
  by_cases hx:x = 2047
  · rw [if_pos hx]
    by_cases hf0:f = 0
    · rw [if_pos hf0]
      (repeat' (first | (refine And.intro (fun h=>?_) (fun h=>?_)<;>(try simp [-List.getD_eq_getElem?_getD,-Int.pred_toNat] at h)<;>(try (exfalso; first | omega | contradiction))) | (refine And.intro (rng64 (by omega) (by omega)) ?_) | (refine And.intro ⟨by omega,by omega⟩ ?_) | (refine And.intro ⟨by omega,by omega,by omega⟩ ?_) | (intro _)))
      rfl
    · rw [if_neg hf0]
      (repeat' (first | (refine And.intro (fun h=>?_) (fun h=>?_)<;>(try simp [-List.getD_eq_getElem?_getD,-Int.pred_toNat] at h)<;>(try (exfalso; first | omega | contradiction))) | (refine And.intro (rng64 (by omega) (by omega)) ?_) | (refine And.intro ⟨by omega,by omega⟩ ?_) | (refine And.intro ⟨by omega,by omega,by omega⟩ ?_) | (intro _)))
      rfl
  rw [if_neg hx]
  by_cases h0:x = 0
  · rw [if_pos h0]
    (repeat' (first | (refine And.intro (fun h=>?_) (fun h=>?_)<;>(try simp [-List.getD_eq_getElem?_getD,-Int.pred_toNat] at h)<;>(try (exfalso; first | omega | contradiction))) | (refine And.intro (rng64 (by omega) (by omega)) ?_) | (refine And.intro ⟨by omega,by omega⟩ ?_) | (refine And.intro ⟨by omega,by omega,by omega⟩ ?_) | (intro _)))
    rfl
  · rw [if_neg h0]
    (repeat' (first | (refine And.intro (fun h=>?_) (fun h=>?_)<;>(try simp [-List.getD_eq_getElem?_getD,-Int.pred_toNat] at h)<;>(try (exfalso; first | omega | contradiction))) | (refine And.intro (rng64 (by omega) (by omega)) ?_) | (refine And.intro ⟨by omega,by omega⟩ ?_) | (refine And.intro ⟨by omega,by omega,by omega⟩ ?_) | (intro _)))
    exact congrArg (fun z=>AV.tup [.i .u64 z,.i .i64 ((x:Int) - 1075),.i .i64 0]) (hidden_add hf)
theorem s_fparts (b:Nat) (hb:b < 18446744073709551616):PSpec Tryd.prog 8 [.i .u64 b] (partsA b) :=
  pspec_of_vc Γ_good Tryd.func8 rfl Tryd.call8 Tryd.results8 Tryd.ntmps8 (Nat.le_of_ble_eq_true rfl) (w_fparts b hb)
def scS:Nat:=1080
theorem scS_int:((scS:Nat):Int) = 1080:=rfl
theorem five_len (k:Nat):(dg 10000 (5 ^ k)).length≤k + 1:=dg_len_le b10 _ _ (Nat.lt_of_lt_of_le (Nat.pow_lt_pow_right (by decide) (Nat.lt_succ_self k)) (Nat.pow_le_pow_left (by decide) _))
theorem two_len (k:Nat):(dg 10000 (2 ^ k)).length≤k + 1:=dg_len_le b10 _ _ (Nat.lt_of_lt_of_le (Nat.pow_lt_pow_right (by decide) (Nat.lt_succ_self k)) (Nat.pow_le_pow_left (by decide) _))
theorem w_scaledUp (m:Nat) (e:Int) (hm:m < 18446744073709551616) (h1:0≤e + scS) (h2:e≤1000):vc Tryd.prog Γ 13 [0,1,4] (Tryd.f28.body.getD .skip) (postK Γ [.tmp 4] (fun v=>v = .rd .int (dg 10000 (m * (5 ^ scS * 2 ^ (e + scS).toNat))))) ⟨argSlots 0 [.i .u64 m,.i .i64 e],[]⟩:=by
  have hs:scS = 1080:=rfl
  have q5:=s_power 5 scS (by decide) (by omega) (fun k hk=>by have:=five_len k; omega)
  have q2:=s_power 2 (e + scS).toNat (by decide) (by omega) (fun k hk=>by have:=two_len k; omega)
  rw [show (((e + scS).toNat:Nat):Int) = e + 1080 by omega] at q2
  rw [scS_int] at q5
  have hml:(dg 10000 m).length≤5:=dg_len_le b10 _ _ (Nat.lt_of_lt_of_le hm (by decide))
  have l5:=five_len scS
  have l2:=two_len (e + scS).toNat
  have l3:=mul_len10 hml l5
  have qb1:=s_By (dg 10000 m) (dg 10000 (5 ^ scS)) (dg_Dg b10 _) (dg_Dg b10 _) (by omega) (by omega)
  have qb2:=s_By (dg 10000 (m * 5 ^ scS)) (dg 10000 (2 ^ (e + scS).toNat)) (dg_Dg b10 _) (dg_Dg b10 _) (by omega) (by omega)
  rw [vl_dg b10,vl_dg b10] at qb1 qb2
  rw [Nat.mul_assoc] at qb2
  refine Or.inl (Exists.intro _ (And.intro (s_small m hm) ?_))
  refine Or.inl (Exists.intro _ (And.intro (q5) ?_))
  refine Or.inl (Exists.intro _ (And.intro (qb1) ?_))
  (refine And.intro (rng64 (by omega) (by omega)) ?_)
  refine Or.inl (Exists.intro _ (And.intro (q2) ?_))
  refine Or.inl (Exists.intro _ (And.intro (qb2) ?_))
  rfl
theorem s_scaledUp (m:Nat) (e:Int) (hm:m < 18446744073709551616) (h1:0≤e + scS) (h2:e≤1000):PSpec Tryd.prog 28 [.i .u64 m,.i .i64 e] (.rd .int (dg 10000 (m * (5 ^ scS * 2 ^ (e + scS).toNat)))) :=
  pspec_of_vc Γ_good Tryd.func28 rfl Tryd.call28 Tryd.results28 Tryd.ntmps28 (Nat.le_of_ble_eq_true rfl) (w_scaledUp m e hm h1 h2)
end
end Go.Proofs.YtgacojkkbjhjoaaDoor
end
section
namespace Go.Proofs.YtgacojkkbjhjoaaDoor
set_option linter.unusedSectionVars false
set_option linter.unusedSimpArgs false
set_option linter.unusedVariables false
open Go Go.SX Go.Bg Go.Fl
set_option maxRecDepth 100000
set_option maxHeartbeats 4000000
section
variable [G:Globs]
theorem w_noughts (n:Nat) (hn:n≤1000000):vc Tryd.prog Γ 11 [0,2,3,4,5,6] (Tryd.f33.body.getD .skip) (postK Γ [.tmp 2] (fun v=>v = .s (List.replicate n 48))) ⟨argSlots 0 [.i .i64 n],[]⟩:=by
  refine Exists.intro [] (Exists.intro [] (Exists.intro [] (Exists.intro Nat (Exists.intro (fun k=>k≤n) (Exists.intro (fun k=>⟨[(3,.s (List.replicate k 48)),(4,.i .i64 n),(5,.i .i64 k)],[]⟩) (Exists.intro (fun k=>n - k) (Exists.intro 0 (And.intro (Nat.zero_le _) (And.intro ?_ ?_)))))))))
  · (repeat' (first | exact trivial | exact Or.inl rfl | exact Or.inr (Or.inl ⟨rfl,_,rfl⟩) | exact Or.inr (Or.inr (Or.inr ⟨_,_,_,rfl,rfl⟩)) | refine And.intro ?_ ?_))
  intro k hk
  refine And.intro (fun hc=>?_) (fun hc=>?_)
  · have hc:(k:Int) < n:=of_decide_eq_true hc
    have e1:List.replicate k (48:UInt8)++[48] = List.replicate (k + 1) 48:=by rw [List.replicate_succ']
    refine And.intro (by show (List.replicate k (48:UInt8)).length + 1≤maxLen; rw [List.length_replicate]; unfold maxLen; omega) ?_
    (refine And.intro (rng64 (by omega) (by omega)) ?_)
    refine Exists.intro [] (Exists.intro (k + 1) (And.intro (by omega) (And.intro ?_ ?_)))
    · (repeat' (first | exact trivial | exact Or.inl rfl | exact Or.inl ((congrArg AV.s e1)) | refine And.intro ?_ ?_))
    · show n - (k + 1) < n - k
      omega
  · have hk : k = n := by have : ¬ (k : Int) < n := of_decide_eq_false hc
                          omega
    rw [hk]
    rfl
theorem s_noughts (n:Nat) (hn:n≤1000000):PSpec Tryd.prog 33 [.i .i64 n] (.s (List.replicate n 48)) :=
  pspec_of_vc Γ_good Tryd.func33 rfl Tryd.call33 Tryd.results33 Tryd.ntmps33 (Nat.le_of_ble_eq_true rfl) (w_noughts n hn)
end
end Go.Proofs.YtgacojkkbjhjoaaDoor
end
section
namespace Go.Proofs.YtgacojkkbjhjoaaDoor
set_option linter.unusedSectionVars false
set_option linter.unusedSimpArgs false
set_option linter.unusedVariables false
open Go Go.SX Go.Bg Go.Fl
set_option maxRecDepth 100000
set_option maxHeartbeats 4000000
def okW (lo hi m x:Nat):Bool:=decide ((lo < x∧x < hi)∨(m % 2 = 0∧lo≤x∧x≤hi))
theorem cmp3 (a b:Nat):(a < b∧cmpN a b = -1)∨(a = b∧cmpN a b = 0)∨(b < a∧cmpN a b = 1):=by
  unfold cmpN
  rcases Nat.lt_trichotomy a b with h | h | h
  · left; exact ⟨h,by rw [if_pos h]⟩
  · right; left; exact ⟨h,by rw [if_neg (by omega),if_neg (by omega)]⟩
  · right; right; exact ⟨h,by rw [if_neg (by omega),if_pos h]⟩
section
variable [G:Globs]
theorem w_okC (lo hi m x:Nat) (h1:(dg 10000 lo).length≤1000000) (h2:(dg 10000 hi).length≤1000000) (h3:(dg 10000 x).length≤1000000):vc Tryd.prog Γ 33 [0,1,2,3,5,6,7] (Tryd.f29.body.getD .skip) (postK Γ [.tmp 5] (fun v=>v = .b (okW lo hi m x))) ⟨argSlots 0 [.rd .int (dg 10000 x),.rp [.rd .int (dg 10000 lo)],.rp [.rd .int (dg 10000 hi)],.rp [.i .u64 m]],[]⟩:=by
  have q1:=s_against (dg 10000 lo) (dg 10000 x) (dg_Dg b10 _) (dg_Dg b10 _) h1 h3
  have q2:=s_against (dg 10000 x) (dg 10000 hi) (dg_Dg b10 _) (dg_Dg b10 _) h3 h2
  rw [vl_dg b10,vl_dg b10] at q1 q2
  refine Exists.intro [.blk [0,1,2,3,4,5,6,7]] (And.intro (by kernel_rfl) ?_)
  refine Exists.intro _ (And.intro (q1) ?_)
  refine Exists.intro _ (And.intro (q2) ?_)
  have hm:=tmod2 m
  have hp:m % 2 = 0∨m % 2 = 1:=by omega
  unfold okW
  rcases cmp3 lo x with ⟨a,ca⟩ | ⟨a,ca⟩ | ⟨a,ca⟩<;>rcases cmp3 x hi with ⟨b,cb⟩ | ⟨b,cb⟩ | ⟨b,cb⟩<;>rw [ca,cb]
  all_goals (repeat' (first | (refine And.intro (fun h=>?_) (fun h=>?_)<;>(try simp [-List.getD_eq_getElem?_getD,-Int.pred_toNat] at h)<;>(try (exfalso; first | omega | contradiction))) | (refine And.intro (rng64 (by omega) (by omega)) ?_) | (refine And.intro ⟨by omega,by omega⟩ ?_) | (refine And.intro ⟨by omega,by omega,by omega⟩ ?_) | (intro _)))
  all_goals first
    | (show AV.b _ = AV.b _
       refine congrArg AV.b ?_
       rw [Bool.eq_iff_iff]
       simp
       omega)
    | (refine And.intro (by decide) ?_
       (conv=>whnf)
       rw [hm]
       rcases hp with hp | hp<;>rw [hp]
       all_goals (repeat' (first | (refine And.intro (fun h=>?_) (fun h=>?_)<;>(try simp [-List.getD_eq_getElem?_getD,-Int.pred_toNat] at h)<;>(try (exfalso; first | omega | contradiction))) | (refine And.intro (rng64 (by omega) (by omega)) ?_) | (refine And.intro ⟨by omega,by omega⟩ ?_) | (refine And.intro ⟨by omega,by omega,by omega⟩ ?_) | (intro _)))
       all_goals (refine congrArg AV.b ?_; rw [Bool.eq_iff_iff]; simp; omega))
theorem s_okC (lo hi m x:Nat) (h1:(dg 10000 lo).length≤1000000) (h2:(dg 10000 hi).length≤1000000) (h3:(dg 10000 x).length≤1000000):PSpec Tryd.prog 29 [.rd .int (dg 10000 x),.rp [.rd .int (dg 10000 lo)],.rp [.rd .int (dg 10000 hi)],.rp [.i .u64 m]] (.b (okW lo hi m x)) :=
  pspec_of_vc Γ_good Tryd.func29 rfl Tryd.call29 Tryd.results29 Tryd.ntmps29 (Nat.le_of_ble_eq_true rfl) (w_okC lo hi m x h1 h2 h3)
end
end Go.Proofs.YtgacojkkbjhjoaaDoor
end
section
namespace Go.Proofs.YtgacojkkbjhjoaaDoor
set_option linter.unusedSectionVars false
set_option linter.unusedSimpArgs false
set_option linter.unusedVariables false
open Go Go.SX Go.Bg Go.Fl
set_option maxRecDepth 100000
theorem okW_In {m c s:Nat} {e k:Int} (hk:0≤k + s) (he:0≤e - 2 + s):okW (lowC m e * (5 ^ s * 2 ^ (e - 2 + s).toNat)) ((4 * m + 2) * (5 ^ s * 2 ^ (e - 2 + s).toNat)) m (c * 10 ^ (k + s).toNat) = true↔okQ m e k c:=by
  obtain ⟨a1,a2⟩:=in_scaled (c:=c) (C:=4 * m + 2) hk he
  obtain ⟨b1,b2⟩:=in_scaled (c:=c) (C:=lowC m e) hk he
  unfold okW okQ In
  rw [decide_eq_true_iff]
  generalize upN (tN c k) (e - 2) = X at *
  generalize upD (tD k) (e - 2) * (4 * m + 2) = Y at *
  generalize upD (tD k) (e - 2) * lowC m e = Z at *
  generalize lowC m e * (5 ^ s * 2 ^ (e - 2 + s).toNat) = z at *
  generalize (4 * m + 2) * (5 ^ s * 2 ^ (e - 2 + s).toNat) = y at *
  generalize c * 10 ^ (k + s).toNat = x at *
  omega
end Go.Proofs.YtgacojkkbjhjoaaDoor
end
section
namespace Go.Fl
set_option linter.unusedSectionVars false
set_option linter.unusedSimpArgs false
set_option linter.unusedVariables false
open Go Go.SX Go.Bg
set_option maxRecDepth 100000
def wholeV (m s:Nat) (e:Int):Nat:=m * (5 ^ s * 2 ^ (e + s).toNat)
theorem q_cross {m s:Nat} {e k:Int} (hk:0≤k + s) (he:0≤e + s):qN m e k * 10 ^ (k + s).toNat = wholeV m s e * qD e k:=by
  unfold qN qD vN vD tD tN wholeV
  have h1:(-k).toNat + (k + s).toNat = k.toNat + s:=by omega
  have h2:e.toNat + s = (e + s).toNat + (-e).toNat:=by omega
  have e1:10 ^ (-k).toNat * 10 ^ (k + s).toNat = 10 ^ k.toNat * 10 ^ s:=by rw [← Nat.pow_add,← Nat.pow_add,h1]
  have e2:2 ^ e.toNat * 2 ^ s = 2 ^ (e + s).toNat * 2 ^ (-e).toNat:=by rw [← Nat.pow_add,← Nat.pow_add,h2]
  have e3:10 ^ s = 5 ^ s * 2 ^ s:=by rw [← Nat.mul_pow]
  rw [Nat.mul_assoc,e1,e3]
  generalize 2 ^ e.toNat = A at *
  generalize 2 ^ s = B at *
  generalize 2 ^ (e + s).toNat = C at *
  generalize 2 ^ (-e).toNat = D at *
  generalize 10 ^ k.toNat = T at *
  generalize 5 ^ s = F at *
  have a1:m * A * (T * (F * B)) = m * F * T * (A * B):=by ac_rfl
  rw [a1,e2]
  ac_rfl
theorem low_eq {m s:Nat} {e k:Int} (hk:0≤k + s) (he:0≤e + s):lowQ m e k = wholeV m s e / 10 ^ (k + s).toNat:=by
  have hj:0 < 10 ^ (k + s).toNat:=Nat.pow_pos (by decide)
  unfold lowQ
  rw [← Nat.mul_div_mul_right (qN m e k) (qD e k) hj,q_cross hk he,Nat.mul_comm (qD e k),Nat.mul_div_mul_right _ _ (qD_pos e k)]
theorem rem_eq {m s:Nat} {e k:Int} (hk:0≤k + s) (he:0≤e + s):remQ m e k * 10 ^ (k + s).toNat = wholeV m s e % 10 ^ (k + s).toNat * qD e k:=by
  unfold remQ
  rw [← Nat.mul_mod_mul_right,q_cross hk he,Nat.mul_comm (qD e k),Nat.mul_mod_mul_right]
theorem cross_cmp {a b c d:Nat} (hb:0 < b) (hd:0 < d) (h:a * b = c * d):(a = 0↔c = 0)∧(d < 2 * a↔b < 2 * c)∧(2 * a = d↔2 * c = b):=by
  refine ⟨⟨fun e=>?_,fun e=>?_⟩,⟨fun e=>?_,fun e=>?_⟩,⟨fun e=>?_,fun e=>?_⟩⟩
  · subst e
    rw [Nat.zero_mul] at h
    rcases Nat.mul_eq_zero.1 h.symm with h | h
    · exact h
    · omega
  · subst e
    rw [Nat.zero_mul] at h
    rcases Nat.mul_eq_zero.1 h with h | h
    · exact h
    · omega
  · have h1:=Nat.mul_lt_mul_of_pos_right e hb
    rw [Nat.mul_assoc,h,← Nat.mul_assoc,Nat.mul_comm d b] at h1
    exact Nat.lt_of_mul_lt_mul_right h1
  · have h1:=Nat.mul_lt_mul_of_pos_right e hd
    rw [Nat.mul_assoc,← h,← Nat.mul_assoc,Nat.mul_comm b d] at h1
    exact Nat.lt_of_mul_lt_mul_right h1
  · have h1:=congrArg (fun x=>x * b) e
    rw [Nat.mul_assoc,h,← Nat.mul_assoc,Nat.mul_comm d b] at h1
    exact Nat.eq_of_mul_eq_mul_right hd h1
  · have h1:=congrArg (fun x=>x * d) e
    rw [Nat.mul_assoc,← h,← Nat.mul_assoc,Nat.mul_comm b d] at h1
    exact Nat.eq_of_mul_eq_mul_right hb h1
theorem rem_cmp {m s:Nat} {e k:Int} (hk:0≤k + s) (he:0≤e + s):(remQ m e k = 0↔wholeV m s e % 10 ^ (k + s).toNat = 0)∧(qD e k < 2 * remQ m e k↔10 ^ (k + s).toNat < 2 * (wholeV m s e % 10 ^ (k + s).toNat))∧(2 * remQ m e k = qD e k↔2 * (wholeV m s e % 10 ^ (k + s).toNat) = 10 ^ (k + s).toNat) :=
  cross_cmp (Nat.pow_pos (by decide)) (qD_pos e k) (rem_eq hk he)
theorem bel_iff {m s:Nat} {e k:Int} (hk:0≤k + s) (he:0≤e + s):Bel m e k↔wholeV m s e < 10 ^ (k + s).toNat:=by
  have hj:0 < 10 ^ (k + s).toNat:=Nat.pow_pos (by decide)
  have h:=q_cross (m:=m) hk he
  have hq:=qD_pos e k
  unfold Bel
  constructor
  · intro h1
    have h2:=Nat.mul_lt_mul_of_pos_right h1 hj
    rw [h,Nat.mul_comm (qD e k)] at h2
    exact Nat.lt_of_mul_lt_mul_right h2
  · intro h1
    have h2:=Nat.mul_lt_mul_of_pos_right h1 hq
    rw [← h,Nat.mul_comm _ (qD e k)] at h2
    exact Nat.lt_of_mul_lt_mul_right h2
theorem top_len {m s:Nat} {e:Int} (hm:0 < m) (he:0≤e + s):topOf m e = ((decS (wholeV m s e)).length:Int) - s:=by
  have hV:0 < wholeV m s e:=Nat.mul_pos hm (Nat.mul_pos (Nat.pow_pos (by decide)) (Nat.pow_pos (by decide)))
  have hp:=decS_pos hV
  refine topOf_eq ⟨?_,?_⟩
  · rw [bel_iff (by omega) he,show (((decS (wholeV m s e)).length:Int) - s + s).toNat = (decS (wholeV m s e)).length by omega]
    exact decS_lt hV
  · rw [bel_iff (by omega) he,show (((decS (wholeV m s e)).length:Int) - s - 1 + s).toNat = (decS (wholeV m s e)).length - 1 by omega]
    exact Nat.not_lt.2 (decS_ge hV)
theorem dv_rep (n:Nat):dv (List.replicate n 48) = 0:=by
  induction n with
  | zero=>rfl
  | succ n ih=>rw [List.replicate_succ',dv_snoc,ih]; rfl
theorem dv_noughts (s:Str) (j:Nat):dv (s++List.replicate j 48) = dv s * 10 ^ j:=by rw [dv_append,dv_rep,List.length_replicate,Nat.add_zero]
theorem isd_noughts {s:Str} (h:∀ c ∈ s,isd c) (j:Nat):∀ c ∈ s++List.replicate j 48,isd c:=fun c hc=>by
  rcases List.mem_append.1 hc with hc | hc
  · exact h c hc
  · rw [(List.mem_replicate.1 hc).2]
    exact ⟨by decide,by decide⟩
theorem len10 {x K:Nat} (h:x≤10 ^ K):(dg 10000 x).length≤K + 1:=dg_len_le (by decide) _ _ (Nat.lt_of_le_of_lt h (Nat.lt_of_lt_of_le (Nat.pow_lt_pow_right (by decide) (Nat.lt_succ_self K)) (Nat.pow_le_pow_left (by decide) _)))
theorem strip_last {l:Str} {c:UInt8} (h:c≠48):strip (l++[c]) = l++[c]:=by
  unfold strip Lib.trimRightB
  rw [List.reverse_append,List.reverse_singleton,List.singleton_append,List.dropWhile_cons,if_neg (by simpa using h),List.reverse_cons,List.reverse_reverse]
theorem dropW_nil:∀ l:Str,l.dropWhile (fun c=>c == 48) = []→∀ c ∈ l,c = 48
  | [],_,c,hc=>(by cases hc)
  | a::r,h,c,hc=>by
    rw [List.dropWhile_cons] at h
    split at h
    · rename_i ha
      rcases List.mem_cons.1 hc with e | hc
      · rw [e]; simpa using ha
      · exact dropW_nil r h c hc
    · cases h
theorem strip_nil {s:Str} (h:strip s = []):dv s = 0:=by
  unfold strip Lib.trimRightB at h
  rw [List.reverse_eq_nil_iff] at h
  have h2:∀ c ∈ s,c = 48:=fun c hc=>by
    exact dropW_nil _ h c (List.mem_reverse.2 hc)
  rw [List.eq_replicate_of_mem h2,dv_rep]
theorem strip_step {s : Str} {i : Nat} (hi : i ≤ s.length) (h : strip (s.take i) = strip s) (h0 : 0 < (strip s).length) :
    0 < i∧(s.getD (i - 1) 0 = 48→strip (s.take (i - 1)) = strip s)∧(s.getD (i - 1) 0≠48→s.take i = strip s):=by
  have hp:0 < i:=by
    rcases Nat.eq_zero_or_pos i with e | e
    · rw [e,List.take_zero] at h
      rw [← h] at h0
      exact absurd h0 (by decide)
    · exact e
  have e1:s.take i = s.take (i - 1)++[s.getD (i - 1) 0]:=by
    have:s.take i = s.take (i - 1 + 1):=by rw [Nat.sub_add_cancel hp]
    rw [this,List.take_add_one,List.getElem?_eq_getElem (by omega),List.getD_eq_getElem?_getD,List.getElem?_eq_getElem (by omega)]
    rfl
  refine ⟨hp,fun hc=>?_,fun hc=>?_⟩
  · rw [e1,hc] at h
    have:=strip_ten (s.take (i - 1)) 1
    rw [List.replicate_one] at this
    rw [← h,this]
  · rw [← h,e1,strip_last hc]
end Go.Fl
end
section
namespace Go.Nm
set_option linter.unusedSectionVars false
set_option linter.unusedSimpArgs false
set_option linter.unusedVariables false
open Go Go.SX Go.Bg
def hexS:Str:=[48,49,50,51,52,53,54,55,56,57,97,98,99,100,101,102]
def dcI (d:Int):UInt8:=hexS.getD d.toNat 0
def txtN (b n:Nat):Str:=if n = 0 then [48] else (dg b n).reverse.map dcI
def tailN (b n:Nat):Str:=(dg b n).reverse.map dcI
theorem tailN_pos {b n:Nat} (hb:2≤b) (hn:0 < n):tailN b n = tailN b (n / b)++[dcI ((n % b:Nat):Int)]:=by
  unfold tailN
  rw [dg_pos hb hn,List.reverse_cons,List.map_append]
  rfl
theorem tailN_zero (b:Nat):tailN b 0 = []:=rfl
theorem txtN_pos {b n:Nat} (hn:0 < n):txtN b n = tailN b n:=by
  unfold txtN tailN
  rw [if_neg (by omega)]
def frontS (b:Int):Str:=if b = 2 then [48,98] else if b = 8 then [48,111] else if b = 16 then [48,120] else []
def numT (n:Int) (b:Nat):Str:=(if n < 0 then [45] else [])++frontS b++txtN b n.natAbs
end Go.Nm
end
section
namespace Go.Fl
set_option linter.unusedSectionVars false
set_option linter.unusedSimpArgs false
set_option linter.unusedVariables false
open Go Go.SX Go.Bg Go.Nm
set_option maxRecDepth 100000
def pointF (d:Str) (k:Int):Str :=
  if -3≤(d.length:Int) + k∧(d.length:Int) + k≤0 then [48,46]++List.replicate (-((d.length:Int) + k)).toNat 48++d
  else if 0 < (d.length:Int) + k∧(d.length:Int) + k < d.length then d.take ((d.length:Int) + k).toNat++[46]++d.drop ((d.length:Int) + k).toNat
  else if (d.length:Int)≤(d.length:Int) + k∧(d.length:Int) + k≤17 then d++List.replicate ((d.length:Int) + k - d.length).toNat 48++[46,48]
  else (if 1 < d.length then d.take 1++([46]++d.drop 1) else d.take 1)++[101]++numT ((d.length:Int) + k - 1) 10
open Classical in
theorem lst_rng {p:Nat→Prop}:∀ {f s:Nat},s≤lst p f s∧lst p f s≤s + f
  | 0,s=>by rw [lst]; omega
  | f + 1,s=>by
    rw [lst]
    split
    · omega
    · have:=@lst_rng p f (s + 1)
      omega
theorem strip_pos {B:Nat} (h:0 < B):0 < (strip (decS B)).length:=by
  rcases Nat.eq_zero_or_pos (strip (decS B)).length with h0 | h0
  · have:=strip_nil (List.eq_nil_of_length_eq_zero h0)
    rw [dv_decS] at this
    omega
  · exact h0
end Go.Fl
namespace Go.Proofs.YtgacojkkbjhjoaaDoor
open Go Go.SX Go.Bg Go.Fl
theorem short_rng {m:Nat} {e:Int} (h:Canon m e):1≤(shortR m e).1.length∧(shortR m e).1.length≤20∧-500≤((shortR m e).1.length:Int) + (shortR m e).2∧((shortR m e).1.length:Int) + (shortR m e).2≤500:=by
  obtain ⟨ht,t1,t2⟩:=top_is h
  have hn:1≤bestN m e∧bestN m e≤18:=by
    obtain ⟨h1,h2⟩:=@lst_rng (fun n=>acc m e (topOf m e - n)) 18 1
    have hend:=acc_end h ht.2
    refine ⟨h1,?_⟩
    rcases Nat.lt_or_ge 18 (bestN m e) with h3 | h3
    · exfalso
      have h4:∀ f s,s + f = 19→0 < f→lst (fun n=>acc m e (topOf m e - n)) f s≤18:=by
        intro f
        induction f with
        | zero=>intro s _ h; omega
        | succ f ih =>
          intro s hs _
          rw [lst]
          split
          · omega
          · rename_i hp
            rcases Nat.eq_zero_or_pos f with e0 | e0
            · exact absurd (show acc m e (topOf m e - (s:Nat)) by rw [show s = 18 by omega]; exact hend) hp
            · exact ih (s + 1) (by omega) e0
      have h5:=h4 18 1 rfl (by decide)
      have h6:bestN m e≤18:=h5
      omega
    · exact h3
  have hsh:shortR m e = shRes (pickQ m e (topOf m e - bestN m e)) (topOf m e - bestN m e):=rfl
  rw [hsh]
  generalize bestN m e = n at *
  have hl:=top_low ht.2 hn.1
  have hlt:=low_lt ht.1 n
  have hh:0 < highQ m e (topOf m e - n)∧highQ m e (topOf m e - n)≤10 ^ n:=by unfold highQ; split<;>omega
  obtain ⟨B,hB⟩:∃ B,B = pickQ m e (topOf m e - n):=⟨_,rfl⟩
  have hB1:0 < B∧B≤10 ^ n:=by
    rw [hB]
    unfold pickQ
    split
    · exact hh
    · exact ⟨hl,Nat.le_of_lt hlt⟩
  rw [← hB]
  have h1:=strip_pos hB1.1
  have h2:=strip_le (decS B)
  have h3:(decS B).length≤n + 1:=by
    rw [decS_len hB1.1]
    exact dg_len_le b10d _ _ (Nat.lt_of_le_of_lt hB1.2 (Nat.pow_lt_pow_right (by decide) (Nat.lt_succ_self _)))
  have h4:(shRes B (topOf m e - n)).1 = strip (decS B):=rfl
  have h5:(shRes B (topOf m e - n)).2 = topOf m e - n + (((decS B).length - (strip (decS B)).length:Nat):Int):=rfl
  rw [h4,h5]
  omega
end Go.Proofs.YtgacojkkbjhjoaaDoor
end
section
namespace Go.Proofs.YtgacojkkbjhjoaaDoor
set_option linter.unusedSectionVars false
set_option linter.unusedSimpArgs false
set_option linter.unusedVariables false
open Go Go.SX Go.Bg Go.Fl
set_option maxRecDepth 100000
set_option maxHeartbeats 4000000
section
variable [G:Globs]
theorem w_shortOf (b m:Nat) (e:Int) (hb:b < 18446744073709551616) (hp:parts b = (m,e,0)) (h:Canon m e):VCs Tryd.prog Γ 159 [0,2,3,4,5,7,8,9,10,11,12,13,14,15,16,17,18,19,20,21,22,49,94,107,140,149] (Tryd.f9.body.getD .skip) (postK Γ [.tmp 2,.tmp 3] (fun v=>v = .tup [.s (shortR m e).1,.i .i64 (shortR m e).2])) ⟨argSlots 0 [.i .u64 b],[]⟩:=by
  have qp:=s_fparts b hb
  unfold partsA at qp
  rw [hp] at qp
  dsimp only at qp
  have hlo:=h.lo
  have hhi:=h.hi
  have lm:=h.m1
  have m0:=h.m0
  have hs:scS = 1080:=rfl
  obtain ⟨U,hU⟩:∃ U,U = 5 ^ scS * 2 ^ (e - 2 + scS).toNat:=⟨_,rfl⟩
  have eV:5 ^ scS * 2 ^ (e + scS).toNat = 4 * U:=by rw [hU,show (e + scS).toNat = (e - 2 + scS).toNat + 2 by omega,Nat.pow_add,Nat.mul_comm 4,Nat.mul_assoc]
  have eH:5 ^ scS * 2 ^ (e - 1 + scS).toNat = 2 * U:=by rw [hU,show (e - 1 + scS).toNat = (e - 2 + scS).toNat + 1 by omega,Nat.pow_add,Nat.mul_comm 2,Nat.mul_assoc]
  have w2:IntKind.u64.wrap (2 * (m:Int)) = ((2 * m:Nat):Int):=by rw [IntKind.wrap_u64]; omega
  have w21:IntKind.u64.wrap (IntKind.u64.wrap (2 * (m:Int)) + 1) = ((2 * m + 1:Nat):Int):=by rw [w2,IntKind.wrap_u64]; omega
  have w22:IntKind.u64.wrap (IntKind.u64.wrap (2 * (m:Int)) - 1) = ((2 * m - 1:Nat):Int):=by rw [w2,IntKind.wrap_u64]; omega
  have w4:IntKind.u64.wrap (4 * (m:Int)) = ((4 * m:Nat):Int):=by rw [IntKind.wrap_u64]; omega
  have w41:IntKind.u64.wrap (IntKind.u64.wrap (4 * (m:Int)) - 1) = ((4 * m - 1:Nat):Int):=by rw [w4,IntKind.wrap_u64]; omega
  have q1:=s_scaledUp m e (by omega) (by omega) (by omega)
  have q2:=s_scaledUp (2 * m + 1) (e - 1) (by omega) (by omega) (by omega)
  have q3:=s_scaledUp (2 * m - 1) (e - 1) (by omega) (by omega) (by omega)
  have q4:=s_scaledUp (4 * m - 1) (e - 2) (by omega) (by omega) (by omega)
  rw [← w21,eH,show (2 * m + 1) * (2 * U) = (4 * m + 2) * U by rw [← Nat.mul_assoc]; congr 1; omega] at q2
  rw [← w22,eH,show (2 * m - 1) * (2 * U) = (4 * m - 2) * U by rw [← Nat.mul_assoc]; congr 1; omega] at q3
  rw [← w41,← hU] at q4
  have hV:wholeV m scS e = m * (4 * U):=by unfold wholeV; rw [eV]
  rw [eV,← hV] at q1
  refine VCs.seq (by first | exact Γ_good | exact Ctx.good_kp Γ_good _) ?_
  refine VCs.seq (by first | exact Γ_good | exact Ctx.good_kp Γ_good _) ?_
  refine Or.inl (Exists.intro _ (And.intro (qp) ?_))
  refine VCs.seq (by first | exact Γ_good | exact Ctx.good_kp Γ_good _) ?_
  refine Or.inl (Exists.intro _ (And.intro (q1) ?_))
  refine VCs.seq (by first | exact Γ_good | exact Ctx.good_kp Γ_good _) ?_
  (repeat' (first | (refine And.intro (fun h=>?_) (fun h=>?_)<;>(try simp [-List.getD_eq_getElem?_getD,-Int.pred_toNat] at h)<;>(try (exfalso; first | omega | contradiction))) | (refine And.intro (rng64 (by omega) (by omega)) ?_) | (refine And.intro ⟨by omega,by omega⟩ ?_) | (refine And.intro ⟨by omega,by omega,by omega⟩ ?_) | (intro _)))
  refine Or.inl (Exists.intro _ (And.intro (q2) ?_))
  refine VCs.seq (by first | exact Γ_good | exact Ctx.good_kp Γ_good _) ?_
  (repeat' (first | (refine And.intro (fun h=>?_) (fun h=>?_)<;>(try simp [-List.getD_eq_getElem?_getD,-Int.pred_toNat] at h)<;>(try (exfalso; first | omega | contradiction))) | (refine And.intro (rng64 (by omega) (by omega)) ?_) | (refine And.intro ⟨by omega,by omega⟩ ?_) | (refine And.intro ⟨by omega,by omega,by omega⟩ ?_) | (intro _)))
  refine Or.inl (Exists.intro _ (And.intro (q3) ?_))
  refine VCs.cut (by first | exact Γ_good | exact Ctx.good_kp Γ_good _) Unit (fun _=>True) (fun _=>⟨[(4,.pt 4 0),(7,.rd .int (dg 10000 (wholeV m scS e))),(8,.pt 8 0),(9,.pt 9 0)],[(4,[.i .u64 m]),(8,[.rd .int (dg 10000 ((4 * m + 2) * U))]),(9,[.rd .int (dg 10000 (lowC m e * U))])]⟩) ?_ ?_
  · unfold lowC
    by_cases hm:m = 4503599627370496
    · by_cases he : -1074 < e
      · rw [if_pos ⟨hm,he⟩]
        (repeat' (first | (refine And.intro (fun h=>?_) (fun h=>?_)<;>(try simp [-List.getD_eq_getElem?_getD,-Int.pred_toNat] at h)<;>(try (exfalso; first | omega | contradiction))) | (refine And.intro (rng64 (by omega) (by omega)) ?_) | (refine And.intro ⟨by omega,by omega⟩ ?_) | (refine And.intro ⟨by omega,by omega,by omega⟩ ?_) | (intro _)))
        refine Or.inl (Exists.intro _ (And.intro (q4) ?_))
        refine Exists.intro () (And.intro trivial ?_)
        (repeat' (first | exact trivial | exact Or.inl rfl | exact Or.inr (Or.inl ⟨rfl,_,rfl⟩) | exact Or.inr (Or.inr (Or.inr ⟨_,_,_,rfl,rfl⟩)) | refine And.intro ?_ ?_))
      · rw [if_neg (fun h=>he h.2)]
        (repeat' (first | (refine And.intro (fun h=>?_) (fun h=>?_)<;>(try simp [-List.getD_eq_getElem?_getD,-Int.pred_toNat] at h)<;>(try (exfalso; first | omega | contradiction))) | (refine And.intro (rng64 (by omega) (by omega)) ?_) | (refine And.intro ⟨by omega,by omega⟩ ?_) | (refine And.intro ⟨by omega,by omega,by omega⟩ ?_) | (intro _)))
        refine Exists.intro () (And.intro trivial ?_)
        (repeat' (first | exact trivial | exact Or.inl rfl | exact Or.inr (Or.inl ⟨rfl,_,rfl⟩) | exact Or.inr (Or.inr (Or.inr ⟨_,_,_,rfl,rfl⟩)) | refine And.intro ?_ ?_))
    · rw [if_neg (fun h=>hm h.1)]
      (repeat' (first | (refine And.intro (fun h=>?_) (fun h=>?_)<;>(try simp [-List.getD_eq_getElem?_getD,-Int.pred_toNat] at h)<;>(try (exfalso; first | omega | contradiction))) | (refine And.intro (rng64 (by omega) (by omega)) ?_) | (refine And.intro ⟨by omega,by omega⟩ ?_) | (refine And.intro ⟨by omega,by omega,by omega⟩ ?_) | (intro _)))
      refine Exists.intro () (And.intro trivial ?_)
      (repeat' (first | exact trivial | exact Or.inl rfl | exact Or.inr (Or.inl ⟨rfl,_,rfl⟩) | exact Or.inr (Or.inr (Or.inr ⟨_,_,_,rfl,rfl⟩)) | refine And.intro ?_ ?_))
  rintro ⟨⟩ _
  have hV0:0 < wholeV m scS e:=Nat.mul_pos m0 (Nat.mul_pos (Nat.pow_pos (by decide)) (Nat.pow_pos (by decide)))
  have htop:=top_len (s:=scS) (e:=e) m0 (by omega)
  obtain ⟨ht,t1,t2⟩:=top_is h
  have hend:=acc_end h ht.2
  have hVd:=decS_lt hV0
  have hmU:m * (4 * U) = 4 * (m * U):=by rw [Nat.mul_left_comm]
  have hVx:4 * (m * U) < 10 ^ (decS (wholeV m scS e)).length:=by rw [← hmU,← hV]; exact hVd
  have hUm:U≤m * U:=Nat.le_mul_of_pos_left U m0
  have hlc:lowC m e * U≤4 * m * U:=Nat.mul_le_mul_right U (by unfold lowC; split<;>omega)
  have hd1:=len10 (Nat.le_of_lt hVd)
  have hd2:(dg 10000 ((4 * m + 2) * U)).length≤(decS (wholeV m scS e)).length + 1 + 1:=len10 (by
    rw [Nat.pow_succ,Nat.add_mul,Nat.mul_assoc]
    omega)
  have hd3:(dg 10000 (lowC m e * U)).length≤(decS (wholeV m scS e)).length + 1:=len10 (by
    rw [Nat.mul_assoc] at hlc
    omega)
  replace hd1:(dg 10000 (wholeV m scS e)).length≤1000000:=by omega
  replace hd2:(dg 10000 ((4 * m + 2) * U)).length≤1000000:=by omega
  replace hd3:(dg 10000 (lowC m e * U)).length≤1000000:=by omega
  have qd:=s_digits (dg 10000 (wholeV m scS e)) (dg_Dg b10 _) hd1
  rw [vl_dg b10] at qd
  have hsh:shortR m e = shRes (pickQ m e (topOf m e - bestN m e)) (topOf m e - bestN m e):=rfl
  have hbest:bestN m e = lst (fun n=>acc m e (topOf m e - n)) 18 1:=rfl
  have hlow:=fun k (hk:0≤k + (scS:Int))=>low_eq (m:=m) hk (show 0≤e + (scS:Int) by omega)
  have hrem:=fun k (hk:0≤k + (scS:Int))=>rem_cmp (m:=m) hk (show 0≤e + (scS:Int) by omega)
  have hisd:=decS_isd (wholeV m scS e)
  have hfr:=fun j hj=>dv_front (j:=j) hV0 hj
  rw [hsh]
  refine VCs.seq (by first | exact Γ_good | exact Ctx.good_kp Γ_good _) ?_
  refine VCs.seq (by first | exact Γ_good | exact Ctx.good_kp Γ_good _) ?_
  refine Or.inl (Exists.intro _ (And.intro (qd) ?_))
  refine VCs.seq (by first | exact Γ_good | exact Ctx.good_kp Γ_good _) ?_
  generalize eVV:wholeV m scS e = V at *
  generalize eHI:(4 * m + 2) * U = HI at *
  generalize eLO:lowC m e * U = LO at *
  refine VCs.block ?_
  refine VCs.loop ?_
  refine Exists.intro [] (Exists.intro [] (Exists.intro [] (Exists.intro Nat (Exists.intro (fun n=>1≤n∧n≤18∧∀ j,1≤j→j < n→¬ acc m e (topOf m e - j)) (Exists.intro (fun n=>⟨[(7,.rd .int (dg 10000 V)),(10,.fn 29 [.pt 9 0,.pt 8 0,.pt 4 0]),(11,.s (decS V)),(12,.i .i64 n)],[(4,[.i .u64 m]),(8,[.rd .int (dg 10000 HI)]),(9,[.rd .int (dg 10000 LO)])]⟩) (Exists.intro (fun n=>18 - n) (Exists.intro 1 (And.intro ⟨Nat.le_refl _,by decide,fun j h1 h2=>by omega⟩ (And.intro ?_ ?_)))))))))
  · (repeat' (first | exact trivial | exact Or.inl rfl | exact Or.inr (Or.inl ⟨rfl,_,rfl⟩) | exact Or.inr (Or.inr (Or.inr ⟨_,_,_,rfl,rfl⟩)) | refine And.intro ?_ ?_))
  rintro n ⟨i1,i2,i3⟩
  refine VCs.seqS ?_
  refine VCs.block ?_
  generalize etp:topOf m e = tp at *
  obtain ⟨j,ej⟩:∃ j,j + n = (decS V).length:=⟨(decS V).length - n,by omega⟩
  refine VCs.cut (by first | exact Γ_good | exact Ctx.good_kp Γ_good _) Unit (fun _=>True) (fun _=>⟨[(7,.rd .int (dg 10000 V)),(10,.fn 29 [.pt 9 0,.pt 8 0,.pt 4 0]),(11,.s (decS V)),(12,.i .i64 n),(13,.i .i64 j)],[(4,[.i .u64 m]),(8,[.rd .int (dg 10000 HI)]),(9,[.rd .int (dg 10000 LO)])]⟩) ?_ ?_
  · intro _
    (refine And.intro (rng64 (by omega) (by omega)) ?_)
    refine Exists.intro () (And.intro trivial ?_)
    have emax:(if ((decS V).length:Int) - n < 0 then 0 else ((decS V).length:Int) - n) = j:=by
      rw [← ej]
      split<;>omega
    (repeat' (first | exact trivial | exact Or.inl rfl | exact Or.inl ((congrArg (AV.i .i64) emax)) | refine And.intro ?_ ?_))
  rintro ⟨⟩ _
  refine VCs.seq (by first | exact Γ_good | exact Ctx.good_kp Γ_good _) ?_
  intro _
  (refine And.intro (rng64 (by omega) (by omega)) ?_)
  (refine And.intro ⟨by omega,by omega,by omega⟩ ?_)
  have hks:(tp - (n:Int) + scS).toNat = j:=by omega
  have hk0:0≤tp - (n:Int) + scS:=by omega
  have hA:=hlow (tp - n) hk0
  obtain ⟨r0,r1,r2⟩:=hrem (tp - n) hk0
  rw [hks] at hA r0 r1 r2
  obtain ⟨A,eA⟩:∃ A,A = V / 10 ^ j:=⟨_,rfl⟩
  obtain ⟨R,eR⟩:∃ R,R = V % 10 ^ j:=⟨_,rfl⟩
  have hT:0 < 10 ^ j:=Nat.pow_pos (by decide)
  have eVR:A * 10 ^ j + R = V:=by rw [eA,eR,Nat.mul_comm]; exact Nat.div_add_mod V (10 ^ j)
  have hR:R < 10 ^ j:=by rw [eR]; exact Nat.mod_lt _ hT
  have hA1:=top_low ht.2 (n:=n) i1
  have hA2:=low_lt ht.1 n
  rw [hA,← eA] at hA1 hA2
  rw [← eR] at r0 r1 r2
  have hLj:10 ^ n * 10 ^ j = 10 ^ (decS V).length:=by rw [← Nat.pow_add,Nat.add_comm,ej]
  have hAV:A * 10 ^ j≤V:=by omega
  have hBV:(A + 1) * 10 ^ j≤10 ^ (decS V).length:=by rw [← hLj]; exact Nat.mul_le_mul_right _ hA2
  have lA:=len10 (Nat.le_trans (Nat.le_trans (Nat.le_mul_of_pos_right A hT) hAV) (Nat.le_of_lt hVd))
  have lAj:=len10 (Nat.le_trans hAV (Nat.le_of_lt hVd))
  have lBj:=len10 hBV
  have lB:=len10 (Nat.le_trans (Nat.le_mul_of_pos_right (A + 1) hT) hBV)
  have eF:=hfr j (by omega)
  rw [← eA] at eF
  have hFl:((decS V).take ((decS V).length - j)).length = n:=by rw [List.length_take]; omega
  have hFd:∀ c ∈ (decS V).take ((decS V).length - j),isd c:=fun c hc=>hisd c (List.mem_of_mem_take hc)
  have eT:List.drop (Int.toNat 0) (List.take (((decS V).length:Int) - (j:Int)).toNat (decS V)) = (decS V).take ((decS V).length - j):=by
    rw [show (((decS V).length:Int) - (j:Int)).toNat = (decS V).length - j by omega]; rfl
  rw [← eT] at eF hFl hFd
  generalize hFR:List.drop (Int.toNat 0) (List.take (((decS V).length:Int) - (j:Int)).toNat (decS V)) = FR at *
  have qF:=s_ofDigits FR hFd (by omega)
  rw [eF] at qF
  refine Or.inl (Exists.intro _ (And.intro (qF) ?_))
  have qn:=s_noughts j (by omega)
  have qa:=s_ofDigits (FR++List.replicate j 48) (isd_noughts hFd j) (by rw [List.length_append,List.length_replicate]; omega)
  rw [dv_noughts,eF] at qa
  refine VCs.seq (by first | exact Γ_good | exact Ctx.good_kp Γ_good _) ?_
  refine Exists.intro [.take 0,.take 1,.take 2,.blk [3,4,5,6,7,8,9,10]] (And.intro (by kernel_rfl) ?_)
  intro _
  (refine And.intro (rng64 (by omega) (by omega)) ?_)
  (refine And.intro ⟨by omega,by omega,by omega⟩ ?_)
  rw [hFR]
  refine Exists.intro _ (And.intro (qn) ?_)
  refine And.intro (by show FR.length + (List.replicate j (48:UInt8)).length≤maxLen; rw [List.length_replicate]; unfold maxLen; omega) ?_
  refine Exists.intro _ (And.intro (qa) ?_)
  have q1':=s_small 1 (by decide)
  have d1:dg 10000 1 = [1]:=rfl
  have qs:=s_plus (dg 10000 A) (dg 10000 1) (dg_Dg b10 _) (dg_Dg b10 _) (by omega) (by rw [d1]; decide)
  rw [vl_dg b10,vl_dg b10] at qs
  have qg:=s_digits (dg 10000 (A + 1)) (dg_Dg b10 _) (by omega)
  rw [vl_dg b10] at qg
  have eB:=dv_decS ((A + 1) * 10 ^ j)
  have hBd:=decS_isd ((A + 1) * 10 ^ j)
  have hBl:=dg_len_le b10d (decS V).length ((A + 1) * 10 ^ j)
  have hBp:0 < (A + 1) * 10 ^ j:=Nat.mul_pos (Nat.succ_pos _) hT
  have hBL:(decS ((A + 1) * 10 ^ j)).length≤(decS V).length + 1:=by
    rw [decS_len hBp]
    exact dg_len_le b10d _ _ (Nat.lt_of_le_of_lt hBV (Nat.pow_lt_pow_right (by decide) (Nat.lt_succ_self _)))
  rw [decS_ten (Nat.succ_pos A)] at eB hBd hBL
  have qb:=s_ofDigits (decS (A + 1)++List.replicate j 48) hBd (Nat.le_trans hBL (by omega))
  rw [eB] at qb
  have hBL2:(decS (A + 1)).length + j≤(decS V).length + 1:=by simpa using hBL
  refine VCs.seq (by first | exact Γ_good | exact Ctx.good_kp Γ_good _) ?_
  refine Or.inl (Exists.intro _ (And.intro (q1') ?_))
  refine Or.inl (Exists.intro _ (And.intro (qs) ?_))
  refine Or.inl (Exists.intro _ (And.intro (qg) ?_))
  refine Or.inl (Exists.intro _ (And.intro (qn) ?_))
  refine And.intro (by show (decS (A + 1)).length + (List.replicate j (48:UInt8)).length≤maxLen; rw [List.length_replicate]; unfold maxLen; omega) ?_
  refine Or.inl (Exists.intro _ (And.intro (qb) ?_))
  have qc:=s_against (dg 10000 (A * 10 ^ j)) (dg 10000 V) (dg_Dg b10 _) (dg_Dg b10 _) (by omega) hd1
  rw [vl_dg b10,vl_dg b10] at qc
  have hh:highQ m e (tp - n) = if R = 0 then A else A + 1:=by
    unfold highQ
    rw [hA,← eA]
    by_cases h0:R = 0
    · rw [if_pos (r0.2 h0),if_pos h0]
    · rw [if_neg (fun h=>h0 (r0.1 h)),if_neg h0]
  obtain ⟨B,eBB⟩:∃ B,B = if R = 0 then A else A + 1:=⟨_,rfl⟩
  rw [← eBB] at hh
  refine VCs.cut (by first | exact Γ_good | exact Ctx.good_kp Γ_good _) Unit (fun _=>True) (fun _=>⟨[(7,.rd .int (dg 10000 V)),(10,.fn 29 [.pt 9 0,.pt 8 0,.pt 4 0]),(11,.s (decS V)),(12,.i .i64 n),(14,.rd .int (dg 10000 A)),(15,.rd .int (dg 10000 (A * 10 ^ j))),(16,.rd .int (dg 10000 (B * 10 ^ j)))],[(4,[.i .u64 m]),(8,[.rd .int (dg 10000 HI)]),(9,[.rd .int (dg 10000 LO)])]⟩) ?_ ?_
  · refine Or.inl (Exists.intro _ (And.intro (qc) ?_))
    rcases cmp3 (A * 10 ^ j) V with ⟨a,ca⟩ | ⟨a,ca⟩ | ⟨a,ca⟩
    · rw [ca,eBB,if_neg (by omega)]
      (repeat' (first | (refine And.intro (fun h=>?_) (fun h=>?_)<;>(try simp [-List.getD_eq_getElem?_getD,-Int.pred_toNat] at h)<;>(try (exfalso; first | omega | contradiction))) | (refine And.intro (rng64 (by omega) (by omega)) ?_) | (refine And.intro ⟨by omega,by omega⟩ ?_) | (refine And.intro ⟨by omega,by omega,by omega⟩ ?_) | (intro _)))
      refine Exists.intro () (And.intro trivial ?_)
      (repeat' (first | exact trivial | exact Or.inl rfl | exact Or.inr (Or.inl ⟨rfl,_,rfl⟩) | exact Or.inr (Or.inr (Or.inr ⟨_,_,_,rfl,rfl⟩)) | refine And.intro ?_ ?_))
    · rw [ca,eBB,if_pos (by omega)]
      (repeat' (first | (refine And.intro (fun h=>?_) (fun h=>?_)<;>(try simp [-List.getD_eq_getElem?_getD,-Int.pred_toNat] at h)<;>(try (exfalso; first | omega | contradiction))) | (refine And.intro (rng64 (by omega) (by omega)) ?_) | (refine And.intro ⟨by omega,by omega⟩ ?_) | (refine And.intro ⟨by omega,by omega,by omega⟩ ?_) | (intro _)))
      refine Exists.intro () (And.intro trivial ?_)
      (repeat' (first | exact trivial | exact Or.inl rfl | exact Or.inr (Or.inl ⟨rfl,_,rfl⟩) | exact Or.inr (Or.inr (Or.inr ⟨_,_,_,rfl,rfl⟩)) | refine And.intro ?_ ?_))
    · omega
  rintro ⟨⟩ _
  have lBB:(dg 10000 (B * 10 ^ j)).length≤1000000:=by
    by_cases h0:R = 0
    · rw [eBB,if_pos h0]; omega
    · rw [eBB,if_neg h0]; omega
  have qx:=s_okC LO HI m (A * 10 ^ j) hd3 hd2 (by omega)
  have qy:=s_okC LO HI m (B * 10 ^ j) hd3 hd2 lBB
  have okx:=okW_In (m:=m) (c:=A) (s:=scS) (e:=e) (k:=tp - n) hk0 (by omega)
  have oky:=okW_In (m:=m) (c:=B) (s:=scS) (e:=e) (k:=tp - n) hk0 (by omega)
  rw [hks,← hU,eLO,eHI] at okx oky
  generalize okW LO HI m (A * 10 ^ j) = bx at *
  generalize okW LO HI m (B * 10 ^ j) = by' at *
  refine VCs.seq (by first | exact Γ_good | exact Ctx.good_kp Γ_good _) ?_
  refine Or.inr (Or.inr (Or.inl (Exists.intro _ (And.intro (qx) ?_))))
  refine Or.inr (Or.inr (Or.inl (Exists.intro _ (And.intro (qy) ?_))))
  have hacc:acc m e (tp - n)↔(bx = true∨by' = true):=by
    unfold acc
    rw [hA,← eA,hh,okx,oky]
  by_cases ha:acc m e (tp - n)
  case neg =>
    have hxy:bx = false∧by' = false:=by
      constructor
      · cases hb:bx with
        | true=>exact absurd (hacc.2 (.inl hb)) ha
        | false=>rfl
      · cases hb:by' with
        | true=>exact absurd (hacc.2 (.inr hb)) ha
        | false=>rfl
    have hn:n≠18:=fun h9=>ha (by rw [h9]; exact hend)
    rw [hxy.1,hxy.2]
    refine VCs.of_vc (by first | exact Γ_good | exact Ctx.good_kp Γ_good _) ?_
    (repeat' (first | (refine And.intro (fun h=>?_) (fun h=>?_)<;>(try simp [-List.getD_eq_getElem?_getD,-Int.pred_toNat] at h)<;>(try (exfalso; first | omega | contradiction))) | (refine And.intro (rng64 (by omega) (by omega)) ?_) | (refine And.intro ⟨by omega,by omega⟩ ?_) | (refine And.intro ⟨by omega,by omega,by omega⟩ ?_) | (intro _)))
    refine VCs.of_vc (by first | exact Γ_good | exact Ctx.good_kp Γ_good _) ?_
    (repeat' (first | (refine And.intro (fun h=>?_) (fun h=>?_)<;>(try simp [-List.getD_eq_getElem?_getD,-Int.pred_toNat] at h)<;>(try (exfalso; first | omega | contradiction))) | (refine And.intro (rng64 (by omega) (by omega)) ?_) | (refine And.intro ⟨by omega,by omega⟩ ?_) | (refine And.intro ⟨by omega,by omega,by omega⟩ ?_) | (intro _)))
    refine Exists.intro [] (Exists.intro (n + 1) (And.intro ⟨by omega,by omega,fun j h1 h2=>by rcases Nat.lt_or_ge j n with h9 | h9; exact i3 j h1 h9; rw [show j = n by omega]; exact ha⟩ (And.intro ?_ ?_)))
    · (repeat' (first | exact trivial | exact Or.inl rfl | exact Or.inr (Or.inl ⟨rfl,_,rfl⟩) | exact Or.inr (Or.inr (Or.inr ⟨_,_,_,rfl,rfl⟩)) | refine And.intro ?_ ?_))
    · show 18 - (n + 1) < 18 - n
      omega
  have hb':bestN m e = n:=by rw [hbest]; exact lst_eq i1 (by omega) ha i3
  rw [hb']
  refine VCs.cut (by first | exact Γ_good | exact Ctx.good_kp Γ_good _) Unit (fun _=>True) (fun _=>⟨[(7,.rd .int (dg 10000 V)),(14,.rd .int (dg 10000 A)),(15,.rd .int (dg 10000 (A * 10 ^ j))),(16,.rd .int (dg 10000 (B * 10 ^ j))),(17,.b bx),(18,.b by')],[]⟩) ?_ ?_
  · have h2:=hacc.1 ha
    cases bx<;>cases by'
    · exact absurd h2 (by decide)
    all_goals (repeat' (first | (refine And.intro (fun h=>?_) (fun h=>?_)<;>(try simp [-List.getD_eq_getElem?_getD,-Int.pred_toNat] at h)<;>(try (exfalso; first | omega | contradiction))) | (refine And.intro (rng64 (by omega) (by omega)) ?_) | (refine And.intro ⟨by omega,by omega⟩ ?_) | (refine And.intro ⟨by omega,by omega,by omega⟩ ?_) | (intro _)))
    all_goals refine Exists.intro () (And.intro trivial ?_)
    all_goals (repeat' (first | exact trivial | exact Or.inl rfl | exact Or.inr (Or.inl ⟨rfl,_,rfl⟩) | exact Or.inr (Or.inr (Or.inr ⟨_,_,_,rfl,rfl⟩)) | refine And.intro ?_ ?_))
  rintro ⟨⟩ _
  have hBV2:V≤B * 10 ^ j:=by
    by_cases h0:R = 0
    · rw [eBB,if_pos h0]; omega
    · rw [eBB,if_neg h0,Nat.add_mul]; omega
  have qm1:=s_minus (dg 10000 V) (dg 10000 (A * 10 ^ j)) (dg_Dg b10 _) (dg_Dg b10 _) hd1 (by rw [vl_dg b10,vl_dg b10]; exact hAV)
  have qm2:=s_minus (dg 10000 (B * 10 ^ j)) (dg 10000 V) (dg_Dg b10 _) (dg_Dg b10 _) lBB (by rw [vl_dg b10,vl_dg b10]; exact hBV2)
  rw [vl_dg b10,vl_dg b10] at qm1 qm2
  have lm1:(dg 10000 (V - A * 10 ^ j)).length≤1000000:=Nat.le_trans (dg_len_mono b10 (Nat.sub_le _ _)) hd1
  have lm2:(dg 10000 (B * 10 ^ j - V)).length≤1000000:=Nat.le_trans (dg_len_mono b10 (Nat.sub_le _ _)) lBB
  have qc2:=s_against (dg 10000 (V - A * 10 ^ j)) (dg 10000 (B * 10 ^ j - V)) (dg_Dg b10 _) (dg_Dg b10 _) lm1 lm2
  rw [vl_dg b10,vl_dg b10] at qc2
  refine VCs.seq (by first | exact Γ_good | exact Ctx.good_kp Γ_good _) ?_
  refine Or.inl (Exists.intro _ (And.intro (qm1) ?_))
  refine Or.inl (Exists.intro _ (And.intro (qm2) ?_))
  refine Or.inl (Exists.intro _ (And.intro (qc2) ?_))
  refine VCs.seq (by first | exact Γ_good | exact Ctx.good_kp Γ_good _) ?_
  have hpick:pickQ m e (tp - n) = if ¬ bx = true∨(by' = true∧(10 ^ j < 2 * R∨(2 * R = 10 ^ j∧A % 2 = 1))) then B else A:=by
    unfold pickQ
    rw [hA,← eA,hh]
    have e1:(¬ okQ m e (tp - n) A∨(okQ m e (tp - n) B∧(qD e (tp - n) < 2 * remQ m e (tp - n)∨(2 * remQ m e (tp - n) = qD e (tp - n)∧A % 2 = 1))))↔(¬ bx = true∨(by' = true∧(10 ^ j < 2 * R∨(2 * R = 10 ^ j∧A % 2 = 1)))):=by rw [okx,oky,r1,r2]
    by_cases hc:¬ bx = true∨(by' = true∧(10 ^ j < 2 * R∨(2 * R = 10 ^ j∧A % 2 = 1)))
    · rw [if_pos hc,if_pos (e1.2 hc)]
    · rw [if_neg hc,if_neg (fun h=>hc (e1.1 h))]
  obtain ⟨P,eP⟩:∃ P,P = if ¬ bx = true∨(by' = true∧(10 ^ j < 2 * R∨(2 * R = 10 ^ j∧A % 2 = 1))) then B else A:=⟨_,rfl⟩
  rw [← eP] at hpick
  rw [hpick]
  refine VCs.cut (by first | exact Γ_good | exact Ctx.good_kp Γ_good _) Unit (fun _=>True) (fun _=>⟨[(20,.rd .int (dg 10000 (P * 10 ^ j)))],[]⟩) ?_ ?_
  · have g0:(((A % 10000:Nat):Int)::dg 10000 (A / 10000)).getD (Int.toNat 0) (dflt .int) = ((A % 10000:Nat):Int):=rfl
    have gl:0 < (dg 10000 A).length:=dg_len_pos b10 hA1
    have hpar:A % 2 = 0∨A % 2 = 1:=by omega
    have h2:=hacc.1 ha
    have hRA:V - A * 10 ^ j = R:=by omega
    have hBT:(R = 0∧B = A)∨(0 < R∧B = A + 1∧B * 10 ^ j - V = 10 ^ j - R):=by
      by_cases h0:R = 0
      · exact .inl ⟨h0,by rw [eBB,if_pos h0]⟩
      · refine .inr ⟨by omega,by rw [eBB,if_neg h0],?_⟩
        rw [eBB,if_neg h0,Nat.add_mul]
        omega
    cases bx<;>cases by'
    · exact absurd h2 (by decide)
    · rw [eP,if_pos (.inl (by decide))]
      (repeat' (first | (refine And.intro (fun h=>?_) (fun h=>?_)<;>(try simp [-List.getD_eq_getElem?_getD,-Int.pred_toNat] at h)<;>(try (exfalso; first | omega | contradiction))) | (refine And.intro (rng64 (by omega) (by omega)) ?_) | (refine And.intro ⟨by omega,by omega⟩ ?_) | (refine And.intro ⟨by omega,by omega,by omega⟩ ?_) | (intro _)))
      refine Exists.intro () (And.intro trivial ?_)
      (repeat' (first | exact trivial | exact Or.inl rfl | exact Or.inr (Or.inl ⟨rfl,_,rfl⟩) | exact Or.inr (Or.inr (Or.inr ⟨_,_,_,rfl,rfl⟩)) | refine And.intro ?_ ?_))
    · rw [eP,if_neg (by rintro (h | ⟨h,_⟩); exact h rfl; exact absurd h (by decide))]
      (repeat' (first | (refine And.intro (fun h=>?_) (fun h=>?_)<;>(try simp [-List.getD_eq_getElem?_getD,-Int.pred_toNat] at h)<;>(try (exfalso; first | omega | contradiction))) | (refine And.intro (rng64 (by omega) (by omega)) ?_) | (refine And.intro ⟨by omega,by omega⟩ ?_) | (refine And.intro ⟨by omega,by omega,by omega⟩ ?_) | (intro _)))
      refine Exists.intro () (And.intro trivial ?_)
      (repeat' (first | exact trivial | exact Or.inl rfl | exact Or.inr (Or.inl ⟨rfl,_,rfl⟩) | exact Or.inr (Or.inr (Or.inr ⟨_,_,_,rfl,rfl⟩)) | refine And.intro ?_ ?_))
    · rcases cmp3 (V - A * 10 ^ j) (B * 10 ^ j - V) with ⟨a,ca⟩ | ⟨a,ca⟩ | ⟨a,ca⟩
      · rw [ca, eP, if_neg (by
          rintro (h | ⟨_,h⟩)
          · exact h rfl
          · rcases hBT with ⟨b1,b2⟩ | ⟨b1,b2,b3⟩
            · rw [b1] at h; omega
            · omega)]
        (repeat' (first | (refine And.intro (fun h=>?_) (fun h=>?_)<;>(try simp [-List.getD_eq_getElem?_getD,-Int.pred_toNat] at h)<;>(try (exfalso; first | omega | contradiction))) | (refine And.intro (rng64 (by omega) (by omega)) ?_) | (refine And.intro ⟨by omega,by omega⟩ ?_) | (refine And.intro ⟨by omega,by omega,by omega⟩ ?_) | (intro _)))
        (conv=>whnf)
        refine Exists.intro () (And.intro trivial ?_)
        (repeat' (first | exact trivial | exact Or.inl rfl | exact Or.inr (Or.inl ⟨rfl,_,rfl⟩) | exact Or.inr (Or.inr (Or.inr ⟨_,_,_,rfl,rfl⟩)) | refine And.intro ?_ ?_))
      · have hB0 : B * 10 ^ j = A * 10 ^ j ∨ 2 * R = 10 ^ j := by
          rcases hBT with ⟨b1,b2⟩ | ⟨b1,b2,b3⟩
          · exact .inl (by rw [b2])
          · right; omega
        have hP:P * 10 ^ j = if A % 2 = 1 then B * 10 ^ j else A * 10 ^ j:=by
          rw [eP]
          rcases hBT with ⟨b1,b2⟩ | ⟨b1,b2,b3⟩
          · rw [b2]; simp
          · have:2 * R = 10 ^ j:=by omega
            by_cases hp:A % 2 = 1
            · rw [if_pos hp,if_pos (.inr ⟨rfl,.inr ⟨this,hp⟩⟩)]
            · rw [if_neg hp,if_neg (by rintro (h | ⟨_,h | ⟨_,h⟩⟩); exact h rfl; omega; exact hp h)]
        rw [hP,ca,dg_pos b10 hA1]
        (repeat' (first | (refine And.intro (fun h=>?_) (fun h=>?_)<;>(try simp [-List.getD_eq_getElem?_getD,-Int.pred_toNat] at h)<;>(try (exfalso; first | omega | contradiction))) | (refine And.intro (rng64 (by omega) (by omega)) ?_) | (refine And.intro ⟨by omega,by omega⟩ ?_) | (refine And.intro ⟨by omega,by omega,by omega⟩ ?_) | (intro _)))
        refine And.intro ⟨by decide,by rw [List.length_cons]; omega⟩ ?_
        refine And.intro (by decide) ?_
        (conv=>whnf)
        rw [g0,tmod2,show A % 10000 % 2 = A % 2 by omega]
        rcases hpar with hp | hp<;>rw [hp]
        · rw [if_neg (by decide)]
          (repeat' (first | (refine And.intro (fun h=>?_) (fun h=>?_)<;>(try simp [-List.getD_eq_getElem?_getD,-Int.pred_toNat] at h)<;>(try (exfalso; first | omega | contradiction))) | (refine And.intro (rng64 (by omega) (by omega)) ?_) | (refine And.intro ⟨by omega,by omega⟩ ?_) | (refine And.intro ⟨by omega,by omega,by omega⟩ ?_) | (intro _)))
          (conv=>whnf)
          refine Exists.intro () (And.intro trivial ?_)
          (repeat' (first | exact trivial | exact Or.inl rfl | exact Or.inr (Or.inl ⟨rfl,_,rfl⟩) | exact Or.inr (Or.inr (Or.inr ⟨_,_,_,rfl,rfl⟩)) | refine And.intro ?_ ?_))
        · rw [if_pos rfl]
          (repeat' (first | (refine And.intro (fun h=>?_) (fun h=>?_)<;>(try simp [-List.getD_eq_getElem?_getD,-Int.pred_toNat] at h)<;>(try (exfalso; first | omega | contradiction))) | (refine And.intro (rng64 (by omega) (by omega)) ?_) | (refine And.intro ⟨by omega,by omega⟩ ?_) | (refine And.intro ⟨by omega,by omega,by omega⟩ ?_) | (intro _)))
          (conv=>whnf)
          refine Exists.intro () (And.intro trivial ?_)
          (repeat' (first | exact trivial | exact Or.inl rfl | exact Or.inr (Or.inl ⟨rfl,_,rfl⟩) | exact Or.inr (Or.inr (Or.inr ⟨_,_,_,rfl,rfl⟩)) | refine And.intro ?_ ?_))
      · rw [ca, eP, if_pos (.inr ⟨rfl, .inl (by
          rcases hBT with ⟨b1,b2⟩ | ⟨b1,b2,b3⟩
          · rw [b2] at a; omega
          · omega)⟩)]
        (repeat' (first | (refine And.intro (fun h=>?_) (fun h=>?_)<;>(try simp [-List.getD_eq_getElem?_getD,-Int.pred_toNat] at h)<;>(try (exfalso; first | omega | contradiction))) | (refine And.intro (rng64 (by omega) (by omega)) ?_) | (refine And.intro ⟨by omega,by omega⟩ ?_) | (refine And.intro ⟨by omega,by omega,by omega⟩ ?_) | (intro _)))
        (conv=>whnf)
        refine Exists.intro () (And.intro trivial ?_)
        (repeat' (first | exact trivial | exact Or.inl rfl | exact Or.inr (Or.inl ⟨rfl,_,rfl⟩) | exact Or.inr (Or.inr (Or.inr ⟨_,_,_,rfl,rfl⟩)) | refine And.intro ?_ ?_))
  rintro ⟨⟩ _
  have hB0:0 < B:=by
    by_cases h0:R = 0
    · rw [eBB,if_pos h0]; exact hA1
    · rw [eBB,if_neg h0]; exact Nat.succ_pos _
  have hPAB:P = A∨P = B:=by
    rw [eP]
    split
    · exact .inr rfl
    · exact .inl rfl
  have hP0:0 < P:=by rcases hPAB with h | h<;>rw [h]<;>assumption
  have lP:(dg 10000 (P * 10 ^ j)).length≤1000000:=by
    rcases hPAB with h | h<;>rw [h]
    · omega
    · exact lBB
  have qp:=s_digits (dg 10000 (P * 10 ^ j)) (dg_Dg b10 _) lP
  rw [vl_dg b10] at qp
  refine VCs.seq (by first | exact Γ_good | exact Ctx.good_kp Γ_good _) ?_
  refine Or.inl (Exists.intro _ (And.intro (qp) ?_))
  refine VCs.seq (by first | exact Γ_good | exact Ctx.good_kp Γ_good _) ?_
  rw [decS_ten hP0]
  have hst:=strip_ten (decS P) j
  have hs0:0 < (strip (decS P)).length:=by
    rcases Nat.eq_zero_or_pos (strip (decS P)).length with h0 | h0
    · have:=strip_nil (List.eq_nil_of_length_eq_zero h0)
      rw [dv_decS] at this
      omega
    · exact h0
  have hPT:P * 10 ^ j≤10 ^ (decS V).length:=by
    rcases hPAB with h | h<;>rw [h]
    · omega
    · by_cases h0:R = 0
      · rw [eBB,if_pos h0]; omega
      · rw [eBB,if_neg h0]; exact hBV
  have hDl:(decS (P * 10 ^ j)).length≤(decS V).length + 1:=by
    rw [decS_len (Nat.mul_pos hP0 hT)]
    exact dg_len_le b10d _ _ (Nat.lt_of_le_of_lt hPT (Nat.pow_lt_pow_right (by decide) (Nat.lt_succ_self _)))
  rw [decS_ten hP0] at hDl
  have hDl2:(decS P++List.replicate j 48).length = (decS P).length + j:=by simp
  have hle:=strip_le (decS P)
  have hres:shRes P (tp - n) = (strip (decS P++List.replicate j 48),-1080 + (((decS P++List.replicate j 48).length - (strip (decS P++List.replicate j 48)).length:Nat):Int)):=by
    unfold shRes
    rw [hst,hDl2]
    refine Prod.ext rfl ?_
    show tp - (n:Int) + (((decS P).length - (strip (decS P)).length:Nat):Int) = -1080 + (((decS P).length + j - (strip (decS P)).length:Nat):Int)
    omega
  rw [hres]
  rw [← hst] at hs0
  generalize decS P++List.replicate j 48 = D at *
  refine VCs.of_vc (by first | exact Γ_good | exact Ctx.good_kp Γ_good _) ?_
  refine Exists.intro [] (Exists.intro [] (Exists.intro [] (Exists.intro Nat (Exists.intro (fun i=>i≤D.length∧strip (D.take i) = strip D) (Exists.intro (fun i=>⟨[(21,.s (D.take i)),(22,.i .i64 (-1080 + ((D.length - i:Nat):Int)))],[]⟩) (Exists.intro (fun i=>i) (Exists.intro D.length (And.intro ⟨Nat.le_refl _,by rw [List.take_length]⟩ (And.intro ?_ ?_)))))))))
  · (repeat' (first | exact trivial | exact Or.inl rfl | exact Or.inl ((by rw [List.take_length])) | exact Or.inl ((congrArg (AV.i .i64) (show (-1080:Int) = -1080 + ((D.length - D.length:Nat):Int) by omega))) | refine And.intro ?_ ?_))
  rintro i ⟨hi1,hi2⟩
  obtain ⟨hi0,hc1,hc2⟩:=strip_step hi1 hi2 hs0
  have hil:(D.take i).length = i:=by rw [List.length_take]; omega
  intro _
  (refine And.intro (rng64 (by omega) (by omega)) ?_)
  (refine And.intro ⟨by omega,by omega⟩ ?_)
  have eg:(D.take i).getD (((D.take i).length:Int) - 1).toNat 0 = D.getD (i - 1) 0:=by
    rw [show (((D.take i).length:Int) - 1).toNat = i - 1 by omega,List.getD_eq_getElem?_getD,List.getElem?_take,if_pos (by omega),← List.getD_eq_getElem?_getD]
  have et:List.drop (Int.toNat 0) (List.take (((D.take i).length:Int) - 1).toNat (D.take i)) = D.take (i - 1):=by
    rw [show (((D.take i).length:Int) - 1).toNat = i - 1 by omega,List.take_take,show min (i - 1) i = i - 1 by omega]; rfl
  refine And.intro (fun hc=>?_) (fun hc=>?_)
  · rw [eg] at hc
    have hc:((D.getD (i - 1) 0).toNat:Int) = 48:=eq_of_beq hc
    have hc : D.getD (i - 1) 0 = 48 := UInt8.toNat_inj.1 (by have : (48 : UInt8).toNat = 48 := rfl
                                                             omega)
    intro _
    (refine And.intro (rng64 (by omega) (by omega)) ?_)
    (refine And.intro ⟨by omega,by omega,by omega⟩ ?_)
    (refine And.intro (rng64 (by omega) (by omega)) ?_)
    refine Exists.intro [] (Exists.intro (i - 1) (And.intro ⟨by omega,hc1 hc⟩ (And.intro ?_ ?_)))
    · (repeat' (first | exact trivial | exact Or.inl rfl | exact Or.inl ((congrArg AV.s et)) | exact Or.inl ((congrArg (AV.i .i64) (show (-1080:Int) + ((D.length - i:Nat):Int) + 1 = -1080 + ((D.length - (i - 1):Nat):Int) by omega))) | refine And.intro ?_ ?_))
    · show i - 1 < i
      omega
  · rw [eg] at hc
    have hc:¬ ((D.getD (i - 1) 0).toNat:Int) = 48:=ne_of_beq_false hc
    have hc:D.getD (i - 1) 0≠48:=fun h=>hc (by rw [h]; rfl)
    have e2:=hc2 hc
    show AV.tup [AV.s (D.take i),AV.i .i64 (-1080 + ((D.length - i:Nat):Int))] = AV.tup [AV.s (strip D),AV.i .i64 (-1080 + ((D.length - (strip D).length:Nat):Int))]
    rw [← e2,hil]
theorem s_shortOf (b m:Nat) (e:Int) (hb:b < 18446744073709551616) (hp:parts b = (m,e,0)) (h:Canon m e):PSpec Tryd.prog 9 [.i .u64 b] (.tup [.s (shortR m e).1,.i .i64 (shortR m e).2]) :=
  pspec_of_VCs Γ_good Tryd.func9 rfl Tryd.call9 Tryd.results9 Tryd.ntmps9 (Nat.le_of_ble_eq_true rfl) (w_shortOf b m e hb hp h) Γ_good
end
end Go.Proofs.YtgacojkkbjhjoaaDoor
end
section
namespace Go.Proofs.YtgacojkkbjhjoaaDoor
set_option linter.unusedSectionVars false
set_option linter.unusedSimpArgs false
set_option linter.unusedVariables false
open Go Go.SX Go.Bg Go.Fl
set_option maxRecDepth 100000
set_option maxHeartbeats 4000000
theorem parts_sign (b:Nat):parts (b % 9223372036854775808) = parts b:=by
  unfold parts
  rw [show b % 9223372036854775808 / 4503599627370496 % 2048 = b / 4503599627370496 % 2048 by omega,show b % 9223372036854775808 % 4503599627370496 = b % 4503599627370496 by omega]
section
variable [G:Globs]
theorem s_short63 (b:Nat) (h1:¬ 0 < (parts b).2.2) (h2:¬ (parts b).1 = 0):PSpec Tryd.prog 9 [.i .u64 ((b:Int).tmod 9223372036854775808)] (.tup [.s (shortR (parts b).1 (parts b).2.1).1,.i .i64 (shortR (parts b).1 (parts b).2.1).2]):=by
  have hc:=parts_canon h1 h2
  have h3:(parts b).2.2 = 0:=by
    have:0≤(parts b).2.2:=by
      unfold parts
      split
      · split<;>decide
      · split<;>exact Int.le_refl _
    omega
  have q:=s_shortOf (b % 9223372036854775808) (parts b).1 (parts b).2.1 (by omega) (by rw [parts_sign]; exact Prod.ext rfl (Prod.ext rfl h3)) hc
  exact q
end
end Go.Proofs.YtgacojkkbjhjoaaDoor
end
section
namespace Go.Proofs.YtgacojkkbjhjoaaDoor
set_option linter.unusedSectionVars false
set_option linter.unusedSimpArgs false
set_option linter.unusedVariables false
open Go Go.SX Go.Bg Go.Nm
set_option maxRecDepth 100000
set_option maxHeartbeats 1000000
section
variable [G:Globs]
end
end Go.Proofs.YtgacojkkbjhjoaaDoor
end
section
namespace Go.Proofs.YtgacojkkbjhjoaaDoor
set_option linter.unusedSectionVars false
set_option linter.unusedSimpArgs false
set_option linter.unusedVariables false
open Go Go.SX Go.Bg Go.Nm
set_option maxRecDepth 100000
set_option maxHeartbeats 1000000
section
variable [G:Globs]
end
end Go.Proofs.YtgacojkkbjhjoaaDoor
end
section
namespace Go.Proofs.YtgacojkkbjhjoaaDoor
set_option linter.unusedSectionVars false
set_option linter.unusedSimpArgs false
set_option linter.unusedVariables false
open Go Go.SX Go.Bg Go.Nm
set_option maxRecDepth 100000
set_option maxHeartbeats 1000000
def HasPow [G : Globs] : Prop := ∃ o0 : Obj, (2, o0) ∈ G.gl ∧ ∀ w : World, w.heap[2]? = some o0 → Lib.TabIs Tryd.prog w "internal/strconv.uint64pow10" .u64 Lib.pow10Tab
theorem dcI_lt {d:Nat} (h:d < 10):dcI (d:Int) = UInt8.ofNat (48 + d):=by
  rcases (show d = 0∨d = 1∨d = 2∨d = 3∨d = 4∨d = 5∨d = 6∨d = 7∨d = 8∨d = 9 by omega) with rfl | rfl | rfl | rfl | rfl | rfl | rfl | rfl | rfl | rfl<;>rfl
theorem dec_txt:∀ n:Nat,Lib.decDigits n = txtN 10 n:=by
  intro n
  induction n using Nat.strongRecOn with
  | ind n ih =>
    rw [Lib.decDigits]
    split
    · rename_i h
      rcases Nat.eq_zero_or_pos n with e | e
      · rw [e]; rfl
      · rw [txtN_pos e,tailN_pos (by decide) e,Nat.div_eq_of_lt h,Nat.mod_eq_of_lt h,tailN_zero,dcI_lt h]
        rfl
    · rename_i h
      rw [ih (n / 10) (by omega),txtN_pos (show 0 < n by omega),tailN_pos (by decide) (show 0 < n by omega),txtN_pos (show 0 < n / 10 by omega),dcI_lt (Nat.mod_lt _ (by decide))]
theorem grow_stp (w:World) (k:Nat) (os:Array Obj):Stp (fun _=>False) w (Go.Sort.grow (w.drewN k) os):=by
  refine ⟨rfl,rfl,rfl,?_,fun j hj _=>?_⟩
  · show w.heap.size≤(w.heap++os).size
    rw [Array.size_append]; omega
  · show (w.heap++os)[j]? = _
    rw [Array.getElem?_append_left hj]
theorem itoa_txt (n:Int):Lib.itoa n = numT n 10:=by
  unfold Lib.itoa numT
  split
  · rw [dec_txt]; rfl
  · rw [dec_txt,show n.toNat = n.natAbs by omega]; rfl
section
variable [G:Globs]
theorem s_itoa (ht:HasPow) (n:Int) (h0 : -9223372036854775808≤n) (h1:n≤9223372036854775807):PSpec Tryd.prog 78 [.i .i64 n] (.s (numT n 10)):=by
  refine ⟨Tryd.call78,fun O w vs hO hG hargs=>?_⟩
  obtain ⟨v0,vs0,rfl,h2,h⟩:=hargs.cons_inv
  obtain rfl:=h.nil_inv
  cases h2
  obtain ⟨o0,m0,hT⟩:=ht
  have hT:=hT w (hG _ m0).2
  refine (Tryd.strconv_Itoa n h0 h1 w hT).mono fun e w' ⟨he,k,os,hw⟩=>?_
  subst he hw
  refine ⟨_,rfl,?_,?_⟩
  · exact grow_stp w k os
  · rw [itoa_txt]
    have hl:=Lib.itoa_length_le n h0 h1
    rw [itoa_txt] at hl
    exact .s _ (by unfold maxLen; omega)
theorem repL (c:Nat):Lib.repeatL [48] c = List.replicate c 48:=by
  induction c with
  | zero=>rfl
  | succ c ih=>rw [List.replicate_succ,← ih]; rfl
theorem s_repeat (c:Nat) (hc:c≤1000000):PSpec Tryd.prog 77 [.s [48],.i .i64 c] (.s (List.replicate c 48)):=by
  refine ⟨Tryd.call77,fun O w vs hO hG hargs=>?_⟩
  obtain ⟨v0,vs0,rfl,h2,h⟩:=hargs.cons_inv
  obtain ⟨v1,vs1,rfl,h3,h⟩:=h.cons_inv
  obtain rfl:=h.nil_inv
  cases h2
  cases h3
  refine (Tryd.strings_Repeat ⟨#[48]⟩ c w (by omega) (by show 1 * c≤_; omega)).mono fun e w' ⟨he,hb⟩=>?_
  subst he
  refine ⟨_,rfl,⟨hb.os,hb.tape,hb.output,hb.size,fun k hk _=>hb.block k hk⟩,?_⟩
  rw [show (⟨#[48]⟩:ByteArray).data.toList = [48] from rfl,repL]
  exact .s _ (by rw [List.length_replicate]; unfold maxLen; omega)
end
end Go.Proofs.YtgacojkkbjhjoaaDoor
end
section
namespace Go.Proofs.YtgacojkkbjhjoaaDoor
set_option linter.unusedSectionVars false
set_option linter.unusedSimpArgs false
set_option linter.unusedVariables false
open Go Go.SX Go.Bg Go.Fl Go.Nm
set_option maxRecDepth 100000
set_option maxHeartbeats 4000000
theorem numT_rng (n:Int) (h : -1000≤n) (h':n≤1000):(numT n 10).length≤1000:=by
  have:=Lib.itoa_length_le n (by omega) (by omega)
  rw [itoa_txt] at this
  omega
section
variable [G:Globs]
theorem mx (n:Nat) (h:n≤2000):n≤maxLen:=by unfold maxLen; omega
theorem w_point (ht:HasPow) (d:Str) (k:Int) (h1:1≤d.length) (h2:d.length≤20) (h3 : -500≤(d.length:Int) + k) (h4:(d.length:Int) + k≤500):VCs Tryd.prog Γ 72 [0,1,4,5,6,7,13,26,42,60] (Tryd.f37.body.getD .skip) (postK Γ [.tmp 4] (fun v=>v = .s (pointF d k))) ⟨argSlots 0 [.s d,.i .i64 k],[]⟩:=by
  have hq:=numT_rng ((d.length:Int) + k - 1) (by omega) (by omega)
  have qi:=s_itoa ht ((d.length:Int) + k - 1) (by omega) (by omega)
  unfold pointF
  generalize numT ((d.length:Int) + k - 1) 10 = T at *
  have e1:List.drop (Int.toNat 0) (List.take (Int.toNat 1) d) = d.take 1:=rfl
  have e2:List.drop (Int.toNat 1) (List.take ((d.length:Int)).toNat d) = d.drop 1:=by rw [Int.toNat_natCast,List.take_length]; rfl
  have e3:List.drop (Int.toNat 0) (List.take ((d.length:Int) + k).toNat d) = d.take ((d.length:Int) + k).toNat:=rfl
  have e4:List.drop ((d.length:Int) + k).toNat (List.take ((d.length:Int)).toNat d) = d.drop ((d.length:Int) + k).toNat:=by rw [Int.toNat_natCast,List.take_length]
  refine VCs.seq (by first | exact Γ_good | exact Ctx.good_kp Γ_good _) ?_
  refine VCs.seq (by first | exact Γ_good | exact Ctx.good_kp Γ_good _) ?_
  intro _
  refine VCs.seq (by first | exact Γ_good | exact Ctx.good_kp Γ_good _) ?_
  (refine And.intro (rng64 (by omega) (by omega)) ?_)
  by_cases c1 : -3≤(d.length:Int) + k∧(d.length:Int) + k≤0
  · rw [if_pos c1]
    have qr:=s_repeat (-((d.length:Int) + k)).toNat (by omega)
    rw [show (((-((d.length:Int) + k)).toNat:Nat):Int) = 0 - ((d.length:Int) + k) by omega] at qr
    refine VCs.of_vc (by first | exact Γ_good | exact Ctx.good_kp Γ_good _) ?_
    (repeat' (first | (refine And.intro (fun h=>?_) (fun h=>?_)<;>(try simp [-List.getD_eq_getElem?_getD,-Int.pred_toNat] at h)<;>(try (exfalso; first | omega | contradiction))) | (refine And.intro (rng64 (by omega) (by omega)) ?_) | (refine And.intro ⟨by omega,by omega⟩ ?_) | (refine And.intro ⟨by omega,by omega,by omega⟩ ?_) | (intro _)))
    refine Or.inl (And.intro ⟨by omega,by omega⟩ ?_)
    refine Or.inl (Exists.intro _ (And.intro (qr) ?_))
    refine And.intro (mx _ (by show 2 + (List.replicate _ (48:UInt8)).length≤2000; rw [List.length_replicate]; omega)) ?_
    refine And.intro (mx _ (by rw [List.length_append,List.length_replicate]; show 2 + _ + d.length≤2000; omega)) ?_
    rfl
  rw [if_neg c1]
  by_cases c2:0 < (d.length:Int) + k∧(d.length:Int) + k < d.length
  · rw [if_pos c2]
    refine VCs.of_vc (by first | exact Γ_good | exact Ctx.good_kp Γ_good _) ?_
    (repeat' (first | (refine And.intro (fun h=>?_) (fun h=>?_)<;>(try simp [-List.getD_eq_getElem?_getD,-Int.pred_toNat] at h)<;>(try (exfalso; first | omega | contradiction))) | (refine And.intro (rng64 (by omega) (by omega)) ?_) | (refine And.intro ⟨by omega,by omega⟩ ?_) | (refine And.intro ⟨by omega,by omega,by omega⟩ ?_) | (intro _)))
    refine Exists.intro [.blk [0,1,2,3,4,5,6,7,8]] (And.intro (by kernel_rfl) ?_)
    (repeat' (first | (refine And.intro (fun h=>?_) (fun h=>?_)<;>(try simp [-List.getD_eq_getElem?_getD,-Int.pred_toNat] at h)<;>(try (exfalso; first | omega | contradiction))) | (refine And.intro (rng64 (by omega) (by omega)) ?_) | (refine And.intro ⟨by omega,by omega⟩ ?_) | (refine And.intro ⟨by omega,by omega,by omega⟩ ?_) | (intro _)))
    rw [e3]
    refine And.intro (mx _ (by rw [List.length_take]; show _ + 1≤2000; omega)) ?_
    (repeat' (first | (refine And.intro (fun h=>?_) (fun h=>?_)<;>(try simp [-List.getD_eq_getElem?_getD,-Int.pred_toNat] at h)<;>(try (exfalso; first | omega | contradiction))) | (refine And.intro (rng64 (by omega) (by omega)) ?_) | (refine And.intro ⟨by omega,by omega⟩ ?_) | (refine And.intro ⟨by omega,by omega,by omega⟩ ?_) | (intro _)))
    rw [e4]
    refine And.intro (mx _ (by rw [List.length_append,List.length_take,List.length_drop]; show _ + 1 + _≤2000; omega)) ?_
    rfl
  rw [if_neg c2]
  by_cases c3:(d.length:Int)≤(d.length:Int) + k∧(d.length:Int) + k≤17
  · rw [if_pos c3]
    have qr:=s_repeat ((d.length:Int) + k - d.length).toNat (by omega)
    rw [show ((((d.length:Int) + k - d.length).toNat:Nat):Int) = (d.length:Int) + k - d.length by omega] at qr
    refine VCs.of_vc (by first | exact Γ_good | exact Ctx.good_kp Γ_good _) ?_
    (repeat' (first | (refine And.intro (fun h=>?_) (fun h=>?_)<;>(try simp [-List.getD_eq_getElem?_getD,-Int.pred_toNat] at h)<;>(try (exfalso; first | omega | contradiction))) | (refine And.intro (rng64 (by omega) (by omega)) ?_) | (refine And.intro ⟨by omega,by omega⟩ ?_) | (refine And.intro ⟨by omega,by omega,by omega⟩ ?_) | (intro _)))
    refine Or.inl (Exists.intro _ (And.intro (qr) ?_))
    refine And.intro (mx _ (by show d.length + (List.replicate _ (48:UInt8)).length≤2000; rw [List.length_replicate]; omega)) ?_
    refine And.intro (mx _ (by rw [List.length_append,List.length_replicate]; show d.length + _ + 2≤2000; omega)) ?_
    rfl
  rw [if_neg c3]
  refine VCs.cut (by first | exact Γ_good | exact Ctx.good_kp Γ_good _) Unit (fun _=>True) (fun _=>⟨[(0,.s d),(5,.i .i64 d.length),(6,.i .i64 ((d.length:Int) + k))],[]⟩) ?_ ?_
  · (repeat' (first | (refine And.intro (fun h=>?_) (fun h=>?_)<;>(try simp [-List.getD_eq_getElem?_getD,-Int.pred_toNat] at h)<;>(try (exfalso; first | omega | contradiction))) | (refine And.intro (rng64 (by omega) (by omega)) ?_) | (refine And.intro ⟨by omega,by omega⟩ ?_) | (refine And.intro ⟨by omega,by omega,by omega⟩ ?_) | (intro _)))
    all_goals refine Exists.intro () (And.intro trivial ?_)
    all_goals (repeat' (first | exact trivial | exact Or.inl rfl | exact Or.inr (Or.inl ⟨rfl,_,rfl⟩) | exact Or.inr (Or.inr (Or.inr ⟨_,_,_,rfl,rfl⟩)) | refine And.intro ?_ ?_))
  rintro ⟨⟩ _
  refine VCs.seq (by first | exact Γ_good | exact Ctx.good_kp Γ_good _) ?_
  (refine And.intro ⟨by omega,by omega,by omega⟩ ?_)
  rw [e1]
  refine VCs.cut (by first | exact Γ_good | exact Ctx.good_kp Γ_good _) Unit (fun _=>True) (fun _=>⟨[(6,.i .i64 ((d.length:Int) + k)),(7,.s (if 1 < d.length then d.take 1++([46]++d.drop 1) else d.take 1))],[]⟩) ?_ ?_
  · by_cases c:1 < d.length
    · rw [if_pos c]
      (repeat' (first | (refine And.intro (fun h=>?_) (fun h=>?_)<;>(try simp [-List.getD_eq_getElem?_getD,-Int.pred_toNat] at h)<;>(try (exfalso; first | omega | contradiction))) | (refine And.intro (rng64 (by omega) (by omega)) ?_) | (refine And.intro ⟨by omega,by omega⟩ ?_) | (refine And.intro ⟨by omega,by omega,by omega⟩ ?_) | (intro _)))
      rw [e2]
      refine And.intro (mx _ (by rw [List.length_drop]; show 1 + _≤2000; omega)) ?_
      refine And.intro (mx _ (by rw [List.length_append,List.length_drop,List.length_take]; show _ + (1 + _)≤2000; omega)) ?_
      refine Exists.intro () (And.intro trivial ?_)
      (repeat' (first | exact trivial | exact Or.inl rfl | exact Or.inr (Or.inl ⟨rfl,_,rfl⟩) | exact Or.inr (Or.inr (Or.inr ⟨_,_,_,rfl,rfl⟩)) | refine And.intro ?_ ?_))
    · rw [if_neg c]
      (repeat' (first | (refine And.intro (fun h=>?_) (fun h=>?_)<;>(try simp [-List.getD_eq_getElem?_getD,-Int.pred_toNat] at h)<;>(try (exfalso; first | omega | contradiction))) | (refine And.intro (rng64 (by omega) (by omega)) ?_) | (refine And.intro ⟨by omega,by omega⟩ ?_) | (refine And.intro ⟨by omega,by omega,by omega⟩ ?_) | (intro _)))
      refine Exists.intro () (And.intro trivial ?_)
      (repeat' (first | exact trivial | exact Or.inl rfl | exact Or.inr (Or.inl ⟨rfl,_,rfl⟩) | exact Or.inr (Or.inr (Or.inr ⟨_,_,_,rfl,rfl⟩)) | refine And.intro ?_ ?_))
  rintro ⟨⟩ _
  have hF:(if 1 < d.length then d.take 1++([46]++d.drop 1) else d.take 1).length≤22:=by
    split
    · rw [List.length_append,List.length_append,List.length_take,List.length_drop]
      show _ + (1 + _)≤22
      omega
    · rw [List.length_take]
      omega
  generalize (if 1 < d.length then d.take 1++([46]++d.drop 1) else d.take 1) = F at *
  refine VCs.of_vc (by first | exact Γ_good | exact Ctx.good_kp Γ_good _) ?_
  refine And.intro (mx _ (by show F.length + 1≤2000; omega)) ?_
  (refine And.intro (rng64 (by omega) (by omega)) ?_)
  refine Or.inl (Exists.intro _ (And.intro (qi) ?_))
  refine And.intro (mx _ (by rw [List.length_append]; show F.length + 1 + T.length≤2000; omega)) ?_
  rfl
theorem s_point (ht:HasPow) (d:Str) (k:Int) (h1:1≤d.length) (h2:d.length≤20) (h3 : -500≤(d.length:Int) + k) (h4:(d.length:Int) + k≤500):PSpec Tryd.prog 37 [.s d,.i .i64 k] (.s (pointF d k)) :=
  pspec_of_VCs Γ_good Tryd.func37 rfl Tryd.call37 Tryd.results37 Tryd.ntmps37 (Nat.le_of_ble_eq_true rfl) (w_point ht d k h1 h2 h3 h4) Γ_good
def sgF (b:Nat):Str:=if 9223372036854775808≤b then [45] else []
open Classical in
noncomputable def textF (b:Nat):Str :=
  if (parts b).2.2 = 2 then [110,97,110] else if (parts b).2.2 = 1 then sgF b++[105,110,102] else if (parts b).1 = 0 then sgF b++[48,46,48]
  else sgF b++pointF (shortR (parts b).1 (parts b).2.1).1 (shortR (parts b).1 (parts b).2.1).2
theorem pointF_len (d:Str) (k:Int) (h1:1≤d.length) (h2:d.length≤20) (h3 : -500≤(d.length:Int) + k) (h4:(d.length:Int) + k≤500):(pointF d k).length≤1100:=by
  have hq:=numT_rng ((d.length:Int) + k - 1) (by omega) (by omega)
  unfold pointF
  generalize numT ((d.length:Int) + k - 1) 10 = T at *
  split
  · simp only [List.length_append,List.length_replicate,List.length_cons,List.length_nil]; omega
  split
  · simp only [List.length_append,List.length_take,List.length_drop,List.length_cons,List.length_nil]; omega
  split
  · simp only [List.length_append,List.length_replicate,List.length_cons,List.length_nil]; omega
  split
  · simp only [List.length_append,List.length_take,List.length_drop,List.length_cons,List.length_nil]; omega
  · simp only [List.length_append,List.length_take,List.length_drop,List.length_cons,List.length_nil]; omega
theorem parts_kd (b:Nat):(parts b).2.2 = 0∨(parts b).2.2 = 1∨(parts b).2.2 = 2:=by
  unfold parts
  split
  · split
    · exact .inr (.inl rfl)
    · exact .inr (.inr rfl)
  · split<;>exact .inl rfl
theorem w_textW (ht:HasPow) (b:Nat) (hb:b < 18446744073709551616):VCs Tryd.prog Γ 42 [0,2,3,5,6,7,8,17,18,21,26] (Tryd.f11.body.getD .skip) (postK Γ [.tmp 2] (fun v=>v = .s (textF b))) ⟨argSlots 0 [.i .u64 b],[]⟩:=by
  have q1:=s_partsW b hb
  have q2:=s_shortW b hb
  have hk:=parts_kd b
  have hc:=parts_canon (b:=b)
  unfold partsA at q1
  unfold shortA at q2
  unfold textF
  have qp:=fun h1 h2=>s_point ht (shortR (parts b).1 (parts b).2.1).1 (shortR (parts b).1 (parts b).2.1).2 (short_rng (hc h1 h2)).1 (short_rng (hc h1 h2)).2.1 (short_rng (hc h1 h2)).2.2.1 (short_rng (hc h1 h2)).2.2.2
  have lp:=fun h1 h2=>pointF_len (shortR (parts b).1 (parts b).2.1).1 (shortR (parts b).1 (parts b).2.1).2 (short_rng (hc h1 h2)).1 (short_rng (hc h1 h2)).2.1 (short_rng (hc h1 h2)).2.2.1 (short_rng (hc h1 h2)).2.2.2
  generalize shortR (parts b).1 (parts b).2.1 = r at *
  generalize (parts b).2.2 = kd at *
  generalize (parts b).2.1 = e at *
  generalize (parts b).1 = m at *
  have hsl:(sgF b).length≤1:=by unfold sgF; split<;>decide
  refine VCs.seq (by first | exact Γ_good | exact Ctx.good_kp Γ_good _) ?_
  refine VCs.seq (by first | exact Γ_good | exact Ctx.good_kp Γ_good _) ?_
  refine Or.inl (Exists.intro _ (And.intro (q1) ?_))
  refine VCs.seq (by first | exact Γ_good | exact Ctx.good_kp Γ_good _) ?_
  refine VCs.cut (by first | exact Γ_good | exact Ctx.good_kp Γ_good _) Unit (fun _=>True) (fun _=>⟨[(0,.i .u64 b),(3,.i .u64 m),(5,.i .i64 kd),(6,.s (sgF b))],[]⟩) ?_ ?_
  · unfold sgF
    by_cases h:9223372036854775808≤b
    · rw [if_pos h]
      refine And.intro (fun _=>?_) (fun h9=>absurd (Int.ofNat_le.2 h) (of_decide_eq_false h9))
      refine Exists.intro () (And.intro trivial ?_)
      (repeat' (first | exact trivial | exact Or.inl rfl | exact Or.inr (Or.inl ⟨rfl,_,rfl⟩) | exact Or.inr (Or.inr (Or.inr ⟨_,_,_,rfl,rfl⟩)) | refine And.intro ?_ ?_))
    · rw [if_neg h]
      refine And.intro (fun h9=>absurd (Int.ofNat_le.1 (of_decide_eq_true h9)) h) (fun _=>?_)
      refine Exists.intro () (And.intro trivial ?_)
      (repeat' (first | exact trivial | exact Or.inl rfl | exact Or.inr (Or.inl ⟨rfl,_,rfl⟩) | exact Or.inr (Or.inr (Or.inr ⟨_,_,_,rfl,rfl⟩)) | refine And.intro ?_ ?_))
  rintro ⟨⟩ _
  generalize sgF b = S at *
  by_cases h2:kd = 2
  · rw [if_pos h2]
    refine VCs.of_vc (by first | exact Γ_good | exact Ctx.good_kp Γ_good _) ?_
    (repeat' (first | (refine And.intro (fun h=>?_) (fun h=>?_)<;>(try simp [-List.getD_eq_getElem?_getD,-Int.pred_toNat] at h)<;>(try (exfalso; first | omega | contradiction))) | (refine And.intro (rng64 (by omega) (by omega)) ?_) | (refine And.intro ⟨by omega,by omega⟩ ?_) | (refine And.intro ⟨by omega,by omega,by omega⟩ ?_) | (intro _)))
    rfl
  rw [if_neg h2]
  by_cases h1:kd = 1
  · rw [if_pos h1]
    refine VCs.of_vc (by first | exact Γ_good | exact Ctx.good_kp Γ_good _) ?_
    (repeat' (first | (refine And.intro (fun h=>?_) (fun h=>?_)<;>(try simp [-List.getD_eq_getElem?_getD,-Int.pred_toNat] at h)<;>(try (exfalso; first | omega | contradiction))) | (refine And.intro (rng64 (by omega) (by omega)) ?_) | (refine And.intro ⟨by omega,by omega⟩ ?_) | (refine And.intro ⟨by omega,by omega,by omega⟩ ?_) | (intro _)))
    refine And.intro (mx _ (by show S.length + 3≤2000; omega)) ?_
    rfl
  rw [if_neg h1]
  by_cases h0:m = 0
  · rw [if_pos h0]
    refine VCs.of_vc (by first | exact Γ_good | exact Ctx.good_kp Γ_good _) ?_
    (repeat' (first | (refine And.intro (fun h=>?_) (fun h=>?_)<;>(try simp [-List.getD_eq_getElem?_getD,-Int.pred_toNat] at h)<;>(try (exfalso; first | omega | contradiction))) | (refine And.intro (rng64 (by omega) (by omega)) ?_) | (refine And.intro ⟨by omega,by omega⟩ ?_) | (refine And.intro ⟨by omega,by omega,by omega⟩ ?_) | (intro _)))
    refine And.intro (mx _ (by show S.length + 3≤2000; omega)) ?_
    rfl
  rw [if_neg h0]
  have hkd:kd = 0:=by omega
  rw [if_neg (by rintro (h | h); omega; exact h0 h)] at q2
  refine VCs.of_vc (by first | exact Γ_good | exact Ctx.good_kp Γ_good _) ?_
  (repeat' (first | (refine And.intro (fun h=>?_) (fun h=>?_)<;>(try simp [-List.getD_eq_getElem?_getD,-Int.pred_toNat] at h)<;>(try (exfalso; first | omega | contradiction))) | (refine And.intro (rng64 (by omega) (by omega)) ?_) | (refine And.intro ⟨by omega,by omega⟩ ?_) | (refine And.intro ⟨by omega,by omega,by omega⟩ ?_) | (intro _)))
  refine Or.inl (Exists.intro _ (And.intro (q2) ?_))
  refine Or.inl (Exists.intro _ (And.intro (qp (by omega) h0) ?_))
  have lp:=lp (by omega) h0
  generalize pointF r.1 r.2 = PP at *
  refine And.intro (mx _ (by show S.length + PP.length≤2000; omega)) ?_
  rfl
theorem s_textW (ht:HasPow) (b:Nat) (hb:b < 18446744073709551616):PSpec Tryd.prog 11 [.i .u64 b] (.s (textF b)) :=
  pspec_of_VCs Γ_good Tryd.func11 rfl Tryd.call11 Tryd.results11 Tryd.ntmps11 (Nat.le_of_ble_eq_true rfl) (w_textW ht b hb) Γ_good
end
end Go.Proofs.YtgacojkkbjhjoaaDoor
end
section
namespace Go.Proofs.YtgacojkkbjhjoaaDoor
set_option linter.unusedSectionVars false
set_option linter.unusedSimpArgs false
set_option linter.unusedVariables false
open Go Go.SX Go.Bg Go.Fl Go.Nm
set_option maxRecDepth 100000
set_option maxHeartbeats 4000000
theorem txt_snoc {m:Nat} (h:10≤m):txtN 10 m = txtN 10 (m / 10)++[dcI ((m % 10:Nat):Int)]:=by
  rw [txtN_pos (by omega),tailN_pos (by decide) (by omega),txtN_pos (by omega)]
theorem txt_one {m:Nat} (h:m < 10):txtN 10 m = [dcI (m:Int)]:=by
  rcases Nat.eq_zero_or_pos m with e | e
  · rw [e]; rfl
  · rw [txtN_pos e,tailN_pos (by decide) e,Nat.div_eq_of_lt h,Nat.mod_eq_of_lt h,tailN_zero]; rfl
theorem dcI_u8:∀ k:Fin 10,ofB (IntKind.u8.wrap (48 - -((k.val:Nat):Int))) = dcI ((k.val:Nat):Int):=by decide +kernel
theorem numT_nat (n:Nat):numT (n:Int) 10 = txtN 10 n:=by
  unfold numT
  rw [if_neg (by omega)]
  rfl
theorem numT_neg {n:Int} (h:n < 0):numT n 10 = [45]++txtN 10 (-n).toNat:=by
  unfold numT
  rw [if_pos h,show n.natAbs = (-n).toNat by omega]
  rfl
theorem txt_len1k (n:Nat) (h:n≤1000):(txtN 10 n).length≤1000:=by
  have:=numT_rng (n:Int) (by omega) (by omega)
  rw [numT_nat] at this
  exact this
section
variable [G:Globs]
theorem w_bel (m:Nat) (hm:m≤1000) (ih:10≤m→PSpec Tryd.prog 79 [.i .i64 (-((m / 10:Nat):Int))] (.s (txtN 10 (m / 10)))):vc Tryd.prog Γ 18 [0,2,3,11] (Tryd.f79.body.getD .skip) (postK Γ [.tmp 2] (fun v=>v = .s (txtN 10 m))) ⟨argSlots 0 [.i .i64 (-(m:Int))],[]⟩:=by
  have e1:(-(m:Int)).tmod 10 = -((m % 10:Nat):Int):=by rw [Int.neg_tmod]; rfl
  have e2:(-(m:Int)).tdiv 10 = -((m / 10:Nat):Int):=by rw [Int.neg_tdiv]; rfl
  have e3:[ofB (IntKind.u8.wrap (48 - (-(m:Int)).tmod 10))] = [dcI ((m % 10:Nat):Int)]:=by
    rw [e1]
    exact congrArg (fun x=>[x]) (dcI_u8 ⟨m % 10,Nat.mod_lt _ (by decide)⟩)
  refine And.intro (by decide) ?_
  refine And.intro ⟨by rw [e1]; omega,by rw [e1]; omega⟩ ?_
  by_cases h10:10≤m
  · have hI:=ih h10
    rw [← e2] at hI
    (repeat' (first | (refine And.intro (fun h=>?_) (fun h=>?_)<;>(try simp [-List.getD_eq_getElem?_getD,-Int.pred_toNat] at h)<;>(try (exfalso; first | omega | contradiction))) | (refine And.intro (rng64 (by omega) (by omega)) ?_) | (refine And.intro ⟨by omega,by omega⟩ ?_) | (refine And.intro ⟨by omega,by omega,by omega⟩ ?_) | (intro _)))
    refine And.intro (by decide) ?_
    refine And.intro ⟨by rw [e2]; omega,by rw [e2]; omega⟩ ?_
    refine Or.inl (Exists.intro _ (And.intro (hI) ?_))
    have hl:=txt_len1k (m / 10) (by omega)
    refine And.intro (mx _ (by show (txtN 10 (m / 10)).length + 1≤2000; omega)) ?_
    show AV.s (txtN 10 (m / 10)++[ofB (IntKind.u8.wrap (48 - (-(m:Int)).tmod 10))]) = _
    rw [e3,txt_snoc h10]
  · (repeat' (first | (refine And.intro (fun h=>?_) (fun h=>?_)<;>(try simp [-List.getD_eq_getElem?_getD,-Int.pred_toNat] at h)<;>(try (exfalso; first | omega | contradiction))) | (refine And.intro (rng64 (by omega) (by omega)) ?_) | (refine And.intro ⟨by omega,by omega⟩ ?_) | (refine And.intro ⟨by omega,by omega,by omega⟩ ?_) | (intro _)))
    show AV.s [ofB (IntKind.u8.wrap (48 - (-(m:Int)).tmod 10))] = _
    rw [e3,txt_one (by omega),Nat.mod_eq_of_lt (by omega)]
theorem s_bel (m:Nat) (hm:m≤1000) (ih:10≤m→PSpec Tryd.prog 79 [.i .i64 (-((m / 10:Nat):Int))] (.s (txtN 10 (m / 10)))):PSpec Tryd.prog 79 [.i .i64 (-(m:Int))] (.s (txtN 10 m)) :=
  pspec_of_vc Γ_good Tryd.func79 rfl Tryd.call79 Tryd.results79 Tryd.ntmps79 (Nat.le_of_ble_eq_true rfl) (w_bel m hm ih)
theorem s_below (n:Nat):∀ m:Nat,m≤n→m≤1000→PSpec Tryd.prog 79 [.i .i64 (-(m:Int))] (.s (txtN 10 m)):=by
  induction n with
  | zero=>intro m h1 h2; exact s_bel m h2 (fun h=>by omega)
  | succ n ih=>intro m h1 h2; exact s_bel m h2 (fun h=>ih _ (by omega) (by omega))
theorem w_decimal (n:Int) (h0 : -1000≤n) (h1:n≤1000):vc Tryd.prog Γ 11 [0,2,4] (Tryd.f38.body.getD .skip) (postK Γ [.tmp 2] (fun v=>v = .s (numT n 10))) ⟨argSlots 0 [.i .i64 n],[]⟩:=by
  by_cases h:n < 0
  · have hB:=s_below (-n).toNat (-n).toNat (Nat.le_refl _) (by omega)
    rw [show -(((-n).toNat:Nat):Int) = n by omega] at hB
    rw [numT_neg h]
    have hl:=txt_len1k (-n).toNat (by omega)
    (repeat' (first | (refine And.intro (fun h=>?_) (fun h=>?_)<;>(try simp [-List.getD_eq_getElem?_getD,-Int.pred_toNat] at h)<;>(try (exfalso; first | omega | contradiction))) | (refine And.intro (rng64 (by omega) (by omega)) ?_) | (refine And.intro ⟨by omega,by omega⟩ ?_) | (refine And.intro ⟨by omega,by omega,by omega⟩ ?_) | (intro _)))
    refine Or.inl (Exists.intro _ (And.intro (hB) ?_))
    refine And.intro (mx _ (by show 1 + (txtN 10 (-n).toNat).length≤2000; omega)) ?_
    rfl
  · obtain ⟨k,rfl⟩:∃ k:Nat,n = k:=⟨n.toNat,by omega⟩
    have hB:=s_below k k (Nat.le_refl _) (by omega)
    rw [show -(k:Int) = 0 - (k:Int) by omega] at hB
    rw [numT_nat]
    (repeat' (first | (refine And.intro (fun h=>?_) (fun h=>?_)<;>(try simp [-List.getD_eq_getElem?_getD,-Int.pred_toNat] at h)<;>(try (exfalso; first | omega | contradiction))) | (refine And.intro (rng64 (by omega) (by omega)) ?_) | (refine And.intro ⟨by omega,by omega⟩ ?_) | (refine And.intro ⟨by omega,by omega,by omega⟩ ?_) | (intro _)))
    refine Or.inl (And.intro ⟨by omega,by omega⟩ ?_)
    refine Or.inl (Exists.intro _ (And.intro (hB) ?_))
    rfl
theorem s_decimal (n:Int) (h0 : -1000≤n) (h1:n≤1000):PSpec Tryd.prog 38 [.i .i64 n] (.s (numT n 10)) :=
  pspec_of_vc Γ_good Tryd.func38 rfl Tryd.call38 Tryd.results38 Tryd.ntmps38 (Nat.le_of_ble_eq_true rfl) (w_decimal n h0 h1)
theorem w_ftext (b:Nat) (hb:b < 18446744073709551616):VCs Tryd.prog Γ 112 [0,2,3,5,6,7,8,9,10,23,25,27,31,45,60,78,100] (Tryd.f12.body.getD .skip) (postK Γ [.tmp 2] (fun v=>v = .s (textF b))) ⟨argSlots 0 [.i .u64 b],[]⟩:=by
  have q1:=s_fparts b hb
  have q2:=s_short63 b
  have hk:=parts_kd b
  have hc:=parts_canon (b:=b)
  have hrg:=fun h1 h2=>short_rng (hc h1 h2)
  unfold partsA at q1
  unfold textF
  generalize shortR (parts b).1 (parts b).2.1 = r at *
  generalize (parts b).2.2 = kd at *
  generalize (parts b).2.1 = e at *
  generalize (parts b).1 = m at *
  refine VCs.seq (by first | exact Γ_good | exact Ctx.good_kp Γ_good _) ?_
  refine VCs.seq (by first | exact Γ_good | exact Ctx.good_kp Γ_good _) ?_
  refine Or.inl (Exists.intro _ (And.intro (q1) ?_))
  refine VCs.seq (by first | exact Γ_good | exact Ctx.good_kp Γ_good _) ?_
  refine VCs.cut (by first | exact Γ_good | exact Ctx.good_kp Γ_good _) Unit (fun _=>True) (fun _=>⟨[(0,.i .u64 b),(3,.i .u64 m),(5,.i .i64 kd),(6,.s (if kd = 2 then [] else sgF b))],[]⟩) ?_ ?_
  · have ed:(b:Int).tdiv 9223372036854775808 = ((b / 9223372036854775808:Nat):Int):=rfl
    refine And.intro (by decide) ?_
    refine And.intro ⟨by rw [ed]; omega,by rw [ed]; omega⟩ ?_
    unfold sgF
    by_cases h:9223372036854775808≤b
    · rw [if_pos h,show (b:Int).tdiv 9223372036854775808 = 1 by rw [ed,show b / 9223372036854775808 = 1 by omega]; rfl]
      by_cases h2:kd = 2
      · rw [if_pos h2]
        (repeat' (first | (refine And.intro (fun h=>?_) (fun h=>?_)<;>(try simp [-List.getD_eq_getElem?_getD,-Int.pred_toNat] at h)<;>(try (exfalso; first | omega | contradiction))) | (refine And.intro (rng64 (by omega) (by omega)) ?_) | (refine And.intro ⟨by omega,by omega⟩ ?_) | (refine And.intro ⟨by omega,by omega,by omega⟩ ?_) | (intro _)))
        refine Exists.intro () (And.intro trivial ?_)
        (repeat' (first | exact trivial | exact Or.inl rfl | exact Or.inr (Or.inl ⟨rfl,_,rfl⟩) | exact Or.inr (Or.inr (Or.inr ⟨_,_,_,rfl,rfl⟩)) | refine And.intro ?_ ?_))
      · rw [if_neg h2]
        (repeat' (first | (refine And.intro (fun h=>?_) (fun h=>?_)<;>(try simp [-List.getD_eq_getElem?_getD,-Int.pred_toNat] at h)<;>(try (exfalso; first | omega | contradiction))) | (refine And.intro (rng64 (by omega) (by omega)) ?_) | (refine And.intro ⟨by omega,by omega⟩ ?_) | (refine And.intro ⟨by omega,by omega,by omega⟩ ?_) | (intro _)))
        refine Exists.intro () (And.intro trivial ?_)
        (repeat' (first | exact trivial | exact Or.inl rfl | exact Or.inr (Or.inl ⟨rfl,_,rfl⟩) | exact Or.inr (Or.inr (Or.inr ⟨_,_,_,rfl,rfl⟩)) | refine And.intro ?_ ?_))
    · rw [if_neg h,show (b:Int).tdiv 9223372036854775808 = 0 by rw [ed,show b / 9223372036854775808 = 0 by omega]; rfl,show (if kd = 2 then ([]:Str) else []) = [] by split<;>rfl]
      (repeat' (first | (refine And.intro (fun h=>?_) (fun h=>?_)<;>(try simp [-List.getD_eq_getElem?_getD,-Int.pred_toNat] at h)<;>(try (exfalso; first | omega | contradiction))) | (refine And.intro (rng64 (by omega) (by omega)) ?_) | (refine And.intro ⟨by omega,by omega⟩ ?_) | (refine And.intro ⟨by omega,by omega,by omega⟩ ?_) | (intro _)))
      refine Exists.intro () (And.intro trivial ?_)
      (repeat' (first | exact trivial | exact Or.inl rfl | exact Or.inr (Or.inl ⟨rfl,_,rfl⟩) | exact Or.inr (Or.inr (Or.inr ⟨_,_,_,rfl,rfl⟩)) | refine And.intro ?_ ?_))
  rintro ⟨⟩ _
  by_cases h2:kd = 2
  · rw [if_pos h2]
    refine VCs.of_vc (by first | exact Γ_good | exact Ctx.good_kp Γ_good _) ?_
    (repeat' (first | (refine And.intro (fun h=>?_) (fun h=>?_)<;>(try simp [-List.getD_eq_getElem?_getD,-Int.pred_toNat] at h)<;>(try (exfalso; first | omega | contradiction))) | (refine And.intro (rng64 (by omega) (by omega)) ?_) | (refine And.intro ⟨by omega,by omega⟩ ?_) | (refine And.intro ⟨by omega,by omega,by omega⟩ ?_) | (intro _)))
    rfl
  rw [if_neg h2]
  have hsl:(sgF b).length≤1:=by unfold sgF; split<;>decide
  generalize sgF b = S at *
  rw [if_neg h2]
  by_cases h1:kd = 1
  · rw [if_pos h1]
    refine VCs.of_vc (by first | exact Γ_good | exact Ctx.good_kp Γ_good _) ?_
    (repeat' (first | (refine And.intro (fun h=>?_) (fun h=>?_)<;>(try simp [-List.getD_eq_getElem?_getD,-Int.pred_toNat] at h)<;>(try (exfalso; first | omega | contradiction))) | (refine And.intro (rng64 (by omega) (by omega)) ?_) | (refine And.intro ⟨by omega,by omega⟩ ?_) | (refine And.intro ⟨by omega,by omega,by omega⟩ ?_) | (intro _)))
    refine And.intro (mx _ (by show S.length + 3≤2000; omega)) ?_
    rfl
  rw [if_neg h1]
  by_cases h0:m = 0
  · rw [if_pos h0]
    refine VCs.of_vc (by first | exact Γ_good | exact Ctx.good_kp Γ_good _) ?_
    (repeat' (first | (refine And.intro (fun h=>?_) (fun h=>?_)<;>(try simp [-List.getD_eq_getElem?_getD,-Int.pred_toNat] at h)<;>(try (exfalso; first | omega | contradiction))) | (refine And.intro (rng64 (by omega) (by omega)) ?_) | (refine And.intro ⟨by omega,by omega⟩ ?_) | (refine And.intro ⟨by omega,by omega,by omega⟩ ?_) | (intro _)))
    refine And.intro (mx _ (by show S.length + 3≤2000; omega)) ?_
    rfl
  rw [if_neg h0]
  have hkd:kd = 0:=by omega
  have q2:=q2 (by omega) h0
  obtain ⟨g1,g2,g3,g4⟩:=hrg (by omega) h0
  obtain ⟨d,k⟩:=r
  dsimp only at g1 g2 g3 g4 q2 ⊢
  refine VCs.cut (by first | exact Γ_good | exact Ctx.good_kp Γ_good _) Unit (fun _=>True) (fun _=>⟨[(0,.i .u64 b),(3,.i .u64 m),(5,.i .i64 kd),(6,.s S)],[]⟩) ?_ ?_
  · (repeat' (first | (refine And.intro (fun h=>?_) (fun h=>?_)<;>(try simp [-List.getD_eq_getElem?_getD,-Int.pred_toNat] at h)<;>(try (exfalso; first | omega | contradiction))) | (refine And.intro (rng64 (by omega) (by omega)) ?_) | (refine And.intro ⟨by omega,by omega⟩ ?_) | (refine And.intro ⟨by omega,by omega,by omega⟩ ?_) | (intro _)))
    refine Exists.intro () (And.intro trivial ?_)
    (repeat' (first | exact trivial | exact Or.inl rfl | exact Or.inr (Or.inl ⟨rfl,_,rfl⟩) | exact Or.inr (Or.inr (Or.inr ⟨_,_,_,rfl,rfl⟩)) | refine And.intro ?_ ?_))
  rintro ⟨⟩ _
  refine VCs.cut (by first | exact Γ_good | exact Ctx.good_kp Γ_good _) Unit (fun _=>True) (fun _=>⟨[(0,.i .u64 b),(3,.i .u64 m),(6,.s S)],[]⟩) ?_ ?_
  · (repeat' (first | (refine And.intro (fun h=>?_) (fun h=>?_)<;>(try simp [-List.getD_eq_getElem?_getD,-Int.pred_toNat] at h)<;>(try (exfalso; first | omega | contradiction))) | (refine And.intro (rng64 (by omega) (by omega)) ?_) | (refine And.intro ⟨by omega,by omega⟩ ?_) | (refine And.intro ⟨by omega,by omega,by omega⟩ ?_) | (intro _)))
    refine Exists.intro () (And.intro trivial ?_)
    (repeat' (first | exact trivial | exact Or.inl rfl | exact Or.inr (Or.inl ⟨rfl,_,rfl⟩) | exact Or.inr (Or.inr (Or.inr ⟨_,_,_,rfl,rfl⟩)) | refine And.intro ?_ ?_))
  rintro ⟨⟩ _
  refine VCs.cut (by first | exact Γ_good | exact Ctx.good_kp Γ_good _) Unit (fun _=>True) (fun _=>⟨[(0,.i .u64 b),(6,.s S)],[]⟩) ?_ ?_
  · (repeat' (first | (refine And.intro (fun h=>?_) (fun h=>?_)<;>(try simp [-List.getD_eq_getElem?_getD,-Int.pred_toNat] at h)<;>(try (exfalso; first | omega | contradiction))) | (refine And.intro (rng64 (by omega) (by omega)) ?_) | (refine And.intro ⟨by omega,by omega⟩ ?_) | (refine And.intro ⟨by omega,by omega,by omega⟩ ?_) | (intro _)))
    refine Exists.intro () (And.intro trivial ?_)
    (repeat' (first | exact trivial | exact Or.inl rfl | exact Or.inr (Or.inl ⟨rfl,_,rfl⟩) | exact Or.inr (Or.inr (Or.inr ⟨_,_,_,rfl,rfl⟩)) | refine And.intro ?_ ?_))
  rintro ⟨⟩ _
  refine VCs.seq (by first | exact Γ_good | exact Ctx.good_kp Γ_good _) ?_
  refine And.intro (by decide) ?_
  refine Or.inl (Exists.intro _ (And.intro (q2) ?_))
  refine VCs.seq (by first | exact Γ_good | exact Ctx.good_kp Γ_good _) ?_
  intro _
  refine VCs.seq (by first | exact Γ_good | exact Ctx.good_kp Γ_good _) ?_
  (refine And.intro (rng64 (by omega) (by omega)) ?_)
  have hq:=numT_rng ((d.length:Int) + k - 1) (by omega) (by omega)
  have qi:=s_decimal ((d.length:Int) + k - 1) (by omega) (by omega)
  unfold pointF
  generalize numT ((d.length:Int) + k - 1) 10 = T at *
  have e1:List.drop (Int.toNat 0) (List.take (Int.toNat 1) d) = d.take 1:=rfl
  have e2:List.drop (Int.toNat 1) (List.take ((d.length:Int)).toNat d) = d.drop 1:=by rw [Int.toNat_natCast,List.take_length]; rfl
  have e3:List.drop (Int.toNat 0) (List.take ((d.length:Int) + k).toNat d) = d.take ((d.length:Int) + k).toNat:=rfl
  have e4:List.drop ((d.length:Int) + k).toNat (List.take ((d.length:Int)).toNat d) = d.drop ((d.length:Int) + k).toNat:=by rw [Int.toNat_natCast,List.take_length]
  by_cases c1 : -3≤(d.length:Int) + k∧(d.length:Int) + k≤0
  · rw [if_pos c1]
    have qr:=s_noughts (-((d.length:Int) + k)).toNat (by omega)
    rw [show (((-((d.length:Int) + k)).toNat:Nat):Int) = 0 - ((d.length:Int) + k) by omega] at qr
    refine VCs.of_vc (by first | exact Γ_good | exact Ctx.good_kp Γ_good _) ?_
    (repeat' (first | (refine And.intro (fun h=>?_) (fun h=>?_)<;>(try simp [-List.getD_eq_getElem?_getD,-Int.pred_toNat] at h)<;>(try (exfalso; first | omega | contradiction))) | (refine And.intro (rng64 (by omega) (by omega)) ?_) | (refine And.intro ⟨by omega,by omega⟩ ?_) | (refine And.intro ⟨by omega,by omega,by omega⟩ ?_) | (intro _)))
    refine And.intro (mx _ (by show S.length + 2≤2000; omega)) ?_
    refine Or.inl (And.intro ⟨by omega,by omega⟩ ?_)
    refine Or.inl (Exists.intro _ (And.intro (qr) ?_))
    refine And.intro (mx _ (by rw [List.length_append,List.length_replicate]; show S.length + 2 + _≤2000; omega)) ?_
    refine And.intro (mx _ (by rw [List.length_append,List.length_append,List.length_replicate]; show S.length + 2 + _ + d.length≤2000; omega)) ?_
    refine congrArg AV.s ?_
    simp only [List.append_assoc]
  rw [if_neg c1]
  by_cases c2:0 < (d.length:Int) + k∧(d.length:Int) + k < d.length
  · rw [if_pos c2]
    refine VCs.of_vc (by first | exact Γ_good | exact Ctx.good_kp Γ_good _) ?_
    (repeat' (first | (refine And.intro (fun h=>?_) (fun h=>?_)<;>(try simp [-List.getD_eq_getElem?_getD,-Int.pred_toNat] at h)<;>(try (exfalso; first | omega | contradiction))) | (refine And.intro (rng64 (by omega) (by omega)) ?_) | (refine And.intro ⟨by omega,by omega⟩ ?_) | (refine And.intro ⟨by omega,by omega,by omega⟩ ?_) | (intro _)))
    refine Exists.intro [.blk [0,1,2,3,4,5,6,7,8,9,10]] (And.intro (by kernel_rfl) ?_)
    (repeat' (first | (refine And.intro (fun h=>?_) (fun h=>?_)<;>(try simp [-List.getD_eq_getElem?_getD,-Int.pred_toNat] at h)<;>(try (exfalso; first | omega | contradiction))) | (refine And.intro (rng64 (by omega) (by omega)) ?_) | (refine And.intro ⟨by omega,by omega⟩ ?_) | (refine And.intro ⟨by omega,by omega,by omega⟩ ?_) | (intro _)))
    rw [e3]
    refine And.intro (mx _ (by rw [List.length_take]; omega)) ?_
    (repeat' (first | (refine And.intro (fun h=>?_) (fun h=>?_)<;>(try simp [-List.getD_eq_getElem?_getD,-Int.pred_toNat] at h)<;>(try (exfalso; first | omega | contradiction))) | (refine And.intro (rng64 (by omega) (by omega)) ?_) | (refine And.intro ⟨by omega,by omega⟩ ?_) | (refine And.intro ⟨by omega,by omega,by omega⟩ ?_) | (intro _)))
    refine And.intro (mx _ (by rw [List.length_append,List.length_take]; show _ + _ + 1≤2000; omega)) ?_
    (repeat' (first | (refine And.intro (fun h=>?_) (fun h=>?_)<;>(try simp [-List.getD_eq_getElem?_getD,-Int.pred_toNat] at h)<;>(try (exfalso; first | omega | contradiction))) | (refine And.intro (rng64 (by omega) (by omega)) ?_) | (refine And.intro ⟨by omega,by omega⟩ ?_) | (refine And.intro ⟨by omega,by omega,by omega⟩ ?_) | (intro _)))
    rw [e4]
    refine And.intro (mx _ (by rw [List.length_append,List.length_append,List.length_take,List.length_drop]; show _ + _ + 1 + _≤2000; omega)) ?_
    refine congrArg AV.s ?_
    simp only [List.append_assoc]
  rw [if_neg c2]
  by_cases c3:(d.length:Int)≤(d.length:Int) + k∧(d.length:Int) + k≤17
  · rw [if_pos c3]
    have qr:=s_noughts ((d.length:Int) + k - d.length).toNat (by omega)
    rw [show ((((d.length:Int) + k - d.length).toNat:Nat):Int) = (d.length:Int) + k - d.length by omega] at qr
    refine VCs.of_vc (by first | exact Γ_good | exact Ctx.good_kp Γ_good _) ?_
    (repeat' (first | (refine And.intro (fun h=>?_) (fun h=>?_)<;>(try simp [-List.getD_eq_getElem?_getD,-Int.pred_toNat] at h)<;>(try (exfalso; first | omega | contradiction))) | (refine And.intro (rng64 (by omega) (by omega)) ?_) | (refine And.intro ⟨by omega,by omega⟩ ?_) | (refine And.intro ⟨by omega,by omega,by omega⟩ ?_) | (intro _)))
    refine And.intro (mx _ (by omega)) ?_
    (repeat' (first | (refine And.intro (fun h=>?_) (fun h=>?_)<;>(try simp [-List.getD_eq_getElem?_getD,-Int.pred_toNat] at h)<;>(try (exfalso; first | omega | contradiction))) | (refine And.intro (rng64 (by omega) (by omega)) ?_) | (refine And.intro ⟨by omega,by omega⟩ ?_) | (refine And.intro ⟨by omega,by omega,by omega⟩ ?_) | (intro _)))
    refine Or.inl (Exists.intro _ (And.intro (qr) ?_))
    refine And.intro (mx _ (by rw [List.length_append,List.length_replicate]; show S.length + d.length + _≤2000; omega)) ?_
    refine And.intro (mx _ (by rw [List.length_append,List.length_append,List.length_replicate]; show S.length + d.length + _ + 2≤2000; omega)) ?_
    refine congrArg AV.s ?_
    simp only [List.append_assoc]
  rw [if_neg c3]
  refine VCs.cut (by first | exact Γ_good | exact Ctx.good_kp Γ_good _) Unit (fun _=>True) (fun _=>⟨[(6,.s S),(7,.s d),(9,.i .i64 d.length),(10,.i .i64 ((d.length:Int) + k))],[]⟩) ?_ ?_
  · (repeat' (first | (refine And.intro (fun h=>?_) (fun h=>?_)<;>(try simp [-List.getD_eq_getElem?_getD,-Int.pred_toNat] at h)<;>(try (exfalso; first | omega | contradiction))) | (refine And.intro (rng64 (by omega) (by omega)) ?_) | (refine And.intro ⟨by omega,by omega⟩ ?_) | (refine And.intro ⟨by omega,by omega,by omega⟩ ?_) | (intro _)))
    all_goals refine Exists.intro () (And.intro trivial ?_)
    all_goals (repeat' (first | exact trivial | exact Or.inl rfl | exact Or.inr (Or.inl ⟨rfl,_,rfl⟩) | exact Or.inr (Or.inr (Or.inr ⟨_,_,_,rfl,rfl⟩)) | refine And.intro ?_ ?_))
  rintro ⟨⟩ _
  refine VCs.seq (by first | exact Γ_good | exact Ctx.good_kp Γ_good _) ?_
  (refine And.intro ⟨by omega,by omega,by omega⟩ ?_)
  rw [e1]
  refine And.intro (mx _ (by rw [List.length_take]; omega)) ?_
  refine VCs.cut (by first | exact Γ_good | exact Ctx.good_kp Γ_good _) Unit (fun _=>True) (fun _=>⟨[(10,.i .i64 ((d.length:Int) + k)),(6,.s (S++if 1 < d.length then d.take 1++([46]++d.drop 1) else d.take 1))],[]⟩) ?_ ?_
  · by_cases c:1 < d.length
    · rw [if_pos c]
      (repeat' (first | (refine And.intro (fun h=>?_) (fun h=>?_)<;>(try simp [-List.getD_eq_getElem?_getD,-Int.pred_toNat] at h)<;>(try (exfalso; first | omega | contradiction))) | (refine And.intro (rng64 (by omega) (by omega)) ?_) | (refine And.intro ⟨by omega,by omega⟩ ?_) | (refine And.intro ⟨by omega,by omega,by omega⟩ ?_) | (intro _)))
      rw [e2]
      refine And.intro (mx _ (by rw [List.length_drop]; show 1 + _≤2000; omega)) ?_
      refine And.intro (mx _ (by rw [List.length_append,List.length_append,List.length_drop,List.length_take]; show _ + _ + (1 + _)≤2000; omega)) ?_
      refine Exists.intro () (And.intro trivial ?_)
      (repeat' (first | exact trivial | exact Or.inl rfl | exact Or.inl ((congrArg AV.s (List.append_assoc S _ _))) | refine And.intro ?_ ?_))
    · rw [if_neg c]
      (repeat' (first | (refine And.intro (fun h=>?_) (fun h=>?_)<;>(try simp [-List.getD_eq_getElem?_getD,-Int.pred_toNat] at h)<;>(try (exfalso; first | omega | contradiction))) | (refine And.intro (rng64 (by omega) (by omega)) ?_) | (refine And.intro ⟨by omega,by omega⟩ ?_) | (refine And.intro ⟨by omega,by omega,by omega⟩ ?_) | (intro _)))
      refine Exists.intro () (And.intro trivial ?_)
      (repeat' (first | exact trivial | exact Or.inl rfl | exact Or.inr (Or.inl ⟨rfl,_,rfl⟩) | exact Or.inr (Or.inr (Or.inr ⟨_,_,_,rfl,rfl⟩)) | refine And.intro ?_ ?_))
  rintro ⟨⟩ _
  have hF:(if 1 < d.length then d.take 1++([46]++d.drop 1) else d.take 1).length≤22:=by
    split
    · rw [List.length_append,List.length_append,List.length_take,List.length_drop]
      show _ + (1 + _)≤22
      omega
    · rw [List.length_take]
      omega
  generalize (if 1 < d.length then d.take 1++([46]++d.drop 1) else d.take 1) = F at *
  refine VCs.of_vc (by first | exact Γ_good | exact Ctx.good_kp Γ_good _) ?_
  refine And.intro (mx _ (by rw [List.length_append]; show S.length + F.length + 1≤2000; omega)) ?_
  (refine And.intro (rng64 (by omega) (by omega)) ?_)
  refine Or.inl (Exists.intro _ (And.intro (qi) ?_))
  refine And.intro (mx _ (by rw [List.length_append,List.length_append]; show S.length + F.length + 1 + T.length≤2000; omega)) ?_
  refine congrArg AV.s ?_
  simp only [List.append_assoc]
theorem s_ftext (b:Nat) (hb:b < 18446744073709551616):PSpec Tryd.prog 12 [.i .u64 b] (.s (textF b)) :=
  pspec_of_VCs Γ_good Tryd.func12 rfl Tryd.call12 Tryd.results12 Tryd.ntmps12 (Nat.le_of_ble_eq_true rfl) (w_ftext b hb) Γ_good
theorem w_floatTells (ht:HasPow) (b:Nat) (hb:b < 18446744073709551616):vc Tryd.prog Γ 41 [0,2,3,4,5,6,7,8] (Tryd.f4.body.getD .skip) (postK Γ [.tmp 2] (fun v=>v = .b true)) ⟨argSlots 0 [.i .u64 b],[]⟩:=by
  have q1:=s_partsW b hb
  have q2:=s_fparts b hb
  have q3:=s_textW ht b hb
  have q4:=s_ftext b hb
  unfold partsA at q1 q2
  generalize textF b = T at *
  generalize (parts b).2.2 = kd at *
  generalize (parts b).2.1 = e at *
  generalize (parts b).1 = m at *
  refine Or.inl (Exists.intro _ (And.intro (q1) ?_))
  refine Or.inl (Exists.intro _ (And.intro (q2) ?_))
  refine And.intro (fun _=>?_) (fun h9=>absurd rfl (ne_of_beq_false h9))
  refine And.intro (fun _=>?_) (fun h9=>absurd rfl (ne_of_beq_false (show (e == e) = false from h9)))
  refine And.intro (fun _=>?_) (fun h9=>absurd rfl (ne_of_beq_false (show (kd == kd) = false from h9)))
  refine Or.inl (Exists.intro _ (And.intro (q3) ?_))
  refine Or.inl (Exists.intro _ (And.intro (q4) ?_))
  show AV.b (bif true then T == T else false) = AV.b true
  rw [cond_true,beq_self_eq_true]
theorem s_floatTells (ht:HasPow) (b:Nat) (hb:b < 18446744073709551616):PSpec Tryd.prog 4 [.i .u64 b] (.b true) :=
  pspec_of_vc Γ_good Tryd.func4 rfl Tryd.call4 Tryd.results4 Tryd.ntmps4 (Nat.le_of_ble_eq_true rfl) (w_floatTells ht b hb)
theorem floatTells_spec (ht:HasPow) (b:Int) (h0:0≤b) (h1:b≤18446744073709551615):PSpec Tryd.prog 4 [.i .u64 b] (.b true):=by
  obtain ⟨n,rfl⟩:∃ n:Nat,b = n:=⟨b.toNat,by omega⟩
  exact s_floatTells ht n (by omega)
end
end Go.Proofs.YtgacojkkbjhjoaaDoor
end
section
namespace Go.SX
set_option linter.unusedSectionVars false
variable [Globs]
open Go.RowKit Go.WideShapes Go.ChangeShapes Go.Deep
section
variable {H:Type} {encH:TypeId × Value→H} {P:Program} {W:World} {sp:Nat→Bool} {hd:Bool} {O:Nat→Prop}

end
theorem wf_u64 {n:Int} (h:(Lit.int .u64 n).wf = true):(0:Int)≤n∧n≤(18446744073709551615:Int):=by
  simp only [Lit.wf,Bool.and_eq_true,decide_eq_true_eq] at h; exact h
end Go.SX
end
section
namespace Go.SX
set_option linter.unusedSectionVars false
variable [Globs]
open Go.RowKit Go.WideShapes Go.ChangeShapes Go.Deep
section
variable {H:Type} {encH:TypeId × Value→H} {P:Program} {W:World} {sp:Nat→Bool} {hd:Bool} {O:Nat→Prop}
end
end Go.SX
end
section
namespace Go.Proofs.YtgacojkkbjhjoaaDoor.floatTells
set_option linter.unusedSectionVars false
set_option linter.unusedSimpArgs false
set_option linter.unusedVariables false
open Go Go.SX Go.Bg Go.Fl Go.Nm
open Go.ChangeShapes Go.WideShapes Go.ChangeAt Go.RowKit
set_option maxRecDepth 100000
theorem own:ownKnob Tryd.prog.godebug = none:=by kernel_rfl
theorem laidOut:laidOutB Tryd.prog = true:=by kernel_rfl
theorem cell_block {w:World} {g o:Nat} {k:IntKind} {n:Int} (h:w.cell? ⟨g,o,none⟩ = some (.int k n)):∃ cur e fz,w.heap[g]? = some (.cells cur e fz)∧cur[o]? = some (.int k n):=by
  unfold World.cell? at h
  split at h
  · rename_i cur e fz hh
    exact ⟨_,_,_,hh,by simpa using h⟩
  · cases h
theorem tabIs_of_reads {P : Program} {W : World} {name : String} {k : IntKind} {zs : List Int} {g : Nat} {t e : TypeId} {n : Nat}
    (hg:P.globalNamed name = some g) (hty:(P.globals[g]?).map (·.type) = some t) (ht:P.underlying t = some (.array n e)) (he:P.underlying e = some (.int k)) (hce:P.cellsOf e = 1) (hct:P.cellsOf t = n)
    (h:Lib.VarReads P W name (Lib.tabData k zs)):Lib.TabIs P W name k zs:=by
  obtain ⟨g',t',cs,fuel,p,hg',ht',hvar,hd⟩:=h
  obtain rfl:=Option.some.inj (hg.symm.trans hg')
  obtain rfl:=Option.some.inj (hty.symm.trans ht')
  unfold Lib.TabIs
  rw [hvar,← Lib.cells_of_tab ht he hce hct hd]
theorem tabIs_block {P:Program} {W w:World} {name:String} {k:IntKind} {zs:List Int} {g:Nat} (hg:P.globalNamed name = some g) (hh:w.heap[g]? = W.heap[g]?) (h:Lib.TabIs P W name k zs):Lib.TabIs P w name k zs:=by
  unfold Lib.TabIs World.var? at *
  rw [hg] at h ⊢
  simp only [Option.bind_some] at h ⊢
  rw [hh]
  exact h
theorem contract (H : Type) (enc : TypeId × Value → H) (W : World) (base : Nat) (args : Array Value) (ds gs : List (DataW H)) (before : List MemPlace)
    (hval:∀ (j:Nat) t v,Tryd.f4.params[j]? = some t→args[j]? = some v→Value.okWide Tryd.prog W .any base t v)
    (hW:DataW.Whole enc Tryd.prog Tryd.f4.params.toList Rows.floatTellsSpec.vars false W args.toList ds gs before) (hk:Rows.uptoSmall H (ds++gs) = true) (hL:laidMetH Tryd.prog Rows.floatTellsUptoRow.laid W) :
    Calls Tryd.prog 4 args W fun e W'=>∃ v,e = .returned v∧Rows.floatTellsSpec.post enc Tryd.prog Tryd.f4 false true false false W args v W':=by
  have hW':=hW
  obtain ⟨p,q,hA0,hV,rfl,hfz,hnd⟩:=hW
  have hA:DataW.TrodAll enc Tryd.prog W 0 (fun _=>true) true Tryd.f4.params.toList args.toList ds p:=hA0
  rw [Tryd.params4] at hA hval
  obtain ⟨v0,vs0,d0,ds0,p0,q0,hargs0,rfl,rfl,h0,r0⟩:=trodAll_cons hA
  obtain ⟨rfl,rfl,rfl⟩:=trodAll_nil r0
  obtain rfl:args = #[v0]:=by cases args; simp_all
  obtain ⟨rfl,rfl⟩:=trodVars_none hV
  obtain ⟨n0,rfl,rfl,rfl,hwf0⟩:=open_int Tryd.underlying22 (hval 0 22 v0 rfl rfl) h0
  have i0:Im (fun _=>False) W (.i .u64 n0) (.int .u64 n0):=.i _ _
  have b0:(0:Int)≤n0∧n0≤(18446744073709551615:Int):=(letI:Globs:=⟨[]⟩; wf_u64 hwf0)
  have hW'':=hW'
  have bk:Rows.uptoBulkAll _≤1048576:=of_decide_eq_true hk
  simp only [List.append_nil,List.cons_append,List.nil_append,Rows.uptoBulkAll,Rows.uptoBulk,Array.length_toList] at bk
  have hL':laidMet Tryd.prog Rows.floatTellsUptoRow.laid W:=hL
  have hU:Lib.Utf8Tabs 3 4 W:=utf8Tabs_of_reads (ρ:=Tryd.lays260_ren) Tryd.lays260 ⟨by kernel_rfl,by kernel_rfl,by kernel_rfl,by kernel_rfl,by kernel_rfl,by kernel_rfl,by kernel_rfl⟩ (by have:=Lib.laidMet.reads hL' (.tail _ (.tail _ (.tail _ (.tail _ (.head _))))); rw [show Rows.laid_unicode_utf8_first = Lib.firstData from Pinned.utf8First_eq] at this; exact this) (by have:=Lib.laidMet.reads hL' (.tail _ (.tail _ (.tail _ (.head _)))); rw [show Rows.laid_unicode_utf8_acceptRanges = Lib.acceptData by kernel_rfl] at this; exact this)
  have hp10 : Lib.TabIs Tryd.prog W "internal/strconv.uint64pow10" .u64 Lib.pow10Tab := tabIs_of_reads (g := 2) (t := 231) (e := 22) (n := 20) (by kernel_rfl) (by kernel_rfl) Tryd.underlying231 Tryd.underlying22 (by kernel_rfl) (by kernel_rfl) (by have := Lib.laidMet.reads hL' (.tail _ (.tail _ (.head _))); rw [show Rows.laid_internal_strconv_uint64pow10 = Lib.tabData .u64 Lib.pow10Tab by kernel_rfl] at this; exact this)
  have g0 : Tryd.prog.globalNamed "internal/strconv.uint64pow10" = some 2 := by kernel_rfl
  obtain ⟨curp,ep,fzp,hhp,_⟩:=cell_block (hp10.cell g0 0 (by decide))
  obtain ⟨cur0,e0,fz0,hh0,_⟩:=cell_block (hU.1 0 (by decide))
  obtain ⟨cur1,e1,fz1,hh1,_⟩:=cell_block (hU.2 0 (by decide)).1
  let G:Globs:=⟨[(2,.cells curp ep fzp),(3,.cells cur0 e0 fz0),(4,.cells cur1 e1 fz1)]⟩
  have hpw:@HasPow G:=⟨_,.head _,fun w k0=>tabIs_block g0 (k0.trans hhp.symm) hp10⟩
  have hG:@GlobOK G (fun _=>False) W:=fun p hp=>by
    rcases List.mem_cons.1 hp with rfl | hp
    · exact ⟨fun h=>h,hhp⟩
    rcases List.mem_cons.1 hp with rfl | hp
    · exact ⟨fun h=>h,hh0⟩
    · cases List.mem_singleton.1 hp
      exact ⟨fun h=>h,hh1⟩
  refine ((floatTells_spec (G:=G) hpw n0 b0.1 b0.2).2 (fun _=>False) W [.int .u64 n0] (fun _ h=>h.elim) hG (All2.cons i0 (All2.nil _))).mono fun e W' ⟨v,he,hst,hv⟩=>?_
  subst he
  cases hv
  have hb:=hst.below
  have hlt:∀ x:MemPlace,x ∈ ([]++[])++[]→x.block < W.heap.size:=fun x hx=>hW''.lt x hx
  have hargs':∀ sp:Nat→Bool,(∀ x:MemPlace,x ∈ ([]++[])++[]→sp x.block = true)→DataW.TrodAll enc Tryd.prog W' 0 sp true [22] [.int .u64 n0] [.lit (.int .u64 n0)] ([]++[]):=fun sp hsp =>
    trodAll_cons_mk (shut_int Tryd.underlying22 hwf0) (trodAll_mk0)
  exact ⟨_,rfl,post_of_below (pa:=[]++[]) (pv:=[]) hW'' (fun _ _ _=>(trodAll_cons_mk (shut_bool Tryd.underlying4 _) trodAll_mk0)) (fun sp hsp=>hargs' sp hsp) (fun _ _=>rfl) rfl
    hb (ok_one (by kernel_rfl) rfl (okWide_bool_mk Tryd.underlying4 _))⟩
def layB (cs:List Value):Obj→Obj
  | .cells _ t frozen=>.cells cs.toArray t frozen
  | o=>o
noncomputable def laidWorld (os:Os):World :=
  { World.holding Tryd.prog os ⟨#[],#[],[]⟩ with
    heap:=(((((World.holding Tryd.prog os ⟨#[],#[],[]⟩).heap.modify 2 (layB (Lib.pow10Tab.map fun n=>Value.int .u64 n))).modify 3 (layB (Pinned.utf8FirstZ.map fun (n:Nat)=>Value.int .u8 (n:Int)))).modify 4
      (layB ([128,191,160,191,128,159,144,191,128,143,0,0,0,0,0,0,0,0,0,0,0,0,0,0,0,0,0,0,0,0,0,0].map fun n=>Value.int .u8 n))).modify 5
      (layB (Lib.deBruijn32tab.map fun (n:Nat)=>Value.int .u8 (n:Int)))).modify 6 (layB (Lib.deBruijn64tab.map fun (n:Nat)=>Value.int .u8 (n:Int))) }
theorem laid_met (os:Os):laidMet Tryd.prog Rows.floatTellsUptoRow.laid ((laidWorld os).forCall (fun _ _=>0) ⟨#[],#[.int .u64 0],[]⟩).memory :=
  laidMet_of_run' 8 (by kernel_rfl) (by kernel_rfl)
theorem reads (os:Os) {H:Type} (enc:TypeId × Value→H):∃ places,DataW.whole enc Tryd.prog ((laidWorld os).forCall (fun _ _=>0) ⟨#[],#[.int .u64 0],[]⟩).memory Tryd.f4.params.toList Rows.floatTellsSpec.vars false #[.int .u64 0].toList 8 = some ([.lit (.int .u64 0)],[],places) :=
  ⟨[],by kernel_rfl⟩
set_option maxRecDepth 100000 in
theorem lifted (os : Os) (started : os.Started) (H : Type) (enc : TypeId × Value → H) (F : Stop.Interp) :
    ReturnsInHanded {} Tryd.checked os 4 .any ((Rows.OpenSpec.upto Rows.floatTellsSpec).preRow enc Tryd.prog Tryd.f4 Rows.floatTellsUptoRow.domain false Rows.floatTellsUptoRow.laid) (((Rows.OpenSpec.upto Rows.floatTellsSpec).at F).post enc Tryd.prog Tryd.f4 false true false false):=by
  obtain ⟨places,hx⟩:=reads os enc
  refine returnsInHanded_of_row (C:=Tryd.checked) (s:=Rows.OpenSpec.upto Rows.floatTellsSpec) own started (by kernel_rfl) Tryd.func4
    (witness_row_at (enc:=enc) (C:=Tryd.checked) false (laidWorld os) #[.int .u64 0] rfl (by kernel_rfl) (by kernel_rfl) (by kernel_rfl)
      (OpenSpec.preRow_of_cond 8 hx (by kernel_rfl) (fun k hk=>by cases hk; kernel_rfl) (by kernel_rfl) (laid_met os))) ?_
  intro W base args ds gs before hval hW _ hcond _ hL _ _
  exact contract H enc W base args ds gs before hval hW (hcond _ rfl) hL
theorem said:Rows.FloatTellsUptoSaid :=
  OpenClaim.holds_of_cond 4 Tryd.f4 rfl rfl rfl rfl rfl rfl rfl ⟨rfl,rfl,rfl,rfl,rfl⟩ rfl rfl rfl rfl rfl (by kernel_rfl) Tryd.func4 (by kernel_rfl)
    (of_decide_eq_true (by kernel_rfl)) (by unfold Func.isWrapper; first | (rw [if_pos (by decide +kernel)]; kernel_rfl) | (rw [if_neg (by decide +kernel)]; exact ⟨rfl,rfl⟩))
    (fun os started H enc _ F=>by rw [OpenClaim.pre_eq_preRow]; exact lifted os started H enc F)
theorem plain (f : FuncId) (fn : Func) (hf : Tryd.pinned.checked.prog.funcNamed "typecase/typecaselaw.FloatTells" = some f) (hfn : Tryd.pinned.checked.prog.funcs[f]? = some fn) :
    false = Tryd.pinned.checked.prog.looks []∧∀ (j:Nat) t,fn.params[j]? = some t→Tryd.pinned.checked.prog.wantsStandIn t = false:=by
  obtain rfl : f = 4 := Option.some.inj ((show Tryd.prog.funcNamed "typecase/typecaselaw.FloatTells" = some 4 by kernel_rfl).symm.trans hf) |>.symm
  obtain rfl:fn = Tryd.f4:=(Option.some.inj (Tryd.func4.symm.trans hfn)).symm
  refine ⟨by kernel_rfl,fun j t ht=>?_⟩
  rw [Tryd.params4] at ht
  have hm:=Array.mem_of_getElem? ht
  simp only [List.mem_toArray,List.mem_cons,List.not_mem_nil,or_false] at hm
  subst hm
  · exact (show Tryd.prog.wantsStandIn 22 = false by kernel_rfl)
theorem proved:Rows.FloatTellsUptoCardSaid :=
  Claim7.holds_tied_plain_at .later [] _ _ _ _ said (fun _ h=>by cases h) (by kernel_rfl) (fun _ h=>by cases h) floatTellsUpto_row_tie rfl ⟨rfl,rfl⟩ (by kernel_rfl) rfl plain (by kernel_rfl)

end Go.Proofs.YtgacojkkbjhjoaaDoor.floatTells
end
