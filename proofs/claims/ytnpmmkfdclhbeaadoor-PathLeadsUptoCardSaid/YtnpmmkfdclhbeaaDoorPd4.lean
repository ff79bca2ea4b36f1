/-
  'typecaselaw.PathLeads' returns true,whatever the input,where what comes in is of bulk at most 1048576,and the input reads as it did. No conditions.
-/
import Derived.Test.YtnpmmkfdclhbeaaDoorPd3
import Derived.Deep.Slices
import Derived.Carry
import Derived.DataReads
import Derived.Laws.Bits64
import Derived.Laws.Bits64b
import Derived.Shelf.Unicode.Decode
import Derived.Shelf.Unicode.DecodeSlow
import Derived.Shelf.Unicode.DecodeAny
import Derived.Test.YtnpmmkfdclhbeaaDoorProg
import Derived.IntWalk
import Derived.Lib.RuneBytes
import Derived.Test.YtnpmmkfdclhbeaaDoorRows
import Derived.WalkKit
import Derived.ProofKit
import Derived.OpenShut
import Derived.JoinedCond
import Derived.ChangeMaps5
import Derived.Test.YtnpmmkfdclhbeaaDoorCards
import Derived.Test.YtnpmmkfdclhbeaaDoorTie
import Derived.Deep.DeepHandedRow
import Derived.Lib.LaidU8
import Derived.PinnedBridge
set_option linter.constructorNameAsVariable false
set_option linter.unusedVariables false
set_option linter.unusedSimpArgs false
set_option linter.unusedSectionVars false
section
namespace Go.SX
set_option linter.unusedSectionVars false
variable [Globs]
open Go.RowKit Go.WideShapes Go.ChangeShapes Go.Deep
theorem mapM_at {α β:Type} {f:α→Option β}:∀ {l:List α} {r:List β},l.mapM f = some r→r.length = l.length∧∀ (j:Nat) x,l[j]? = some x→f x = r[j]?:=by
  intro l
  induction l with
  | nil=>intro r h; simp at h; subst h; exact ⟨rfl,fun j x h=>by simp at h⟩
  | cons a l ih =>
    intro r h
    simp only [List.mapM_cons,Option.bind_eq_bind,Option.bind_eq_some_iff] at h
    obtain ⟨b,hb,bs,hbs,h⟩:=h
    have h:b::bs = r:=by injection h
    subst h
    obtain ⟨h1,h2⟩:=ih hbs
    refine ⟨by simp [h1],fun j x hx=>?_⟩
    cases j with
    | zero=>simp at hx; subst hx; simpa using hb
    | succ j=>simpa using h2 j x (by simpa using hx)
section
variable {H:Type} {encH:TypeId × Value→H} {P:Program} {W:World} {sp:Nat→Bool} {hd:Bool} {O:Nat→Prop}

theorem cells_get {w:World} {base:Nat} {a:Addr} {n:Nat} {cs:List Value} (h:w.cells? base a n = some cs):cs.length = n∧∀ (j:Nat) v,cs[j]? = some v→w.cell? (a.add j) = some v:=by
  unfold World.cells? at h
  split at h
  · obtain ⟨h1,h2⟩:=mapM_at h
    rw [List.length_range] at h1
    refine ⟨h1,fun j v hv=>?_⟩
    have hj:j < n:=by rw [← h1]; exact (List.getElem?_eq_some_iff.1 hv).1
    rw [h2 j j (by simp [hj]),hv]
  · cases h
theorem add_of {a:Addr} {n:Nat} (h:(a.add n).spot = none):a.add n = ⟨a.block,a.off + n,none⟩:=by
  unfold Addr.add at h ⊢
  split
  · rename_i h0
    rw [if_pos h0] at h
    obtain ⟨b,o,s⟩:=a
    simp only at h
    subst h h0
    rfl
  · rfl
theorem arg_int {t:TypeId} {k:IntKind} {fuel:Nat} {cs:List Value} {x:DataW H × List MemPlace} (ht:P.underlying t = some (.int k)) (h:DataW.trod encH P W 0 sp hd fuel t cs = some x):∃ n,cs = [.int k n]∧Im O W (.i k n) (.int k n)∧(Lit.int k n).wf = true:=by
  obtain ⟨n,h1,_,h2⟩:=DataW.trod_int ht h
  exact ⟨n,h1,.i k n,h2⟩
end
theorem wf_i64 {n:Int} (h:(Lit.int .i64 n).wf = true):(-9223372036854775808:Int)≤n∧n≤(9223372036854775807:Int):=by
  simp only [Lit.wf,Bool.and_eq_true,decide_eq_true_eq] at h; exact h
theorem wf_u64 {n:Int} (h:(Lit.int .u64 n).wf = true):(0:Int)≤n∧n≤(18446744073709551615:Int):=by
  simp only [Lit.wf,Bool.and_eq_true,decide_eq_true_eq] at h; exact h
end Go.SX
end
section
namespace Go.SX
set_option linter.unusedSectionVars false
variable [Globs]
open Go.RowKit Go.WideShapes Go.ChangeShapes Go.Deep
section
variable {H:Type} {encH:TypeId × Value→H} {P:Program} {W:World} {sp:Nat→Bool} {hd:Bool} {O:Nat→Prop}
end
end Go.SX
end
section
namespace Go.SX
set_option linter.unusedSectionVars false
variable [Globs]
open Go.RowKit Go.WideShapes Go.ChangeShapes Go.Deep
inductive VB:Val→Prop
  | mk (v:Val):(-9223372036854775808≤v.kind∧v.kind≤9223372036854775807)→(-9223372036854775808≤v.n∧v.n≤9223372036854775807)→(0≤v.f∧v.f≤18446744073709551615)→(∀ x ∈ v.l,VB x)→(∀ p ∈ v.e,VB p.2)→VB v
section
variable {H:Type} {encH:TypeId × Value→H} {P:Program} {W:World} {sp:Nat→Bool} {hd:Bool} {O:Nat→Prop}
def HasF (fs:Array Field) (i off:Nat) (t:TypeId):Prop:=∃ f,fs[i]? = some f∧f.offset = off∧f.type = t
structure VTy (P:Program) (V:TypeId) where
  (fs gs:Array Field) (K N U S L E En:TypeId)
  hV:P.underlying V = some (.struct fs)
  cV:P.cellsOf V = 6
  h0:HasF fs 0 0 K
  h1:HasF fs 1 1 N
  h2:HasF fs 2 2 U
  h3:HasF fs 3 3 S
  h4:HasF fs 4 4 L
  h5:HasF fs 5 5 E
  uK:P.underlying K = some (.int .i64)
  uN:P.underlying N = some (.int .i64)
  uU:P.underlying U = some (.int .u64)
  uS:P.underlying S = some .string
  uL:P.underlying L = some (.slice V)
  uE:P.underlying E = some (.slice En)
  c:P.cellsOf K = 1∧P.cellsOf N = 1∧P.cellsOf U = 1∧P.cellsOf S = 1∧P.cellsOf L = 1∧P.cellsOf E = 1
  hE:P.underlying En = some (.struct gs)
  cE:P.cellsOf En = 7
  g0:HasF gs 0 0 S
  g1:HasF gs 1 1 V
structure MTy (P:Program) (M:TypeId) where
  (fs:Array Field) (K Q S V:TypeId) (T:VTy P V)
  hM:P.underlying M = some (.struct fs)
  cM:P.cellsOf M = 10
  h0:HasF fs 0 0 K
  h1:HasF fs 1 1 Q
  h2:HasF fs 2 2 S
  h3:HasF fs 3 3 S
  h4:HasF fs 4 4 V
  uK:P.underlying K = some (.int .i64)
  uQ:P.underlying Q = some (.slice S)
  uS:P.underlying S = some .string
  c:P.cellsOf K = 1∧P.cellsOf Q = 1∧P.cellsOf S = 1
structure KTy (P:Program) (L:TypeId) where
  (fs:Array Field) (K Q M:TypeId) (T:MTy P M)
  hL:P.underlying L = some (.struct fs)
  cL:P.cellsOf L = 3
  h0:HasF fs 0 0 K
  h1:HasF fs 1 1 K
  h2:HasF fs 2 2 Q
  uK:P.underlying K = some (.int .i64)
  uQ:P.underlying Q = some (.slice M)
  c:P.cellsOf K = 1∧P.cellsOf Q = 1
end
end Go.SX
end
section
namespace Go.Proofs.YtnpmmkfdclhbeaaDoor
set_option linter.unusedSectionVars false
set_option linter.unusedSimpArgs false
set_option linter.unusedVariables false
open Go Go.SX Go.Vl
set_option maxRecDepth 100000
set_option maxHeartbeats 0
section
variable [G:Globs]
end
end Go.Proofs.YtnpmmkfdclhbeaaDoor
end
section
namespace Go.Proofs.YtnpmmkfdclhbeaaDoor
set_option linter.unusedSectionVars false
set_option linter.unusedSimpArgs false
set_option linter.unusedVariables false
open Go Go.SX Go.Vl
set_option maxRecDepth 100000
set_option maxHeartbeats 0
def sg (t:Bool):Int:=if t = true then -1 else 1
theorem cmpI_ne {a b:Int} (h:a≠b):cmpI a b = sg (decide (a < b)):=by
  unfold cmpI sg
  rw [if_neg h]
  simp
theorem cmpS_ne {a b:Str} (h:a≠b):cmpS a b = sg (Op.bytesLess a b):=by
  unfold cmpS sg
  rw [if_neg h]
theorem bool_ne {a b:Bool} (h:(!(a == b)) = true):a≠b:=by simpa using h
theorem bool_eq {a b:Bool} (h:(!(a == b)) = false):a = b:=by simpa using h
theorem len_ne {m n:Nat} (h:(((m:Nat):Int) != ((n:Nat):Int)) = true):m≠n:=fun e=>by subst e; simp at h
theorem len_eq {m n:Nat} (h:(((m:Nat):Int) != ((n:Nat):Int)) = false):m = n:=by
  have:(m:Int) = (n:Int):=by simpa using h
  omega
theorem sg_nz (t:Bool):sg t≠0:=by cases t<;>decide
theorem shr63z {f:Int} (h0:0≤f) (h1:f≤18446744073709551615):(f.fdiv (2 ^ min (Int.toNat 63) IntKind.u64.bits) == 0) = decide (f < 9223372036854775808):=by
  rw [show (2:Int) ^ min (Int.toNat 63) IntKind.u64.bits = 9223372036854775808 from rfl,Int.fdiv_eq_ediv_of_nonneg _ (by decide)]
  rw [Bool.eq_iff_iff,beq_iff_eq,decide_eq_true_eq]
  omega
theorem rank_low {a b:Int} (ha:0≤a∧a≤18446744073709551615) (hb:0≤b∧b≤18446744073709551615) (h:decide (a < 9223372036854775808)≠decide (b < 9223372036854775808)):cmpI (rank a) (rank b) = sg (decide (b < 9223372036854775808)):=by
  by_cases h1:a < 9223372036854775808<;>by_cases h2:b < 9223372036854775808
  · simp [h1,h2] at h
  · rw [decide_eq_false h2,rank,rank,if_pos h1,if_neg h2,cmpI_ne (by omega),decide_eq_false (by omega)]
  · rw [decide_eq_true h2,rank,rank,if_neg h1,if_pos h2,cmpI_ne (by omega),decide_eq_true (by omega)]
  · simp [h1,h2] at h
theorem rank_high {a b:Int} (ha:0≤a∧a≤18446744073709551615) (hb:0≤b∧b≤18446744073709551615) (hne:a≠b) (h:decide (a < 9223372036854775808) = decide (b < 9223372036854775808)):cmpI (rank a) (rank b) = sg (decide (a < b) == decide (a < 9223372036854775808)):=by
  by_cases h1:a < 9223372036854775808<;>by_cases h2:b < 9223372036854775808
  · rw [rank,rank,if_pos h1,if_pos h2,cmpI_ne (by omega),decide_eq_true h1]
    congr 1
    by_cases h3:a < b
    · rw [decide_eq_true h3,decide_eq_true (by omega)]; rfl
    · rw [decide_eq_false h3,decide_eq_false (by omega)]; rfl
  · simp [h1,h2] at h
  · simp [h1,h2] at h
  · rw [rank,rank,if_neg h1,if_neg h2,cmpI_ne (by omega),decide_eq_false h1]
    congr 1
    by_cases h3:a < b
    · rw [decide_eq_true h3,decide_eq_false (by omega)]; rfl
    · rw [decide_eq_false h3,decide_eq_true (by omega)]; rfl
section
variable [G:Globs]
theorem w_sgn (t:Bool):vc Tryd.prog Γ 4 [0,2,3] (Tryd.f25.body.getD .skip) (postK Γ [.tmp 2] (fun v=>v = .i .i64 (sg t))) ⟨argSlots 0 [.b t],[]⟩:=by
  refine And.intro (fun h=>?_) (fun h=>?_)
  · have h:t = true:=h
    subst h
    rfl
  · have h:t = false:=h
    subst h
    rfl
theorem s_sgn (t:Bool):PSpec Tryd.prog 25 [.b t] (.i .i64 (sg t)) :=
  pspec_of_vc Γ_good Tryd.func25 rfl Tryd.call25 Tryd.results25 Tryd.ntmps25 (Nat.le_of_ble_eq_true rfl) (w_sgn t)
theorem w_besd (a b:Val) (h0:0≤a.f∧a.f≤18446744073709551615) (h1:0≤b.f∧b.f≤18446744073709551615) (hc:∀ x ∈ a.l,∀ y ∈ b.l,PSpec Tryd.prog 20 [.agg (encVal x),.agg (encVal y)] (.i .i64 (cmpV x y))) (hp:∀ x ∈ a.e,∀ y ∈ b.e,PSpec Tryd.prog 20 [.agg (encVal x.2),.agg (encVal y.2)] (.i .i64 (cmpV x.2 y.2))):VCs Tryd.prog Γ 185 [2,3,4,5,6,7,8,9,10,15,26,37,48,63,81,96,104,124,139,168,176] (Tryd.f20.body.getD .skip) (postK Γ [.tmp 4] (fun v=>v = .i .i64 (cmpV a b))) ⟨argSlots 0 [.agg (encVal a),.agg (encVal b)],[]⟩:=by
  refine VCs.seq (by first | exact Γ_good | exact Ctx.good_kp Γ_good _) ?_
  refine VCs.seq (by first | exact Γ_good | exact Ctx.good_kp Γ_good _) ?_
  refine And.intro (fun hk=>?_) (fun hk=>?_)
  · have hk:a.kind≠b.kind:=by simpa using hk
    refine Or.inl (Exists.intro _ (And.intro (s_sgn (decide (a.kind < b.kind))) ?_))
    refine congrArg (AV.i .i64) ?_
    rw [cmpV_eq,cmpI_ne hk,orI_ne (sg_nz _)]
  have hk:a.kind = b.kind:=by simpa using hk
  refine VCs.seq (by first | exact Γ_good | exact Ctx.good_kp Γ_good _) ?_
  refine And.intro (fun hn=>?_) (fun hn=>?_)
  · have hn:a.n≠b.n:=by simpa using hn
    refine Or.inl (Exists.intro _ (And.intro (s_sgn (decide (a.n < b.n))) ?_))
    refine congrArg (AV.i .i64) ?_
    rw [cmpV_eq,hk,cmpI_self,orI_zero,cmpI_ne hn,orI_ne (sg_nz _)]
  have hn:a.n = b.n:=by simpa using hn
  refine VCs.seq (by first | exact Γ_good | exact Ctx.good_kp Γ_good _) ?_
  refine And.intro (fun hf=>?_) (fun hf=>?_)
  · have hf:a.f≠b.f:=by simpa using hf
    refine Exists.intro [.blk [0,1,2,3,4,5,6,7,8,9]] (And.intro (by kernel_rfl) ?_)
    refine And.intro (by decide) ?_
    refine And.intro (by decide) ?_
    refine And.intro (fun hd=>?_) (fun hd=>?_)
    · have hd:=bool_ne hd
      rw [shr63z h0.1 h0.2,shr63z h1.1 h1.2] at hd
      refine Or.inl (Exists.intro _ (And.intro (s_sgn (b.f.fdiv (2 ^ min (Int.toNat 63) IntKind.u64.bits) == 0)) ?_))
      refine congrArg (AV.i .i64) ?_
      rw [shr63z h1.1 h1.2,cmpV_eq,hk,cmpI_self,orI_zero,hn,cmpI_self,orI_zero,rank_low h0 h1 hd,orI_ne (sg_nz _)]
    · have hd:=bool_eq hd
      rw [shr63z h0.1 h0.2,shr63z h1.1 h1.2] at hd
      refine Or.inl (Exists.intro _ (And.intro (s_sgn (decide (a.f < b.f) == (a.f.fdiv (2 ^ min (Int.toNat 63) IntKind.u64.bits) == 0))) ?_))
      refine congrArg (AV.i .i64) ?_
      rw [shr63z h0.1 h0.2,cmpV_eq,hk,cmpI_self,orI_zero,hn,cmpI_self,orI_zero,rank_high h0 h1 hf hd,orI_ne (sg_nz _)]
  have hf:a.f = b.f:=by simpa using hf
  refine VCs.seq (by first | exact Γ_good | exact Ctx.good_kp Γ_good _) ?_
  refine And.intro (fun hs=>?_) (fun hs=>?_)
  · have hs:a.s≠b.s:=by simpa using hs
    refine Or.inl (Exists.intro _ (And.intro (s_sgn (Op.bytesLess a.s b.s)) ?_))
    refine congrArg (AV.i .i64) ?_
    rw [cmpV_eq,hk,cmpI_self,orI_zero,hn,cmpI_self,orI_zero,hf,cmpI_self,orI_zero,cmpS_ne hs,orI_ne (sg_nz _)]
  have hs:a.s = b.s:=by simpa using hs
  have hr:cmpV a b = orI (cmpL a.l b.l) (cmpE a.e b.e):=by rw [cmpV_eq,hk,cmpI_self,orI_zero,hn,cmpI_self,orI_zero,hf,cmpI_self,orI_zero,hs,cmpS_self,orI_zero]
  refine VCs.cut (by first | exact Γ_good | exact Ctx.good_kp Γ_good _) Unit (fun _=>∃ k,cmpL a.l b.l = cmpL (a.l.drop k) (b.l.drop k)∧((k = a.l.length∧k≤b.l.length)∨(k = b.l.length∧k≤a.l.length))) (fun _=>⟨[(2,.pt 2 0),(3,.pt 3 0)],[(2,encVal a),(3,encVal b)]⟩) ?_ ?_
  · refine Exists.intro [] (Exists.intro [] (Exists.intro [] (Exists.intro Nat (Exists.intro (fun k=>k≤a.l.length∧k≤b.l.length∧cmpL a.l b.l = cmpL (a.l.drop k) (b.l.drop k)) (Exists.intro (fun k=>⟨[(2,.pt 2 0),(3,.pt 3 0),(7,.i .i64 k)],[(2,encVal a),(3,encVal b)]⟩) (Exists.intro (fun k=>a.l.length - k) (Exists.intro 0 (And.intro ⟨Nat.zero_le _,Nat.zero_le _,rfl⟩ (And.intro ?_ ?_)))))))))
    · (repeat' (first | exact trivial | exact Or.inl rfl | exact Or.inr (Or.inl ⟨rfl,_,rfl⟩) | exact Or.inr (Or.inr (Or.inr ⟨_,_,_,rfl,rfl⟩)) | refine And.intro ?_ ?_))
    · rintro k ⟨hka,hkb,he⟩
      intro hla
      refine And.intro (fun hc1=>?_) (fun hc1=>?_)
      · have hc1 : k < a.l.length := by have : (k : Int) < (a.l.length : Int) := of_decide_eq_true hc1
                                        omega
        intro _
        refine And.intro (fun hc2=>?_) (fun hc2=>?_)
        · have hc2 : k < b.l.length := by have : (k : Int) < (b.l.length : Int) := of_decide_eq_true hc2
                                          omega
          have hg:a.l.getD (Int.toNat (k:Int)) (dflt .val) = a.l[k]:=by rw [Int.toNat_natCast,List.getD_eq_getElem?_getD,List.getElem?_eq_getElem hc1]; rfl
          have hgb:b.l.getD (Int.toNat (k:Int)) (dflt .val) = b.l[k]:=by rw [Int.toNat_natCast,List.getD_eq_getElem?_getD,List.getElem?_eq_getElem hc2]; rfl
          have hcall:=hc a.l[k] (List.getElem_mem hc1) b.l[k] (List.getElem_mem hc2)
          rw [← hg,← hgb] at hcall
          refine Exists.intro [.blk [0,1,2,3,4,5,6,7,8,9,10,11]] (And.intro (by kernel_rfl) ?_)
          refine And.intro ⟨by omega,by omega⟩ ?_
          refine And.intro ⟨by omega,by omega⟩ ?_
          refine Exists.intro _ (And.intro (hcall) ?_)
          rw [hg,hgb]
          rw [cmpL_drop hc1 hc2] at he
          refine And.intro (fun hz=>?_) (fun hz=>?_)
          · have hz:cmpV a.l[k] b.l[k]≠0:=by simpa using hz
            rw [orI_ne hz] at he
            refine congrArg (AV.i .i64) ?_
            rw [hr,he,orI_ne hz]
          · have hz:cmpV a.l[k] b.l[k] = 0:=by simpa using hz
            rw [hz,orI_zero] at he
            have:=len_le hla
            (refine And.intro (rng64 (by omega) (by omega)) ?_)
            refine Exists.intro [] (Exists.intro (k + 1) (And.intro ⟨hc1,hc2,he⟩ (And.intro ?_ ?_)))
            · (repeat' (first | exact trivial | exact Or.inl rfl | exact Or.inr (Or.inl ⟨rfl,_,rfl⟩) | exact Or.inr (Or.inr (Or.inr ⟨_,_,_,rfl,rfl⟩)) | refine And.intro ?_ ?_))
            · show a.l.length - (k + 1) < a.l.length - k
              omega
        · have hc2 : k = b.l.length := by have : ¬ (k : Int) < (b.l.length : Int) := of_decide_eq_false hc2
                                          omega
          refine Exists.intro () (And.intro ⟨k,he,.inr ⟨hc2,hka⟩⟩ ?_)
          (repeat' (first | exact trivial | exact Or.inl rfl | exact Or.inr (Or.inl ⟨rfl,_,rfl⟩) | exact Or.inr (Or.inr (Or.inr ⟨_,_,_,rfl,rfl⟩)) | refine And.intro ?_ ?_))
      · have hc1 : k = a.l.length := by have : ¬ (k : Int) < (a.l.length : Int) := of_decide_eq_false hc1
                                        omega
        refine And.intro (fun h9=>Bool.noConfusion h9) (fun _=>?_)
        refine Exists.intro () (And.intro ⟨k,he,.inl ⟨hc1,hkb⟩⟩ ?_)
        (repeat' (first | exact trivial | exact Or.inl rfl | exact Or.inr (Or.inl ⟨rfl,_,rfl⟩) | exact Or.inr (Or.inr (Or.inr ⟨_,_,_,rfl,rfl⟩)) | refine And.intro ?_ ?_))
  rintro _ ⟨k,he,hk2⟩
  refine VCs.seq (by first | exact Γ_good | exact Ctx.good_kp Γ_good _) ?_
  intro hla
  intro hlb
  refine And.intro (fun hz=>?_) (fun hz=>?_)
  · have hz:a.l.length≠b.l.length:=len_ne hz
    intro _
    intro _
    refine Or.inl (Exists.intro _ (And.intro (s_sgn (decide ((a.l.length:Int) < (b.l.length:Int)))) ?_))
    refine congrArg (AV.i .i64) ?_
    rcases hk2 with ⟨h2,h3⟩ | ⟨h2,h3⟩
    · rw [cmpL_long (by omega) (by omega)] at he
      rw [hr,he,decide_eq_true (by omega)]
      rfl
    · rw [cmpL_short (by omega) (by omega)] at he
      rw [hr,he,decide_eq_false (by omega)]
      rfl
  have hz:a.l.length = b.l.length:=len_eq hz
  have hr:cmpV a b = cmpE a.e b.e:=by rw [hr,he,cmpL_end (by omega) (by omega),orI_zero]
  clear he hk2 k
  refine VCs.cut (by first | exact Γ_good | exact Ctx.good_kp Γ_good _) Unit (fun _=>∃ k,cmpE a.e b.e = cmpE (a.e.drop k) (b.e.drop k)∧((k = a.e.length∧k≤b.e.length)∨(k = b.e.length∧k≤a.e.length))) (fun _=>⟨[(2,.pt 2 0),(3,.pt 3 0)],[(2,encVal a),(3,encVal b)]⟩) ?_ ?_
  · refine Exists.intro [] (Exists.intro [] (Exists.intro [] (Exists.intro Nat (Exists.intro (fun k=>k≤a.e.length∧k≤b.e.length∧cmpE a.e b.e = cmpE (a.e.drop k) (b.e.drop k)) (Exists.intro (fun k=>⟨[(2,.pt 2 0),(3,.pt 3 0),(9,.i .i64 k)],[(2,encVal a),(3,encVal b)]⟩) (Exists.intro (fun k=>a.e.length - k) (Exists.intro 0 (And.intro ⟨Nat.zero_le _,Nat.zero_le _,rfl⟩ (And.intro ?_ ?_)))))))))
    · (repeat' (first | exact trivial | exact Or.inl rfl | exact Or.inr (Or.inl ⟨rfl,_,rfl⟩) | exact Or.inr (Or.inr (Or.inr ⟨_,_,_,rfl,rfl⟩)) | refine And.intro ?_ ?_))
    · rintro k ⟨hka,hkb,he⟩
      intro hla
      refine And.intro (fun hc1=>?_) (fun hc1=>?_)
      · have hc1 : k < a.e.length := by have : (k : Int) < (a.e.length : Int) := of_decide_eq_true hc1
                                        omega
        intro _
        refine And.intro (fun hc2=>?_) (fun hc2=>?_)
        · have hc2 : k < b.e.length := by have : (k : Int) < (b.e.length : Int) := of_decide_eq_true hc2
                                          omega
          have hg:a.e.getD (Int.toNat (k:Int)) (dflt .ent) = a.e[k]:=by rw [Int.toNat_natCast,List.getD_eq_getElem?_getD,List.getElem?_eq_getElem hc1]; rfl
          have hgb:b.e.getD (Int.toNat (k:Int)) (dflt .ent) = b.e[k]:=by rw [Int.toNat_natCast,List.getD_eq_getElem?_getD,List.getElem?_eq_getElem hc2]; rfl
          have hcall:=hp a.e[k] (List.getElem_mem hc1) b.e[k] (List.getElem_mem hc2)
          rw [← hg,← hgb] at hcall
          refine Exists.intro [.blk [0,1,2,3,4,5,6,7,8,9,10,11,12]] (And.intro (by kernel_rfl) ?_)
          refine And.intro ⟨by omega,by omega⟩ ?_
          refine And.intro ⟨by omega,by omega⟩ ?_
          rw [cmpE_drop hc1 hc2,cmpP_eq] at he
          refine And.intro (fun hq=>?_) (fun hq=>?_)
          · have hq:a.e[k].1≠b.e[k].1:=by rw [hg,hgb] at hq; simpa using hq
            refine Exists.intro [.blk [0,1,2,3,4,5,6,7,8,9,10,11,12,13,14]] (And.intro (by kernel_rfl) ?_)
            refine And.intro ⟨by omega,by omega⟩ ?_
            refine And.intro ⟨by omega,by omega⟩ ?_
            refine Exists.intro _ (And.intro (s_sgn (Op.bytesLess (a.e.getD (Int.toNat (k:Int)) (dflt .ent)).1 (b.e.getD (Int.toNat (k:Int)) (dflt .ent)).1)) ?_)
            refine congrArg (AV.i .i64) ?_
            rw [hg,hgb,hr,he,cmpS_ne hq,orI_ne (sg_nz _),orI_ne (sg_nz _)]
          · have hq:a.e[k].1 = b.e[k].1:=by rw [hg,hgb] at hq; simpa using hq
            rw [hq,cmpS_self,orI_zero] at he
            refine Exists.intro [.blk [0,1,2,3,4,5,6,7,8,9,10,11,12,13]] (And.intro (by kernel_rfl) ?_)
            refine And.intro ⟨by omega,by omega⟩ ?_
            refine And.intro ⟨by omega,by omega⟩ ?_
            refine Exists.intro _ (And.intro (hcall) ?_)
            rw [hg,hgb]
            refine And.intro (fun hz=>?_) (fun hz=>?_)
            · have hz:cmpV a.e[k].2 b.e[k].2≠0:=by simpa using hz
              rw [orI_ne hz] at he
              refine congrArg (AV.i .i64) ?_
              rw [hr,he]
            · have hz:cmpV a.e[k].2 b.e[k].2 = 0:=by simpa using hz
              rw [hz,orI_zero] at he
              have:=len_le hla
              (refine And.intro (rng64 (by omega) (by omega)) ?_)
              refine Exists.intro [] (Exists.intro (k + 1) (And.intro ⟨hc1,hc2,he⟩ (And.intro ?_ ?_)))
              · (repeat' (first | exact trivial | exact Or.inl rfl | exact Or.inr (Or.inl ⟨rfl,_,rfl⟩) | exact Or.inr (Or.inr (Or.inr ⟨_,_,_,rfl,rfl⟩)) | refine And.intro ?_ ?_))
              · show a.e.length - (k + 1) < a.e.length - k
                omega
        · have hc2 : k = b.e.length := by have : ¬ (k : Int) < (b.e.length : Int) := of_decide_eq_false hc2
                                          omega
          refine Exists.intro () (And.intro ⟨k,he,.inr ⟨hc2,hka⟩⟩ ?_)
          (repeat' (first | exact trivial | exact Or.inl rfl | exact Or.inr (Or.inl ⟨rfl,_,rfl⟩) | exact Or.inr (Or.inr (Or.inr ⟨_,_,_,rfl,rfl⟩)) | refine And.intro ?_ ?_))
      · have hc1 : k = a.e.length := by have : ¬ (k : Int) < (a.e.length : Int) := of_decide_eq_false hc1
                                        omega
        refine And.intro (fun h9=>Bool.noConfusion h9) (fun _=>?_)
        refine Exists.intro () (And.intro ⟨k,he,.inl ⟨hc1,hkb⟩⟩ ?_)
        (repeat' (first | exact trivial | exact Or.inl rfl | exact Or.inr (Or.inl ⟨rfl,_,rfl⟩) | exact Or.inr (Or.inr (Or.inr ⟨_,_,_,rfl,rfl⟩)) | refine And.intro ?_ ?_))
  rintro _ ⟨k,he,hk2⟩
  refine VCs.of_vc (by first | exact Γ_good | exact Ctx.good_kp Γ_good _) ?_
  intro hla
  intro hlb
  refine And.intro (fun hz=>?_) (fun hz=>?_)
  · have hz:a.e.length≠b.e.length:=len_ne hz
    intro _
    intro _
    refine Or.inl (Exists.intro _ (And.intro (s_sgn (decide ((a.e.length:Int) < (b.e.length:Int)))) ?_))
    refine congrArg (AV.i .i64) ?_
    rcases hk2 with ⟨h2,h3⟩ | ⟨h2,h3⟩
    · rw [cmpE_long (by omega) (by omega)] at he
      rw [hr,he,decide_eq_true (by omega)]
      rfl
    · rw [cmpE_short (by omega) (by omega)] at he
      rw [hr,he,decide_eq_false (by omega)]
      rfl
  · have hz:a.e.length = b.e.length:=len_eq hz
    refine congrArg (AV.i .i64) ?_
    rw [hr,he,cmpE_end (by omega) (by omega)]
theorem s_besd (a b:Val) (h0:0≤a.f∧a.f≤18446744073709551615) (h1:0≤b.f∧b.f≤18446744073709551615) (hc:∀ x ∈ a.l,∀ y ∈ b.l,PSpec Tryd.prog 20 [.agg (encVal x),.agg (encVal y)] (.i .i64 (cmpV x y))) (hp:∀ x ∈ a.e,∀ y ∈ b.e,PSpec Tryd.prog 20 [.agg (encVal x.2),.agg (encVal y.2)] (.i .i64 (cmpV x.2 y.2))):PSpec Tryd.prog 20 [.agg (encVal a),.agg (encVal b)] (.i .i64 (cmpV a b)) :=
  pspec_of_VCs Γ_good Tryd.func20 rfl Tryd.call20 Tryd.results20 Tryd.ntmps20 (Nat.le_of_ble_eq_true rfl) (w_besd a b h0 h1 hc hp) Γ_good
theorem beside_spec:∀ (n:Nat) (a b:Val),SizeOf.sizeOf a < n→VB a→VB b→PSpec Tryd.prog 20 [.agg (encVal a),.agg (encVal b)] (.i .i64 (cmpV a b)):=by
  intro n
  induction n with
  | zero=>intro a b h; exact absurd h (Nat.not_lt_zero _)
  | succ n ih =>
    intro a b hs ha hb
    cases ha with
    | mk _ a1 a2 a3 a4 a5 =>
    cases hb with
    | mk _ b1 b2 b3 b4 b5 =>
      refine s_besd a b a3 b3 (fun x hx y hy=>ih x y ?_ (a4 x hx) (b4 y hy)) (fun x hx y hy=>ih x.2 y.2 ?_ (a5 x hx) (b5 y hy))
      · have:=val_sz_l hx; omega
      · have:=val_sz_e hx; omega
theorem s_Beside (a b:Val) (ha:VB a) (hb:VB b):PSpec Tryd.prog 20 [.agg (encVal a),.agg (encVal b)] (.i .i64 (cmpV a b)) :=
  beside_spec _ a b (Nat.lt_succ_self _) ha hb
end
end Go.Proofs.YtnpmmkfdclhbeaaDoor
end
section
namespace Go.Proofs.YtnpmmkfdclhbeaaDoor
set_option linter.unusedSectionVars false
set_option linter.unusedSimpArgs false
set_option linter.unusedVariables false
open Go Go.SX Go.Vl
set_option maxRecDepth 100000
set_option maxHeartbeats 0
section
variable [G:Globs]
theorem w_same (a b:Val) (ha:VB a) (hb:VB b):vc Tryd.prog Γ 9 [2,3,4] (Tryd.f10.body.getD .skip) (postK Γ [.tmp 4] (fun v=>v = .b (decide (cmpV a b = 0)))) ⟨argSlots 0 [.agg (encVal a),.agg (encVal b)],[]⟩:=by
  refine Or.inl (Exists.intro _ (And.intro (s_Beside a b ha hb) ?_))
  rfl
theorem s_same (a b:Val) (ha:VB a) (hb:VB b):PSpec Tryd.prog 10 [.agg (encVal a),.agg (encVal b)] (.b (decide (cmpV a b = 0))) :=
  pspec_of_vc Γ_good Tryd.func10 rfl Tryd.call10 Tryd.results10 Tryd.ntmps10 (Nat.le_of_ble_eq_true rfl) (w_same a b ha hb)
theorem w_fnd1 (p:Ent) (k:Str):vc Tryd.prog Γ 8 [1,2,3] (Tryd.f29.body.getD .skip) (postK Γ [.tmp 3] (fun v=>v = .b (keyIs k p))) ⟨argSlots 0 [.agg (enc .ent p),.rp [.s k]],[]⟩:=by
  rfl
theorem s_fnd1 (p:Ent) (k:Str):PSpec Tryd.prog 29 [.agg (enc .ent p),.rp [.s k]] (.b (keyIs k p)) :=
  pspec_of_vc Γ_good Tryd.func29 rfl Tryd.call29 Tryd.results29 Tryd.ntmps29 (Nat.le_of_ble_eq_true rfl) (w_fnd1 p k)
theorem w_ixE (l:List Ent) (k:Str) (q:Ent→Bool) (f:Nat) (hq:∀ x ∈ l,PSpec Tryd.prog f [.agg (enc .ent x),.rp [.s k]] (.b (q x))):vc Tryd.prog Γ 19 [0,1,4,5,7,8,9,16] (Tryd.f28.body.getD .skip) (postK Γ [.tmp 4] (fun v=>v = .i .i64 (ixI l q))) ⟨argSlots 0 [.rd .ent l,.fn f [.rp [.s k]]],[]⟩:=by
  intro hl
  refine Exists.intro [] (Exists.intro [] (Exists.intro [] (Exists.intro Nat (Exists.intro (fun i=>i≤l.length∧i≤l.findIdx q) (Exists.intro (fun i=>⟨[(0,.rd .ent l),(1,.fn f [.rp [.s k]]),(7,.i .i64 l.length),(8,.i .i64 i)],[]⟩) (Exists.intro (fun i=>l.length - i) (Exists.intro 0 (And.intro ⟨Nat.zero_le _,Nat.zero_le _⟩ (And.intro ?_ ?_)))))))))
  · (repeat' (first | exact trivial | exact Or.inl rfl | exact Or.inr (Or.inl ⟨rfl,_,rfl⟩) | exact Or.inr (Or.inr (Or.inr ⟨_,_,_,rfl,rfl⟩)) | refine And.intro ?_ ?_))
  · rintro i ⟨hi,hf⟩
    refine And.intro (fun he=>?_) (fun he=>?_)
    · have hi : i < l.length := by have : (i : Int) < (l.length : Int) := of_decide_eq_true he
                                   omega
      have hg:l.getD (Int.toNat (i:Int)) (dflt .ent) = l[i]:=by rw [Int.toNat_natCast,List.getD_eq_getElem?_getD,List.getElem?_eq_getElem hi]; rfl
      refine And.intro ⟨by omega,by omega⟩ ?_
      have hs:=hq l[i] (List.getElem_mem hi)
      rw [← hg] at hs
      refine Or.inl (Exists.intro _ (And.intro (hs) ?_))
      rw [hg]
      refine And.intro (fun hz=>?_) (fun hz=>?_)
      · have hz:q l[i] = true:=hz
        rw [ix_hit hi hf hz]
        rfl
      · have hz:q l[i] = false:=hz
        have:=len_le hl
        (refine And.intro (rng64 (by omega) (by omega)) ?_)
        refine Exists.intro [] (Exists.intro (i + 1) (And.intro ⟨hi,ix_miss hi hf hz⟩ (And.intro ?_ ?_)))
        · (repeat' (first | exact trivial | exact Or.inl rfl | exact Or.inr (Or.inl ⟨rfl,_,rfl⟩) | exact Or.inr (Or.inr (Or.inr ⟨_,_,_,rfl,rfl⟩)) | refine And.intro ?_ ?_))
        · show l.length - (i + 1) < l.length - i
          omega
    · have hi : i = l.length := by have : ¬ (i : Int) < (l.length : Int) := of_decide_eq_false he
                                   omega
      rw [ix_none (by omega)]
      rfl
theorem s_ixE (l:List Ent) (k:Str) (q:Ent→Bool) (f:Nat) (hq:∀ x ∈ l,PSpec Tryd.prog f [.agg (enc .ent x),.rp [.s k]] (.b (q x))):PSpec Tryd.prog 28 [.rd .ent l,.fn f [.rp [.s k]]] (.i .i64 (ixI l q)) :=
  pspec_of_vc Γ_good Tryd.func28 rfl Tryd.call28 Tryd.results28 Tryd.ntmps28 (Nat.le_of_ble_eq_true rfl) (w_ixE l k q f hq)
theorem w_find (l:List Ent) (k:Str):vc Tryd.prog Γ 8 [0,3,4] (Tryd.f23.body.getD .skip) (postK Γ [.tmp 4] (fun v=>v = .i .i64 (ixI l (keyIs k)))) ⟨argSlots 0 [.rd .ent l,.s k],[]⟩:=by
  refine Or.inr (Or.inr (Or.inl (Exists.intro _ (And.intro (s_ixE l k (keyIs k) 29 (fun x _=>s_fnd1 x k)) ?_))))
  rfl
theorem s_find (l:List Ent) (k:Str):PSpec Tryd.prog 23 [.rd .ent l,.s k] (.i .i64 (ixI l (keyIs k))) :=
  pspec_of_vc Γ_good Tryd.func23 rfl Tryd.call23 Tryd.results23 Tryd.ntmps23 (Nat.le_of_ble_eq_true rfl) (w_find l k)
theorem w_entAt (l:List Ent) (k:Str):vc Tryd.prog Γ 20 [0,1,4,5,6,7,8,9,10,17] (Tryd.f26.body.getD .skip) (postK Γ [.tmp 4] (fun v=>v = .i .i64 (ixI l (keyIs k)))) ⟨argSlots 0 [.rd .ent l,.s k],[]⟩:=by
  intro hl
  refine Exists.intro [] (Exists.intro [] (Exists.intro [] (Exists.intro Nat (Exists.intro (fun i=>i≤l.length∧i≤l.findIdx (keyIs k)) (Exists.intro (fun i=>⟨[(1,.s k),(7,.rd .ent l),(8,.i .i64 l.length),(9,.i .i64 i)],[]⟩) (Exists.intro (fun i=>l.length - i) (Exists.intro 0 (And.intro ⟨Nat.zero_le _,Nat.zero_le _⟩ (And.intro ?_ ?_)))))))))
  · (repeat' (first | exact trivial | exact Or.inl rfl | exact Or.inr (Or.inl ⟨rfl,_,rfl⟩) | exact Or.inr (Or.inr (Or.inr ⟨_,_,_,rfl,rfl⟩)) | refine And.intro ?_ ?_))
  · rintro i ⟨hi,hf⟩
    refine And.intro (fun he=>?_) (fun he=>?_)
    · have hi : i < l.length := by have : (i : Int) < (l.length : Int) := of_decide_eq_true he
                                   omega
      have hg:l.getD (Int.toNat (i:Int)) (dflt .ent) = l[i]:=by rw [Int.toNat_natCast,List.getD_eq_getElem?_getD,List.getElem?_eq_getElem hi]; rfl
      refine And.intro ⟨by omega,by omega⟩ ?_
      refine And.intro (fun hz=>?_) (fun hz=>?_)
      · have hz:keyIs k l[i] = true:=by rw [← hg]; exact hz
        rw [ix_hit hi hf hz]
        rfl
      · have hz:keyIs k l[i] = false:=by rw [← hg]; exact hz
        have:=len_le hl
        (refine And.intro (rng64 (by omega) (by omega)) ?_)
        refine Exists.intro [] (Exists.intro (i + 1) (And.intro ⟨hi,ix_miss hi hf hz⟩ (And.intro ?_ ?_)))
        · (repeat' (first | exact trivial | exact Or.inl rfl | exact Or.inr (Or.inl ⟨rfl,_,rfl⟩) | exact Or.inr (Or.inr (Or.inr ⟨_,_,_,rfl,rfl⟩)) | refine And.intro ?_ ?_))
        · show l.length - (i + 1) < l.length - i
          omega
    · have hi : i = l.length := by have : ¬ (i : Int) < (l.length : Int) := of_decide_eq_false he
                                   omega
      rw [ix_none (by omega)]
      rfl
theorem s_entAt (l:List Ent) (k:Str):PSpec Tryd.prog 26 [.rd .ent l,.s k] (.i .i64 (ixI l (keyIs k))) :=
  pspec_of_vc Γ_good Tryd.func26 rfl Tryd.call26 Tryd.results26 Tryd.ntmps26 (Nat.le_of_ble_eq_true rfl) (w_entAt l k)
end
end Go.Proofs.YtnpmmkfdclhbeaaDoor
end
section
namespace Go.SX
set_option linter.unusedSectionVars false
set_option linter.unusedVariables false
set_option linter.unusedSimpArgs false
variable [Globs]
open Go.RowKit Go.WideShapes Go.ChangeShapes Go.Deep
inductive VN (n:Nat):Val→Prop
  | mk (a:Val):a.l.length≤n→a.e.length≤n→(∀ x ∈ a.l,VN n x)→(∀ p ∈ a.e,VN n p.2)→VN n a
theorem VN.mono {n m:Nat} (h:n≤m) {a:Val} (ha:VN n a):VN m a:=by
  induction ha with
  | mk a h1 h2 _ _ i1 i2=>exact .mk a (Nat.le_trans h1 h) (Nat.le_trans h2 h) i1 i2
structure Bulk {H:Type} (bk:DataW H→Nat):Prop where
  len:∀ els rest,els.length≤bk (.slice els rest)
  el:∀ els rest,∀ d ∈ els,bk d≤bk (.slice els rest)
  part:∀ ds,∀ d ∈ ds,bk d≤bk (.agg ds)
section
variable {H:Type} {encH:TypeId × Value→H} {P:Program} {W:World} {sp:Nat→Bool} {hd:Bool} {O:Nat→Prop} {bk:DataW H→Nat}
end
end Go.SX
end
section
namespace Go.Proofs.YtnpmmkfdclhbeaaDoor
set_option linter.unusedSectionVars false
set_option linter.unusedSimpArgs false
set_option linter.unusedVariables false
open Go Go.SX Go.Vl
set_option maxRecDepth 100000
set_option maxHeartbeats 0
section
variable [G:Globs]
theorem w_own (a:Val) (hl:a.l.length≤100000000) (he:a.e.length≤100000000) (hc:∀ x ∈ a.l,PSpec Tryd.prog 14 [.agg (encVal x)] (.agg (encVal x))) (hp:∀ x ∈ a.e,PSpec Tryd.prog 14 [.agg (encVal x.2)] (.agg (encVal x.2))):vc Tryd.prog Γ 48 [1,2,3,4,6,8,15,16,17,18,29,30,31,32] (Tryd.f14.body.getD .skip) (postK Γ [.cell 2 26] (fun v=>v = .agg (encVal a))) ⟨argSlots 0 [.agg (encVal a)],[]⟩:=by
  refine Exists.intro [.blk [0,1,2,3,4,5]] (And.intro (by kernel_rfl) ?_)
  intro hml
  refine Exists.intro [] (Exists.intro [(1,4,47,.val)] (Exists.intro [] (Exists.intro Nat (Exists.intro (fun i=>i≤a.l.length) (Exists.intro (fun i=>⟨[(1,.pt 1 0),(2,.pt 2 0),(4,.rd .ent a.e),(15,.rd .val a.l),(16,.i .i64 a.l.length),(17,.i .i64 i)],[(1,[.i .i64 a.kind,.i .i64 a.n,.i .u64 a.f,.s a.s,.vec 47 .val (a.l.take i),.nl]),(2,[.i .i64 0,.i .i64 0,.i .u64 0,.s [],.nl,.nl])]⟩) (Exists.intro (fun i=>a.l.length - i) (Exists.intro 0 (And.intro (Nat.zero_le _) (And.intro ?_ ?_)))))))))
  · (repeat' (first | exact trivial | exact Or.inl rfl | exact Or.inr (Or.inl ⟨rfl,_,rfl⟩) | exact Or.inr (Or.inr (Or.inr ⟨_,_,_,rfl,rfl⟩)) | refine And.intro ?_ ?_))
  · rintro i hi
    refine And.intro (fun hz=>?_) (fun hz=>?_)
    · have hi : i < a.l.length := by have : (i : Int) < (a.l.length : Int) := of_decide_eq_true hz
                                     omega
      have hg:a.l.getD (Int.toNat (i:Int)) (dflt .val) = a.l[i]:=by rw [Int.toNat_natCast,List.getD_eq_getElem?_getD,List.getElem?_eq_getElem hi]; rfl
      refine And.intro ⟨by omega,by omega⟩ ?_
      have hs:=hc a.l[i] (List.getElem_mem hi)
      rw [← hg] at hs
      refine Exists.intro [.blk [0,1,2,3,4] [25],.one 5,.take 6,.one 7] (And.intro (by kernel_rfl) ?_)
      refine Exists.intro _ (And.intro (hs) ?_)
      rw [hg]
      refine And.intro (show ((a.l.take i).length + 1) * 88≤140737488355328 by rw [List.length_take]; omega) ?_
      (refine And.intro (rng64 (by omega) (by omega)) ?_)
      have e:a.l.take i++[(⟨a.l[i].kind,a.l[i].n,a.l[i].f,a.l[i].s,a.l[i].l,a.l[i].e⟩:Val)] = a.l.take (i + 1):=by rw [val_eta,List.take_add_one,List.getElem?_eq_getElem hi]; rfl
      refine Exists.intro [(26,47)] (Exists.intro (i + 1) (And.intro hi (And.intro ?_ ?_)))
      · (repeat' (first | exact trivial | exact Or.inl rfl | exact Or.inl ((congrArg (AV.vec 47 .val) e)) | refine And.intro ?_ ?_))
      · show a.l.length - (i + 1) < a.l.length - i
        omega
    · have hi : i = a.l.length := by have : ¬ (i : Int) < (a.l.length : Int) := of_decide_eq_false hz
                                     omega
      subst hi
      rw [List.take_length]
      intro hme
      refine Exists.intro [] (Exists.intro [(1,5,46,.ent)] (Exists.intro [] (Exists.intro Nat (Exists.intro (fun i=>i≤a.e.length) (Exists.intro (fun i=>⟨[(1,.pt 1 0),(2,.pt 2 0),(29,.rd .ent a.e),(30,.i .i64 a.e.length),(31,.i .i64 i)],[(1,[.i .i64 a.kind,.i .i64 a.n,.i .u64 a.f,.s a.s,.vec 47 .val a.l,.vec 46 .ent (a.e.take i)]),(2,[.i .i64 0,.i .i64 0,.i .u64 0,.s [],.nl,.nl])]⟩) (Exists.intro (fun i=>a.e.length - i) (Exists.intro 0 (And.intro (Nat.zero_le _) (And.intro ?_ ?_)))))))))
      · (repeat' (first | exact trivial | exact Or.inl rfl | exact Or.inr (Or.inl ⟨rfl,_,rfl⟩) | exact Or.inr (Or.inr (Or.inr ⟨_,_,_,rfl,rfl⟩)) | refine And.intro ?_ ?_))
      · rintro i hi
        refine And.intro (fun hz=>?_) (fun hz=>?_)
        · have hi : i < a.e.length := by have : (i : Int) < (a.e.length : Int) := of_decide_eq_true hz
                                         omega
          have hg:a.e.getD (Int.toNat (i:Int)) (dflt .ent) = a.e[i]:=by rw [Int.toNat_natCast,List.getD_eq_getElem?_getD,List.getElem?_eq_getElem hi]; rfl
          refine And.intro ⟨by omega,by omega⟩ ?_
          have hs:=hp a.e[i] (List.getElem_mem hi)
          rw [← hg] at hs
          refine Exists.intro [.blk [0,1,2,3,4,5,6,7,8] [43],.one 9,.take 10,.one 11] (And.intro (by kernel_rfl) ?_)
          refine Exists.intro _ (And.intro (hs) ?_)
          rw [hg]
          refine And.intro (show ((a.e.take i).length + 1) * 104≤140737488355328 by rw [List.length_take]; omega) ?_
          (refine And.intro (rng64 (by omega) (by omega)) ?_)
          have e:a.e.take i++[(a.e[i].1,(⟨a.e[i].2.kind,a.e[i].2.n,a.e[i].2.f,a.e[i].2.s,a.e[i].2.l,a.e[i].2.e⟩:Val))] = a.e.take (i + 1):=by rw [val_eta,List.take_add_one,List.getElem?_eq_getElem hi]; rfl
          refine Exists.intro [(44,46)] (Exists.intro (i + 1) (And.intro hi (And.intro ?_ ?_)))
          · (repeat' (first | exact trivial | exact Or.inl rfl | exact Or.inl ((congrArg (AV.vec 46 .ent) e)) | refine And.intro ?_ ?_))
          · show a.e.length - (i + 1) < a.e.length - i
            omega
        · have hi : i = a.e.length := by have : ¬ (i : Int) < (a.e.length : Int) := of_decide_eq_false hz
                                         omega
          subst hi
          rw [List.take_length]
          rfl
theorem s_own (a:Val) (hl:a.l.length≤100000000) (he:a.e.length≤100000000) (hc:∀ x ∈ a.l,PSpec Tryd.prog 14 [.agg (encVal x)] (.agg (encVal x))) (hp:∀ x ∈ a.e,PSpec Tryd.prog 14 [.agg (encVal x.2)] (.agg (encVal x.2))):PSpec Tryd.prog 14 [.agg (encVal a)] (.agg (encVal a)) :=
  pspec_of_vc Γ_good Tryd.func14 rfl Tryd.call14 Tryd.results14 Tryd.ntmps14 (Nat.le_of_ble_eq_true rfl) (w_own a hl he hc hp)
theorem own_spec:∀ (m:Nat) (a:Val),SizeOf.sizeOf a < m→VN 100000000 a→PSpec Tryd.prog 14 [.agg (encVal a)] (.agg (encVal a)):=by
  intro m
  induction m with
  | zero=>intro a h; exact absurd h (Nat.not_lt_zero _)
  | succ m ih =>
    intro a hs ha
    cases ha with
    | mk _ a1 a2 a3 a4 =>
      refine s_own a a1 a2 (fun x hx=>ih x ?_ (a3 x hx)) (fun x hx=>ih x.2 ?_ (a4 x hx))
      · have:=val_sz_l hx; omega
      · have:=val_sz_e hx; omega
theorem s_Own (a:Val) (ha:VN 100000000 a):PSpec Tryd.prog 14 [.agg (encVal a)] (.agg (encVal a)):=own_spec _ a (Nat.lt_succ_self _) ha
end
end Go.Proofs.YtnpmmkfdclhbeaaDoor
end
section
namespace Go.Proofs.YtnpmmkfdclhbeaaDoor
set_option linter.unusedSectionVars false
set_option linter.unusedSimpArgs false
set_option linter.unusedVariables false
open Go Go.SX Go.Vl Go.Ck Go.Up Go.Pl
set_option maxRecDepth 100000
set_option maxHeartbeats 4000000
section
variable [G:Globs]
theorem w_all1 (y:Val) (hn:∀ x ∈ partsOf y,∀ (p:List PStep) (q:List (List PStep)),q.length + (pathsV x).length≤1000→p.length + (pathsV x).length≤100000→CSpecM Tryd.prog 16 [.agg (encVal x),.ob 1 1 (.ln .pstep p),.pt 1000 0,.pt 1001 0] [(1000,[.vec 1002 .psteps q]),(1001,[.fn 16 [.pt 1000 0,.pt 1001 0]])] (.tup []) 1 (.ob 1 1 (.ln .pstep p)) [(1000,[.vec 1002 .psteps (q++(pathsV x).map (p++·))]),(1001,[.fn 16 [.pt 1000 0,.pt 1001 0]])]) (p:List PStep) (q:List (List PStep)) (hq:q.length + (pathsV y).length≤1000) (hp:p.length + (pathsV y).length≤100000):vc Tryd.prog Γ 53 [1,2,3,4,6,7,9,12,19,20,21,22,36,37,38,39,1000,1001,1002] (Tryd.f16.body.getD .skip) (postMK Γ [] (.tup []) 1 (.ob 1 1 (.ln .pstep p)) [(1000,[.vec 1002 .psteps (q++(pathsV y).map (p++·))]),(1001,[.fn 16 [.pt 1000 0,.pt 1001 0]])]) ⟨argSlots 0 [.agg (encVal y),.ob 1 1 (.ln .pstep p),.pt 1000 0,.pt 1001 0],[(1000,[.vec 1002 .psteps q]),(1001,[.fn 16 [.pt 1000 0,.pt 1001 0]])]⟩:=by
  have hy:1≤(pathsV y).length:=by rw [pathsV_eq,List.length_cons]; omega
  (repeat' (first | (refine And.intro (fun h=>?_) (fun h=>?_)<;>(try simp [-List.getD_eq_getElem?_getD,-Int.pred_toNat] at h)<;>(try (exfalso; first | omega | contradiction))) | (refine And.intro (rng64 (by omega) (by omega)) ?_) | (refine And.intro ⟨by omega,by omega⟩ ?_) | (refine And.intro ⟨by omega,by omega,by omega⟩ ?_) | (intro _)))
  refine Exists.intro [.take 1,.tree 3 [0,2,3] (.opt 0 (.opt 2 (.opt 3 .fin .non) .non) (.opt 2 (.opt 0 (.opt 3 .fin .non) (.opt 3 (.opt 0 .fin .non) .non)) .non)),.one 4,.one 5] (And.intro (by kernel_rfl) ?_)
  have hpl:p.length≤1000000:=by omega
  refine Exists.intro ⟨[(1,.ob 1 1 (.ln .pstep p)),(2,.pt 1000 0),(3,.pt 1001 0),(4,.pt 4 0),(13,.vec 1002 .psteps q),(16,.vec 16 .psteps [p])],[(1000,[.vec 1002 .psteps q]),(1001,[.fn 16 [.pt 1000 0,.pt 1001 0]]),(4,encVal y)]⟩ (And.intro ?_ ?_)
  · refine And.intro ?_ (And.intro ?_ trivial)
    · refine And.intro ?_ trivial
      refine Or.inr (Or.inr (Or.inr (Or.inr (Or.inr (Exists.intro [] (Exists.intro _ (Exists.intro _ (Exists.intro _ (Exists.intro _ (Exists.intro _ (Exists.intro _ (Exists.intro _ (Exists.intro [(0,1)] (Exists.intro [1] (Exists.intro [] (And.intro ((s_cloneM p hpl)) ?_))))))))))))))))
      refine (And.intro rfl (And.intro rfl (And.intro rfl (And.intro rfl (And.intro rfl (And.intro (And.intro rfl trivial) ?_))))))
      refine And.intro ?_ trivial
      (repeat' (first | exact trivial | exact Or.inl rfl | exact Or.inr (Or.inl ⟨rfl,_,rfl⟩) | exact Or.inr (Or.inr (Or.inr ⟨_,_,_,rfl,rfl⟩)) | refine And.intro ?_ ?_))
    · refine Or.inr (Or.inr (Or.inr (Or.inr (Or.inr (Exists.intro [] (Exists.intro _ (Exists.intro _ (Exists.intro _ (Exists.intro _ (Exists.intro _ (Exists.intro _ (Exists.intro _ (Exists.intro [(0,1)] (Exists.intro [1] (Exists.intro [] (And.intro ((s_cloneM p hpl)) ?_))))))))))))))))
      refine (And.intro rfl (And.intro rfl (And.intro rfl (And.intro rfl (And.intro rfl (And.intro (And.intro rfl trivial) ?_))))))
      refine And.intro ?_ (And.intro ?_ trivial)
      · refine And.intro ?_ trivial
        (repeat' (first | exact trivial | exact Or.inl rfl | exact Or.inr (Or.inl ⟨rfl,_,rfl⟩) | exact Or.inr (Or.inr (Or.inr ⟨_,_,_,rfl,rfl⟩)) | refine And.intro ?_ ?_))
      · refine And.intro ?_ trivial
        (repeat' (first | exact trivial | exact Or.inl rfl | exact Or.inr (Or.inl ⟨rfl,_,rfl⟩) | exact Or.inr (Or.inr (Or.inr ⟨_,_,_,rfl,rfl⟩)) | refine And.intro ?_ ?_))
  refine And.intro (show (q.length + 1) * 24≤140737488355328 by omega) ?_
  intro hl1
  have hl0:=len_le hl1
  refine Exists.intro [] (Exists.intro [] (Exists.intro [(17,1002)] (Exists.intro Nat (Exists.intro (fun i=>i≤y.l.length) (Exists.intro (fun i=>⟨[(1,.ob 1 1 (.ln .pstep p)),(2,.pt 1000 0),(3,.pt 1001 0),(4,.pt 4 0),(19,.rd .val y.l),(20,.i .i64 y.l.length),(21,.i .i64 i)],[(1000,[.vec 1002 .psteps (upL p q (y.l.take i))]),(1001,[.fn 16 [.pt 1000 0,.pt 1001 0]]),(4,encVal y)]⟩) (Exists.intro (fun i=>y.l.length - i) (Exists.intro 0 (And.intro (Nat.zero_le _) (And.intro ?_ ?_)))))))))
  · have e0:upL p q (y.l.take 0) = q++[p]:=by rw [List.take_zero,upL_nil]
    (repeat' (first | exact trivial | exact Or.inl rfl | exact Or.inl ((congrArg (AV.vec 1002 .psteps) e0.symm)) | refine And.intro ?_ ?_))
  · rintro i hi
    refine And.intro (fun hz=>?_) (fun hz=>?_)
    · have hi:=ltD hz
      have hg:=getI (τ:=.val) hi
      refine And.intro ⟨by omega,by omega⟩ ?_
      rw [hg]
      have hx:y.l[i] ∈ partsOf y:=List.mem_append_left _ (List.getElem_mem hi)
      have hle:=upL_le p q y i hi
      (repeat' (first | (refine And.intro (fun h=>?_) (fun h=>?_)<;>(try simp [-List.getD_eq_getElem?_getD,-Int.pred_toNat] at h)<;>(try (exfalso; first | omega | contradiction))) | (refine And.intro (rng64 (by omega) (by omega)) ?_) | (refine And.intro ⟨by omega,by omega⟩ ?_) | (refine And.intro ⟨by omega,by omega,by omega⟩ ?_) | (intro _)))
      have hst:=hn y.l[i] hx (p++[⟨[],(i:Int)⟩]) (upL p q (y.l.take i)) (by omega) (by rw [List.length_append,List.length_singleton]; have:=upL_le [] [] y i hi; rw [upL] at this; simp only [List.length_append,List.length_cons,List.length_nil] at this; omega)
      have e1:upL p q (y.l.take i)++(pathsV y.l[i]).map ((p++[⟨[],(i:Int)⟩])++·) = upL p q (y.l.take (i + 1)):=by rw [take_snoc hi,upL_snoc,List.length_take,Nat.min_eq_left (Nat.le_of_lt hi)]
      rw [e1] at hst
      refine Exists.intro [.take 2,.take 3,.tree 6 [0,1,4,5,6,7] (.opt 0 (.opt 1 (.opt 4 (.opt 5 (.opt 6 (.opt 7 .finR .non) .non) .non) .non) (.opt 4 (.opt 1 (.opt 5 (.opt 6 (.opt 7 .finR .non) .non) .non) (.opt 5 (.opt 1 (.opt 6 (.opt 7 .finR .non) .non) (.opt 6 (.opt 1 (.opt 7 .finR .non) .non) .non)) .non)) .non)) (.opt 1 (.opt 0 (.opt 4 (.opt 5 (.opt 6 (.opt 7 .finR .non) .non) .non) .non) (.opt 4 (.opt 0 (.opt 5 (.opt 6 (.opt 7 .finR .non) .non) .non) (.opt 5 (.opt 0 (.opt 6 (.opt 7 .finR .non) .non) (.opt 6 (.opt 0 (.opt 7 .finR .non) .non) .non)) .non)) .non)) (.opt 4 (.opt 0 (.opt 1 (.opt 5 (.opt 6 (.opt 7 .finR .non) .non) .non) (.opt 5 (.opt 1 (.opt 6 (.opt 7 .finR .non) .non) (.opt 6 (.opt 1 (.opt 7 .finR .non) .non) .non)) .non)) (.opt 1 (.opt 0 (.opt 5 (.opt 6 (.opt 7 .finR .non) .non) .non) (.opt 5 (.opt 0 (.opt 6 (.opt 7 .finR .non) .non) (.opt 6 (.opt 0 (.opt 7 .finR .non) .non) .non)) .non)) (.opt 5 (.opt 0 (.opt 1 (.opt 6 (.opt 7 .finR .non) .non) (.opt 6 (.opt 1 (.opt 7 .finR .non) .non) .non)) (.opt 1 (.opt 0 (.opt 6 (.opt 7 .finR .non) .non) (.opt 6 (.opt 0 (.opt 7 .finR .non) .non) .non)) (.opt 6 (.opt 0 (.opt 1 (.opt 7 .finR .non) .non) (.opt 1 (.opt 0 (.opt 7 .finR .non) .non) .non)) .non))) .non))) .non)))] (And.intro (by kernel_rfl) ?_)
      refine Exists.intro ⟨[(1,.ob 1 1 (.ln .pstep p)),(2,.pt 1000 0),(3,.pt 1001 0),(4,.pt 4 0),(19,.rd .val y.l),(20,.i .i64 y.l.length),(21,.i .i64 i)],[(1000,[.vec 1002 .psteps (upL p q (y.l.take (i + 1)))]),(1001,[.fn 16 [.pt 1000 0,.pt 1001 0]]),(4,encVal y)]⟩ (And.intro ?_ ?_)
      · repeat' (first | exact trivial | (refine And.intro (show (p.length + 1) * 24≤140737488355328 by omega) (And.intro ?_ (Exists.intro [1] (And.intro rfl (And.intro (And.intro rfl trivial) ?_))))) | refine And.intro ?_ ?_)
        all_goals first
          |
            refine Or.inr (Or.inr (Or.inr (Or.inr (Or.inr (Exists.intro [] (Exists.intro _ (Exists.intro _ (Exists.intro _ (Exists.intro _ (Exists.intro _ (Exists.intro _ (Exists.intro _ (Exists.intro [(1,32),(1000,1000),(1001,1001),(1002,1002)] (Exists.intro [] (Exists.intro [1] (And.intro (hst) ?_))))))))))))))))
            refine (And.intro rfl (And.intro rfl (And.intro rfl (And.intro rfl (And.intro rfl (And.intro rfl (And.intro rfl (And.intro trivial ?_))))))))
            refine And.intro (Exists.intro _ rfl) (And.intro (Exists.intro _ rfl) (And.intro rfl ?_))
            refine Exists.intro [(32,1)] ?_
            (repeat' (first | exact trivial | exact Or.inl rfl | exact Or.inr (Or.inl ⟨rfl,_,rfl⟩) | exact Or.inr (Or.inr (Or.inr ⟨_,_,_,rfl,rfl⟩)) | refine And.intro ?_ ?_))
            done
          |
            refine Or.inr (Or.inr (Or.inr (Or.inr (Or.inr (Exists.intro [] (Exists.intro _ (Exists.intro _ (Exists.intro _ (Exists.intro _ (Exists.intro _ (Exists.intro _ (Exists.intro _ (Exists.intro [(1,32),(1000,1000),(1001,1001),(1002,1002)] (Exists.intro [] (Exists.intro [] (And.intro (hst) ?_))))))))))))))))
            refine (And.intro rfl (And.intro rfl (And.intro rfl (And.intro rfl (And.intro rfl (And.intro rfl (And.intro rfl (And.intro trivial ?_))))))))
            refine Exists.intro [] ?_
            (repeat' (first | exact trivial | exact Or.inl rfl | exact Or.inr (Or.inl ⟨rfl,_,rfl⟩) | exact Or.inr (Or.inr (Or.inr ⟨_,_,_,rfl,rfl⟩)) | refine And.intro ?_ ?_))
            done
      · (refine And.intro (rng64 (by omega) (by omega)) ?_)
        refine Exists.intro [] (Exists.intro (i + 1) (And.intro hi (And.intro ?_ ?_)))
        · (repeat' (first | exact trivial | exact Or.inl rfl | exact Or.inr (Or.inl ⟨rfl,_,rfl⟩) | exact Or.inr (Or.inr (Or.inr ⟨_,_,_,rfl,rfl⟩)) | refine And.intro ?_ ?_))
        · (exact Nat.sub_lt_sub_left (by omega) (by omega))
    · (have hi:=geD hi hz)
      subst hi
      rw [List.take_length]
      intro hl2
      have hl3:=len_le hl2
      refine Exists.intro [] (Exists.intro [] (Exists.intro [] (Exists.intro Nat (Exists.intro (fun i=>i≤y.e.length) (Exists.intro (fun i=>⟨[(1,.ob 1 1 (.ln .pstep p)),(2,.pt 1000 0),(3,.pt 1001 0),(4,.pt 4 0),(36,.rd .ent y.e),(37,.i .i64 y.e.length),(38,.i .i64 i)],[(1000,[.vec 1002 .psteps (upE p q y.l (y.e.take i))]),(1001,[.fn 16 [.pt 1000 0,.pt 1001 0]]),(4,encVal y)]⟩) (Exists.intro (fun i=>y.e.length - i) (Exists.intro 0 (And.intro (Nat.zero_le _) (And.intro ?_ ?_)))))))))
      · have e0:upE p q y.l (y.e.take 0) = upL p q y.l:=by rw [List.take_zero,upE_nil]
        (repeat' (first | exact trivial | exact Or.inl rfl | exact Or.inl ((congrArg (AV.vec 1002 .psteps) e0.symm)) | refine And.intro ?_ ?_))
      · rintro i hi
        refine And.intro (fun hz=>?_) (fun hz=>?_)
        · have hi:=ltD hz
          have hg:=getI (τ:=.ent) hi
          refine And.intro ⟨by omega,by omega⟩ ?_
          rw [hg]
          have hx:y.e[i].2 ∈ partsOf y:=List.mem_append_right _ (List.mem_map_of_mem (List.getElem_mem hi))
          have hle:=upE_le p q y i hi
          (repeat' (first | (refine And.intro (fun h=>?_) (fun h=>?_)<;>(try simp [-List.getD_eq_getElem?_getD,-Int.pred_toNat] at h)<;>(try (exfalso; first | omega | contradiction))) | (refine And.intro (rng64 (by omega) (by omega)) ?_) | (refine And.intro ⟨by omega,by omega⟩ ?_) | (refine And.intro ⟨by omega,by omega,by omega⟩ ?_) | (intro _)))
          have hst:=hn y.e[i].2 hx (p++[⟨y.e[i].1,-1⟩]) (upE p q y.l (y.e.take i)) (by omega) (by rw [List.length_append,List.length_singleton]; have:=upE_le [] [] y i hi; rw [upE,upL] at this; simp only [List.length_append,List.length_cons,List.length_nil] at this; omega)
          have e1:upE p q y.l (y.e.take i)++(pathsV y.e[i].2).map ((p++[⟨y.e[i].1,-1⟩])++·) = upE p q y.l (y.e.take (i + 1)):=by rw [take_snoc hi,← upE_snoc]
          rw [e1] at hst
          refine Exists.intro [.take 1,.take 3,.take 4,.tree 7 [0,2,5,6,7,8,9] (.opt 0 (.opt 2 (.opt 5 (.opt 6 (.opt 7 (.opt 8 (.opt 9 .finR .non) .non) .non) .non) .non) (.opt 5 (.opt 2 (.opt 6 (.opt 7 (.opt 8 (.opt 9 .finR .non) .non) .non) .non) (.opt 6 (.opt 2 (.opt 7 (.opt 8 (.opt 9 .finR .non) .non) .non) (.opt 7 (.opt 2 (.opt 8 (.opt 9 .finR .non) .non) (.opt 8 (.opt 2 (.opt 9 .finR .non) .non) .non)) .non)) .non)) .non)) (.opt 2 (.opt 0 (.opt 5 (.opt 6 (.opt 7 (.opt 8 (.opt 9 .finR .non) .non) .non) .non) .non) (.opt 5 (.opt 0 (.opt 6 (.opt 7 (.opt 8 (.opt 9 .finR .non) .non) .non) .non) (.opt 6 (.opt 0 (.opt 7 (.opt 8 (.opt 9 .finR .non) .non) .non) (.opt 7 (.opt 0 (.opt 8 (.opt 9 .finR .non) .non) (.opt 8 (.opt 0 (.opt 9 .finR .non) .non) .non)) .non)) .non)) .non)) (.opt 5 (.opt 0 (.opt 2 (.opt 6 (.opt 7 (.opt 8 (.opt 9 .finR .non) .non) .non) .non) (.opt 6 (.opt 2 (.opt 7 (.opt 8 (.opt 9 .finR .non) .non) .non) (.opt 7 (.opt 2 (.opt 8 (.opt 9 .finR .non) .non) (.opt 8 (.opt 2 (.opt 9 .finR .non) .non) .non)) .non)) .non)) (.opt 2 (.opt 0 (.opt 6 (.opt 7 (.opt 8 (.opt 9 .finR .non) .non) .non) .non) (.opt 6 (.opt 0 (.opt 7 (.opt 8 (.opt 9 .finR .non) .non) .non) (.opt 7 (.opt 0 (.opt 8 (.opt 9 .finR .non) .non) (.opt 8 (.opt 0 (.opt 9 .finR .non) .non) .non)) .non)) .non)) (.opt 6 (.opt 0 (.opt 2 (.opt 7 (.opt 8 (.opt 9 .finR .non) .non) .non) (.opt 7 (.opt 2 (.opt 8 (.opt 9 .finR .non) .non) (.opt 8 (.opt 2 (.opt 9 .finR .non) .non) .non)) .non)) (.opt 2 (.opt 0 (.opt 7 (.opt 8 (.opt 9 .finR .non) .non) .non) (.opt 7 (.opt 0 (.opt 8 (.opt 9 .finR .non) .non) (.opt 8 (.opt 0 (.opt 9 .finR .non) .non) .non)) .non)) (.opt 7 (.opt 0 (.opt 2 (.opt 8 (.opt 9 .finR .non) .non) (.opt 8 (.opt 2 (.opt 9 .finR .non) .non) .non)) (.opt 2 (.opt 0 (.opt 8 (.opt 9 .finR .non) .non) (.opt 8 (.opt 0 (.opt 9 .finR .non) .non) .non)) (.opt 8 (.opt 0 (.opt 2 (.opt 9 .finR .non) .non) (.opt 2 (.opt 0 (.opt 9 .finR .non) .non) .non)) .non))) .non))) .non))) .non)))] (And.intro (by kernel_rfl) ?_)
          refine Exists.intro ⟨[(1,.ob 1 1 (.ln .pstep p)),(2,.pt 1000 0),(3,.pt 1001 0),(4,.pt 4 0),(36,.rd .ent y.e),(37,.i .i64 y.e.length),(38,.i .i64 i)],[(1000,[.vec 1002 .psteps (upE p q y.l (y.e.take (i + 1)))]),(1001,[.fn 16 [.pt 1000 0,.pt 1001 0]]),(4,encVal y)]⟩ (And.intro ?_ ?_)
          · repeat' (first | exact trivial | (refine And.intro (show (p.length + 1) * 24≤140737488355328 by omega) (And.intro ?_ (Exists.intro [1] (And.intro rfl (And.intro (And.intro rfl trivial) ?_))))) | refine And.intro ?_ ?_)
            all_goals first
              |
                refine Or.inr (Or.inr (Or.inr (Or.inr (Or.inr (Exists.intro [] (Exists.intro _ (Exists.intro _ (Exists.intro _ (Exists.intro _ (Exists.intro _ (Exists.intro _ (Exists.intro _ (Exists.intro [(1,50),(1000,1000),(1001,1001),(1002,1002)] (Exists.intro [] (Exists.intro [1] (And.intro (hst) ?_))))))))))))))))
                refine (And.intro rfl (And.intro rfl (And.intro rfl (And.intro rfl (And.intro rfl (And.intro rfl (And.intro rfl (And.intro trivial ?_))))))))
                refine And.intro (Exists.intro _ rfl) (And.intro (Exists.intro _ rfl) (And.intro rfl ?_))
                refine Exists.intro [(50,1)] ?_
                (repeat' (first | exact trivial | exact Or.inl rfl | exact Or.inr (Or.inl ⟨rfl,_,rfl⟩) | exact Or.inr (Or.inr (Or.inr ⟨_,_,_,rfl,rfl⟩)) | refine And.intro ?_ ?_))
                done
              |
                refine Or.inr (Or.inr (Or.inr (Or.inr (Or.inr (Exists.intro [] (Exists.intro _ (Exists.intro _ (Exists.intro _ (Exists.intro _ (Exists.intro _ (Exists.intro _ (Exists.intro _ (Exists.intro [(1,50),(1000,1000),(1001,1001),(1002,1002)] (Exists.intro [] (Exists.intro [] (And.intro (hst) ?_))))))))))))))))
                refine (And.intro rfl (And.intro rfl (And.intro rfl (And.intro rfl (And.intro rfl (And.intro rfl (And.intro rfl (And.intro trivial ?_))))))))
                refine Exists.intro [] ?_
                (repeat' (first | exact trivial | exact Or.inl rfl | exact Or.inr (Or.inl ⟨rfl,_,rfl⟩) | exact Or.inr (Or.inr (Or.inr ⟨_,_,_,rfl,rfl⟩)) | refine And.intro ?_ ?_))
                done
          · (refine And.intro (rng64 (by omega) (by omega)) ?_)
            refine Exists.intro [] (Exists.intro (i + 1) (And.intro hi (And.intro ?_ ?_)))
            · (repeat' (first | exact trivial | exact Or.inl rfl | exact Or.inr (Or.inl ⟨rfl,_,rfl⟩) | exact Or.inr (Or.inr (Or.inr ⟨_,_,_,rfl,rfl⟩)) | refine And.intro ?_ ?_))
            · (exact Nat.sub_lt_sub_left (by omega) (by omega))
        · (have hi:=geD hi hz)
          subst hi
          rw [List.take_length,upE_all]
          (repeat' (first | (refine And.intro (fun h=>?_) (fun h=>?_)<;>(try simp [-List.getD_eq_getElem?_getD,-Int.pred_toNat] at h)<;>(try (exfalso; first | omega | contradiction))) | (refine And.intro (rng64 (by omega) (by omega)) ?_) | (refine And.intro ⟨by omega,by omega⟩ ?_) | (refine And.intro ⟨by omega,by omega,by omega⟩ ?_) | (intro _)))
          exact And.intro rfl (Exists.intro [] (And.intro rfl (by (repeat' (first | exact trivial | exact Or.inl rfl | exact Or.inr (Or.inl ⟨rfl,_,rfl⟩) | exact Or.inr (Or.inr (Or.inr ⟨_,_,_,rfl,rfl⟩)) | refine And.intro ?_ ?_)))))
theorem s_all1 (y:Val) (hn:∀ x ∈ partsOf y,∀ (p:List PStep) (q:List (List PStep)),q.length + (pathsV x).length≤1000→p.length + (pathsV x).length≤100000→CSpecM Tryd.prog 16 [.agg (encVal x),.ob 1 1 (.ln .pstep p),.pt 1000 0,.pt 1001 0] [(1000,[.vec 1002 .psteps q]),(1001,[.fn 16 [.pt 1000 0,.pt 1001 0]])] (.tup []) 1 (.ob 1 1 (.ln .pstep p)) [(1000,[.vec 1002 .psteps (q++(pathsV x).map (p++·))]),(1001,[.fn 16 [.pt 1000 0,.pt 1001 0]])]) (p:List PStep) (q:List (List PStep)) (hq:q.length + (pathsV y).length≤1000) (hp:p.length + (pathsV y).length≤100000):CSpecM Tryd.prog 16 [.agg (encVal y),.ob 1 1 (.ln .pstep p),.pt 1000 0,.pt 1001 0] [(1000,[.vec 1002 .psteps q]),(1001,[.fn 16 [.pt 1000 0,.pt 1001 0]])] (.tup []) 1 (.ob 1 1 (.ln .pstep p)) [(1000,[.vec 1002 .psteps (q++(pathsV y).map (p++·))]),(1001,[.fn 16 [.pt 1000 0,.pt 1001 0]])] :=
  cspecM_of_vc Γ_good Tryd.func16 rfl Tryd.call16 Tryd.results16 Tryd.ntmps16 (Nat.le_of_ble_eq_true rfl) (Nat.le_of_ble_eq_true rfl) (by rfl) (Nat.lt_of_lt_of_le (Nat.lt_succ_self _) (Nat.le_of_ble_eq_true rfl)) (by kernel_rfl) (w_all1 y hn p q hq hp)
end
end Go.Proofs.YtnpmmkfdclhbeaaDoor
end
section
namespace Go.Proofs.YtnpmmkfdclhbeaaDoor
set_option linter.unusedSectionVars false
set_option linter.unusedSimpArgs false
set_option linter.unusedVariables false
open Go Go.SX Go.Vl Go.Ck Go.Up Go.Pl
set_option maxRecDepth 100000
set_option maxHeartbeats 4000000
section
variable [G:Globs]
theorem all_spec:∀ (n:Nat) (y:Val),SizeOf.sizeOf y < n→∀ (p:List PStep) (q:List (List PStep)),q.length + (pathsV y).length≤1000→p.length + (pathsV y).length≤100000→CSpecM Tryd.prog 16 [.agg (encVal y),.ob 1 1 (.ln .pstep p),.pt 1000 0,.pt 1001 0] [(1000,[.vec 1002 .psteps q]),(1001,[.fn 16 [.pt 1000 0,.pt 1001 0]])] (.tup []) 1 (.ob 1 1 (.ln .pstep p)) [(1000,[.vec 1002 .psteps (q++(pathsV y).map (p++·))]),(1001,[.fn 16 [.pt 1000 0,.pt 1001 0]])]
  | 0,_,h=>absurd h (Nat.not_lt_zero _)
  | n + 1,y,h=>fun p q h1 h2=>s_all1 y (fun x hx=>all_spec n x (by have:=parts_sz hx; omega)) p q h1 h2
theorem all_nil (y:Val) (h:(pathsV y).length≤1000):CSpec Tryd.prog 16 [.agg (encVal y),.nl,.pt 1000 0,.pt 1001 0] [(1000,[.vec 1002 .psteps []]),(1001,[.fn 16 [.pt 1000 0,.pt 1001 0]])] (.tup []) [(1000,[.vec 1002 .psteps (pathsV y)]),(1001,[.fn 16 [.pt 1000 0,.pt 1001 0]])]:=by
  have h1:=all_spec _ y (Nat.lt_succ_self _) [] [] (by simpa using h) (by simp only [List.length_nil]; omega)
  rw [List.nil_append,show (pathsV y).map (([]:List PStep)++·) = pathsV y from List.map_id _] at h1
  refine h1.nilArg (args':=[.agg (encVal y),.nl,.pt 1000 0,.pt 1001 0]) 1 .pstep rfl (Nat.le_of_ble_eq_true rfl) rfl (by rfl) ?_
  (repeat' (first | exact trivial | exact Or.inl rfl | exact Or.inr (Or.inl ⟨rfl,_,rfl⟩) | exact Or.inr (Or.inr (Or.inr ⟨_,_,_,rfl,rfl⟩)) | refine And.intro ?_ ?_))
  exact Or.inr (Or.inr (Or.inl (Or.inr ⟨_,_,_,rfl,rfl⟩)))
theorem w_all (y:Val) (h:(pathsV y).length≤1000):vc Tryd.prog Γ 10 [1,2,3,4] (Tryd.f7.body.getD .skip) (postK Γ [.tmp 2] (fun v=>v = .rd .psteps (pathsV y))) ⟨argSlots 0 [.agg (encVal y)],[]⟩:=by
  (repeat' (first | (refine And.intro (fun h=>?_) (fun h=>?_)<;>(try simp [-List.getD_eq_getElem?_getD,-Int.pred_toNat] at h)<;>(try (exfalso; first | omega | contradiction))) | (refine And.intro (rng64 (by omega) (by omega)) ?_) | (refine And.intro ⟨by omega,by omega⟩ ?_) | (refine And.intro ⟨by omega,by omega,by omega⟩ ?_) | (intro _)))
  refine Or.inr (Or.inl (Exists.intro [(3,0,5,.psteps)] (Exists.intro _ (Exists.intro _ (Exists.intro _ (Exists.intro _ (Exists.intro _ (Exists.intro [(1000,3),(1001,4),(1002,5)] (And.intro (all_nil y h) ?_)))))))))
  refine (And.intro rfl (And.intro rfl (And.intro rfl (And.intro rfl (And.intro rfl (And.intro rfl ?_))))))
  rfl
theorem s_all (y:Val) (h:(pathsV y).length≤1000):PSpec Tryd.prog 7 [.agg (encVal y)] (.rd .psteps (pathsV y)) :=
  pspec_of_vc Γ_good Tryd.func7 rfl Tryd.call7 Tryd.results7 Tryd.ntmps7 (Nat.le_of_ble_eq_true rfl) (w_all y h)
end
end Go.Proofs.YtnpmmkfdclhbeaaDoor
end
section
namespace Go.Proofs.YtnpmmkfdclhbeaaDoor
set_option linter.unusedSectionVars false
set_option linter.unusedSimpArgs false
set_option linter.unusedVariables false
open Go Go.SX Go.Vl Go.Ck Go.Up Go.Pl
set_option maxRecDepth 100000
set_option maxHeartbeats 4000000
theorem pathsL_mem {p:List PStep}:∀ {l:List Val} {i:Nat},p ∈ pathsL l i→∃ x ∈ l,∃ s,∃ r ∈ pathsV x,p = s::r
  | [],i,h=>by rw [pathsL] at h; cases h
  | y::t,i,h=>by
    rw [pathsL] at h
    rcases List.mem_append.1 h with h | h
    · obtain ⟨r,hr,rfl⟩:=List.mem_map.1 h
      exact ⟨y,.head _,_,r,hr,rfl⟩
    · obtain ⟨x,hx,h⟩:=pathsL_mem h
      exact ⟨x,.tail _ hx,h⟩
theorem pathsE_mem {p:List PStep}:∀ {l:List (Str × Val)},p ∈ pathsE l→∃ x ∈ l,∃ s,∃ r ∈ pathsV x.2,p = s::r
  | [],h=>by rw [pathsE] at h; cases h
  | (k,y)::t,h=>by
    rw [pathsE,pathsQ] at h
    rcases List.mem_append.1 h with h | h
    · obtain ⟨r,hr,rfl⟩:=List.mem_map.1 h
      exact ⟨(k,y),.head _,_,r,hr,rfl⟩
    · obtain ⟨x,hx,h⟩:=pathsE_mem h
      exact ⟨x,.tail _ hx,h⟩
theorem len_part {v x:Val} (hx:x ∈ partsOf v):(pathsV x).length < (pathsV v).length:=by
  have h1:=len_paths _ v (Nat.lt_succ_self _)
  have h2:=len_paths _ x (Nat.lt_succ_self _)
  have h3:=(siz_parts v).2 x hx
  omega
theorem path_len:∀ (n:Nat) (v:Val),SizeOf.sizeOf v < n→∀ p ∈ pathsV v,p.length < (pathsV v).length
  | 0,_,h=>absurd h (Nat.not_lt_zero _)
  | n + 1,v,h=>fun p hp=>by
    have e:=pathsV_eq v
    rw [e] at hp
    rcases List.mem_cons.1 hp with rfl | hp
    · rw [e,List.length_cons]; exact Nat.succ_pos _
    · obtain ⟨x, hx, s, r, hr, rfl⟩ : ∃ x ∈ partsOf v, ∃ s, ∃ r ∈ pathsV x, p = s :: r := by
        rcases List.mem_append.1 hp with hp | hp
        · obtain ⟨x,hx,h⟩:=pathsL_mem hp
          exact ⟨x,List.mem_append_left _ hx,h⟩
        · obtain ⟨x,hx,h⟩:=pathsE_mem hp
          exact ⟨x.2,List.mem_append_right _ (List.mem_map_of_mem hx),h⟩
      have h1:=path_len n x (by have:=parts_sz hx; omega) r hr
      have h2:=len_part hx
      rw [List.length_cons]
      omega
section
variable [G:Globs]
theorem w_undr (s:PStep) (y:Val) (q:List (List PStep)) (hc:PSpec Tryd.prog 8 [.agg (encVal y)] (.rd .psteps (pathsV y))) (hq:q.length + (pathsV y).length≤100000) (hb:∀ p ∈ pathsV y,p.length≤100000):vc Tryd.prog Γ 22 [2,3,4,6,8,9,10,11,1000,1001] (Tryd.f18.body.getD .skip) (postBK Γ [] (.tup []) [(1000,[.vec 1001 .psteps (q++(pathsV y).map (s::·))])]) ⟨argSlots 0 [.agg (enc .pstep s),.agg (encVal y),.pt 1000 0],[(1000,[.vec 1001 .psteps q])]⟩:=by
  (repeat' (first | (refine And.intro (fun h=>?_) (fun h=>?_)<;>(try simp [-List.getD_eq_getElem?_getD,-Int.pred_toNat] at h)<;>(try (exfalso; first | omega | contradiction))) | (refine And.intro (rng64 (by omega) (by omega)) ?_) | (refine And.intro ⟨by omega,by omega⟩ ?_) | (refine And.intro ⟨by omega,by omega,by omega⟩ ?_) | (intro _)))
  refine Or.inl (Exists.intro _ (And.intro (hc) ?_))
  intro hl
  have hl0:=len_le hl
  refine Exists.intro [] (Exists.intro [] (Exists.intro [] (Exists.intro Nat (Exists.intro (fun i=>i≤(pathsV y).length) (Exists.intro (fun i=>⟨[(2,.pt 1000 0),(3,.pt 3 0),(8,.rd .psteps (pathsV y)),(9,.i .i64 (pathsV y).length),(10,.i .i64 i)],[(1000,[.vec 1001 .psteps (q++((pathsV y).take i).map (s::·))]),(3,enc .pstep s)]⟩) (Exists.intro (fun i=>(pathsV y).length - i) (Exists.intro 0 (And.intro (Nat.zero_le _) (And.intro ?_ ?_)))))))))
  · (repeat' (first | exact trivial | exact Or.inl rfl | exact Or.inl ((congrArg (AV.vec 1001 .psteps) (List.append_nil q).symm)) | refine And.intro ?_ ?_))
  · rintro i hi
    refine And.intro (fun hz=>?_) (fun hz=>?_)
    · have hi:=ltD hz
      have hg:=getI (τ:=.psteps) hi
      refine And.intro ⟨by omega,by omega⟩ ?_
      rw [hg]
      have hbi:=hb _ (List.getElem_mem hi)
      (repeat' (first | (refine And.intro (fun h=>?_) (fun h=>?_)<;>(try simp [-List.getD_eq_getElem?_getD,-Int.pred_toNat] at h)<;>(try (exfalso; first | omega | contradiction))) | (refine And.intro (rng64 (by omega) (by omega)) ?_) | (refine And.intro ⟨by omega,by omega⟩ ?_) | (refine And.intro ⟨by omega,by omega,by omega⟩ ?_) | (intro _)))
      refine Exists.intro [.take 3,.tree 5 [0,1,2,4,5] (.opt 0 (.opt 1 (.opt 2 (.opt 4 (.opt 5 .fin .non) .non) .non) .non) (.opt 1 (.opt 0 (.opt 2 (.opt 4 (.opt 5 .fin .non) .non) .non) (.opt 2 (.opt 0 (.opt 4 (.opt 5 .fin .non) .non) (.opt 4 (.opt 0 (.opt 5 .fin .non) (.opt 5 (.opt 0 .fin .non) .non)) .non)) .non)) .non)),.one 6,.one 7] (And.intro (by kernel_rfl) ?_)
      have e1:q++((pathsV y).take i).map (s::·)++[s::(pathsV y)[i]] = q++((pathsV y).take (i + 1)).map (s::·):=by rw [take_snoc hi,List.map_append,List.append_assoc]; rfl
      refine Exists.intro ⟨[(2,.pt 1000 0),(3,.pt 3 0),(8,.rd .psteps (pathsV y)),(9,.i .i64 (pathsV y).length),(10,.i .i64 i),(14,.vec 1001 .psteps (q++((pathsV y).take i).map (s::·))),(19,.vec 19 .psteps [s::(pathsV y)[i]])],[(1000,[.vec 1001 .psteps (q++((pathsV y).take i).map (s::·))]),(3,enc .pstep s)]⟩ (And.intro ?_ ?_)
      · repeat' (first | exact trivial | (refine And.intro (show (1 + (pathsV y)[i].length) * 24≤140737488355328 by omega) ?_) | refine And.intro ?_ ?_)
        all_goals (repeat' (first | exact trivial | exact Or.inl rfl | exact Or.inr (Or.inl ⟨rfl,_,rfl⟩) | exact Or.inr (Or.inr (Or.inr ⟨_,_,_,rfl,rfl⟩)) | refine And.intro ?_ ?_))
      refine And.intro (show ((q++((pathsV y).take i).map (s::·)).length + 1) * 24≤140737488355328 by simp only [List.length_append,List.length_map,List.length_take]; omega) ?_
      (refine And.intro (rng64 (by omega) (by omega)) ?_)
      refine Exists.intro [(20,1001)] (Exists.intro (i + 1) (And.intro hi (And.intro ?_ ?_)))
      · (repeat' (first | exact trivial | exact Or.inl rfl | exact Or.inl ((congrArg (AV.vec 1001 .psteps) e1)) | refine And.intro ?_ ?_))
      · (exact Nat.sub_lt_sub_left (by omega) (by omega))
    · (have hi:=geD hi hz)
      subst hi
      rw [List.take_length]
      refine Exists.intro [] ?_
      exact And.intro rfl (by (repeat' (first | exact trivial | exact Or.inl rfl | exact Or.inr (Or.inl ⟨rfl,_,rfl⟩) | exact Or.inr (Or.inr (Or.inr ⟨_,_,_,rfl,rfl⟩)) | refine And.intro ?_ ?_)))
theorem s_undr (s:PStep) (y:Val) (q:List (List PStep)) (hc:PSpec Tryd.prog 8 [.agg (encVal y)] (.rd .psteps (pathsV y))) (hq:q.length + (pathsV y).length≤100000) (hb:∀ p ∈ pathsV y,p.length≤100000):CSpec Tryd.prog 18 [.agg (enc .pstep s),.agg (encVal y),.pt 1000 0] [(1000,[.vec 1001 .psteps q])] (.tup []) [(1000,[.vec 1001 .psteps (q++(pathsV y).map (s::·))])] :=
  cspec_of_vc Γ_good Tryd.func18 rfl Tryd.call18 Tryd.results18 Tryd.ntmps18 (Nat.le_of_ble_eq_true rfl) (Nat.le_of_ble_eq_true rfl) (by rfl) (w_undr s y q hc hq hb)
theorem w_pathsOf (y:Val) (hn:(pathsV y).length≤1000) (hc:∀ x ∈ partsOf y,PSpec Tryd.prog 8 [.agg (encVal x)] (.rd .psteps (pathsV x))):vc Tryd.prog Γ 41 [1,2,3,4,5,6,8,12,13,14,15,26,27,28,29] (Tryd.f8.body.getD .skip) (postK Γ [.tmp 2] (fun v=>v = .rd .psteps (pathsV y))) ⟨argSlots 0 [.agg (encVal y)],[]⟩:=by
  intro hl1
  have hl0:=len_le hl1
  refine Exists.intro [] (Exists.intro [] (Exists.intro [] (Exists.intro Nat (Exists.intro (fun i=>i≤y.l.length) (Exists.intro (fun i=>⟨[(1,.pt 1 0),(3,.pt 3 0),(4,.fn 18 [.pt 3 0]),(12,.rd .val y.l),(13,.i .i64 y.l.length),(14,.i .i64 i)],[(1,encVal y),(3,[.vec 9 .psteps (upL [] [] (y.l.take i))])]⟩) (Exists.intro (fun i=>y.l.length - i) (Exists.intro 0 (And.intro (Nat.zero_le _) (And.intro ?_ ?_)))))))))
  · have e0:upL [] [] (y.l.take 0) = [[]]:=by rw [List.take_zero,upL_nil]; rfl
    (repeat' (first | exact trivial | exact Or.inl rfl | exact Or.inl ((congrArg (AV.vec 9 .psteps) e0.symm)) | refine And.intro ?_ ?_))
  · rintro i hi
    refine And.intro (fun hz=>?_) (fun hz=>?_)
    · have hi:=ltD hz
      have hg:=getI (τ:=.val) hi
      refine And.intro ⟨by omega,by omega⟩ ?_
      rw [hg]
      have hx:y.l[i] ∈ partsOf y:=List.mem_append_left _ (List.getElem_mem hi)
      have hle:=upL_le [] [] y i hi
      rw [List.length_nil,Nat.zero_add] at hle
      have hP:=len_part hx
      have hst:=s_undr ⟨[],(i:Int)⟩ y.l[i] (upL [] [] (y.l.take i)) (hc _ hx) (by omega) (fun p hp=>by have:=path_len _ _ (Nat.lt_succ_self _) p hp; omega)
      have e1:upL [] [] (y.l.take i)++(pathsV y.l[i]).map ((⟨[],(i:Int)⟩:PStep)::·) = upL [] [] (y.l.take (i + 1)):=by rw [take_snoc hi,upL_snoc,List.length_take,Nat.min_eq_left (Nat.le_of_lt hi)]; rfl
      rw [e1] at hst
      (repeat' (first | (refine And.intro (fun h=>?_) (fun h=>?_)<;>(try simp [-List.getD_eq_getElem?_getD,-Int.pred_toNat] at h)<;>(try (exfalso; first | omega | contradiction))) | (refine And.intro (rng64 (by omega) (by omega)) ?_) | (refine And.intro ⟨by omega,by omega⟩ ?_) | (refine And.intro ⟨by omega,by omega,by omega⟩ ?_) | (intro _)))
      refine Or.inr (Or.inl (Exists.intro [] (Exists.intro _ (Exists.intro _ (Exists.intro _ (Exists.intro _ (Exists.intro _ (Exists.intro [(1000,3),(1001,9)] (And.intro (hst) ?_)))))))))
      refine (And.intro rfl (And.intro rfl (And.intro rfl (And.intro rfl (And.intro rfl ?_)))))
      (refine And.intro (rng64 (by omega) (by omega)) ?_)
      refine Exists.intro [] (Exists.intro (i + 1) (And.intro hi (And.intro ?_ ?_)))
      · (repeat' (first | exact trivial | exact Or.inl rfl | exact Or.inr (Or.inl ⟨rfl,_,rfl⟩) | exact Or.inr (Or.inr (Or.inr ⟨_,_,_,rfl,rfl⟩)) | refine And.intro ?_ ?_))
      · (exact Nat.sub_lt_sub_left (by omega) (by omega))
    · (have hi:=geD hi hz)
      subst hi
      rw [List.take_length]
      intro hl2
      have hl3:=len_le hl2
      refine Exists.intro [] (Exists.intro [] (Exists.intro [] (Exists.intro Nat (Exists.intro (fun i=>i≤y.e.length) (Exists.intro (fun i=>⟨[(3,.pt 3 0),(4,.fn 18 [.pt 3 0]),(26,.rd .ent y.e),(27,.i .i64 y.e.length),(28,.i .i64 i)],[(3,[.vec 9 .psteps (upE [] [] y.l (y.e.take i))])]⟩) (Exists.intro (fun i=>y.e.length - i) (Exists.intro 0 (And.intro (Nat.zero_le _) (And.intro ?_ ?_)))))))))
      · have e0:upE [] [] y.l (y.e.take 0) = upL [] [] y.l:=by rw [List.take_zero,upE_nil]
        (repeat' (first | exact trivial | exact Or.inl rfl | exact Or.inl ((congrArg (AV.vec 9 .psteps) e0.symm)) | refine And.intro ?_ ?_))
      · rintro i hi
        refine And.intro (fun hz=>?_) (fun hz=>?_)
        · have hi:=ltD hz
          have hg:=getI (τ:=.ent) hi
          refine And.intro ⟨by omega,by omega⟩ ?_
          rw [hg]
          have hx:y.e[i].2 ∈ partsOf y:=List.mem_append_right _ (List.mem_map_of_mem (List.getElem_mem hi))
          have hle:=upE_le [] [] y i hi
          rw [List.length_nil,Nat.zero_add] at hle
          have hP:=len_part hx
          have hst:=s_undr ⟨y.e[i].1,-1⟩ y.e[i].2 (upE [] [] y.l (y.e.take i)) (hc _ hx) (by omega) (fun p hp=>by have:=path_len _ _ (Nat.lt_succ_self _) p hp; omega)
          have e1:upE [] [] y.l (y.e.take i)++(pathsV y.e[i].2).map ((⟨y.e[i].1,-1⟩:PStep)::·) = upE [] [] y.l (y.e.take (i + 1)):=by rw [take_snoc hi]; exact (upE_snoc [] [] y.l (y.e.take i) y.e[i].1 y.e[i].2).symm
          rw [e1] at hst
          (repeat' (first | (refine And.intro (fun h=>?_) (fun h=>?_)<;>(try simp [-List.getD_eq_getElem?_getD,-Int.pred_toNat] at h)<;>(try (exfalso; first | omega | contradiction))) | (refine And.intro (rng64 (by omega) (by omega)) ?_) | (refine And.intro ⟨by omega,by omega⟩ ?_) | (refine And.intro ⟨by omega,by omega,by omega⟩ ?_) | (intro _)))
          refine Or.inr (Or.inl (Exists.intro [] (Exists.intro _ (Exists.intro _ (Exists.intro _ (Exists.intro _ (Exists.intro _ (Exists.intro [(1000,3),(1001,9)] (And.intro (hst) ?_)))))))))
          refine (And.intro rfl (And.intro rfl (And.intro rfl (And.intro rfl (And.intro rfl ?_)))))
          (refine And.intro (rng64 (by omega) (by omega)) ?_)
          refine Exists.intro [] (Exists.intro (i + 1) (And.intro hi (And.intro ?_ ?_)))
          · (repeat' (first | exact trivial | exact Or.inl rfl | exact Or.inr (Or.inl ⟨rfl,_,rfl⟩) | exact Or.inr (Or.inr (Or.inr ⟨_,_,_,rfl,rfl⟩)) | refine And.intro ?_ ?_))
          · (exact Nat.sub_lt_sub_left (by omega) (by omega))
        · (have hi:=geD hi hz)
          subst hi
          have e2:upE [] [] y.l y.e = pathsV y:=by rw [upE_all,List.nil_append]; exact List.map_id _
          rw [List.take_length,e2]
          (repeat' (first | (refine And.intro (fun h=>?_) (fun h=>?_)<;>(try simp [-List.getD_eq_getElem?_getD,-Int.pred_toNat] at h)<;>(try (exfalso; first | omega | contradiction))) | (refine And.intro (rng64 (by omega) (by omega)) ?_) | (refine And.intro ⟨by omega,by omega⟩ ?_) | (refine And.intro ⟨by omega,by omega,by omega⟩ ?_) | (intro _)))
          rfl
theorem s_pathsOf (y:Val) (hn:(pathsV y).length≤1000) (hc:∀ x ∈ partsOf y,PSpec Tryd.prog 8 [.agg (encVal x)] (.rd .psteps (pathsV x))):PSpec Tryd.prog 8 [.agg (encVal y)] (.rd .psteps (pathsV y)) :=
  pspec_of_vc Γ_good Tryd.func8 rfl Tryd.call8 Tryd.results8 Tryd.ntmps8 (Nat.le_of_ble_eq_true rfl) (w_pathsOf y hn hc)
theorem paths_spec:∀ (n:Nat) (y:Val),SizeOf.sizeOf y < n→(pathsV y).length≤1000→PSpec Tryd.prog 8 [.agg (encVal y)] (.rd .psteps (pathsV y))
  | 0,_,h,_=>absurd h (Nat.not_lt_zero _)
  | n + 1,y,h,hn=>s_pathsOf y hn fun x hx=>paths_spec n x (by have:=parts_sz hx; omega) (by have:=len_part hx; omega)
end
end Go.Proofs.YtnpmmkfdclhbeaaDoor
end
section
namespace Go.Proofs.YtnpmmkfdclhbeaaDoor
set_option linter.unusedSectionVars false
set_option linter.unusedSimpArgs false
set_option linter.unusedVariables false
open Go Go.SX Go.Vl Go.Up
set_option maxRecDepth 100000
set_option maxHeartbeats 4000000
section
variable [G:Globs]
theorem w_samePath (l k:List PStep):vc Tryd.prog Γ 26 [0,1,4,5,10,12,13,14,24] (Tryd.f15.body.getD .skip) (postK Γ [.tmp 4] (fun v=>v = .b (decide (l = k)))) ⟨argSlots 0 [.rd .pstep l,.rd .pstep k],[]⟩:=by
  intro hl
  intro hk
  refine And.intro (fun hq=>?_) (fun hq=>?_)
  · have hq:l.length≠k.length:=by have:=hq; simp only [bne_iff_ne,ne_eq] at this; omega
    refine congrArg AV.b ?_
    rw [eq_comm,decide_eq_false_iff_not]
    exact fun e=>hq (by rw [e])
  have hq:l.length = k.length:=by have:((l.length:Int) != (k.length:Int)) = false:=hq; simp only [bne_eq_false_iff_eq] at this; omega
  intro _
  refine Exists.intro [] (Exists.intro [] (Exists.intro [] (Exists.intro Nat (Exists.intro (fun i=>i≤(l).length∧(l.take i = k.take i)) (Exists.intro (fun i=>⟨[(0,.rd .pstep l),(1,.rd .pstep k),(12,.i .i64 l.length),(13,.i .i64 i)],[]⟩) (Exists.intro (fun i=>(l).length - i) (Exists.intro 0 (And.intro ⟨Nat.zero_le _,rfl⟩ (And.intro ?_ ?_)))))))))
  · (repeat' (first | exact trivial | exact Or.inl rfl | exact Or.inr (Or.inl ⟨rfl,_,rfl⟩) | exact Or.inr (Or.inr (Or.inr ⟨_,_,_,rfl,rfl⟩)) | refine And.intro ?_ ?_))
  rintro i ⟨hi,hI⟩
  refine And.intro (fun hz=>?_) (fun hz=>?_)
  · have hi:=ltD hz
    have hg:=getI (τ:=.pstep) hi
    have hg2:=getI (τ:=.pstep) (l:=k) (show i < k.length by omega)
    refine Exists.intro [.blk [0,1,2,3,4,5,6,7,8]] (And.intro (by kernel_rfl) ?_)
    refine And.intro ⟨by omega,by omega⟩ ?_
    refine And.intro ⟨by omega,by omega⟩ ?_
    rw [hg,hg2]
    have hik:i < k.length:=by omega
    have hll:=len_le hl
    have hst:(l[i].key == k[i].key && (decide (l[i].i = k[i].i) && true)) = decide (l[i] = k[i]):=by
      rw [Bool.eq_iff_iff]
      simp only [Bool.and_true,Bool.and_eq_true,beq_iff_eq,decide_eq_true_eq]
      constructor
      · rintro ⟨h1,h2⟩
        cases hl1:l[i]; cases hk1:k[i]
        rw [hl1,hk1] at h1 h2
        simp only at h1 h2
        rw [h1,h2]
      · intro h; rw [h]; exact ⟨rfl,rfl⟩
    refine And.intro (fun hc=>?_) (fun hc=>?_)
    · have hc:(!(l[i].key == k[i].key && (decide (l[i].i = k[i].i) && true))) = true:=hc
      rw [hst] at hc
      have hne:l[i]≠k[i]:=by simpa using hc
      refine congrArg AV.b ?_
      rw [eq_comm,decide_eq_false_iff_not]
      intro e
      exact hne (by subst e; rfl)
    · have hc:(!(l[i].key == k[i].key && (decide (l[i].i = k[i].i) && true))) = false:=hc
      rw [hst] at hc
      have heq:l[i] = k[i]:=by simpa using hc
      (refine And.intro (rng64 (by omega) (by omega)) ?_)
      refine Exists.intro [] (Exists.intro (_ + 1) (And.intro ⟨hi,(by rw [take_snoc hi,take_snoc hik,hI,heq])⟩ (And.intro ?_ ?_)))
      · (repeat' (first | exact trivial | exact Or.inl rfl | exact Or.inr (Or.inl ⟨rfl,_,rfl⟩) | exact Or.inr (Or.inr (Or.inr ⟨_,_,_,rfl,rfl⟩)) | refine And.intro ?_ ?_))
      · (exact Nat.sub_lt_sub_left (by omega) (by omega))
  · (have hi:=geD hi hz)
    subst hi
    rw [List.take_length,hq,List.take_length] at hI
    exact congrArg AV.b (by rw [eq_comm,decide_eq_true_eq]; exact hI)
theorem s_samePath (l k:List PStep):PSpec Tryd.prog 15 [.rd .pstep l,.rd .pstep k] (.b (decide (l = k))) :=
  pspec_of_vc Γ_good Tryd.func15 rfl Tryd.call15 Tryd.results15 Tryd.ntmps15 (Nat.le_of_ble_eq_true rfl) (w_samePath l k)
theorem w_samePaths (l k:List (List PStep)):vc Tryd.prog Γ 27 [0,1,4,5,10,12,13,14,25] (Tryd.f6.body.getD .skip) (postK Γ [.tmp 4] (fun v=>v = .b (decide (l = k)))) ⟨argSlots 0 [.rd .psteps l,.rd .psteps k],[]⟩:=by
  intro hl
  intro hk
  refine And.intro (fun hq=>?_) (fun hq=>?_)
  · have hq:l.length≠k.length:=by have:=hq; simp only [bne_iff_ne,ne_eq] at this; omega
    refine congrArg AV.b ?_
    rw [eq_comm,decide_eq_false_iff_not]
    exact fun e=>hq (by rw [e])
  have hq:l.length = k.length:=by have:((l.length:Int) != (k.length:Int)) = false:=hq; simp only [bne_eq_false_iff_eq] at this; omega
  intro _
  refine Exists.intro [] (Exists.intro [] (Exists.intro [] (Exists.intro Nat (Exists.intro (fun i=>i≤(l).length∧(l.take i = k.take i)) (Exists.intro (fun i=>⟨[(0,.rd .psteps l),(1,.rd .psteps k),(12,.i .i64 l.length),(13,.i .i64 i)],[]⟩) (Exists.intro (fun i=>(l).length - i) (Exists.intro 0 (And.intro ⟨Nat.zero_le _,rfl⟩ (And.intro ?_ ?_)))))))))
  · (repeat' (first | exact trivial | exact Or.inl rfl | exact Or.inr (Or.inl ⟨rfl,_,rfl⟩) | exact Or.inr (Or.inr (Or.inr ⟨_,_,_,rfl,rfl⟩)) | refine And.intro ?_ ?_))
  rintro i ⟨hi,hI⟩
  refine And.intro (fun hz=>?_) (fun hz=>?_)
  · have hi:=ltD hz
    have hg:=getI (τ:=.psteps) hi
    have hg2:=getI (τ:=.psteps) (l:=k) (show i < k.length by omega)
    have hik:i < k.length:=by omega
    have hll:=len_le hl
    have hS:=s_samePath l[i] k[i]
    rw [← hg,← hg2] at hS
    refine Exists.intro [.blk [0,1,2,3,4,5,6,7,8,9]] (And.intro (by kernel_rfl) ?_)
    (repeat' (first | (refine And.intro (fun h=>?_) (fun h=>?_)<;>(try simp [-List.getD_eq_getElem?_getD,-Int.pred_toNat] at h)<;>(try (exfalso; first | omega | contradiction))) | (refine And.intro (rng64 (by omega) (by omega)) ?_) | (refine And.intro ⟨by omega,by omega⟩ ?_) | (refine And.intro ⟨by omega,by omega,by omega⟩ ?_) | (intro _)))
    refine Exists.intro _ (And.intro (hS) ?_)
    rw [hg,hg2]
    refine And.intro (fun hc=>?_) (fun hc=>?_)
    · have hne:l[i]≠k[i]:=by simpa using (show (!decide (l[i] = k[i])) = true from hc)
      refine congrArg AV.b ?_
      rw [eq_comm,decide_eq_false_iff_not]
      intro e
      exact hne (by subst e; rfl)
    · have heq:l[i] = k[i]:=by simpa using (show (!decide (l[i] = k[i])) = false from hc)
      (refine And.intro (rng64 (by omega) (by omega)) ?_)
      refine Exists.intro [] (Exists.intro (_ + 1) (And.intro ⟨hi,(by rw [take_snoc hi,take_snoc hik,hI,heq])⟩ (And.intro ?_ ?_)))
      · (repeat' (first | exact trivial | exact Or.inl rfl | exact Or.inr (Or.inl ⟨rfl,_,rfl⟩) | exact Or.inr (Or.inr (Or.inr ⟨_,_,_,rfl,rfl⟩)) | refine And.intro ?_ ?_))
      · (exact Nat.sub_lt_sub_left (by omega) (by omega))
  · (have hi:=geD hi hz)
    subst hi
    rw [List.take_length,hq,List.take_length] at hI
    exact congrArg AV.b (by rw [eq_comm,decide_eq_true_eq]; exact hI)
theorem s_samePaths (l k:List (List PStep)):PSpec Tryd.prog 6 [.rd .psteps l,.rd .psteps k] (.b (decide (l = k))) :=
  pspec_of_vc Γ_good Tryd.func6 rfl Tryd.call6 Tryd.results6 Tryd.ntmps6 (Nat.le_of_ble_eq_true rfl) (w_samePaths l k)
end
end Go.Proofs.YtnpmmkfdclhbeaaDoor
end
section
namespace Go.Proofs.YtnpmmkfdclhbeaaDoor
set_option linter.unusedSectionVars false
set_option linter.unusedSimpArgs false
set_option linter.unusedVariables false
open Go Go.SX Go.Ck Go.Vl
set_option maxRecDepth 100000
set_option maxHeartbeats 1000000
section
variable [G:Globs]
theorem w_sizeD (a:Val) (hn:(sizV a).2≤1000000000) (hl:∀ x ∈ a.l,PSpec Tryd.prog 4 [.agg (encVal x)] (.tup [.i .i64 (sizV x).1,.i .i64 (sizV x).2])) (he:∀ x ∈ a.e,PSpec Tryd.prog 4 [.agg (encVal x.2)] (.tup [.i .i64 (sizV x.2).1,.i .i64 (sizV x.2).2])):vc Tryd.prog Γ 56 [1,2,3,4,5,7,8,9,11,12,13,15,16,17,18,34,35,36,37] (Tryd.f4.body.getD .skip) (postK Γ [.tmp 2,.tmp 3] (fun v=>v = .tup [.i .i64 (sizV a).1,.i .i64 (sizV a).2])) ⟨argSlots 0 [.agg (encVal a)],[]⟩:=by
  intro hll
  have hlen:=siz_len a
  refine Exists.intro [] (Exists.intro [] (Exists.intro [] (Exists.intro Nat (Exists.intro (fun i=>i≤a.l.length) (Exists.intro (fun i=>⟨[(1,.pt 1 0),(4,.i .i64 (foldS (a.l.take i) (0,1)).1),(5,.i .i64 (foldS (a.l.take i) (0,1)).2),(15,.rd .val a.l),(16,.i .i64 a.l.length),(17,.i .i64 i)],[(1,encVal a)]⟩) (Exists.intro (fun i=>a.l.length - i) (Exists.intro 0 (And.intro (Nat.zero_le _) (And.intro ?_ ?_)))))))))
  · (repeat' (first | exact trivial | exact Or.inl rfl | exact Or.inr (Or.inl ⟨rfl,_,rfl⟩) | exact Or.inr (Or.inr (Or.inr ⟨_,_,_,rfl,rfl⟩)) | refine And.intro ?_ ?_))
  · rintro i hi
    refine And.intro (fun hz=>?_) (fun hz=>?_)
    · have hi:=ltD hz
      have hg:=getI (τ:=.val) hi
      refine And.intro ⟨by omega,by omega⟩ ?_
      rw [hg]
      have hs:=hl a.l[i] (List.getElem_mem hi)
      refine Or.inl (Exists.intro _ (And.intro (hs) ?_))
      have e1:foldS (a.l.take (i + 1)) (0,1) = addS (foldS (a.l.take i) (0,1)) (sizV a.l[i]):=by rw [take_snoc hi,foldS_snoc]
      have h1:=siz_pre (v:=a) (l:=a.l.take i) (k:=a.l.drop i++a.e.map (·.2)) (by rw [← List.append_assoc,List.take_append_drop]; rfl)
      have h2:=siz_pre (v:=a) (l:=a.l.take (i + 1)) (k:=a.l.drop (i + 1)++a.e.map (·.2)) (by rw [← List.append_assoc,List.take_append_drop]; rfl)
      have e2:(foldS (a.l.take (i + 1)) (0,1)).2 = (foldS (a.l.take i) (0,1)).2 + (sizV a.l[i]).2:=congrArg (·.2) e1
      have e3:(foldS (a.l.take (i + 1)) (0,1)).1 = _:=congrArg (·.1) e1
      (refine And.intro (rng64 (by omega) (by omega)) ?_)
      (refine And.intro (rng64 (by omega) (by omega)) ?_)
      refine Exists.intro [] (Exists.intro (i + 1) (And.intro hi (And.intro ?_ ?_)))
      · (repeat' (first | exact trivial | exact Or.inl rfl | exact Or.inl ((congrArg (fun p:Int × Int=>AV.i .i64 p.1) e1.symm)) | exact Or.inl ((congrArg (fun p:Int × Int=>AV.i .i64 p.2) e1.symm)) | refine And.intro ?_ ?_))
      · show a.l.length - (i + 1) < a.l.length - i
        omega
    · have hi:=geD hi hz
      subst hi
      rw [List.take_length]
      intro hle
      refine Exists.intro [] (Exists.intro [] (Exists.intro [] (Exists.intro Nat (Exists.intro (fun i=>i≤a.e.length) (Exists.intro (fun i=>⟨[(4,.i .i64 (foldS (a.l++(a.e.take i).map (·.2)) (0,1)).1),(5,.i .i64 (foldS (a.l++(a.e.take i).map (·.2)) (0,1)).2),(34,.rd .ent a.e),(35,.i .i64 a.e.length),(36,.i .i64 i)],[]⟩) (Exists.intro (fun i=>a.e.length - i) (Exists.intro 0 (And.intro (Nat.zero_le _) (And.intro ?_ ?_)))))))))
      · have e0:foldS (a.l++(a.e.take 0).map (·.2)) (0,1) = foldS a.l (0,1):=by rw [List.take_zero,List.map_nil,List.append_nil]
        (repeat' (first | exact trivial | exact Or.inl rfl | exact Or.inl ((congrArg (fun p:Int × Int=>AV.i .i64 p.1) e0.symm)) | exact Or.inl ((congrArg (fun p:Int × Int=>AV.i .i64 p.2) e0.symm)) | refine And.intro ?_ ?_))
      · rintro i hi
        refine And.intro (fun hz=>?_) (fun hz=>?_)
        · have hi:=ltD hz
          have hg:=getI (τ:=.ent) hi
          refine And.intro ⟨by omega,by omega⟩ ?_
          rw [hg]
          have hs:=he a.e[i] (List.getElem_mem hi)
          refine Or.inl (Exists.intro _ (And.intro (hs) ?_))
          have hsn:a.l++(a.e.take (i + 1)).map (·.2) = (a.l++(a.e.take i).map (·.2))++[a.e[i].2]:=by rw [take_snoc hi,List.map_append,← List.append_assoc]; rfl
          have e1:foldS (a.l++(a.e.take (i + 1)).map (·.2)) (0,1) = addS (foldS (a.l++(a.e.take i).map (·.2)) (0,1)) (sizV a.e[i].2):=by rw [hsn,foldS_snoc]
          have h1:=siz_pre (v:=a) (l:=a.l++(a.e.take i).map (·.2)) (k:=(a.e.drop i).map (·.2)) (by rw [List.append_assoc,← List.map_append,List.take_append_drop]; rfl)
          have h2:=siz_pre (v:=a) (l:=a.l++(a.e.take (i + 1)).map (·.2)) (k:=(a.e.drop (i + 1)).map (·.2)) (by rw [List.append_assoc,← List.map_append,List.take_append_drop]; rfl)
          have e2:(foldS (a.l++(a.e.take (i + 1)).map (·.2)) (0,1)).2 = (foldS (a.l++(a.e.take i).map (·.2)) (0,1)).2 + (sizV a.e[i].2).2:=congrArg (·.2) e1
          (refine And.intro (rng64 (by omega) (by omega)) ?_)
          (refine And.intro (rng64 (by omega) (by omega)) ?_)
          refine Exists.intro [] (Exists.intro (i + 1) (And.intro hi (And.intro ?_ ?_)))
          · (repeat' (first | exact trivial | exact Or.inl rfl | exact Or.inl ((congrArg (fun p:Int × Int=>AV.i .i64 p.1) e1.symm)) | exact Or.inl ((congrArg (fun p:Int × Int=>AV.i .i64 p.2) e1.symm)) | refine And.intro ?_ ?_))
          · show a.e.length - (i + 1) < a.e.length - i
            omega
        · have hi:=geD hi hz
          subst hi
          rw [List.take_length]
          have h1:=siz_pre (v:=a) (l:=a.l++a.e.map (·.2)) (k:=[]) (by rw [List.append_nil]; rfl)
          (refine And.intro (rng64 (by omega) (by omega)) ?_)
          rw [sizV_eq]
          rfl
theorem s_sizeD (a:Val) (hn:(sizV a).2≤1000000000) (hl:∀ x ∈ a.l,PSpec Tryd.prog 4 [.agg (encVal x)] (.tup [.i .i64 (sizV x).1,.i .i64 (sizV x).2])) (he:∀ x ∈ a.e,PSpec Tryd.prog 4 [.agg (encVal x.2)] (.tup [.i .i64 (sizV x.2).1,.i .i64 (sizV x.2).2])):PSpec Tryd.prog 4 [.agg (encVal a)] (.tup [.i .i64 (sizV a).1,.i .i64 (sizV a).2]) :=
  pspec_of_vc Γ_good Tryd.func4 rfl Tryd.call4 Tryd.results4 Tryd.ntmps4 (Nat.le_of_ble_eq_true rfl) (w_sizeD a hn hl he)
theorem s_SizeD:∀ (n:Nat) (y:Val),SizeOf.sizeOf y < n→(sizV y).2≤1000000000→PSpec Tryd.prog 4 [.agg (encVal y)] (.tup [.i .i64 (sizV y).1,.i .i64 (sizV y).2]):=by
  intro n
  induction n with
  | zero=>intro y h; exact absurd h (Nat.not_lt_zero _)
  | succ n ih =>
    intro y h hn
    refine s_sizeD y hn (fun x hx=>ih x (by have:=val_sz_l hx; omega) ?_) (fun x hx=>ih x.2 (by have:=val_sz_e hx; omega) ?_)
    · have:=(siz_parts y).2 x (List.mem_append_left _ hx); omega
    · have:=(siz_parts y).2 x.2 (List.mem_append_right _ (List.mem_map.2 ⟨x,hx,rfl⟩)); omega
end
end Go.Proofs.YtnpmmkfdclhbeaaDoor
end
section
namespace Go.Proofs
set_option linter.unusedSectionVars false
set_option linter.unusedSimpArgs false
set_option linter.unusedVariables false
open Go.Shelf
def Tryd.lays197_ren:Go.Shelf.Ren:=⟨fun | 197=>31 | 260=>32 | n=>n,fun | 9=>9 | 21=>21 | 3=>3 | 4=>4 | 5=>5 | 105=>52 | 119=>59 | 0=>0 | 46=>55 | 139=>62 | 138=>61 | n=>n,fun | 3=>0 | 4=>1 | n=>n⟩
theorem Tryd.lays197:Go.Proofs.Lays.n197 Tryd.prog Tryd.lays197_ren:={
  mixed:=by kernel_rfl
  f197:=Tryd.func31.trans (congrArg some (by kernel_rfl))
  f260:=Tryd.func32.trans (congrArg some (by kernel_rfl))
  t0:=Tryd.underlying0
  a0:=Tryd.isAgg0
  z0:=Tryd.sizeOf0
  v0:=Tryd.zeroValue0
  t3:=Tryd.underlying3
  a3:=Tryd.isAgg3
  z3:=Tryd.sizeOf3
  v3:=Tryd.zeroValue3
  t4:=Tryd.underlying4
  a4:=Tryd.isAgg4
  z4:=Tryd.sizeOf4
  v4:=Tryd.zeroValue4
  t5:=Tryd.underlying5
  a5:=Tryd.isAgg5
  z5:=Tryd.sizeOf5
  v5:=Tryd.zeroValue5
  t9:=Tryd.underlying9
  a9:=Tryd.isAgg9
  z9:=Tryd.sizeOf9
  v9:=Tryd.zeroValue9
  t21:=Tryd.underlying21
  a21:=Tryd.isAgg21
  z21:=Tryd.sizeOf21
  v21:=Tryd.zeroValue21
  t46:=Tryd.underlying55
  a46:=Tryd.isAgg55
  z46:=Tryd.sizeOf55
  v46:=Tryd.zeroValue55
  t105:=Tryd.underlying52
  a105:=Tryd.isAgg52
  z105:=Tryd.sizeOf52
  v105:=Tryd.zeroValue52
  t119:=Tryd.underlying59
  a119:=Tryd.isAgg59
  z119:=Tryd.sizeOf59
  t138:=Tryd.underlying61
  a138:=Tryd.isAgg61
  z138:=Tryd.sizeOf61
  v138:=Tryd.zeroValue61
  t139:=Tryd.underlying62
  a139:=Tryd.isAgg62
  z139:=Tryd.sizeOf62
  v139:=Tryd.zeroValue62
  g3:=by kernel_rfl
  g4:=by kernel_rfl }
def Tryd.lays260_ren:Go.Shelf.Ren:=⟨fun | 260=>32 | n=>n,fun | 9=>9 | 21=>21 | 3=>3 | 4=>4 | 5=>5 | 119=>59 | 0=>0 | 46=>55 | 139=>62 | 138=>61 | n=>n,fun | 3=>0 | 4=>1 | n=>n⟩
theorem Tryd.lays260:Go.Proofs.Lays.n260 Tryd.prog Tryd.lays260_ren:={
  mixed:=by kernel_rfl
  f260:=Tryd.func32.trans (congrArg some (by kernel_rfl))
  t0:=Tryd.underlying0
  a0:=Tryd.isAgg0
  z0:=Tryd.sizeOf0
  v0:=Tryd.zeroValue0
  t3:=Tryd.underlying3
  a3:=Tryd.isAgg3
  z3:=Tryd.sizeOf3
  v3:=Tryd.zeroValue3
  t4:=Tryd.underlying4
  a4:=Tryd.isAgg4
  z4:=Tryd.sizeOf4
  v4:=Tryd.zeroValue4
  t5:=Tryd.underlying5
  a5:=Tryd.isAgg5
  z5:=Tryd.sizeOf5
  v5:=Tryd.zeroValue5
  t9:=Tryd.underlying9
  a9:=Tryd.isAgg9
  z9:=Tryd.sizeOf9
  v9:=Tryd.zeroValue9
  t21:=Tryd.underlying21
  a21:=Tryd.isAgg21
  z21:=Tryd.sizeOf21
  v21:=Tryd.zeroValue21
  t46:=Tryd.underlying55
  a46:=Tryd.isAgg55
  z46:=Tryd.sizeOf55
  v46:=Tryd.zeroValue55
  t119:=Tryd.underlying59
  a119:=Tryd.isAgg59
  z119:=Tryd.sizeOf59
  t138:=Tryd.underlying61
  a138:=Tryd.isAgg61
  z138:=Tryd.sizeOf61
  v138:=Tryd.zeroValue61
  t139:=Tryd.underlying62
  a139:=Tryd.isAgg62
  z139:=Tryd.sizeOf62
  v139:=Tryd.zeroValue62
  g3:=by kernel_rfl
  g4:=by kernel_rfl }
open Go.RowKit Go.Lib in
theorem Tryd.utf8_DecodeRuneInString (s : ByteArray) (w : World) (hT : Lib.Utf8Tabs 0 1 w) :
    Calls Tryd.prog 31 #[.string s] w fun e w'=>e = .returned (.tuple #[.int .i32 (Lib.decodeGo s).1,.int .i64 (Lib.decodeGo s).2])∧Below w.heap.size w w':=Any.utf8_DecodeRuneInString Tryd.lays197 s w hT
end Go.Proofs
end
section
namespace Go.Proofs.YtnpmmkfdclhbeaaDoor
set_option linter.unusedSectionVars false
set_option linter.unusedSimpArgs false
set_option linter.unusedVariables false
open Go Go.SX Go.Ut Go.RowKit
set_option maxRecDepth 100000
set_option maxHeartbeats 0
def HasU8 [G:Globs]:Prop:=∃ o0 o1:Obj,(0,o0) ∈ G.gl∧(1,o1) ∈ G.gl∧∀ w:World,w.heap[0]? = some o0→w.heap[1]? = some o1→Lib.Utf8Tabs 0 1 w
section
variable [G:Globs]
def decG (s:Str):Nat × Nat:=if s = [] then (65533,0) else decAt s 0
theorem s_Decode (hu:HasU8) (s:Str):PSpec Tryd.prog 31 [.s s] (.tup [.i .i32 (decG s).1,.i .i64 (decG s).2]):=by
  refine ⟨Tryd.call31,fun O w vs hO hG hargs=>?_⟩
  obtain ⟨v0,vs0,rfl,h0,h⟩:=hargs.cons_inv
  obtain rfl:=h.nil_inv
  cases h0
  obtain ⟨o0,o1,m0,m1,ht⟩:=hu
  have hT:=ht w (hG _ m0).2 (hG _ m1).2
  have hd:Lib.decodeGo ⟨s.toArray⟩ = decG s:=by
    unfold Lib.decodeGo decG
    have hsz:(⟨s.toArray⟩:ByteArray).size = s.length:=by simp [ByteArray.size]
    rw [hsz]
    by_cases h:s = []
    · subst h; rfl
    · rw [if_neg (by simpa using h),if_neg h]
      exact decAt_eq s 0
  refine (Tryd.utf8_DecodeRuneInString ⟨s.toArray⟩ w hT).mono fun e w' ⟨he,hw⟩=>?_
  subst he
  rw [hd]
  refine ⟨_,rfl,⟨hw.os,hw.tape,hw.output,hw.size,fun k hk _=>hw.block k hk⟩,.tup _ [_,_] rfl fun j av v hav hv=>?_⟩
  match j with
  | 0=>simp at hav hv; subst hav hv; exact .i _ _
  | 1=>simp at hav hv; subst hav hv; exact .i _ _
  | j + 2=>simp at hav
def codeR (s:Str):AV:=.tup [.i .i32 (code s).1,.i .i64 (code s).2]
theorem w_Next (hu:HasU8) (s:Str):vc Tryd.prog Γ 20 [0,2,3,4,5,16] (Tryd.f27.body.getD .skip) (postK Γ [.tmp 2,.tmp 3] (fun v=>v = codeR s)) ⟨argSlots 0 [.s s],[]⟩:=by
  have qd:=s_Decode hu s
  by_cases h:s = []
  · subst h
    refine Or.inl (Exists.intro _ (And.intro (qd) ?_))
    repeat (first | (focus (refine And.intro ?_ (fun h9=>?_); rotate_left 1; (focus (exfalso; revert h9; first | decide | (simp<;>omega) | (intro h9; simp at h9<;>omega))); refine fun _=>?_)) | (focus (refine And.intro (fun h9=>?_) ?_; (focus (exfalso; revert h9; first | decide | (simp<;>omega) | (intro h9; simp at h9<;>omega))); refine fun _=>?_)))
    rfl
  · have hd:decG s = decAt s 0:=by unfold decG; rw [if_neg h]
    rw [hd] at qd
    have hp:=dec_pos s 0
    by_cases hb:(decAt s 0).1 = 65533∧(decAt s 0).2 = 1
    · have hc:code s = (-1,1):=by unfold code; rw [if_neg h,if_pos hb]
      rw [hb.1,hb.2] at qd
      unfold codeR
      rw [hc]
      refine Or.inl (Exists.intro _ (And.intro (qd) ?_))
      repeat (first | (focus (refine And.intro ?_ (fun h9=>?_); rotate_left 1; (focus (exfalso; revert h9; first | decide | (simp<;>omega) | (intro h9; simp at h9<;>omega))); refine fun _=>?_)) | (focus (refine And.intro (fun h9=>?_) ?_; (focus (exfalso; revert h9; first | decide | (simp<;>omega) | (intro h9; simp at h9<;>omega))); refine fun _=>?_)))
      rfl
    · have hc:code s = (((decAt s 0).1:Int),(decAt s 0).2):=by unfold code; rw [if_neg h,if_neg hb]
      unfold codeR
      rw [hc]
      refine Or.inl (Exists.intro _ (And.intro (qd) ?_))
      refine And.intro (fun h1=>?_) (fun h1=>?_)
      · have h1:(decAt s 0).1 = 65533:=by have:=eq_of_beq h1; omega
        have h2:(decAt s 0).2≠1:=fun e=>hb ⟨h1,e⟩
        refine And.intro (fun h3=>?_) (fun h3=>?_)
        · exfalso
          have:(((decAt s 0).2:Int) < 2):=of_decide_eq_true (show decide (((decAt s 0).2:Int) < 2) = true from h3)
          omega
        · rfl
      · (focus (refine And.intro (fun h9=>?_) ?_; (focus (exfalso; revert h9; first | decide | (simp<;>omega) | (intro h9; simp at h9<;>omega))); refine fun _=>?_))
        rfl
theorem s_Next (hu:HasU8) (s:Str):PSpec Tryd.prog 27 [.s s] (codeR s) :=
  pspec_of_vc Γ_good Tryd.func27 rfl Tryd.call27 Tryd.results27 Tryd.ntmps27 (Nat.le_of_ble_eq_true rfl) (w_Next hu s)
theorem w_Scalar (n:Int):vc Tryd.prog Γ 17 [0,2] (Tryd.f30.body.getD .skip) (postK Γ [.tmp 2] (fun v=>v = .b (decide (scalar n)))) ⟨argSlots 0 [.i .i64 n],[]⟩:=by
  repeat' (refine And.intro (fun h=>?_) (fun h=>?_)<;>(try simp [-List.getD_eq_getElem?_getD,-Int.pred_toNat] at h))
  all_goals
    refine congrArg AV.b ?_
    rw [Bool.eq_iff_iff]
    simp only [cond_true,cond_false,decide_eq_true_eq,Bool.false_eq_true,true_iff,false_iff]
    unfold scalar
    first | omega | (constructor<;>intro h9<;>(try (exfalso; exact h9))<;>omega)
theorem s_Scalar (n:Int):PSpec Tryd.prog 30 [.i .i64 n] (.b (decide (scalar n))) :=
  pspec_of_vc Γ_good Tryd.func30 rfl Tryd.call30 Tryd.results30 Tryd.ntmps30 (Nat.le_of_ble_eq_true rfl) (w_Scalar n)
end
end Go.Proofs.YtnpmmkfdclhbeaaDoor
end
section
namespace Go.Proofs.YtnpmmkfdclhbeaaDoor
set_option linter.unusedSectionVars false
set_option linter.unusedSimpArgs false
set_option linter.unusedVariables false
open Go Go.SX Go.Ut Go.RowKit
set_option maxRecDepth 100000
set_option maxHeartbeats 0
section
variable [G:Globs]
theorem acc_bnd {s:Str} {r:Int} (h0:0≤r) (h1:r≤63):∀ (i:Nat),i≤4→(∀ j,1≤j→j < i→cont s j)→0≤acc s r i∧acc s r i≤16777215:=by
  intro i hi hc
  have key:∀ j,1≤j→j < i→128≤b8 s j∧b8 s j < 192:=hc
  match i,hi with
  | 0,_=>exact ⟨h0,by simp only [acc]; omega⟩
  | 1,_=>exact ⟨h0,by simp only [acc]; omega⟩
  | 2,_=>have k1:=key 1 (by decide) (by decide); simp only [acc]; omega
  | 3,_=>have k1:=key 1 (by decide) (by decide); have k2:=key 2 (by decide) (by decide); simp only [acc]; omega
  | 4,_=>have k1:=key 1 (by decide) (by decide); have k2:=key 2 (by decide) (by decide); have k3:=key 3 (by decide) (by decide); simp only [acc]; omega
  | i + 5,h=>exfalso; omega
theorem i32_in (n:Int) (h0:0≤n) (h1:n≤2147483647):IntKind.i32.wrap n = n:=IntWalk.i32_in n ⟨by omega,h1⟩
theorem w_Code (s:Str):vc Tryd.prog Γ 90 [0,2,3,4,5,6,7,9,13,19,30,41,55,58,70,86] (Tryd.f24.body.getD .skip) (postK Γ [.tmp 2,.tmp 3] (fun v=>v = codeR s)) ⟨argSlots 0 [.s s],[]⟩:=by
  by_cases h0:s = []
  · subst h0
    (focus (refine And.intro ?_ (fun h9=>?_); rotate_left 1; (focus (exfalso; revert h9; first | decide | (simp<;>omega) | (intro h9; simp at h9<;>omega))); refine fun _=>?_))
    rfl
  have hl:1≤s.length:=by cases s with
    | nil=>exact absurd rfl h0
    | cons c r=>simp
  have hb:=b8_rng s 0
  have hw:IntKind.i64.wrap (((s.getD (Int.toNat 0) 0).toNat:Nat):Int) = b8 s 0:=IntWalk.i64_in _ ⟨by show _≤b8 s 0; omega,by show b8 s 0≤_; omega⟩
  refine And.intro (fun h9=>absurd (eq_of_beq h9) h0) (fun _=>?_)
  rcases (show b8 s 0 < 128∨(128≤b8 s 0∧b8 s 0 < 192)∨(192≤b8 s 0∧b8 s 0 < 224)∨(224≤b8 s 0∧b8 s 0 < 240)∨(240≤b8 s 0∧b8 s 0 < 248)∨248≤b8 s 0 by omega) with hc | hc | hc | hc | hc | hc
  · refine Exists.intro [.blk [0,1,2,3,4,5]] (And.intro (by kernel_rfl) ?_)
    refine And.intro ⟨by omega,by omega⟩ ?_
    refine And.intro ⟨by omega,by omega⟩ ?_
    rw [hw]
    refine And.intro (fun _=>?_) (fun h9=>absurd (show b8 s 0 < 128 by omega) (of_decide_eq_false h9))
    rw [codeR,code1 h0 hc]
    show AV.tup [.i .i32 (IntKind.i32.wrap (b8 s 0)),.i .i64 1] = _
    rw [i32_in _ (by omega) (by omega)]
    all_goals rfl
  · have hbad:code s = (-1,1):=code_bad h0 (by omega)
    refine Exists.intro [.blk [0,1,2,3,4,5]] (And.intro (by kernel_rfl) ?_)
    refine And.intro ⟨by omega,by omega⟩ ?_
    refine And.intro ⟨by omega,by omega⟩ ?_
    rw [hw]
    refine And.intro (fun h9=>absurd (of_decide_eq_true h9) (show ¬ (b8 s 0 < 128) by omega)) (fun _=>?_)
    refine And.intro ⟨by omega,by omega⟩ ?_
    refine And.intro (fun h9=>absurd (of_decide_eq_true h9) (show ¬ (192≤b8 s 0) by omega)) (fun _=>?_)
    (focus (refine And.intro (fun h9=>?_) ?_; (focus (exfalso; revert h9; first | decide | (simp<;>omega) | (intro h9; simp at h9<;>omega))); refine fun _=>?_))
    refine And.intro ⟨by omega,by omega⟩ ?_
    refine And.intro (fun h9=>absurd (of_decide_eq_true h9) (show ¬ (224≤b8 s 0) by omega)) (fun _=>?_)
    (focus (refine And.intro (fun h9=>?_) ?_; (focus (exfalso; revert h9; first | decide | (simp<;>omega) | (intro h9; simp at h9<;>omega))); refine fun _=>?_))
    refine And.intro ⟨by omega,by omega⟩ ?_
    refine And.intro (fun h9=>absurd (of_decide_eq_true h9) (show ¬ (240≤b8 s 0) by omega)) (fun _=>?_)
    (focus (refine And.intro (fun h9=>?_) ?_; (focus (exfalso; revert h9; first | decide | (simp<;>omega) | (intro h9; simp at h9<;>omega))); refine fun _=>?_))
    rw [codeR,hbad]
    rfl
  · have hlead:lead s = (2,128,b8 s 0 - 192):=by unfold lead; rw [if_pos (by omega)]
    have hg:good s↔(2≤s.length∧(∀ i,1≤i→i < 2→cont s i)∧128≤acc s (b8 s 0 - 192) 2∧scalar (acc s (b8 s 0 - 192) 2)):=by unfold good; rw [hlead]
    have hbad:¬ good s→code s = (-1,1):=(code_many h0 (by omega) (by omega)).2
    refine Exists.intro [.blk [0,1,2,3,4,5]] (And.intro (by kernel_rfl) ?_)
    refine And.intro ⟨by omega,by omega⟩ ?_
    refine And.intro ⟨by omega,by omega⟩ ?_
    rw [hw]
    refine And.intro (fun h9=>absurd (of_decide_eq_true h9) (show ¬ (b8 s 0 < 128) by omega)) (fun _=>?_)
    refine And.intro ⟨by omega,by omega⟩ ?_
    refine And.intro (fun _=>?_) (fun h9=>absurd (show 192≤b8 s 0 by omega) (of_decide_eq_false h9))
    refine And.intro ⟨by omega,by omega⟩ ?_
    refine And.intro (fun _=>?_) (fun h9=>absurd (show b8 s 0 < 224 by omega) (of_decide_eq_false h9))
    refine And.intro ⟨by omega,by omega⟩ ?_
    intro _
    refine And.intro (fun hs=>?_) (fun hs=>?_)
    · have hs:(s.length:Int) < 2:=of_decide_eq_true hs
      show AV.tup [.i .i32 (-1),.i .i64 1] = codeR s
      rw [codeR,hbad (fun h=>by have:=(hg.1 h).1; omega)]
      all_goals rfl
    · have hs:¬ (s.length:Int) < 2:=of_decide_eq_false hs
      refine Exists.intro [] (Exists.intro [] (Exists.intro [] (Exists.intro Nat (Exists.intro (fun i=>1≤i∧i≤2∧∀ j,1≤j→j < i→cont s j) (Exists.intro (fun i=>⟨[(0,.s s),(4,.i .i64 2),(5,.i .i64 128),(6,.i .i64 (acc s (b8 s 0 - 192) i)),(7,.i .i64 i)],[]⟩) (Exists.intro (fun i=>2 - i) (Exists.intro 1 (And.intro ⟨Nat.le_refl _,by decide,fun j h1 h2=>by omega⟩ (And.intro ?_ ?_)))))))))
      · (repeat' (first | exact trivial | exact Or.inl rfl | exact Or.inr (Or.inl ⟨rfl,_,rfl⟩) | exact Or.inr (Or.inr (Or.inr ⟨_,_,_,rfl,rfl⟩)) | refine And.intro ?_ ?_))
      · rintro i ⟨hi1,hin,hcs⟩
        have hab:=acc_bnd (s:=s) (r:=(b8 s 0 - 192)) (by omega) (by omega) i (by omega) hcs
        have hbi:=b8_rng s i
        refine And.intro (fun hc=>?_) (fun hc=>?_)
        · have hc:i < 2:=by have:(i:Int) < 2:=of_decide_eq_true hc; omega
          refine And.intro ⟨by omega,by omega⟩ ?_
          refine And.intro (fun h1=>?_) (fun h1=>?_)
          · have h1:¬ b8 s i < 128:=of_decide_eq_false h1
            refine And.intro ⟨by omega,by omega⟩ ?_
            refine And.intro (fun h2=>?_) (fun h2=>?_)
            · have h2:192≤b8 s i:=of_decide_eq_true h2
              show AV.tup [.i .i32 (-1),.i .i64 1] = codeR s
              rw [codeR,hbad (fun h=>by have:=(hg.1 h).2.1 i hi1 hc; unfold cont at this; omega)]
              all_goals rfl
            · have h2:¬ 192≤b8 s i:=of_decide_eq_false h2
              have hwi:IntKind.i64.wrap (((s.getD (Int.toNat (i:Int)) 0).toNat:Nat):Int) = b8 s i:=IntWalk.i64_in _ ⟨by show _≤b8 s i; omega,by show b8 s i≤_; omega⟩
              have hacc:acc s (b8 s 0 - 192) (i + 1) = acc s (b8 s 0 - 192) i * 64 + b8 s i - 128:=by
                obtain ⟨k,rfl⟩:∃ k,i = k + 1:=⟨i - 1,by omega⟩
                rfl
              refine And.intro ⟨by omega,by omega⟩ ?_
              refine And.intro ⟨by omega,by omega⟩ ?_
              refine And.intro ⟨by rw [hwi]; omega,by rw [hwi]; omega⟩ ?_
              rw [hwi]
              refine And.intro ⟨by omega,by omega⟩ ?_
              refine And.intro ⟨by omega,by omega⟩ ?_
              have hcs':∀ j,1≤j→j < i + 1→cont s j:=fun j h3 h4=>by
                rcases Nat.lt_or_ge j i with h | h
                · exact hcs j h3 h
                · have:j = i:=by omega
                  subst this
                  exact ⟨by omega,by omega⟩
              refine Exists.intro [] (Exists.intro (i + 1) (And.intro ⟨by omega,by omega,hcs'⟩ (And.intro ?_ ?_)))
              · (repeat' (first | exact trivial | exact Or.inl rfl | exact Or.inl (congrArg (AV.i .i64) hacc.symm) | refine And.intro ?_ ?_))
              · show 2 - (i + 1) < 2 - i
                omega
          · have h1:b8 s i < 128:=of_decide_eq_true (show decide (b8 s i < 128) = true from h1)
            (focus (refine And.intro ?_ (fun h9=>?_); rotate_left 1; (focus (exfalso; revert h9; first | decide | (simp<;>omega) | (intro h9; simp at h9<;>omega))); refine fun _=>?_))
            show AV.tup [.i .i32 (-1),.i .i64 1] = codeR s
            rw [codeR,hbad (fun h=>by have:=(hg.1 h).2.1 i hi1 hc; unfold cont at this; omega)]
            all_goals rfl
        · have hc:i = 2:=by have:¬ (i:Int) < 2:=of_decide_eq_false hc; omega
          subst hc
          refine And.intro (fun h1=>?_) (fun h1=>?_)
          · have h1:¬ acc s (b8 s 0 - 192) 2 < 128:=of_decide_eq_false h1
            refine Or.inl (Exists.intro _ (And.intro (s_Scalar (acc s (b8 s 0 - 192) 2)) ?_))
            refine And.intro (fun h2=>?_) (fun h2=>?_)
            · have h2:¬ scalar (acc s (b8 s 0 - 192) 2):=by simpa using h2
              show AV.tup [.i .i32 (-1),.i .i64 1] = codeR s
              rw [codeR,hbad (fun h=>h2 (hg.1 h).2.2.2)]
              all_goals rfl
            · have h2:scalar (acc s (b8 s 0 - 192) 2):=by simpa using h2
              have hgood:good s:=hg.2 ⟨by omega,hcs,by omega,h2⟩
              have hw2:IntKind.i32.wrap (acc s (b8 s 0 - 192) 2) = acc s (b8 s 0 - 192) 2:=i32_in _ (by omega) (by unfold scalar at h2; omega)
              have hcd:=(code_many h0 (by omega) (by omega)).1 hgood
              rw [hlead] at hcd
              rw [codeR,hcd]
              show AV.tup [.i .i32 (IntKind.i32.wrap (acc s (b8 s 0 - 192) 2)),.i .i64 2] = _
              rw [hw2]
              all_goals rfl
          · have h1:acc s (b8 s 0 - 192) 2 < 128:=of_decide_eq_true (show decide (acc s (b8 s 0 - 192) 2 < 128) = true from h1)
            (focus (refine And.intro ?_ (fun h9=>?_); rotate_left 1; (focus (exfalso; revert h9; first | decide | (simp<;>omega) | (intro h9; simp at h9<;>omega))); refine fun _=>?_))
            show AV.tup [.i .i32 (-1),.i .i64 1] = codeR s
            rw [codeR,hbad (fun h=>by have:=(hg.1 h).2.2.1; omega)]
            all_goals rfl
  · have hlead:lead s = (3,2048,b8 s 0 - 224):=by unfold lead; rw [if_neg (by omega),if_pos (by omega)]
    have hg:good s↔(3≤s.length∧(∀ i,1≤i→i < 3→cont s i)∧2048≤acc s (b8 s 0 - 224) 3∧scalar (acc s (b8 s 0 - 224) 3)):=by unfold good; rw [hlead]
    have hbad:¬ good s→code s = (-1,1):=(code_many h0 (by omega) (by omega)).2
    refine Exists.intro [.blk [0,1,2,3,4,5]] (And.intro (by kernel_rfl) ?_)
    refine And.intro ⟨by omega,by omega⟩ ?_
    refine And.intro ⟨by omega,by omega⟩ ?_
    rw [hw]
    refine And.intro (fun h9=>absurd (of_decide_eq_true h9) (show ¬ (b8 s 0 < 128) by omega)) (fun _=>?_)
    refine And.intro ⟨by omega,by omega⟩ ?_
    refine And.intro (fun _=>?_) (fun h9=>absurd (show 192≤b8 s 0 by omega) (of_decide_eq_false h9))
    refine And.intro ⟨by omega,by omega⟩ ?_
    refine And.intro (fun h9=>absurd (of_decide_eq_true h9) (show ¬ (b8 s 0 < 224) by omega)) (fun _=>?_)
    refine And.intro ⟨by omega,by omega⟩ ?_
    refine And.intro (fun _=>?_) (fun h9=>absurd (show 224≤b8 s 0 by omega) (of_decide_eq_false h9))
    refine And.intro ⟨by omega,by omega⟩ ?_
    refine And.intro (fun _=>?_) (fun h9=>absurd (show b8 s 0 < 240 by omega) (of_decide_eq_false h9))
    refine And.intro ⟨by omega,by omega⟩ ?_
    intro _
    refine And.intro (fun hs=>?_) (fun hs=>?_)
    · have hs:(s.length:Int) < 3:=of_decide_eq_true hs
      show AV.tup [.i .i32 (-1),.i .i64 1] = codeR s
      rw [codeR,hbad (fun h=>by have:=(hg.1 h).1; omega)]
      all_goals rfl
    · have hs:¬ (s.length:Int) < 3:=of_decide_eq_false hs
      refine Exists.intro [] (Exists.intro [] (Exists.intro [] (Exists.intro Nat (Exists.intro (fun i=>1≤i∧i≤3∧∀ j,1≤j→j < i→cont s j) (Exists.intro (fun i=>⟨[(0,.s s),(4,.i .i64 3),(5,.i .i64 2048),(6,.i .i64 (acc s (b8 s 0 - 224) i)),(7,.i .i64 i)],[]⟩) (Exists.intro (fun i=>3 - i) (Exists.intro 1 (And.intro ⟨Nat.le_refl _,by decide,fun j h1 h2=>by omega⟩ (And.intro ?_ ?_)))))))))
      · (repeat' (first | exact trivial | exact Or.inl rfl | exact Or.inr (Or.inl ⟨rfl,_,rfl⟩) | exact Or.inr (Or.inr (Or.inr ⟨_,_,_,rfl,rfl⟩)) | refine And.intro ?_ ?_))
      · rintro i ⟨hi1,hin,hcs⟩
        have hab:=acc_bnd (s:=s) (r:=(b8 s 0 - 224)) (by omega) (by omega) i (by omega) hcs
        have hbi:=b8_rng s i
        refine And.intro (fun hc=>?_) (fun hc=>?_)
        · have hc:i < 3:=by have:(i:Int) < 3:=of_decide_eq_true hc; omega
          refine And.intro ⟨by omega,by omega⟩ ?_
          refine And.intro (fun h1=>?_) (fun h1=>?_)
          · have h1:¬ b8 s i < 128:=of_decide_eq_false h1
            refine And.intro ⟨by omega,by omega⟩ ?_
            refine And.intro (fun h2=>?_) (fun h2=>?_)
            · have h2:192≤b8 s i:=of_decide_eq_true h2
              show AV.tup [.i .i32 (-1),.i .i64 1] = codeR s
              rw [codeR,hbad (fun h=>by have:=(hg.1 h).2.1 i hi1 hc; unfold cont at this; omega)]
              all_goals rfl
            · have h2:¬ 192≤b8 s i:=of_decide_eq_false h2
              have hwi:IntKind.i64.wrap (((s.getD (Int.toNat (i:Int)) 0).toNat:Nat):Int) = b8 s i:=IntWalk.i64_in _ ⟨by show _≤b8 s i; omega,by show b8 s i≤_; omega⟩
              have hacc:acc s (b8 s 0 - 224) (i + 1) = acc s (b8 s 0 - 224) i * 64 + b8 s i - 128:=by
                obtain ⟨k,rfl⟩:∃ k,i = k + 1:=⟨i - 1,by omega⟩
                rfl
              refine And.intro ⟨by omega,by omega⟩ ?_
              refine And.intro ⟨by omega,by omega⟩ ?_
              refine And.intro ⟨by rw [hwi]; omega,by rw [hwi]; omega⟩ ?_
              rw [hwi]
              refine And.intro ⟨by omega,by omega⟩ ?_
              refine And.intro ⟨by omega,by omega⟩ ?_
              have hcs':∀ j,1≤j→j < i + 1→cont s j:=fun j h3 h4=>by
                rcases Nat.lt_or_ge j i with h | h
                · exact hcs j h3 h
                · have:j = i:=by omega
                  subst this
                  exact ⟨by omega,by omega⟩
              refine Exists.intro [] (Exists.intro (i + 1) (And.intro ⟨by omega,by omega,hcs'⟩ (And.intro ?_ ?_)))
              · (repeat' (first | exact trivial | exact Or.inl rfl | exact Or.inl (congrArg (AV.i .i64) hacc.symm) | refine And.intro ?_ ?_))
              · show 3 - (i + 1) < 3 - i
                omega
          · have h1:b8 s i < 128:=of_decide_eq_true (show decide (b8 s i < 128) = true from h1)
            (focus (refine And.intro ?_ (fun h9=>?_); rotate_left 1; (focus (exfalso; revert h9; first | decide | (simp<;>omega) | (intro h9; simp at h9<;>omega))); refine fun _=>?_))
            show AV.tup [.i .i32 (-1),.i .i64 1] = codeR s
            rw [codeR,hbad (fun h=>by have:=(hg.1 h).2.1 i hi1 hc; unfold cont at this; omega)]
            all_goals rfl
        · have hc:i = 3:=by have:¬ (i:Int) < 3:=of_decide_eq_false hc; omega
          subst hc
          refine And.intro (fun h1=>?_) (fun h1=>?_)
          · have h1:¬ acc s (b8 s 0 - 224) 3 < 2048:=of_decide_eq_false h1
            refine Or.inl (Exists.intro _ (And.intro (s_Scalar (acc s (b8 s 0 - 224) 3)) ?_))
            refine And.intro (fun h2=>?_) (fun h2=>?_)
            · have h2:¬ scalar (acc s (b8 s 0 - 224) 3):=by simpa using h2
              show AV.tup [.i .i32 (-1),.i .i64 1] = codeR s
              rw [codeR,hbad (fun h=>h2 (hg.1 h).2.2.2)]
              all_goals rfl
            · have h2:scalar (acc s (b8 s 0 - 224) 3):=by simpa using h2
              have hgood:good s:=hg.2 ⟨by omega,hcs,by omega,h2⟩
              have hw2:IntKind.i32.wrap (acc s (b8 s 0 - 224) 3) = acc s (b8 s 0 - 224) 3:=i32_in _ (by omega) (by unfold scalar at h2; omega)
              have hcd:=(code_many h0 (by omega) (by omega)).1 hgood
              rw [hlead] at hcd
              rw [codeR,hcd]
              show AV.tup [.i .i32 (IntKind.i32.wrap (acc s (b8 s 0 - 224) 3)),.i .i64 3] = _
              rw [hw2]
              all_goals rfl
          · have h1:acc s (b8 s 0 - 224) 3 < 2048:=of_decide_eq_true (show decide (acc s (b8 s 0 - 224) 3 < 2048) = true from h1)
            (focus (refine And.intro ?_ (fun h9=>?_); rotate_left 1; (focus (exfalso; revert h9; first | decide | (simp<;>omega) | (intro h9; simp at h9<;>omega))); refine fun _=>?_))
            show AV.tup [.i .i32 (-1),.i .i64 1] = codeR s
            rw [codeR,hbad (fun h=>by have:=(hg.1 h).2.2.1; omega)]
            all_goals rfl
  · have hlead:lead s = (4,65536,b8 s 0 - 240):=by unfold lead; rw [if_neg (by omega),if_neg (by omega)]
    have hg:good s↔(4≤s.length∧(∀ i,1≤i→i < 4→cont s i)∧65536≤acc s (b8 s 0 - 240) 4∧scalar (acc s (b8 s 0 - 240) 4)):=by unfold good; rw [hlead]
    have hbad:¬ good s→code s = (-1,1):=(code_many h0 (by omega) (by omega)).2
    refine Exists.intro [.blk [0,1,2,3,4,5]] (And.intro (by kernel_rfl) ?_)
    refine And.intro ⟨by omega,by omega⟩ ?_
    refine And.intro ⟨by omega,by omega⟩ ?_
    rw [hw]
    refine And.intro (fun h9=>absurd (of_decide_eq_true h9) (show ¬ (b8 s 0 < 128) by omega)) (fun _=>?_)
    refine And.intro ⟨by omega,by omega⟩ ?_
    refine And.intro (fun _=>?_) (fun h9=>absurd (show 192≤b8 s 0 by omega) (of_decide_eq_false h9))
    refine And.intro ⟨by omega,by omega⟩ ?_
    refine And.intro (fun h9=>absurd (of_decide_eq_true h9) (show ¬ (b8 s 0 < 224) by omega)) (fun _=>?_)
    refine And.intro ⟨by omega,by omega⟩ ?_
    refine And.intro (fun _=>?_) (fun h9=>absurd (show 224≤b8 s 0 by omega) (of_decide_eq_false h9))
    refine And.intro ⟨by omega,by omega⟩ ?_
    refine And.intro (fun h9=>absurd (of_decide_eq_true h9) (show ¬ (b8 s 0 < 240) by omega)) (fun _=>?_)
    refine And.intro ⟨by omega,by omega⟩ ?_
    refine And.intro (fun _=>?_) (fun h9=>absurd (show 240≤b8 s 0 by omega) (of_decide_eq_false h9))
    refine And.intro ⟨by omega,by omega⟩ ?_
    refine And.intro (fun _=>?_) (fun h9=>absurd (show b8 s 0 < 248 by omega) (of_decide_eq_false h9))
    refine And.intro ⟨by omega,by omega⟩ ?_
    intro _
    refine And.intro (fun hs=>?_) (fun hs=>?_)
    · have hs:(s.length:Int) < 4:=of_decide_eq_true hs
      show AV.tup [.i .i32 (-1),.i .i64 1] = codeR s
      rw [codeR,hbad (fun h=>by have:=(hg.1 h).1; omega)]
      all_goals rfl
    · have hs:¬ (s.length:Int) < 4:=of_decide_eq_false hs
      refine Exists.intro [] (Exists.intro [] (Exists.intro [] (Exists.intro Nat (Exists.intro (fun i=>1≤i∧i≤4∧∀ j,1≤j→j < i→cont s j) (Exists.intro (fun i=>⟨[(0,.s s),(4,.i .i64 4),(5,.i .i64 65536),(6,.i .i64 (acc s (b8 s 0 - 240) i)),(7,.i .i64 i)],[]⟩) (Exists.intro (fun i=>4 - i) (Exists.intro 1 (And.intro ⟨Nat.le_refl _,by decide,fun j h1 h2=>by omega⟩ (And.intro ?_ ?_)))))))))
      · (repeat' (first | exact trivial | exact Or.inl rfl | exact Or.inr (Or.inl ⟨rfl,_,rfl⟩) | exact Or.inr (Or.inr (Or.inr ⟨_,_,_,rfl,rfl⟩)) | refine And.intro ?_ ?_))
      · rintro i ⟨hi1,hin,hcs⟩
        have hab:=acc_bnd (s:=s) (r:=(b8 s 0 - 240)) (by omega) (by omega) i (by omega) hcs
        have hbi:=b8_rng s i
        refine And.intro (fun hc=>?_) (fun hc=>?_)
        · have hc:i < 4:=by have:(i:Int) < 4:=of_decide_eq_true hc; omega
          refine And.intro ⟨by omega,by omega⟩ ?_
          refine And.intro (fun h1=>?_) (fun h1=>?_)
          · have h1:¬ b8 s i < 128:=of_decide_eq_false h1
            refine And.intro ⟨by omega,by omega⟩ ?_
            refine And.intro (fun h2=>?_) (fun h2=>?_)
            · have h2:192≤b8 s i:=of_decide_eq_true h2
              show AV.tup [.i .i32 (-1),.i .i64 1] = codeR s
              rw [codeR,hbad (fun h=>by have:=(hg.1 h).2.1 i hi1 hc; unfold cont at this; omega)]
              all_goals rfl
            · have h2:¬ 192≤b8 s i:=of_decide_eq_false h2
              have hwi:IntKind.i64.wrap (((s.getD (Int.toNat (i:Int)) 0).toNat:Nat):Int) = b8 s i:=IntWalk.i64_in _ ⟨by show _≤b8 s i; omega,by show b8 s i≤_; omega⟩
              have hacc:acc s (b8 s 0 - 240) (i + 1) = acc s (b8 s 0 - 240) i * 64 + b8 s i - 128:=by
                obtain ⟨k,rfl⟩:∃ k,i = k + 1:=⟨i - 1,by omega⟩
                rfl
              refine And.intro ⟨by omega,by omega⟩ ?_
              refine And.intro ⟨by omega,by omega⟩ ?_
              refine And.intro ⟨by rw [hwi]; omega,by rw [hwi]; omega⟩ ?_
              rw [hwi]
              refine And.intro ⟨by omega,by omega⟩ ?_
              refine And.intro ⟨by omega,by omega⟩ ?_
              have hcs':∀ j,1≤j→j < i + 1→cont s j:=fun j h3 h4=>by
                rcases Nat.lt_or_ge j i with h | h
                · exact hcs j h3 h
                · have:j = i:=by omega
                  subst this
                  exact ⟨by omega,by omega⟩
              refine Exists.intro [] (Exists.intro (i + 1) (And.intro ⟨by omega,by omega,hcs'⟩ (And.intro ?_ ?_)))
              · (repeat' (first | exact trivial | exact Or.inl rfl | exact Or.inl (congrArg (AV.i .i64) hacc.symm) | refine And.intro ?_ ?_))
              · show 4 - (i + 1) < 4 - i
                omega
          · have h1:b8 s i < 128:=of_decide_eq_true (show decide (b8 s i < 128) = true from h1)
            (focus (refine And.intro ?_ (fun h9=>?_); rotate_left 1; (focus (exfalso; revert h9; first | decide | (simp<;>omega) | (intro h9; simp at h9<;>omega))); refine fun _=>?_))
            show AV.tup [.i .i32 (-1),.i .i64 1] = codeR s
            rw [codeR,hbad (fun h=>by have:=(hg.1 h).2.1 i hi1 hc; unfold cont at this; omega)]
            all_goals rfl
        · have hc:i = 4:=by have:¬ (i:Int) < 4:=of_decide_eq_false hc; omega
          subst hc
          refine And.intro (fun h1=>?_) (fun h1=>?_)
          · have h1:¬ acc s (b8 s 0 - 240) 4 < 65536:=of_decide_eq_false h1
            refine Or.inl (Exists.intro _ (And.intro (s_Scalar (acc s (b8 s 0 - 240) 4)) ?_))
            refine And.intro (fun h2=>?_) (fun h2=>?_)
            · have h2:¬ scalar (acc s (b8 s 0 - 240) 4):=by simpa using h2
              show AV.tup [.i .i32 (-1),.i .i64 1] = codeR s
              rw [codeR,hbad (fun h=>h2 (hg.1 h).2.2.2)]
              all_goals rfl
            · have h2:scalar (acc s (b8 s 0 - 240) 4):=by simpa using h2
              have hgood:good s:=hg.2 ⟨by omega,hcs,by omega,h2⟩
              have hw2:IntKind.i32.wrap (acc s (b8 s 0 - 240) 4) = acc s (b8 s 0 - 240) 4:=i32_in _ (by omega) (by unfold scalar at h2; omega)
              have hcd:=(code_many h0 (by omega) (by omega)).1 hgood
              rw [hlead] at hcd
              rw [codeR,hcd]
              show AV.tup [.i .i32 (IntKind.i32.wrap (acc s (b8 s 0 - 240) 4)),.i .i64 4] = _
              rw [hw2]
              all_goals rfl
          · have h1:acc s (b8 s 0 - 240) 4 < 65536:=of_decide_eq_true (show decide (acc s (b8 s 0 - 240) 4 < 65536) = true from h1)
            (focus (refine And.intro ?_ (fun h9=>?_); rotate_left 1; (focus (exfalso; revert h9; first | decide | (simp<;>omega) | (intro h9; simp at h9<;>omega))); refine fun _=>?_))
            show AV.tup [.i .i32 (-1),.i .i64 1] = codeR s
            rw [codeR,hbad (fun h=>by have:=(hg.1 h).2.2.1; omega)]
            all_goals rfl
  · have hbad:code s = (-1,1):=code_bad h0 (by omega)
    refine Exists.intro [.blk [0,1,2,3,4,5]] (And.intro (by kernel_rfl) ?_)
    refine And.intro ⟨by omega,by omega⟩ ?_
    refine And.intro ⟨by omega,by omega⟩ ?_
    rw [hw]
    refine And.intro (fun h9=>absurd (of_decide_eq_true h9) (show ¬ (b8 s 0 < 128) by omega)) (fun _=>?_)
    refine And.intro ⟨by omega,by omega⟩ ?_
    refine And.intro (fun _=>?_) (fun h9=>absurd (show 192≤b8 s 0 by omega) (of_decide_eq_false h9))
    refine And.intro ⟨by omega,by omega⟩ ?_
    refine And.intro (fun h9=>absurd (of_decide_eq_true h9) (show ¬ (b8 s 0 < 224) by omega)) (fun _=>?_)
    refine And.intro ⟨by omega,by omega⟩ ?_
    refine And.intro (fun _=>?_) (fun h9=>absurd (show 224≤b8 s 0 by omega) (of_decide_eq_false h9))
    refine And.intro ⟨by omega,by omega⟩ ?_
    refine And.intro (fun h9=>absurd (of_decide_eq_true h9) (show ¬ (b8 s 0 < 240) by omega)) (fun _=>?_)
    refine And.intro ⟨by omega,by omega⟩ ?_
    refine And.intro (fun _=>?_) (fun h9=>absurd (show 240≤b8 s 0 by omega) (of_decide_eq_false h9))
    refine And.intro ⟨by omega,by omega⟩ ?_
    refine And.intro (fun h9=>absurd (of_decide_eq_true h9) (show ¬ (b8 s 0 < 248) by omega)) (fun _=>?_)
    rw [codeR,hbad]
    rfl
theorem s_Code (s:Str):PSpec Tryd.prog 24 [.s s] (codeR s) :=
  pspec_of_vc Γ_good Tryd.func24 rfl Tryd.call24 Tryd.results24 Tryd.ntmps24 (Nat.le_of_ble_eq_true rfl) (w_Code s)
end
end Go.Proofs.YtnpmmkfdclhbeaaDoor
end
section
namespace Go.Ut
set_option linter.unusedSectionVars false
set_option linter.unusedSimpArgs false
set_option linter.unusedVariables false
open Go.SX

end Go.Ut
end
section
namespace Go.Proofs.YtnpmmkfdclhbeaaDoor
set_option linter.unusedSectionVars false
set_option linter.unusedSimpArgs false
set_option linter.unusedVariables false
open Go Go.SX Go.Ut Go.RowKit
set_option maxRecDepth 100000
set_option maxHeartbeats 0
section
variable [G:Globs]
theorem w_BadPlace (s:Str):vc Tryd.prog Γ 23 [0,2,3,4,5,9,18] (Tryd.f19.body.getD .skip) (postK Γ [.tmp 2] (fun v=>v = .i .i64 (bad s))) ⟨argSlots 0 [.s s],[]⟩:=by
  refine Exists.intro [] (Exists.intro [] (Exists.intro [] (Exists.intro Nat (Exists.intro (fun i=>i≤s.length∧badFrom s i = bad s) (Exists.intro (fun i=>⟨[(0,.s s),(3,.i .i64 i)],[]⟩) (Exists.intro (fun i=>s.length - i) (Exists.intro 0 (And.intro ⟨Nat.zero_le _,rfl⟩ (And.intro ?_ ?_)))))))))
  · (repeat' (first | exact trivial | exact Or.inl rfl | exact Or.inr (Or.inl ⟨rfl,_,rfl⟩) | exact Or.inr (Or.inr (Or.inr ⟨_,_,_,rfl,rfl⟩)) | refine And.intro ?_ ?_))
  · rintro i ⟨hi,heq⟩
    intro hml
    unfold maxLen at hml
    refine And.intro (fun hc=>?_) (fun hc=>?_)
    · have hk:i < s.length:=by have:(i:Int) < s.length:=of_decide_eq_true hc; omega
      rw [bad_step hk] at heq
      have hp:=dec_pos s i
      have hle:=dec_le hk
      have ht:(s.take (Int.toNat (s.length:Int))).drop (Int.toNat i) = s.drop i:=by simp only [Int.toNat_natCast,List.take_length]
      have qc:=s_Code (s.drop i)
      unfold codeR at qc
      rw [code_at hk] at qc
      refine And.intro ⟨by omega,by omega,Int.le_refl _⟩ ?_
      rw [ht]
      by_cases hb:(decAt s i).1 = 65533∧(decAt s i).2 = 1
      · rw [if_pos hb] at qc heq
        refine Or.inl (Exists.intro _ (And.intro (qc) ?_))
        (focus (refine And.intro ?_ (fun h9=>?_); rotate_left 1; (focus (exfalso; revert h9; first | decide | (simp<;>omega) | (intro h9; simp at h9<;>omega))); refine fun _=>?_))
        exact congrArg (AV.i .i64) heq
      · rw [if_neg hb] at qc heq
        refine Or.inl (Exists.intro _ (And.intro (qc) ?_))
        refine And.intro (fun h9=>absurd (of_decide_eq_true h9) (by simp only; omega)) (fun _=>?_)
        refine And.intro ⟨by simp only; omega,by simp only; omega⟩ ?_
        refine Exists.intro [] (Exists.intro (i + (decAt s i).2) (And.intro ⟨hle,heq⟩ (And.intro ?_ ?_)))
        · (repeat' (first | exact trivial | exact Or.inl rfl | exact Or.inr (Or.inl ⟨rfl,_,rfl⟩) | exact Or.inr (Or.inr (Or.inr ⟨_,_,_,rfl,rfl⟩)) | refine And.intro ?_ ?_))
        · show s.length - (i + (decAt s i).2) < s.length - i
          omega
    · have hk:s.length≤i:=by have:¬ (i:Int) < s.length:=of_decide_eq_false hc; omega
      rw [bad_end hk] at heq
      exact congrArg (AV.i .i64) heq
theorem s_BadPlace (s:Str):PSpec Tryd.prog 19 [.s s] (.i .i64 (bad s)) :=
  pspec_of_vc Γ_good Tryd.func19 rfl Tryd.call19 Tryd.results19 Tryd.ntmps19 (Nat.le_of_ble_eq_true rfl) (w_BadPlace s)
theorem w_Bad (hu:HasU8) (s:Str):vc Tryd.prog Γ 25 [0,2,3,4,6,8,9,10,14,23] (Tryd.f22.body.getD .skip) (postK Γ [.tmp 2] (fun v=>v = .i .i64 (bad s))) ⟨argSlots 0 [.s s],[]⟩:=by
  refine Exists.intro [] (Exists.intro [] (Exists.intro [] (Exists.intro Nat (Exists.intro (fun i=>i≤s.length∧badFrom s i = bad s) (Exists.intro (fun i=>⟨[(0,.s s),(8,.ob 8 8 (.it s i))],[]⟩) (Exists.intro (fun i=>s.length - i) (Exists.intro 0 (And.intro ⟨Nat.zero_le _,rfl⟩ (And.intro ?_ ?_)))))))))
  · (repeat' (first | exact trivial | exact Or.inl rfl | exact Or.inr (Or.inl ⟨rfl,_,rfl⟩) | exact Or.inr (Or.inr (Or.inr ⟨_,_,_,rfl,rfl⟩)) | refine And.intro ?_ ?_))
  · rintro i ⟨hi,heq⟩
    refine And.intro (fun hk=>?_) (fun hk=>?_)
    · rw [bad_step hk] at heq
      have hp:=dec_pos s i
      have hle:=dec_le hk
      have ht:(s.take (Int.toNat (s.length:Int))).drop (Int.toNat i) = s.drop i:=by simp only [Int.toNat_natCast,List.take_length]
      have qc:=s_Next hu (s.drop i)
      unfold codeR at qc
      rw [code_at hk] at qc
      (focus (refine And.intro ?_ (fun h9=>?_); rotate_left 1; (focus (exfalso; revert h9; first | decide | (simp<;>omega) | (intro h9; simp at h9<;>omega))); refine fun _=>?_))
      refine And.intro (fun h1=>?_) (fun h1=>?_)
      · have h1:(decAt s i).1 = 65533:=by have:=eq_of_beq h1; omega
        refine And.intro ⟨by omega,by omega,Int.le_refl _⟩ ?_
        rw [ht]
        by_cases hb:(decAt s i).1 = 65533∧(decAt s i).2 = 1
        · rw [if_pos hb] at qc heq
          refine Or.inl (Exists.intro _ (And.intro (qc) ?_))
          (focus (refine And.intro ?_ (fun h9=>?_); rotate_left 1; (focus (exfalso; revert h9; first | decide | (simp<;>omega) | (intro h9; simp at h9<;>omega))); refine fun _=>?_))
          exact congrArg (AV.i .i64) heq
        · rw [if_neg hb] at qc heq
          refine Or.inl (Exists.intro _ (And.intro (qc) ?_))
          have h2:(decAt s i).2≠1:=fun e=>hb ⟨h1,e⟩
          refine And.intro (fun h9=>absurd (eq_of_beq h9) (by simp only; omega)) (fun _=>?_)
          refine Exists.intro [] (Exists.intro (i + (decAt s i).2) (And.intro ⟨hle,heq⟩ (And.intro ?_ ?_)))
          · (repeat' (first | exact trivial | exact Or.inl rfl | exact Or.inr (Or.inl ⟨rfl,_,rfl⟩) | exact Or.inr (Or.inr (Or.inr ⟨_,_,_,rfl,rfl⟩)) | refine And.intro ?_ ?_))
          · show s.length - (i + (decAt s i).2) < s.length - i
            omega
      · have h1:(decAt s i).1≠65533:=by have:=ne_of_beq_false h1; omega
        rw [if_neg (fun h=>h1 h.1)] at heq
        refine Exists.intro [] (Exists.intro (i + (decAt s i).2) (And.intro ⟨hle,heq⟩ (And.intro ?_ ?_)))
        · (repeat' (first | exact trivial | exact Or.inl rfl | exact Or.inr (Or.inl ⟨rfl,_,rfl⟩) | exact Or.inr (Or.inr (Or.inr ⟨_,_,_,rfl,rfl⟩)) | refine And.intro ?_ ?_))
        · show s.length - (i + (decAt s i).2) < s.length - i
          omega
    · rw [bad_end (by omega)] at heq
      (focus (refine And.intro (fun h9=>?_) ?_; (focus (exfalso; revert h9; first | decide | (simp<;>omega) | (intro h9; simp at h9<;>omega))); refine fun _=>?_))
      exact congrArg (AV.i .i64) heq
theorem s_Bad (hu:HasU8) (s:Str):PSpec Tryd.prog 22 [.s s] (.i .i64 (bad s)) :=
  pspec_of_vc Γ_good Tryd.func22 rfl Tryd.call22 Tryd.results22 Tryd.ntmps22 (Nat.le_of_ble_eq_true rfl) (w_Bad hu s)
end
end Go.Proofs.YtnpmmkfdclhbeaaDoor
end
section
namespace Go.Proofs.YtnpmmkfdclhbeaaDoor
set_option linter.unusedSectionVars false
set_option linter.unusedSimpArgs false
set_option linter.unusedVariables false
open Go Go.SX Go.Ck Go.Vl Go.Ut Go.Up
set_option maxRecDepth 100000
set_option maxHeartbeats 1000000
theorem stepF1 {p:PStep} (h:p.i < -1∨(0≤p.i∧p.key≠[])):stepF p = 1:=if_pos h
theorem stepF2 {p:PStep} (h:¬ (p.i < -1∨(0≤p.i∧p.key≠[]))) (h2:100 < p.key.length):stepF p = 2:=by unfold stepF; rw [if_neg h,if_pos h2]
theorem stepF3 {p:PStep} (h:¬ (p.i < -1∨(0≤p.i∧p.key≠[]))) (h2:¬ 100 < p.key.length) (h3:0≤bad p.key):stepF p = 3:=by unfold stepF; rw [if_neg h,if_neg h2,if_pos h3]
theorem stepF0 {p:PStep} (h:¬ (p.i < -1∨(0≤p.i∧p.key≠[]))) (h2:¬ 100 < p.key.length) (h3:¬ 0≤bad p.key):stepF p = 0:=by unfold stepF; rw [if_neg h,if_neg h2,if_neg h3]
theorem stepsF_stop {l:List PStep} {i:Nat} {e:Int} (h:i < l.length) (he:stepF l[i] = e) (h0:e≠0):stepsF (l.drop i) = e:=by rw [stepsF_drop h,he,orI_ne h0]
theorem stepsF_go {l:List PStep} {i:Nat} (h:i < l.length) (he:stepF l[i] = 0):stepsF (l.drop i) = stepsF (l.drop (i + 1)):=by rw [stepsF_drop h,he,orI_zero]
section
variable [G:Globs]
theorem w_pathC (hu:HasU8) (l:List PStep):vc Tryd.prog Γ 39 [0,2,4,7,8,9,10,11,14,28,33] (Tryd.f12.body.getD .skip) (postK Γ [.tmp 2] (fun v=>v = .i .i64 (pathF l))) ⟨argSlots 0 [.rd .pstep l],[]⟩:=by
  intro hl
  refine And.intro (fun hq=>?_) (fun hq=>?_)
  · refine congrArg (AV.i .i64) ?_
    rw [pathF,if_pos (by have:=of_decide_eq_true hq; omega)]
  rw [pathF,if_neg (by have:=of_decide_eq_false hq; omega)]
  intro _
  refine Exists.intro [] (Exists.intro [] (Exists.intro [] (Exists.intro Nat (Exists.intro (fun i=>i≤(l).length∧(stepsF l = stepsF (l.drop i))) (Exists.intro (fun i=>⟨[(8,.rd .pstep l),(9,.i .i64 l.length),(10,.i .i64 i)],[]⟩) (Exists.intro (fun i=>(l).length - i) (Exists.intro 0 (And.intro ⟨Nat.zero_le _,rfl⟩ (And.intro ?_ ?_)))))))))
  · (repeat' (first | exact trivial | exact Or.inl rfl | exact Or.inr (Or.inl ⟨rfl,_,rfl⟩) | exact Or.inr (Or.inr (Or.inr ⟨_,_,_,rfl,rfl⟩)) | refine And.intro ?_ ?_))
  rintro i ⟨hi,hI⟩
  refine And.intro (fun hz=>?_) (fun hz=>?_)
  · have hi:=ltD hz
    have hg:=getI (τ:=.pstep) hi
    refine And.intro ⟨by omega,by omega⟩ ?_
    rw [hg]
    by_cases c:l[i].i < -1∨(0≤l[i].i∧l[i].key≠[])
    · rw [stepsF_stop hi (stepF1 c) (by decide)] at hI
      rcases c with c | ⟨c,c3⟩
      all_goals (repeat' (first | (refine And.intro (fun h=>?_) (fun h=>?_)<;>(try simp [-List.getD_eq_getElem?_getD,-Int.pred_toNat] at h)<;>(try (exfalso; first | omega | contradiction))) | (refine And.intro (rng64 (by omega) (by omega)) ?_) | (refine And.intro ⟨by omega,by omega⟩ ?_) | (refine And.intro ⟨by omega,by omega,by omega⟩ ?_) | (intro _)))
      all_goals exact congrArg (AV.i .i64) hI.symm
    · have c1 : -1≤l[i].i:=by omega
      have c2:l[i].i < 0∨(0≤l[i].i∧l[i].key = []):=by grind
      by_cases d:100 < l[i].key.length
      · rw [stepsF_stop hi (stepF2 c d) (by decide)] at hI
        rcases c2 with c2 | ⟨c2,c3⟩
        all_goals (repeat' (first | (refine And.intro (fun h=>?_) (fun h=>?_)<;>(try simp [-List.getD_eq_getElem?_getD,-Int.pred_toNat] at h)<;>(try (exfalso; first | omega | contradiction))) | (refine And.intro (rng64 (by omega) (by omega)) ?_) | (refine And.intro ⟨by omega,by omega⟩ ?_) | (refine And.intro ⟨by omega,by omega,by omega⟩ ?_) | (intro _)))
        all_goals exact congrArg (AV.i .i64) hI.symm
      · by_cases e:0≤bad l[i].key
        · rw [stepsF_stop hi (stepF3 c d e) (by decide)] at hI
          rcases c2 with c2 | ⟨c2,c3⟩
          all_goals (repeat' (first | (refine And.intro (fun h=>?_) (fun h=>?_)<;>(try simp [-List.getD_eq_getElem?_getD,-Int.pred_toNat] at h)<;>(try (exfalso; first | omega | contradiction))) | (refine And.intro (rng64 (by omega) (by omega)) ?_) | (refine And.intro ⟨by omega,by omega⟩ ?_) | (refine And.intro ⟨by omega,by omega,by omega⟩ ?_) | (intro _)))
          all_goals refine Or.inl (Exists.intro _ (And.intro (s_Bad hu l[i].key) ?_))
          all_goals (repeat' (first | (refine And.intro (fun h=>?_) (fun h=>?_)<;>(try simp [-List.getD_eq_getElem?_getD,-Int.pred_toNat] at h)<;>(try (exfalso; first | omega | contradiction))) | (refine And.intro (rng64 (by omega) (by omega)) ?_) | (refine And.intro ⟨by omega,by omega⟩ ?_) | (refine And.intro ⟨by omega,by omega,by omega⟩ ?_) | (intro _)))
          all_goals exact congrArg (AV.i .i64) hI.symm
        · rw [stepsF_go hi (stepF0 c d e)] at hI
          have:=len_le hl
          rcases c2 with c2 | ⟨c2,c3⟩
          all_goals (repeat' (first | (refine And.intro (fun h=>?_) (fun h=>?_)<;>(try simp [-List.getD_eq_getElem?_getD,-Int.pred_toNat] at h)<;>(try (exfalso; first | omega | contradiction))) | (refine And.intro (rng64 (by omega) (by omega)) ?_) | (refine And.intro ⟨by omega,by omega⟩ ?_) | (refine And.intro ⟨by omega,by omega,by omega⟩ ?_) | (intro _)))
          all_goals refine Or.inl (Exists.intro _ (And.intro (s_Bad hu l[i].key) ?_))
          all_goals (repeat' (first | (refine And.intro (fun h=>?_) (fun h=>?_)<;>(try simp [-List.getD_eq_getElem?_getD,-Int.pred_toNat] at h)<;>(try (exfalso; first | omega | contradiction))) | (refine And.intro (rng64 (by omega) (by omega)) ?_) | (refine And.intro ⟨by omega,by omega⟩ ?_) | (refine And.intro ⟨by omega,by omega,by omega⟩ ?_) | (intro _)))
          all_goals refine Exists.intro [] (Exists.intro (i + 1) (And.intro ⟨hi,hI⟩ (And.intro ?_ ?_)))
          all_goals first | (exact Nat.sub_lt_sub_left (by omega) (by omega)) | (repeat' (first | exact trivial | exact Or.inl rfl | exact Or.inr (Or.inl ⟨rfl,_,rfl⟩) | exact Or.inr (Or.inr (Or.inr ⟨_,_,_,rfl,rfl⟩)) | refine And.intro ?_ ?_))
  · (have hi:=geD hi hz)
    rw [hI,List.drop_eq_nil_of_le (by omega)]
    rfl
theorem s_pathC (hu:HasU8) (l:List PStep):PSpec Tryd.prog 12 [.rd .pstep l] (.i .i64 (pathF l)) :=
  pspec_of_vc Γ_good Tryd.func12 rfl Tryd.call12 Tryd.results12 Tryd.ntmps12 (Nat.le_of_ble_eq_true rfl) (w_pathC hu l)
def partA (a:Val) (p:PStep):AV:=.tup [.agg (encVal (partV a p).1),.i .i64 (partV a p).2]
theorem partA_eq {a:Val} {p:PStep} {w:Val} {e:Int} (h:partV a p = (w,e)):partA a p = .tup [.agg (encVal w),.i .i64 e]:=by unfold partA; rw [h]
theorem partV_tk {a:Val} {p:PStep} (h:p.i < 0) (h2:a.kind≠6):partV a p = (zeroV,10):=by unfold partV; rw [if_pos h,if_pos h2]
theorem partV_tn {a:Val} {p:PStep} (h:p.i < 0) (h2:¬ a.kind≠6) (h3:ixI a.e (keyIs p.key) < 0):partV a p = (zeroV,8):=by unfold partV; rw [if_pos h,if_neg h2,if_pos h3]
theorem partV_t {a:Val} {p:PStep} (h:p.i < 0) (h2:¬ a.kind≠6) (h3:¬ ixI a.e (keyIs p.key) < 0):partV a p = ((a.e.getD (ixI a.e (keyIs p.key)).toNat (dflt .ent)).2,0):=by unfold partV; rw [if_pos h,if_neg h2,if_neg h3]
theorem partV_lk {a:Val} {p:PStep} (h:¬ p.i < 0) (h2:a.kind≠5):partV a p = (zeroV,10):=by unfold partV; rw [if_neg h,if_pos h2]
theorem partV_ln {a:Val} {p:PStep} (h:¬ p.i < 0) (h2:¬ a.kind≠5) (h3:(a.l.length:Int)≤p.i):partV a p = (zeroV,8):=by unfold partV; rw [if_neg h,if_neg h2,if_pos h3]
theorem partV_l {a:Val} {p:PStep} (h:¬ p.i < 0) (h2:¬ a.kind≠5) (h3:¬ (a.l.length:Int)≤p.i):partV a p = (a.l.getD p.i.toNat (dflt .val),0):=by unfold partV; rw [if_neg h,if_neg h2,if_neg h3]
theorem w_partOf (a:Val) (p:PStep) (h : -1≤p.i):vc Tryd.prog Γ 46 [2,3,4,5,6,7,10,13,21,31,38] (Tryd.f21.body.getD .skip) (postK Γ [.cell 4 26,.tmp 5] (fun v=>RL v (partA a p))) ⟨argSlots 0 [.agg (encVal a),.agg (enc .pstep p)],[]⟩:=by
  refine And.intro (fun hq=>?_) (fun hq=>?_)
  · have hq:p.i < 0:=by have:=eq_of_beq hq; omega
    refine And.intro (fun hk=>?_) (fun hk=>?_)
    · have hk:a.kind≠6:=by simpa using hk
      rw [partA_eq (partV_tk hq hk)]
      (repeat' (first | exact trivial | exact Or.inl rfl | exact Or.inr ⟨rfl,_,rfl⟩ | refine And.intro ?_ ?_))
    have hk:¬ a.kind≠6:=by simpa using hk
    refine Or.inl (Exists.intro _ (And.intro (s_entAt a.e p.key) ?_))
    refine And.intro (fun hx=>?_) (fun hx=>?_)
    · have hx:ixI a.e (keyIs p.key) < 0:=of_decide_eq_true hx
      rw [partA_eq (partV_tn hq hk hx)]
      (repeat' (first | exact trivial | exact Or.inl rfl | exact Or.inr ⟨rfl,_,rfl⟩ | refine And.intro ?_ ?_))
    have hx:¬ ixI a.e (keyIs p.key) < 0:=of_decide_eq_false hx
    have hb:=ix_bound hx
    rw [partA_eq (partV_t hq hk hx)]
    refine And.intro ⟨by omega,by omega⟩ ?_
    (repeat' (first | exact trivial | exact Or.inl rfl | exact Or.inr ⟨rfl,_,rfl⟩ | refine And.intro ?_ ?_))
  · have hq:¬ p.i < 0:=by have:=ne_of_beq_false hq; omega
    refine And.intro (fun hk=>?_) (fun hk=>?_)
    · have hk:a.kind≠5:=by simpa using hk
      rw [partA_eq (partV_lk hq hk)]
      (repeat' (first | exact trivial | exact Or.inl rfl | exact Or.inr ⟨rfl,_,rfl⟩ | refine And.intro ?_ ?_))
    have hk:¬ a.kind≠5:=by simpa using hk
    intro _
    refine And.intro (fun hx=>?_) (fun hx=>?_)
    · rw [partA_eq (partV_ln hq hk (of_decide_eq_true hx))]
      (repeat' (first | exact trivial | exact Or.inl rfl | exact Or.inr ⟨rfl,_,rfl⟩ | refine And.intro ?_ ?_))
    have hx:¬ (a.l.length:Int)≤p.i:=of_decide_eq_false hx
    rw [partA_eq (partV_l hq hk hx)]
    refine And.intro ⟨by omega,by omega⟩ ?_
    (repeat' (first | exact trivial | exact Or.inl rfl | exact Or.inr ⟨rfl,_,rfl⟩ | refine And.intro ?_ ?_))
theorem s_partOf (a:Val) (p:PStep) (h : -1≤p.i):PSpec Tryd.prog 21 [.agg (encVal a),.agg (enc .pstep p)] (partA a p) :=
  pspec_of_vcL Γ_good Tryd.func21 rfl Tryd.call21 Tryd.results21 Tryd.ntmps21 (Nat.le_of_ble_eq_true rfl) (w_partOf a p h)
theorem w_part (a:Val) (p:PStep):vc Tryd.prog Γ 49 [2,3,4,5,6,9,15,20,30,35] (Tryd.f13.body.getD .skip) (postK Γ [.cell 4 26,.tmp 5] (fun v=>RL v (partA a p))) ⟨argSlots 0 [.agg (encVal a),.agg (enc .pstep p)],[]⟩:=by
  refine And.intro (fun hq=>?_) (fun hq=>?_)
  · have hq:p.i < 0:=of_decide_eq_true hq
    refine Or.inl (Exists.intro _ (And.intro (s_find a.e p.key) ?_))
    refine And.intro (fun hk=>?_) (fun hk=>?_)
    · have hk:a.kind≠6:=by simpa using hk
      rw [partA_eq (partV_tk hq hk)]
      (repeat' (first | exact trivial | exact Or.inl rfl | exact Or.inr ⟨rfl,_,rfl⟩ | refine And.intro ?_ ?_))
    have hk:¬ a.kind≠6:=by simpa using hk
    refine And.intro (fun hx=>?_) (fun hx=>?_)
    · have hx:ixI a.e (keyIs p.key) < 0:=of_decide_eq_true hx
      rw [partA_eq (partV_tn hq hk hx)]
      (repeat' (first | exact trivial | exact Or.inl rfl | exact Or.inr ⟨rfl,_,rfl⟩ | refine And.intro ?_ ?_))
    have hx:¬ ixI a.e (keyIs p.key) < 0:=of_decide_eq_false hx
    have hb:=ix_bound hx
    rw [partA_eq (partV_t hq hk hx)]
    refine And.intro ⟨by omega,by omega⟩ ?_
    (repeat' (first | exact trivial | exact Or.inl rfl | exact Or.inr ⟨rfl,_,rfl⟩ | refine And.intro ?_ ?_))
  · have hq:¬ p.i < 0:=of_decide_eq_false hq
    refine And.intro (fun hk=>?_) (fun hk=>?_)
    · have hk:a.kind≠5:=by simpa using hk
      rw [partA_eq (partV_lk hq hk)]
      (repeat' (first | exact trivial | exact Or.inl rfl | exact Or.inr ⟨rfl,_,rfl⟩ | refine And.intro ?_ ?_))
    have hk:¬ a.kind≠5:=by simpa using hk
    intro _
    refine And.intro (fun hx=>?_) (fun hx=>?_)
    · rw [partA_eq (partV_ln hq hk (of_decide_eq_true hx))]
      (repeat' (first | exact trivial | exact Or.inl rfl | exact Or.inr ⟨rfl,_,rfl⟩ | refine And.intro ?_ ?_))
    have hx:¬ (a.l.length:Int)≤p.i:=of_decide_eq_false hx
    rw [partA_eq (partV_l hq hk hx)]
    refine And.intro ⟨by omega,by omega⟩ ?_
    (repeat' (first | exact trivial | exact Or.inl rfl | exact Or.inr ⟨rfl,_,rfl⟩ | refine And.intro ?_ ?_))
theorem s_part (a:Val) (p:PStep):PSpec Tryd.prog 13 [.agg (encVal a),.agg (enc .pstep p)] (partA a p) :=
  pspec_of_vcL Γ_good Tryd.func13 rfl Tryd.call13 Tryd.results13 Tryd.ntmps13 (Nat.le_of_ble_eq_true rfl) (w_part a p)
theorem w_pathR (l:List PStep):vc Tryd.prog Γ 36 [0,2,4,7,8,9,10,11,26,30,34] (Tryd.f9.body.getD .skip) (postK Γ [.tmp 2] (fun v=>v = .i .i64 (pathF l))) ⟨argSlots 0 [.rd .pstep l],[]⟩:=by
  intro hl
  refine And.intro (fun hq=>?_) (fun hq=>?_)
  · refine congrArg (AV.i .i64) ?_
    rw [pathF,if_pos (by have:=of_decide_eq_true hq; omega)]
  rw [pathF,if_neg (by have:=of_decide_eq_false hq; omega)]
  intro _
  refine Exists.intro [] (Exists.intro [] (Exists.intro [] (Exists.intro Nat (Exists.intro (fun i=>i≤(l).length∧(stepsF l = stepsF (l.drop i))) (Exists.intro (fun i=>⟨[(8,.rd .pstep l),(9,.i .i64 l.length),(10,.i .i64 i)],[]⟩) (Exists.intro (fun i=>(l).length - i) (Exists.intro 0 (And.intro ⟨Nat.zero_le _,rfl⟩ (And.intro ?_ ?_)))))))))
  · (repeat' (first | exact trivial | exact Or.inl rfl | exact Or.inr (Or.inl ⟨rfl,_,rfl⟩) | exact Or.inr (Or.inr (Or.inr ⟨_,_,_,rfl,rfl⟩)) | refine And.intro ?_ ?_))
  rintro i ⟨hi,hI⟩
  refine And.intro (fun hz=>?_) (fun hz=>?_)
  · have hi:=ltD hz
    have hg:=getI (τ:=.pstep) hi
    refine And.intro ⟨by omega,by omega⟩ ?_
    rw [hg]
    by_cases c:l[i].i < -1∨(0≤l[i].i∧l[i].key≠[])
    · rw [stepsF_stop hi (stepF1 c) (by decide)] at hI
      rcases c with c | ⟨c,c3⟩
      all_goals (repeat' (first | (refine And.intro (fun h=>?_) (fun h=>?_)<;>(try simp [-List.getD_eq_getElem?_getD,-Int.pred_toNat] at h)<;>(try (exfalso; first | omega | contradiction))) | (refine And.intro (rng64 (by omega) (by omega)) ?_) | (refine And.intro ⟨by omega,by omega⟩ ?_) | (refine And.intro ⟨by omega,by omega,by omega⟩ ?_) | (intro _)))
      all_goals exact congrArg (AV.i .i64) hI.symm
    · have c1 : -1≤l[i].i:=by omega
      have c2:l[i].i = -1∨(0≤l[i].i∧l[i].key = []):=by grind
      by_cases d:100 < l[i].key.length
      · rw [stepsF_stop hi (stepF2 c d) (by decide)] at hI
        rcases c2 with c2 | ⟨c2,c3⟩
        all_goals (repeat' (first | (refine And.intro (fun h=>?_) (fun h=>?_)<;>(try simp [-List.getD_eq_getElem?_getD,-Int.pred_toNat] at h)<;>(try (exfalso; first | omega | contradiction))) | (refine And.intro (rng64 (by omega) (by omega)) ?_) | (refine And.intro ⟨by omega,by omega⟩ ?_) | (refine And.intro ⟨by omega,by omega,by omega⟩ ?_) | (intro _)))
        all_goals exact congrArg (AV.i .i64) hI.symm
      · by_cases e:0≤bad l[i].key
        · rw [stepsF_stop hi (stepF3 c d e) (by decide)] at hI
          rcases c2 with c2 | ⟨c2,c3⟩
          all_goals (repeat' (first | (refine And.intro (fun h=>?_) (fun h=>?_)<;>(try simp [-List.getD_eq_getElem?_getD,-Int.pred_toNat] at h)<;>(try (exfalso; first | omega | contradiction))) | (refine And.intro (rng64 (by omega) (by omega)) ?_) | (refine And.intro ⟨by omega,by omega⟩ ?_) | (refine And.intro ⟨by omega,by omega,by omega⟩ ?_) | (intro _)))
          all_goals refine Or.inl (Exists.intro _ (And.intro (s_BadPlace l[i].key) ?_))
          all_goals (repeat' (first | (refine And.intro (fun h=>?_) (fun h=>?_)<;>(try simp [-List.getD_eq_getElem?_getD,-Int.pred_toNat] at h)<;>(try (exfalso; first | omega | contradiction))) | (refine And.intro (rng64 (by omega) (by omega)) ?_) | (refine And.intro ⟨by omega,by omega⟩ ?_) | (refine And.intro ⟨by omega,by omega,by omega⟩ ?_) | (intro _)))
          all_goals exact congrArg (AV.i .i64) hI.symm
        · rw [stepsF_go hi (stepF0 c d e)] at hI
          have:=len_le hl
          rcases c2 with c2 | ⟨c2,c3⟩
          all_goals (repeat' (first | (refine And.intro (fun h=>?_) (fun h=>?_)<;>(try simp [-List.getD_eq_getElem?_getD,-Int.pred_toNat] at h)<;>(try (exfalso; first | omega | contradiction))) | (refine And.intro (rng64 (by omega) (by omega)) ?_) | (refine And.intro ⟨by omega,by omega⟩ ?_) | (refine And.intro ⟨by omega,by omega,by omega⟩ ?_) | (intro _)))
          all_goals refine Or.inl (Exists.intro _ (And.intro (s_BadPlace l[i].key) ?_))
          all_goals (repeat' (first | (refine And.intro (fun h=>?_) (fun h=>?_)<;>(try simp [-List.getD_eq_getElem?_getD,-Int.pred_toNat] at h)<;>(try (exfalso; first | omega | contradiction))) | (refine And.intro (rng64 (by omega) (by omega)) ?_) | (refine And.intro ⟨by omega,by omega⟩ ?_) | (refine And.intro ⟨by omega,by omega,by omega⟩ ?_) | (intro _)))
          all_goals refine Exists.intro [] (Exists.intro (i + 1) (And.intro ⟨hi,hI⟩ (And.intro ?_ ?_)))
          all_goals first | (exact Nat.sub_lt_sub_left (by omega) (by omega)) | (repeat' (first | exact trivial | exact Or.inl rfl | exact Or.inr (Or.inl ⟨rfl,_,rfl⟩) | exact Or.inr (Or.inr (Or.inr ⟨_,_,_,rfl,rfl⟩)) | refine And.intro ?_ ?_))
  · (have hi:=geD hi hz)
    rw [hI,List.drop_eq_nil_of_le (by omega)]
    rfl
theorem s_pathR (l:List PStep):PSpec Tryd.prog 9 [.rd .pstep l] (.i .i64 (pathF l)) :=
  pspec_of_vc Γ_good Tryd.func9 rfl Tryd.call9 Tryd.results9 Tryd.ntmps9 (Nat.le_of_ble_eq_true rfl) (w_pathR l)
def ledA (a:Val) (l:List PStep):AV:=.tup [.agg (encVal (ledV a l).1),.i .i64 (ledV a l).2]
theorem ledA_eq {a w:Val} {l:List PStep} {e:Int} (h:ledV a l = (w,e)):ledA a l = .tup [.agg (encVal w),.i .i64 e]:=by unfold ledA; rw [h]
theorem tail_eq (p:PStep) (r:List PStep):((p::r).take (Int.toNat ((p::r).length:Int))).drop (Int.toNat 1) = r:=by
  rw [Int.toNat_natCast,List.take_length]; rfl
theorem w_led0 (a:Val):vc Tryd.prog Γ 30 [1,2,4,5,6,7,10,21] (Tryd.f11.body.getD .skip) (postK Γ [.cell 4 26,.tmp 5] (fun v=>RL v (ledA a []))) ⟨argSlots 0 [.agg (encVal a),.rd .pstep []],[]⟩:=by
  intro _
  refine And.intro (fun _=>?_) (fun hq=>Bool.noConfusion hq)
  (repeat' (first | exact trivial | exact Or.inl rfl | exact Or.inr ⟨rfl,_,rfl⟩ | refine And.intro ?_ ?_))
theorem s_led0 (a:Val):PSpec Tryd.prog 11 [.agg (encVal a),.rd .pstep []] (ledA a []) :=
  pspec_of_vcL Γ_good Tryd.func11 rfl Tryd.call11 Tryd.results11 Tryd.ntmps11 (Nat.le_of_ble_eq_true rfl) (w_led0 a)
theorem w_led1 (a:Val) (p:PStep) (r:List PStep) (h : -1≤p.i) (ih:∀ w,PSpec Tryd.prog 11 [.agg (encVal w),.rd .pstep r] (ledA w r)):vc Tryd.prog Γ 30 [1,2,4,5,6,7,10,21] (Tryd.f11.body.getD .skip) (postK Γ [.cell 4 26,.tmp 5] (fun v=>RL v (ledA a (p::r)))) ⟨argSlots 0 [.agg (encVal a),.rd .pstep (p::r)],[]⟩:=by
  intro _
  refine And.intro (fun hq=>?_) (fun _=>?_)
  · have:=eq_of_beq hq
    simp only [List.length_cons] at this
    omega
  have hs:=s_partOf a p h
  refine Exists.intro [.take 1,.take 2,.tree 8 [0,3,4,5,6,7,8,9] (.opt 0 (.opt 3 (.opt 4 (.opt 5 (.opt 6 (.opt 7 (.opt 8 (.opt 9 .fin .non) .non) (.opt 8 (.opt 7 (.opt 9 .fin .non) (.opt 9 (.opt 7 .fin .non) .non)) .non)) (.opt 7 (.opt 6 (.opt 8 (.opt 9 .fin .non) .non) (.opt 8 (.opt 6 (.opt 9 .fin .non) .non) .non)) (.opt 8 (.opt 6 (.opt 7 (.opt 9 .fin .non) (.opt 9 (.opt 7 .fin .non) .non)) (.opt 7 (.opt 6 (.opt 9 .fin .non) .non) .non)) .non))) (.opt 8 (.opt 5 (.opt 6 (.opt 7 (.opt 9 .fin .non) (.opt 9 (.opt 7 .fin .non) .non)) (.opt 7 (.opt 6 (.opt 9 .fin .non) .non) .non)) .non) .non)) (.opt 8 (.opt 4 (.opt 5 (.opt 6 (.opt 7 (.opt 9 .fin .non) (.opt 9 (.opt 7 .fin .non) .non)) (.opt 7 (.opt 6 (.opt 9 .fin .non) .non) .non)) .non) .non) .non)) (.opt 8 (.opt 3 (.opt 4 (.opt 5 (.opt 6 (.opt 7 (.opt 9 .fin .non) (.opt 9 (.opt 7 .fin .non) .non)) (.opt 7 (.opt 6 (.opt 9 .fin .non) .non) .non)) .non) .non) .non) .non)) (.opt 3 (.opt 0 (.opt 4 (.opt 5 (.opt 6 (.opt 7 (.opt 8 (.opt 9 .fin .non) .non) (.opt 8 (.opt 7 (.opt 9 .fin .non) (.opt 9 (.opt 7 .fin .non) .non)) .non)) (.opt 7 (.opt 6 (.opt 8 (.opt 9 .fin .non) .non) (.opt 8 (.opt 6 (.opt 9 .fin .non) .non) .non)) (.opt 8 (.opt 6 (.opt 7 (.opt 9 .fin .non) (.opt 9 (.opt 7 .fin .non) .non)) (.opt 7 (.opt 6 (.opt 9 .fin .non) .non) .non)) .non))) (.opt 8 (.opt 5 (.opt 6 (.opt 7 (.opt 9 .fin .non) (.opt 9 (.opt 7 .fin .non) .non)) (.opt 7 (.opt 6 (.opt 9 .fin .non) .non) .non)) .non) .non)) (.opt 8 (.opt 4 (.opt 5 (.opt 6 (.opt 7 (.opt 9 .fin .non) (.opt 9 (.opt 7 .fin .non) .non)) (.opt 7 (.opt 6 (.opt 9 .fin .non) .non) .non)) .non) .non) .non)) (.opt 8 (.opt 0 (.opt 4 (.opt 5 (.opt 6 (.opt 7 (.opt 9 .fin .non) (.opt 9 (.opt 7 .fin .non) .non)) (.opt 7 (.opt 6 (.opt 9 .fin .non) .non) .non)) .non) .non) .non) .non)) (.opt 8 (.opt 0 (.opt 3 (.opt 4 (.opt 5 (.opt 6 (.opt 7 (.opt 9 .fin .non) (.opt 9 (.opt 7 .fin .non) .non)) (.opt 7 (.opt 6 (.opt 9 .fin .non) .non) .non)) .non) .non) .non) (.opt 3 (.opt 0 (.opt 4 (.opt 5 (.opt 6 (.opt 7 (.opt 9 .fin .non) (.opt 9 (.opt 7 .fin .non) .non)) (.opt 7 (.opt 6 (.opt 9 .fin .non) .non) .non)) .non) .non) .non) .non)) .non))),.take 10] (And.intro (by kernel_rfl) ?_)
  refine And.intro ⟨by omega,by simp only [List.length_cons]; omega⟩ ?_
  refine Exists.intro ⟨[(1,.rd .pstep (p::r)),(2,.pt 2 0),(4,.pt 4 0),(5,.i .i64 0),(6,.pt 6 0),(19,.i .i64 (partV a p).2)],[(2,encVal a),(4,[.i .i64 0,.i .i64 0,.i .u64 0,.s [],.nl,.nl]),(6,encVal (partV a p).1)]⟩ (And.intro ?_ ?_)
  · repeat' (first | exact trivial | exact Or.inl rfl | refine And.intro ?_ ?_ | refine Or.inl (Exists.intro _ (And.intro hs ?_)))
  have hr:PSpec Tryd.prog 11 [.agg (encVal (partV a p).1),.rd .pstep (((p::r).take (Int.toNat ((p::r).length:Int))).drop (Int.toNat 1))] (ledA (partV a p).1 r):=by
    rw [tail_eq]; exact ih _
  refine And.intro (fun hq=>?_) (fun hq=>?_)
  · have hq:(partV a p).2≠0:=by simpa using hq
    rw [ledA_eq (show ledV a (p::r) = (zeroV,(partV a p).2) from by rw [ledV,if_pos hq])]
    (repeat' (first | exact trivial | exact Or.inl rfl | exact Or.inr ⟨rfl,_,rfl⟩ | refine And.intro ?_ ?_))
  · have hq:¬ (partV a p).2≠0:=by simpa using hq
    rw [show ledA a (p::r) = ledA (partV a p).1 r from by unfold ledA; rw [ledV,if_neg hq]]
    refine Exists.intro [.blk [0,1,2,3,4,5],.one 6,.take 7] (And.intro (by kernel_rfl) ?_)
    refine And.intro ⟨by omega,by simp only [List.length_cons]; omega,by simp only [List.length_cons]; omega⟩ ?_
    refine Exists.intro _ (And.intro (hr) ?_)
    (repeat' (first | exact trivial | exact Or.inl rfl | exact Or.inr ⟨rfl,_,rfl⟩ | refine And.intro ?_ ?_))
theorem s_led1 (a:Val) (p:PStep) (r:List PStep) (h : -1≤p.i) (ih:∀ w,PSpec Tryd.prog 11 [.agg (encVal w),.rd .pstep r] (ledA w r)):PSpec Tryd.prog 11 [.agg (encVal a),.rd .pstep (p::r)] (ledA a (p::r)) :=
  pspec_of_vcL Γ_good Tryd.func11 rfl Tryd.call11 Tryd.results11 Tryd.ntmps11 (Nat.le_of_ble_eq_true rfl) (w_led1 a p r h ih)
theorem s_Led:∀ (l:List PStep) (a:Val),(∀ p ∈ l,-1≤p.i)→PSpec Tryd.prog 11 [.agg (encVal a),.rd .pstep l] (ledA a l)
  | [],a,_=>s_led0 a
  | p::r,a,h=>s_led1 a p r (h p (.head _)) fun w=>s_Led r w fun q hq=>h q (.tail _ hq)
def getV (a:Val) (l:List PStep):Val × Int:=if pathF l≠0 then (zeroV,pathF l) else ledV a l
def getA (a:Val) (l:List PStep):AV:=.tup [.agg (encVal (getV a l).1),.i .i64 (getV a l).2]
theorem getA_eq {a w:Val} {l:List PStep} {e:Int} (h:getV a l = (w,e)):getA a l = .tup [.agg (encVal w),.i .i64 e]:=by unfold getA; rw [h]
theorem vn_zero (n:Nat):VN n zeroV:=.mk _ (Nat.zero_le _) (Nat.zero_le _) (fun _ h=>nomatch h) (fun _ h=>nomatch h)
theorem vn_part {n:Nat} {v x:Val} (hv:VN n v) (hx:x ∈ partsOf v):VN n x:=by
  cases hv with
  | mk _ _ _ h4 h5 =>
    rcases List.mem_append.1 hx with hx | hx
    · exact h4 x hx
    · obtain ⟨z,hz,rfl⟩:=List.mem_map.1 hx
      exact h5 z hz
theorem w_get (hu:HasU8) (a:Val) (l:List PStep) (ha:VN 100000000 a):vc Tryd.prog Γ 35 [1,2,4,5,6,8,9,13,16,17,18,19,29] (Tryd.f5.body.getD .skip) (postK Γ [.cell 4 26,.tmp 5] (fun v=>RL v (getA a l))) ⟨argSlots 0 [.agg (encVal a),.rd .pstep l],[]⟩:=by
  refine Or.inl (Exists.intro _ (And.intro (s_pathC hu l) ?_))
  refine And.intro (fun hq=>?_) (fun hq=>?_)
  · have hq:pathF l≠0:=by simpa using hq
    rw [getA_eq (show getV a l = (zeroV,pathF l) from if_pos hq)]
    (repeat' (first | exact trivial | exact Or.inl rfl | exact Or.inr ⟨rfl,_,rfl⟩ | refine And.intro ?_ ?_))
  have hq:¬ pathF l≠0:=by simpa using hq
  have hg:getV a l = ledV a l:=if_neg hq
  rw [show getA a l = ledA a l from by unfold getA ledA; rw [hg]]
  intro hl
  refine Exists.intro [] (Exists.intro [] (Exists.intro [] (Exists.intro Nat (Exists.intro (fun i=>i≤(l).length∧((ledV a (l.take i)).2 = 0)) (Exists.intro (fun i=>⟨[(2,.pt 2 0),(4,.pt 4 0),(5,.i .i64 0),(16,.rd .pstep l),(17,.i .i64 l.length),(18,.i .i64 i)],[(2,encVal (ledV a (l.take i)).1),(4,[.i .i64 0,.i .i64 0,.i .u64 0,.s [],.nl,.nl])]⟩) (Exists.intro (fun i=>(l).length - i) (Exists.intro 0 (And.intro ⟨Nat.zero_le _,rfl⟩ (And.intro ?_ ?_)))))))))
  · (repeat' (first | exact trivial | exact Or.inl rfl | exact Or.inr (Or.inl ⟨rfl,_,rfl⟩) | exact Or.inr (Or.inr (Or.inr ⟨_,_,_,rfl,rfl⟩)) | refine And.intro ?_ ?_))
  rintro i ⟨hi,hI⟩
  refine And.intro (fun hz=>?_) (fun hz=>?_)
  · have hi:=ltD hz
    have hg:=getI (τ:=.pstep) hi
    refine And.intro ⟨by omega,by omega⟩ ?_
    rw [hg]
    have hs:=s_part (ledV a (l.take i)).1 l[i]
    have hap:=ledV_append (l.take i) [l[i]] a hI
    rw [← take_snoc hi,ledV_one] at hap
    have hap2:=ledV_append (l.take i) (l.drop i) a hI
    rw [List.take_append_drop,List.drop_eq_getElem_cons hi,ledV] at hap2
    have:=len_le hl
    refine Or.inl (Exists.intro _ (And.intro (hs) ?_))
    refine And.intro (fun hq=>?_) (fun hq=>?_)
    · have hq:(partV (ledV a (l.take i)).1 l[i]).2≠0:=by simpa using hq
      rw [if_pos hq] at hap2
      rw [ledA_eq hap2]
      (repeat' (first | exact trivial | exact Or.inl rfl | exact Or.inr ⟨rfl,_,rfl⟩ | refine And.intro ?_ ?_))
    · have hq:¬ (partV (ledV a (l.take i)).1 l[i]).2≠0:=by simpa using hq
      rw [if_neg hq] at hap
      have e1:(ledV a (l.take (i + 1))).1 = (partV (ledV a (l.take i)).1 l[i]).1:=by rw [hap]
      (refine And.intro (rng64 (by omega) (by omega)) ?_)
      refine Exists.intro [] (Exists.intro (_ + 1) (And.intro ⟨hi,(by rw [hap])⟩ (And.intro ?_ ?_)))
      · (repeat' (first | exact trivial | exact Or.inl rfl | exact Or.inl ((congrArg (fun v:Val=>AV.i .i64 v.kind) e1.symm)) | exact Or.inl ((congrArg (fun v:Val=>AV.i .i64 v.n) e1.symm)) | exact Or.inl ((congrArg (fun v:Val=>AV.i .u64 v.f) e1.symm)) | exact Or.inl ((congrArg (fun v:Val=>AV.s v.s) e1.symm)) | exact Or.inl ((congrArg (fun v:Val=>AV.rd .val v.l) e1.symm)) | exact Or.inl ((congrArg (fun v:Val=>AV.rd .ent v.e) e1.symm)) | refine And.intro ?_ ?_))
      · (exact Nat.sub_lt_sub_left (by omega) (by omega))
  · (have hi:=geD hi hz)
    subst hi
    rw [List.take_length] at hI ⊢
    refine Or.inl (Exists.intro _ (And.intro (s_Own (ledV a l).1 (ledV_keep (R:=VN 100000000) (vn_zero _) (fun _ h _ hx=>vn_part h hx) l a ha)) ?_))
    rw [show ledA a l = .tup [.agg (encVal (ledV a l).1),.i .i64 0] from by unfold ledA; rw [hI]]
    (repeat' (first | exact trivial | exact Or.inl rfl | exact Or.inr ⟨rfl,_,rfl⟩ | refine And.intro ?_ ?_))
theorem s_get (hu:HasU8) (a:Val) (l:List PStep) (ha:VN 100000000 a):PSpec Tryd.prog 5 [.agg (encVal a),.rd .pstep l] (getA a l) :=
  pspec_of_vcL Γ_good Tryd.func5 rfl Tryd.call5 Tryd.results5 Tryd.ntmps5 (Nat.le_of_ble_eq_true rfl) (w_get hu a l ha)
end
end Go.Proofs.YtnpmmkfdclhbeaaDoor
end
section
namespace Go.Up
set_option linter.unusedSectionVars false
set_option linter.unusedSimpArgs false
set_option linter.unusedVariables false
open Go.SX Go.Vl Go.Ut Go.Ck
end Go.Up
end
section
namespace Go.Up
set_option linter.unusedSectionVars false
set_option linter.unusedSimpArgs false
set_option linter.unusedVariables false
open Go.SX Go.Vl Go.Ut Go.Ck
theorem partV_in {v:Val} {p:PStep} (h:(partV v p).2 = 0):(partV v p).1 ∈ partsOf v:=by
  unfold partV at h ⊢
  split
  · rename_i c
    rw [if_pos c] at h
    split
    · rename_i d; rw [if_pos d] at h; exact absurd h (by decide)
    · rename_i d
      rw [if_neg d] at h
      split
      · rename_i e; rw [if_pos e] at h; exact absurd h (by decide)
      · rename_i e
        have hb:=(ix_bound e).2.1
        refine List.mem_append_right _ (List.mem_map.2 ⟨v.e[(ixI v.e (keyIs p.key)).toNat],List.getElem_mem hb,?_⟩)
        simp only
        rw [List.getD_eq_getElem?_getD,List.getElem?_eq_getElem hb]
        rfl
  · rename_i c
    rw [if_neg c] at h
    split
    · rename_i d; rw [if_pos d] at h; exact absurd h (by decide)
    · rename_i d
      rw [if_neg d] at h
      split
      · rename_i e; rw [if_pos e] at h; exact absurd h (by decide)
      · rename_i e
        have hb:p.i.toNat < v.l.length:=by omega
        refine List.mem_append_left _ ?_
        simp only
        rw [List.getD_eq_getElem?_getD,List.getElem?_eq_getElem hb]
        exact List.getElem_mem hb
end Go.Up
end
section
namespace Go.SX
set_option linter.unusedSectionVars false
set_option linter.unusedVariables false
set_option linter.unusedSimpArgs false
open Go.RowKit Go.WideShapes Go.ChangeShapes Go.Deep
structure BulkS {H:Type} (bk:DataW H→Nat):Prop where
  sl:∀ els rest,(els.map bk).sum + 1≤bk (.slice els rest)
  ag:∀ ds,(ds.map bk).sum + 1≤bk (.agg ds)
  st:∀ b,b.length + 1≤bk (.lit (.string b))
  pos:∀ d,1≤bk d
/-! the bulk of a value -/
mutual
def bkV:Val→Nat
  | ⟨_,_,_,s,l,e⟩=>s.length + bkL l + bkE e + 7
def bkL:List Val→Nat
  | []=>0
  | x::xs=>bkV x + bkL xs
def bkE:List (Str × Val)→Nat
  | []=>0
  | x::xs=>bkP x + bkE xs
def bkP:Str × Val→Nat
  | (k,x)=>k.length + bkV x + 2
end
theorem bkL_sum (l:List Val):bkL l = (l.map bkV).sum:=by
  induction l with
  | nil=>rfl
  | cons x r ih=>rw [bkL,List.map_cons,List.sum_cons,ih]
theorem bkE_sum (l:List (Str × Val)):bkE l = (l.map bkP).sum:=by
  induction l with
  | nil=>rfl
  | cons x r ih=>rw [bkE,List.map_cons,List.sum_cons,ih]
theorem bkV_eq (v:Val):bkV v = v.s.length + (v.l.map bkV).sum + (v.e.map bkP).sum + 7:=by
  cases v
  rw [bkV,bkL_sum,bkE_sum]
theorem bkP_eq (p:Str × Val):bkP p = p.1.length + bkV p.2 + 2:=by
  cases p
  rw [bkP]
theorem sum_mem {α:Type} {m:α→Nat}:∀ {l:List α} {x:α},x ∈ l→m x≤(l.map m).sum
  | y::r,x,h=>by
    rw [List.map_cons,List.sum_cons]
    rcases List.mem_cons.1 h with rfl | h
    · omega
    · have:=sum_mem (m:=m) h
      omega
theorem sum_len {α:Type} {m:α→Nat} (h1:∀ x,1≤m x):∀ l:List α,l.length≤(l.map m).sum
  | []=>Nat.zero_le _
  | x::r=>by
    have:=sum_len h1 r
    have:=h1 x
    rw [List.map_cons,List.sum_cons,List.length_cons]
    omega
theorem sum_le2 {α β:Type} {m:α→Nat} {k:β→Nat}:∀ {l:List α} {r:List β},l.length = r.length→(∀ (i:Nat) x y,l[i]? = some x→r[i]? = some y→m x≤k y)→(l.map m).sum≤(r.map k).sum
  | [],_,_,_=>Nat.zero_le _
  | x::l,[],h,_=>nomatch h
  | x::l,y::r,h,hh=>by
    have h1:=hh 0 x y rfl rfl
    have h2:=sum_le2 (m:=m) (k:=k) (l:=l) (r:=r) (by simpa using h) (fun i a b ha hb=>hh (i + 1) a b (by simpa using ha) (by simpa using hb))
    rw [List.map_cons,List.sum_cons,List.map_cons,List.sum_cons]
    omega
theorem bkV_pos (v:Val):1≤bkV v:=by rw [bkV_eq]; omega
theorem bkP_pos (p:Str × Val):1≤bkP p:=by rw [bkP_eq]; omega
theorem bkV_mem {v x:Val} (h:x ∈ v.l):bkV x < bkV v:=by
  have:=sum_mem (m:=bkV) h
  rw [bkV_eq v]
  omega
theorem bkV_ent {v:Val} {p:Str × Val} (h:p ∈ v.e):bkV p.2 + p.1.length < bkV v:=by
  have:=sum_mem (m:=bkP) h
  rw [bkP_eq] at this
  rw [bkV_eq v]
  omega
theorem bkV_len (v:Val):v.s.length + v.l.length + v.e.length < bkV v:=by
  have h1:=sum_len (m:=bkV) bkV_pos v.l
  have h2:=sum_len (m:=bkP) bkP_pos v.e
  rw [bkV_eq v]
  omega
section
variable [Globs]
variable {H:Type} {encH:TypeId × Value→H} {P:Program} {W:World} {sp:Nat→Bool} {hd:Bool} {O:Nat→Prop} {bk:DataW H→Nat}
theorem arg_sliceS {t e : TypeId} {τ : Ty} {m : den τ → Nat} {R : den τ → Prop} (hbk : BulkS bk) (hO : ∀ k, ¬ O k) (ht : P.underlying t = some (.slice e)) (hc : P.cellsOf e = esz τ) {fuel : Nat}
    (hel:∀ n,n < fuel→∀ (cs:List Value) (x:DataW H × List MemPlace),DataW.trod encH P W 0 sp hd n e cs = some x→∃ y:den τ,All2 (Im O W) (enc τ y) cs∧m y≤bk x.1∧R y)
    {cs:List Value} {x:DataW H × List MemPlace} (h:DataW.trod encH P W 0 sp hd fuel t cs = some x):∃ (l:List (den τ)) (v:Value),cs = [v]∧Im O W (.rd τ l) v∧(l.map m).sum + 1≤bk x.1∧∀ y ∈ l,R y:=by
  rcases DataW.trod_slice ht h with ⟨rfl,rfl⟩ | ⟨a,len,cap,elems,rest,n,rfl,rfl,rfl,hb,hlc,hcm,hlen,hall,_,_⟩
  · exact ⟨[],_,rfl,.rd0 τ none 0 (Nat.zero_le _),by simpa using hbk.pos _,fun y hy=>nomatch hy⟩
  by_cases h0:len = 0
  · subst h0; exact ⟨[],_,rfl,.rd0 τ _ _ hcm,by simpa using hbk.pos _,fun y hy=>nomatch hy⟩
  have hall:∀ i,i < len→∃ (us:List Value) (y:DataW H × List MemPlace),W.cells? 0 (a.add (i * P.cellsOf e)) (P.cellsOf e) = some us∧DataW.trod encH P W 0 sp hd n e us = some y∧elems[i]? = some y:=fun i hi=>by
    have:=hall i hi
    rw [List.getElem?_eq_getElem (by omega)] at this
    obtain ⟨us,h1,h2⟩:=Option.bind_eq_some_iff.1 this
    exact ⟨us,_,h1,h2,List.getElem?_eq_getElem _⟩
  have hch:∀ i,i < len→∃ (y:den τ) (us:List Value),(All2 (Im O W) (enc τ y) us∧(∀ d,elems[i]? = some d→m y≤bk d.1)∧R y)∧us.length = esz τ∧∀ (j:Nat) v,us[j]? = some v→W.cell? ⟨a.block,a.off + (i * esz τ + j),none⟩ = some v:=by
    intro i hi
    obtain ⟨us,yy,h1,h2,hm⟩:=hall i hi
    obtain ⟨y,hy⟩:=hel n (Nat.lt_succ_self n) _ _ h2
    rw [hc] at h1
    obtain ⟨h3,h4⟩:=cells_get h1
    refine ⟨y,us,⟨hy.1,fun d hd=>?_,hy.2.2⟩,h3,fun j v hv=>?_⟩
    · rw [hm] at hd
      injection hd with hd
      subst hd
      exact hy.2.1
    have h5:=h4 j v hv
    have hs:∀ j v,us[j]? = some v→((a.add (i * esz τ)).add j).spot = none:=fun j v hv=>World.cell?_spot (h4 j v hv)
    have hpos:=esz_pos τ
    have h00:(a.add (i * esz τ)).spot = none:=by
      have:=hs 0 (us[0]'(by omega)) (List.getElem?_eq_getElem _)
      simpa [Addr.add] using this
    have e1:=add_of h00
    rw [e1] at h5
    rw [add_none] at h5
    rw [← h5,Nat.add_assoc]
  have ys:∃ l:List (den τ),l.length = len∧∀ (i:Nat) y,l[i]? = some y→∃ us:List Value,(All2 (Im O W) (enc τ y) us∧(∀ d,elems[i]? = some d→m y≤bk d.1)∧R y)∧∀ (j:Nat) v,us[j]? = some v→W.cell? ⟨a.block,a.off + (i * esz τ + j),none⟩ = some v:=by
    have hch':=fun (i:Fin len)=>hch i.1 i.2
    refine ⟨List.ofFn fun i:Fin len=>Classical.choose (hch' i),by simp,fun i y hy=>?_⟩
    have hi:i < len:=by have:=(List.getElem?_eq_some_iff.1 hy).1; simpa using this
    rw [List.getElem?_ofFn,dif_pos hi] at hy
    injection hy with hy
    subst hy
    obtain ⟨us,h1,_,h2⟩:=Classical.choose_spec (hch' ⟨i,hi⟩)
    exact ⟨us,h1,h2⟩
  obtain ⟨l,hll,hl⟩:=ys
  refine ⟨l,_,rfl,?_,?_,fun y hy=>?_⟩
  rotate_left
  · have h1:=hbk.sl (elems.map (·.1)) (rest.map (·.1))
    have h2:(l.map m).sum≤((elems.map (·.1)).map bk).sum:=sum_le2 (by rw [List.length_map]; omega) fun i y d hy hd=>by
      obtain ⟨us,h3,_⟩:=hl i y hy
      rw [List.getElem?_map,Option.map_eq_some_iff] at hd
      obtain ⟨d',hd',rfl⟩:=hd
      exact h3.2.1 d' hd'
    exact Nat.le_trans (Nat.succ_le_succ h2) h1
  · obtain ⟨i,hi,rfl⟩:=List.getElem_of_mem hy
    obtain ⟨us,h1,_⟩:=hl i _ (List.getElem?_eq_getElem hi)
    exact h1.2.2
  have hane:a = ⟨a.block,a.off,none⟩:=by
    obtain ⟨us',yy,h1,h2,_⟩:=hall 0 (by omega)
    have hpos:=esz_pos τ
    rw [hc] at h1
    obtain ⟨h5,h6⟩:=cells_get h1
    have:=World.cell?_spot (h6 0 (us'[0]'(by omega)) (List.getElem?_eq_getElem _))
    simp [Addr.add] at this
    obtain ⟨b,o,s⟩:=a
    simp only at this
    subst this
    rfl
  rw [hane,← hll]
  refine .rd τ l a.block a.off cap (fun i j=>(W.cell? ⟨a.block,a.off + (i * esz τ + j),none⟩).getD undef) (hO _) (by omega) hcm (fun e=>h0 (by rw [← hll,e]; rfl)) (fun i y j av hy hav=>?_) (fun i y j av hy hav=>?_)
  · obtain ⟨us,h1,h2⟩:=hl i y hy
    have hj:j < us.length:=by rw [← h1.1.1]; exact (List.getElem?_eq_some_iff.1 hav).1
    rw [h2 j _ (List.getElem?_eq_getElem hj)]; rfl
  · obtain ⟨us,h1,h2⟩:=hl i y hy
    have hj:j < us.length:=by rw [← h1.1.1]; exact (List.getElem?_eq_some_iff.1 hav).1
    rw [h2 j _ (List.getElem?_eq_getElem hj)]
    exact h1.1.2 j av _ hav (List.getElem?_eq_getElem hj)
theorem one_fieldS {t : TypeId} {fs : Array Field} {fuel : Nat} {cs : List Value} {x : DataW H × List MemPlace} (ht : P.underlying t = some (.struct fs)) (h : DataW.trod encH P W 0 sp hd fuel t cs = some x) :
    ∃ (n:Nat) (ds:List (DataW H)),fuel = n + 1∧cs.length = P.cellsOf t∧x.1 = .agg ds∧ds.length = fs.size∧∀ (i off:Nat) (t':TypeId),HasF fs i off t'→∃ y,DataW.trod encH P W 0 sp hd n t' ((cs.drop off).take (P.cellsOf t')) = some y∧ds[i]? = some y.1:=by
  obtain ⟨xs,n,hn,rfl,h1,h2,h3⟩:=DataW.trod_struct ht h
  refine ⟨n,xs.map (·.1),hn,h1,rfl,by rw [List.length_map]; exact h2,fun i off t' hf=>?_⟩
  obtain ⟨f,hf,rfl,rfl⟩:=hf
  have hi:i < xs.length:=by rw [h2]; exact (Array.getElem?_eq_some_iff.1 hf).1
  rw [h3 i f hf,List.getElem?_eq_getElem hi]
  exact ⟨_,rfl,by rw [List.getElem?_map,List.getElem?_eq_getElem hi]; rfl⟩
theorem arg_strS (hbk:BulkS bk) {t:TypeId} {fuel:Nat} {cs:List Value} {x:DataW H × List MemPlace} (ht:P.underlying t = some .string) (h:DataW.trod encH P W 0 sp hd fuel t cs = some x):∃ (l:Str) (v:Value),cs = [v]∧Im O W (.s l) v∧l.length + 1≤bk x.1:=by
  obtain ⟨s,h1,h3,h2⟩:=DataW.trod_string ht h
  refine ⟨s.data.toList,.string s,h1,?_,?_⟩
  · have:=Im.s (O:=O) (w:=W) s.data.toList (by rw [Array.length_toList]; exact h2)
    simpa using this
  · rw [h3]; exact hbk.st _
theorem arg_valS {V:TypeId} (hbk:BulkS bk) (T:VTy P V) (hs:T.fs.size = 6) (hs2:T.gs.size = 2) (hO:∀ k,¬ O k):∀ (fuel:Nat) (cs:List Value) (x:DataW H × List MemPlace),DataW.trod encH P W 0 sp hd fuel V cs = some x→∃ y:Val,All2 (Im O W) (encVal y) cs∧bkV y≤bk x.1∧VB y:=by
  intro fuel
  induction fuel using Nat.strongRecOn with
  | _ fuel ih =>
  intro cs x h
  obtain ⟨n,ds,rfl,hl,hag,hds,hf⟩:=one_fieldS T.hV h
  rw [T.cV] at hl
  rw [hs] at hds
  obtain ⟨c0,c1,c2,c3,c4,c5⟩:=T.c
  match cs,hl,ds,hds with
  | [u0,u1,u2,u3,u4,u5],_,[d0,d1,d2,d3,d4,d5],_ =>
    obtain ⟨y0,q0,k0⟩:=hf 0 0 _ T.h0
    obtain ⟨y1,q1,k1⟩:=hf 1 1 _ T.h1
    obtain ⟨y2,q2,k2⟩:=hf 2 2 _ T.h2
    obtain ⟨y3,q3,k3⟩:=hf 3 3 _ T.h3
    obtain ⟨y4,q4,k4⟩:=hf 4 4 _ T.h4
    obtain ⟨y5,q5,k5⟩:=hf 5 5 _ T.h5
    simp only [List.getElem?_cons_zero,List.getElem?_cons_succ,Option.some.injEq] at k0 k1 k2 k3 k4 k5
    subst k0 k1 k2 k3 k4 k5
    rw [c0] at q0
    rw [c1] at q1
    rw [c2] at q2
    rw [c3] at q3
    rw [c4] at q4
    rw [c5] at q5
    obtain ⟨k,e0,i0,w0⟩:=arg_int (O:=O) T.uK q0
    obtain ⟨m,e1,i1,w1⟩:=arg_int (O:=O) T.uN q1
    obtain ⟨f,e2,i2,w2⟩:=arg_int (O:=O) T.uU q2
    obtain ⟨s,vs,e3,i3,z3⟩:=arg_strS (O:=O) hbk T.uS q3
    obtain ⟨l,vl,e4,i4,z4,r4⟩:=arg_sliceS (O:=O) (τ:=.val) (m:=bkV) (R:=VB) hbk hO T.uL T.cV (fun n' hn cs' x' hx=>ih n' (by omega) cs' x' hx) q4
    obtain ⟨es,ve,e5,i5,z5,r5⟩:=arg_sliceS (O:=O) (τ:=.ent) (m:=bkP) (R:=fun p=>VB p.2) hbk hO T.uE T.cE (fun n' hn cs' x' hx=>by
      obtain ⟨n2,ds2,rfl,hl2,hag2,hds2,hf2⟩:=one_fieldS T.hE hx
      rw [T.cE] at hl2
      rw [hs2] at hds2
      match cs',hl2,ds2,hds2 with
      | [z0,z1,z2,z3,z4,z5,z6],_,[g0,g1],_ =>
        obtain ⟨_,p0,m0⟩:=hf2 0 0 _ T.g0
        obtain ⟨_,p1,m1⟩:=hf2 1 1 _ T.g1
        simp only [List.getElem?_cons_zero,List.getElem?_cons_succ,Option.some.injEq] at m0 m1
        subst m0 m1
        rw [c3] at p0
        rw [T.cV] at p1
        obtain ⟨ks,kv,d0,j0,lk⟩:=arg_strS (O:=O) hbk T.uS p0
        obtain ⟨y,j1,hyb,hy⟩:=ih n2 (by omega) _ _ p1
        simp at d0
        subst d0
        refine ⟨(ks,y),All2.cons j0 (by simpa using j1),?_,hy⟩
        rw [hag2]
        refine Nat.le_trans ?_ (hbk.ag _)
        rw [bkP_eq]
        simp only [List.map_cons,List.map_nil,List.sum_cons,List.sum_nil]
        omega) q5
    simp at e0 e1 e2 e3 e4 e5
    subst e0 e1 e2 e3 e4 e5
    refine ⟨⟨k,m,f,s,l,es⟩,All2.cons i0 (All2.cons i1 (All2.cons i2 (All2.cons i3 (All2.cons i4 (All2.cons i5 (All2.nil _)))))),?_,.mk _ (wf_i64 w0) (wf_i64 w1) (wf_u64 w2) r4 r5⟩
    have h9:=hbk.ag [y0.1,y1.1,y2.1,y3.1,y4.1,y5.1]
    have p0:=hbk.pos y0.1
    have p1:=hbk.pos y1.1
    have p2:=hbk.pos y2.1
    rw [hag]
    refine Nat.le_trans ?_ h9
    rw [bkV_eq]
    simp only [List.map_cons,List.map_nil,List.sum_cons,List.sum_nil]
    omega
end
end Go.SX
end
section
namespace Go.Up
set_option linter.unusedSectionVars false
set_option linter.unusedSimpArgs false
set_option linter.unusedVariables false
open Go.SX Go.Vl Go.Ut Go.Ck
theorem putE_in {l:List Ent} {k:Str} {a:Val} {p:Ent} (h:p ∈ putE l k a):p = (k,a)∨p ∈ l:=by
  unfold putE at h
  have hw:∀ q ∈ withoutE l k,q ∈ l:=fun q hq=>(List.mem_filter.1 hq).1
  rcases List.mem_append.1 h with h | h
  · exact .inr (hw _ (List.mem_of_mem_take h))
  · rcases List.mem_cons.1 h with h | h
    · exact .inl h
    · exact .inr (hw _ (List.mem_of_mem_drop h))
structure Clo (R:Nat→Val→Prop):Prop where
  parts:∀ n v,R n v→∀ x ∈ partsOf v,R n x
  mono:∀ n m v,n≤m→R n v→R m v
  mak:∀ n v l e,R n v→l.length≤n→e.length≤n→(∀ x ∈ l,R n x)→(∀ p ∈ e,R n p.2)→R n { v with l:=l,e:=e }
  len:∀ n v,R n v→v.l.length≤n∧v.e.length≤n
theorem put_len {l:List Ent} {k:Str} {a:Val}:(putE l k a).length≤l.length + 1:=by
  have h:=List.length_filter_le (fun p=>!keyIs k p) l
  unfold putE
  rw [List.length_append,List.length_cons,List.length_take,List.length_drop]
  have:(withoutE l k).length≤l.length:=h
  omega
theorem Clo.l_of {R:Nat→Val→Prop} (hR:Clo R) {n:Nat} {v:Val} (h:R n v):∀ x ∈ v.l,R n x:=fun x hx=>hR.parts n v h x (List.mem_append_left _ hx)
theorem Clo.e_of {R:Nat→Val→Prop} (hR:Clo R) {n:Nat} {v:Val} (h:R n v):∀ p ∈ v.e,R n p.2:=fun p hp=>hR.parts n v h p.2 (List.mem_append_right _ (List.mem_map.2 ⟨p,hp,rfl⟩))
theorem Clo.setE {R:Nat→Val→Prop} (hR:Clo R) {n:Nat} {v:Val} (h:R n v) {e:List Ent} (hl:e.length≤n + 1) (he:∀ p ∈ e,R (n + 1) p.2):R (n + 1) { v with e:=e } :=
  hR.mak (n + 1) v v.l e (hR.mono _ _ _ (Nat.le_succ n) h) (Nat.le_succ_of_le (hR.len n v h).1) hl (fun x hx=>hR.mono _ _ _ (Nat.le_succ n) (hR.l_of h x hx)) he
theorem Clo.setL {R:Nat→Val→Prop} (hR:Clo R) {n:Nat} {v:Val} (h:R n v) {l:List Val} (hl:l.length≤n + 1) (he:∀ x ∈ l,R (n + 1) x):R (n + 1) { v with l:=l } :=
  hR.mak (n + 1) v l v.e (hR.mono _ _ _ (Nat.le_succ n) h) hl (Nat.le_succ_of_le (hR.len n v h).2) he (fun p hp=>hR.mono _ _ _ (Nat.le_succ n) (hR.e_of h p hp))
theorem Clo.last {R:Nat→Val→Prop} (hR:Clo R) {n:Nat} {v:Val} {p:PStep} {o:OpR} (h:R n v) (ho:R (n + 1) o.v):R (n + 1) (lastU v p o).1:=by
  have hl:=hR.len n v h
  have hv:R (n + 1) v:=hR.mono _ _ _ (Nat.le_succ n) h
  have he:=fun q hq=>hR.mono _ _ _ (Nat.le_succ n) (hR.e_of h q hq)
  have hll:=fun q hq=>hR.mono _ _ _ (Nat.le_succ n) (hR.l_of h q hq)
  have hwl:(withoutE v.e p.key).length≤v.e.length:=List.length_filter_le _ _
  have hwm:∀ q ∈ withoutE v.e p.key,q ∈ v.e:=fun q hq=>(List.mem_filter.1 hq).1
  unfold lastU
  split
  · split
    · exact hv
    · split
      · split
        · exact hv
        · refine hR.setE h (by have:=put_len (l:=v.e) (k:=p.key) (a:=o.v); omega) fun q hq=>?_
          rcases putE_in hq with rfl | hq
          · exact ho
          · exact he q hq
      · split
        · exact hv
        · refine hR.setL h (by rw [List.length_append,List.length_cons,List.length_take,List.length_drop]; omega) fun x hx=>?_
          rcases List.mem_append.1 hx with hx | hx
          · exact hll x (List.mem_of_mem_take hx)
          · rcases List.mem_cons.1 hx with rfl | hx
            · exact ho
            · exact hll x (List.mem_of_mem_drop hx)
  · split
    · exact hv
    · rename_i hq
      split
      · split
        · exact hR.setE h (by omega) fun q hq=>he q (hwm q hq)
        · refine hR.setL h (by rw [List.length_append,List.length_take,List.length_drop]; omega) fun x hx=>?_
          rcases List.mem_append.1 hx with hx | hx
          · exact hll x (List.mem_of_mem_take hx)
          · exact hll x (List.mem_of_mem_drop hx)
      · split
        · exact hv
        · split
          · exact hv
          · refine hR.setE h (by have:=put_len (l:=withoutE v.e p.key) (k:=o.key) (a:=(partV v p).1); omega) fun q hq2=>?_
            rcases putE_in hq2 with rfl | hq2
            · exact hR.mono _ _ _ (Nat.le_succ n) (hR.parts n v h _ (partV_in (by simpa using hq)))
            · exact he q (hwm q hq2)
end Go.Up
namespace Go.Up
open Go.SX Go.Vl Go.Ut Go.Ck
inductive VW (n:Nat):Val→Prop
  | mk (v:Val):(-9223372036854775808≤v.kind∧v.kind≤9223372036854775807)→(-9223372036854775808≤v.n∧v.n≤9223372036854775807)→(0≤v.f∧v.f≤18446744073709551615)→v.l.length≤n→v.e.length≤n→(∀ x ∈ v.l,VW n x)→(∀ p ∈ v.e,VW n p.2)→VW n v
theorem VW.mono {n m:Nat} (h:n≤m) {v:Val} (hv:VW n v):VW m v:=by
  induction hv with
  | mk v a b c h1 h2 _ _ i1 i2=>exact .mk v a b c (Nat.le_trans h1 h) (Nat.le_trans h2 h) i1 i2
theorem VW.part {n:Nat} {v x:Val} (hv:VW n v) (hx:x ∈ partsOf v):VW n x:=by
  cases hv with
  | mk _ _ _ _ _ _ h4 h5 =>
    rcases List.mem_append.1 hx with hx | hx
    · exact h4 x hx
    · obtain ⟨z,hz,rfl⟩:=List.mem_map.1 hx
      exact h5 z hz
theorem vw_of_vb {v:Val} (hv:VB v):VW (bkV v) v:=by
  induction hv with
  | mk v a b c _ _ i1 i2 =>
    have:=bkV_len v
    exact .mk v a b c (by omega) (by omega) (fun x hx=>(i1 x hx).mono (by have:=bkV_mem hx; omega)) (fun p hp=>(i2 p hp).mono (by have:=bkV_ent hp; omega))
/-! how much an update makes -/
end Go.Up
namespace Go.Up
open Go.SX Go.Vl Go.Ut Go.Ck
end Go.Up
end
section
namespace Go.Ck
set_option linter.unusedSectionVars false
set_option linter.unusedSimpArgs false
set_option linter.unusedVariables false
open Go.SX Go.Vl
theorem sum_bulk:∀ l:List Val,(∀ x ∈ l,(sizV x).2≤(bkV x:Int))→sumT (l.map fun v=>(⟨v,0⟩:VPlace))≤((l.map bkV).sum:Nat)
  | [],_=>by simp [sumT]
  | x::r,h=>by
    have h1:=h x (.head _)
    have h2:=sum_bulk r fun y hy=>h y (.tail _ hy)
    rw [List.map_cons,sumT,List.map_cons,List.sum_cons]
    show (sizV x).2 + _≤_
    omega
theorem siz_bulk_n:∀ (n:Nat) (v:Val),SizeOf.sizeOf v < n→(sizV v).2≤(bkV v:Int):=by
  intro n
  induction n with
  | zero=>intro v h; exact absurd h (Nat.not_lt_zero _)
  | succ n ih =>
    intro v h
    have h1:=sum_bulk (partsOf v) fun x hx=>ih x (by have:=parts_sz hx; omega)
    have h2:=fold_sum (partsOf v) (0,1) 0
    have h3:((partsOf v).map bkV).sum≤(v.l.map bkV).sum + (v.e.map bkP).sum:=by
      unfold partsOf
      rw [List.map_append,List.sum_append,List.map_map]
      have:(v.e.map (bkV ∘ (·.2))).sum≤(v.e.map bkP).sum:=by
        generalize v.e = e
        induction e with
        | nil=>exact Nat.le_refl _
        | cons p r ih =>
          rw [List.map_cons,List.sum_cons,List.map_cons,List.sum_cons,bkP_eq]
          simp only [Function.comp]
          omega
      omega
    rw [sizV_eq,bkV_eq]
    simp only at h2 ⊢
    omega
theorem siz_bulk (v:Val):(sizV v).2≤(bkV v:Int):=siz_bulk_n _ v (Nat.lt_succ_self _)
end Go.Ck
end
section
namespace Go.Proofs.YtnpmmkfdclhbeaaDoor
set_option linter.unusedSectionVars false
set_option linter.unusedSimpArgs false
set_option linter.unusedVariables false
open Go Go.SX Go.Ck Go.Vl Go.Ut Go.Up Go.Pl
set_option maxRecDepth 100000
set_option maxHeartbeats 4000000
theorem stepF_lo {p:PStep} (h:stepF p = 0) : -1≤p.i:=by
  unfold stepF at h
  by_cases c:p.i < -1∨(0≤p.i∧p.key≠[])
  · rw [if_pos c] at h; exact absurd h (by decide)
  · omega
theorem pathF_lo {l:List PStep} (h:pathF l = 0):∀ p ∈ l,-1≤p.i:=by
  unfold pathF at h
  by_cases c:20 < l.length
  · rw [if_pos c] at h; exact absurd h (by decide)
  · rw [if_neg c] at h
    exact fun p hp=>stepF_lo (stepsF_mem h p hp)
theorem vn_of_vwL {n m:Nat} (h:n≤m) {v:Val} (hv:VW n v):VN m v:=by
  induction hv with
  | mk v _ _ _ h1 h2 _ _ i1 i2=>exact .mk v (Nat.le_trans h1 h) (Nat.le_trans h2 h) i1 i2
theorem vb_partL {y x:Val} (hy:VB y) (hx:x ∈ partsOf y):VB x:=by
  cases hy with
  | mk _ _ _ _ h4 h5 =>
    rcases List.mem_append.1 hx with hx | hx
    · exact h4 x hx
    · obtain ⟨z,hz,rfl⟩:=List.mem_map.1 hx
      exact h5 z hz
theorem vb_zeroL:VB zeroV:=.mk _ (by decide) (by decide) (by decide) (fun _ h=>nomatch h) (fun _ h=>nomatch h)
section
variable [G:Globs]
theorem w_law (hu:HasU8) (a:Val) (l:List PStep) (ha:VB a) (hk:bkV a≤10000000):vc Tryd.prog Γ 57 [1,2,4,6,7,8,9,10,11,18,30,34] (Tryd.f3.body.getD .skip) (postK Γ [.tmp 4] (fun v=>v = .b true)) ⟨argSlots 0 [.agg (encVal a),.rd .pstep l],[]⟩:=by
  have hn:(sizV a).2≤1000000000:=by have:=siz_bulk a; omega
  have hvn:VN 100000000 a:=vn_of_vwL (by decide) ((vw_of_vb ha).mono hk)
  have hS:=s_SizeD _ a (Nat.lt_succ_self _) hn
  refine Or.inl (Exists.intro _ (And.intro (hS) ?_))
  refine And.intro (fun _=>rfl) (fun hq=>?_)
  have hq:¬ 200 < (sizV a).2:=of_decide_eq_false hq
  have hlen:=len_paths _ a (Nat.lt_succ_self _)
  have hA:=s_all a (by omega)
  have hP:=paths_spec _ a (Nat.lt_succ_self _) (by omega)
  have hSP:=s_samePaths (pathsV a) (pathsV a)
  rw [decide_eq_true rfl] at hSP
  have hG:=s_get hu a l hvn
  have hF:=s_pathR l
  have hvl:VB (ledV a l).1:=ledV_keep (R:=VB) vb_zeroL (fun _ h _ hx=>vb_partL h hx) l a ha
  refine Or.inl (Exists.intro _ (And.intro (hG) ?_))
  refine Exists.intro [.blk [0,1,2,3,4,5]] (And.intro (by kernel_rfl) ?_)
  refine Exists.intro _ (And.intro (hA) ?_)
  refine Exists.intro _ (And.intro (hP) ?_)
  refine Exists.intro _ (And.intro (hSP) ?_)
  (repeat' (first | (refine And.intro (fun h=>?_) (fun h=>?_)<;>(try simp [-List.getD_eq_getElem?_getD,-Int.pred_toNat] at h)<;>(try (exfalso; first | omega | contradiction))) | (refine And.intro (rng64 (by omega) (by omega)) ?_) | (refine And.intro ⟨by omega,by omega⟩ ?_) | (refine And.intro ⟨by omega,by omega,by omega⟩ ?_) | (intro _)))
  refine Or.inl (Exists.intro _ (And.intro (hF) ?_))
  refine And.intro (fun hc=>?_) (fun hc=>?_)
  · have hc:pathF l≠0:=by simpa using hc
    have hg:getV a l = (zeroV,pathF l):=if_pos hc
    rw [hg]
    have hM:=s_same zeroV zeroV vb_zeroL vb_zeroL
    rw [decide_eq_true (cmpV_self zeroV)] at hM
    have hM:=PSpec.arg (args':=[.agg (encVal zeroV),.agg [.i .i64 0,.i .i64 0,.i .u64 0,.s [],.nl,.nl]]) hM (by (repeat' (first | exact trivial | exact Or.inl rfl | exact Or.inr ⟨rfl,_,rfl⟩ | refine And.intro ?_ ?_)))
    refine Or.inl (Exists.intro _ (And.intro (hM) ?_))
    refine And.intro (fun _=>?_) (fun h=>Bool.noConfusion h)
    exact congrArg AV.b (beq_self_eq_true _)
  · have hc:¬ pathF l≠0:=by simpa using hc
    have hg:getV a l = ledV a l:=if_neg hc
    rw [hg]
    have hL:=s_Led l a (pathF_lo (by simpa using hc))
    have hM:=s_same (ledV a l).1 (ledV a l).1 hvl hvl
    rw [decide_eq_true (cmpV_self _)] at hM
    refine Or.inl (Exists.intro _ (And.intro (hL) ?_))
    refine Or.inl (Exists.intro _ (And.intro (hM) ?_))
    refine And.intro (fun _=>?_) (fun h=>Bool.noConfusion h)
    exact congrArg AV.b (beq_self_eq_true _)
theorem s_law (hu:HasU8) (a:Val) (l:List PStep) (ha:VB a) (hk:bkV a≤10000000):PSpec Tryd.prog 3 [.agg (encVal a),.rd .pstep l] (.b true) :=
  pspec_of_vc Γ_good Tryd.func3 rfl Tryd.call3 Tryd.results3 Tryd.ntmps3 (Nat.le_of_ble_eq_true rfl) (w_law hu a l ha hk)
end
end Go.Proofs.YtnpmmkfdclhbeaaDoor
end
section
namespace Go.SX
set_option linter.unusedSectionVars false
set_option linter.unusedVariables false
set_option linter.unusedSimpArgs false
open Go.RowKit Go.WideShapes Go.ChangeShapes Go.Deep
def bkS (p:PStep):Nat:=p.key.length + 2
def I64 (n:Int):Prop:=-9223372036854775808≤n∧n≤9223372036854775807
structure STy (P:Program) (T:TypeId) where
  (fs:Array Field) (K S:TypeId)
  hT:P.underlying T = some (.struct fs)
  sz:fs.size = 2
  cT:P.cellsOf T = 2
  h0:HasF fs 0 0 S
  h1:HasF fs 1 1 K
  uK:P.underlying K = some (.int .i64)
  uS:P.underlying S = some .string
  c:P.cellsOf K = 1∧P.cellsOf S = 1
structure OTy (P:Program) (T:TypeId) where
  (fs:Array Field) (K S Q V St:TypeId) (Tv:VTy P V) (S':STy P St)
  hT:P.underlying T = some (.struct fs)
  sz:fs.size = 4
  cT:P.cellsOf T = 9
  h0:HasF fs 0 0 K
  h1:HasF fs 1 1 Q
  h2:HasF fs 2 2 V
  h3:HasF fs 3 8 S
  uK:P.underlying K = some (.int .i64)
  uS:P.underlying S = some .string
  uQ:P.underlying Q = some (.slice St)
  c:P.cellsOf K = 1∧P.cellsOf S = 1∧P.cellsOf Q = 1
section
variable [Globs]
variable {H:Type} {encH:TypeId × Value→H} {P:Program} {W:World} {sp:Nat→Bool} {hd:Bool} {O:Nat→Prop} {bk:DataW H→Nat}
theorem arg_stepS {T : TypeId} (hbk : BulkS bk) (S : STy P T) {fuel : Nat} {cs : List Value} {x : DataW H × List MemPlace} (h : DataW.trod encH P W 0 sp hd fuel T cs = some x) :
    ∃ y:PStep,All2 (Im O W) (enc .pstep y) cs∧bkS y≤bk x.1∧I64 y.i:=by
  obtain ⟨n,ds,rfl,hl,hag,hds,hf⟩:=one_fieldS S.hT h
  rw [S.cT] at hl
  rw [S.sz] at hds
  obtain ⟨c0,c1⟩:=S.c
  match cs,hl,ds,hds with
  | [u0,u1],_,[d0,d1],_ =>
    obtain ⟨y0,q0,k0⟩:=hf 0 0 _ S.h0
    obtain ⟨y1,q1,k1⟩:=hf 1 1 _ S.h1
    simp only [List.getElem?_cons_zero,List.getElem?_cons_succ,Option.some.injEq] at k0 k1
    subst k0 k1
    rw [c1] at q0
    rw [c0] at q1
    obtain ⟨s,vs,e0,i0,z0⟩:=arg_strS (O:=O) hbk S.uS q0
    obtain ⟨k,e1,i1,w1⟩:=arg_int (O:=O) S.uK q1
    simp at e0 e1
    subst e0 e1
    refine ⟨⟨s,k⟩,All2.cons i0 (All2.cons i1 (All2.nil _)),?_,wf_i64 w1⟩
    have h9:=hbk.ag [y0.1,y1.1]
    have p1:=hbk.pos y1.1
    rw [hag]
    refine Nat.le_trans ?_ h9
    simp only [bkS,List.map_cons,List.map_nil,List.sum_cons,List.sum_nil]
    omega
end
end Go.SX
end
section
namespace Go.Proofs.YtnpmmkfdclhbeaaDoor.pathLeads
set_option linter.unusedSectionVars false
set_option linter.unusedSimpArgs false
set_option linter.unusedVariables false
open Go Go.SX Go.Ck Go.Vl Go.Up Go.Pl
open Go.ChangeShapes Go.WideShapes Go.ChangeAt Go.RowKit
set_option maxRecDepth 100000
theorem own:ownKnob Tryd.prog.godebug = none:=by kernel_rfl
theorem laidOut:laidOutB Tryd.prog = true:=by kernel_rfl
theorem cell_block {w:World} {g o:Nat} {k:IntKind} {n:Int} (h:w.cell? ⟨g,o,none⟩ = some (.int k n)):∃ cur e fz,w.heap[g]? = some (.cells cur e fz)∧cur[o]? = some (.int k n):=by
  unfold World.cell? at h
  split at h
  · rename_i cur e fz hh
    exact ⟨_,_,_,hh,by simpa using h⟩
  · cases h
noncomputable def vty [G:Globs]:VTy Tryd.prog 26 where
  fs:=_
  gs:=_
  K:=3
  N:=2
  U:=22
  S:=9
  L:=23
  E:=24
  En:=40
  hV:=Tryd.underlying26
  cV:=by kernel_rfl
  h0:=⟨_,rfl,rfl,rfl⟩
  h1:=⟨_,rfl,rfl,rfl⟩
  h2:=⟨_,rfl,rfl,rfl⟩
  h3:=⟨_,rfl,rfl,rfl⟩
  h4:=⟨_,rfl,rfl,rfl⟩
  h5:=⟨_,rfl,rfl,rfl⟩
  uK:=Tryd.underlying3
  uN:=Tryd.underlying2
  uU:=Tryd.underlying22
  uS:=Tryd.underlying9
  uL:=Tryd.underlying23
  uE:=Tryd.underlying24
  c:=⟨by kernel_rfl,by kernel_rfl,by kernel_rfl,by kernel_rfl,by kernel_rfl,by kernel_rfl⟩
  hE:=Tryd.underlying40
  cE:=by kernel_rfl
  g0:=⟨_,rfl,rfl,rfl⟩
  g1:=⟨_,rfl,rfl,rfl⟩
noncomputable def sty [G:Globs]:STy Tryd.prog 42 where
  fs:=_
  K:=3
  S:=9
  hT:=Tryd.underlying42
  sz:=rfl
  cT:=by kernel_rfl
  h0:=⟨_,rfl,rfl,rfl⟩
  h1:=⟨_,rfl,rfl,rfl⟩
  uK:=Tryd.underlying3
  uS:=Tryd.underlying9
  c:=⟨by kernel_rfl,by kernel_rfl⟩
theorem bulk_pos {H:Type} (d:DataW H):1≤Rows.uptoBulk d:=by
  cases d with
  | lit l=>cases l<;>simp [Rows.uptoBulk]
  | _=>simp [Rows.uptoBulk]
theorem bulk_sum {H:Type}:∀ ds:List (DataW H),Rows.uptoBulkAll ds = (ds.map Rows.uptoBulk).sum
  | []=>by simp [Rows.uptoBulkAll]
  | d::ds=>by simp [Rows.uptoBulkAll,bulk_sum ds]
theorem bulk_law {H:Type}:BulkS (H:=H) Rows.uptoBulk where
  sl:=fun els rest=>by
    have:=bulk_sum els
    simp only [Rows.uptoBulk]
    omega
  ag:=fun ds=>by
    have:=bulk_sum ds
    simp only [Rows.uptoBulk]
    omega
  st:=fun b=>by simp [Rows.uptoBulk]
  pos:=bulk_pos
theorem arg_vl {H : Type} {enc : TypeId × Value → H} {W : World} {v : Value} {d : DataW H} {ps : List MemPlace} {r : Reach} {b : Nat} (hval : Value.okWide Tryd.prog W r b 26 v)
    (h:DataW.Trod enc Tryd.prog W 0 (fun _=>true) true 26 v d ps):∃ y:Val,Im (fun _=>False) W (.agg (encVal y)) v∧VB y∧bkV y≤Rows.uptoBulk d:=by
  obtain ⟨cs,rfl,_⟩:=okWide_struct Tryd.underlying26 hval
  obtain ⟨fuel,hf⟩:=h
  letI:Globs:=⟨[]⟩
  obtain ⟨y,h1,h3,h2⟩:=arg_valS (O:=fun _=>False) bulk_law vty rfl rfl (fun _ h=>h) fuel _ _ hf
  have h1:All2 (Im (fun _=>False) W) (encVal y) cs.toList:=h1
  obtain ⟨l⟩:=cs
  refine ⟨y,.agg _ l h1.1 (fun v hv=>?_) h1.2,h2,h3⟩
  obtain ⟨j,hj,rfl⟩:=List.getElem_of_mem hv
  have hj':j < (encVal y).length:=by rw [h1.1]; exact hj
  exact plain_one (h1.2 j _ _ (List.getElem?_eq_getElem hj') (List.getElem?_eq_getElem hj)) (enc_plain .val y _ (List.getElem_mem hj'))
theorem arg_psteps {H : Type} {enc : TypeId × Value → H} {W : World} {v : Value} {d : DataW H} {ps : List MemPlace} {r : Reach} {b : Nat} (hval : Value.okWide Tryd.prog W r b 27 v)
    (h:DataW.Trod enc Tryd.prog W 0 (fun _=>true) true 27 v d ps):∃ l:List (den .pstep),Im (fun _=>False) W (.rd .pstep l) v∧(l.map bkS).sum + 1≤Rows.uptoBulk d∧∀ x ∈ l,(fun p=>I64 p.i) x:=by
  obtain ⟨a,n,c,rfl⟩:=okWide_slice Tryd.underlying27 hval
  obtain ⟨fuel,hf⟩:=h
  letI:Globs:=⟨[]⟩
  obtain ⟨l,v',h1,h2,h3,h4⟩:=arg_sliceS (O:=fun _=>False) (τ:=.pstep) (m:=bkS) (R:=fun p=>I64 p.i) bulk_law (fun _ h=>h) Tryd.underlying27 (by kernel_rfl) (fun n' hn cs' x' hx=>arg_stepS bulk_law sty hx) hf
  have:[Value.slice a n c] = [v']:=by simpa [Value.cells] using h1
  injection this with h5
  subst h5
  exact ⟨l,h2,h3,h4⟩
theorem contract (H : Type) (enc : TypeId × Value → H) (W : World) (base : Nat) (args : Array Value) (ds gs : List (DataW H)) (before : List MemPlace)
    (hval:∀ (j:Nat) t v,Tryd.f3.params[j]? = some t→args[j]? = some v→Value.okWide Tryd.prog W .any base t v)
    (hW:DataW.Whole enc Tryd.prog Tryd.f3.params.toList Rows.pathLeadsSpec.vars false W args.toList ds gs before) (hk:Rows.uptoSmall H (ds++gs) = true) (hL:laidMetH Tryd.prog Rows.pathLeadsUptoRow.laid W) :
    Calls Tryd.prog 3 args W fun e W'=>∃ v,e = .returned v∧Rows.pathLeadsSpec.post enc Tryd.prog Tryd.f3 false true false false W args v W':=by
  have hW':=hW
  obtain ⟨p,q,hA0,hV,rfl,hfz,hnd⟩:=hW
  have hA:DataW.TrodAll enc Tryd.prog W 0 (fun _=>true) true Tryd.f3.params.toList args.toList ds p:=hA0
  rw [Tryd.params3] at hA hval
  obtain ⟨v0,vs0,d0,ds0,p0,q0,hargs0,rfl,rfl,h0,r0⟩:=trodAll_cons hA
  obtain ⟨v1,vs1,d1,ds1,p1,q1,hargs1,rfl,rfl,h1,r1⟩:=trodAll_cons r0
  obtain ⟨rfl,rfl,rfl⟩:=trodAll_nil r1
  obtain rfl:args = #[v0,v1]:=by cases args; simp_all
  obtain ⟨rfl,rfl⟩:=trodVars_none hV
  obtain ⟨a0,i0,b0,bn0⟩:=arg_vl (hval 0 26 v0 rfl rfl) h0
  obtain ⟨l1,i1,bl1,b1⟩:=arg_psteps (hval 1 27 v1 rfl rfl) h1
  have hW'':=hW'
  have bk:Rows.uptoBulkAll _≤1048576:=of_decide_eq_true hk
  simp only [List.append_nil,List.cons_append,List.nil_append,Rows.uptoBulkAll,Rows.uptoBulk,Array.length_toList] at bk
  have hL':laidMet Tryd.prog Rows.pathLeadsUptoRow.laid W:=hL
  have hU:Lib.Utf8Tabs 0 1 W:=utf8Tabs_of_reads (ρ:=Tryd.lays260_ren) Tryd.lays260 ⟨by kernel_rfl,by kernel_rfl,by kernel_rfl,by kernel_rfl,by kernel_rfl,by kernel_rfl,by kernel_rfl⟩ (by have:=Lib.laidMet.reads hL' (.tail _ (.head _)); rw [show Rows.laid_unicode_utf8_first = Lib.firstData from Pinned.utf8First_eq] at this; exact this) (by have:=Lib.laidMet.reads hL' (.head _); rw [show Rows.laid_unicode_utf8_acceptRanges = Lib.acceptData by kernel_rfl] at this; exact this)
  obtain ⟨cur0,e0,fz0,hh0,_⟩:=cell_block (hU.1 0 (by decide))
  obtain ⟨cur1,e1,fz1,hh1,_⟩:=cell_block (hU.2 0 (by decide)).1
  let G:Globs:=⟨[(0,.cells cur0 e0 fz0),(1,.cells cur1 e1 fz1)]⟩
  have hu:@HasU8 G:=⟨_,_,.head _,.tail _ (.head _),fun w k0 k1=>by
    have c0:∀ o,w.cell? ⟨0,o,none⟩ = W.cell? ⟨0,o,none⟩:=fun o=>World.cell?_of_block (k0.trans hh0.symm)
    have c1:∀ o,w.cell? ⟨1,o,none⟩ = W.cell? ⟨1,o,none⟩:=fun o=>World.cell?_of_block (k1.trans hh1.symm)
    exact ⟨fun c hc=>(c0 c).trans (hU.1 c hc),fun i hi=>⟨(c1 _).trans (hU.2 i hi).1,(c1 _).trans (hU.2 i hi).2⟩⟩⟩
  have hG:@GlobOK G (fun _=>False) W:=fun p hp=>by
    rcases List.mem_cons.1 hp with rfl | hp
    · exact ⟨fun h=>h,hh0⟩
    · cases List.mem_singleton.1 hp
      exact ⟨fun h=>h,hh1⟩
  refine ((s_law (G:=G) hu a0 l1 b0 (by omega)).2 (fun _=>False) W [v0,v1] (fun _ h=>h.elim) hG (All2.cons i0 (All2.cons i1 (All2.nil _)))).mono fun e W' ⟨v,he,hst,hv⟩=>?_
  subst he
  cases hv
  have hb:=hst.below
  have hlt:∀ x:MemPlace,x ∈ (p0++(p1++[]))++[]→x.block < W.heap.size:=fun x hx=>hW''.lt x hx
  have hargs':∀ sp:Nat→Bool,(∀ x:MemPlace,x ∈ (p0++(p1++[]))++[]→sp x.block = true)→DataW.TrodAll enc Tryd.prog W' 0 sp true [26,27] [v0,v1] [d0,d1] (p0++(p1++[])):=fun sp hsp =>
    trodAll_cons_mk (WideElems.Trod_stays laidOut (by kernel_rfl) (of_decide_eq_true (by kernel_rfl)) h0 (fun x hx=>hb.same (hlt x (by simp [hx]))) (fun x hx=>hsp x (by simp [hx]))) (trodAll_cons_mk (WideElems.Trod_stays laidOut (by kernel_rfl) (of_decide_eq_true (by kernel_rfl)) h1 (fun x hx=>hb.same (hlt x (by simp [hx]))) (fun x hx=>hsp x (by simp [hx]))) (trodAll_mk0))
  exact ⟨_,rfl,post_of_below (pa:=p0++(p1++[])) (pv:=[]) hW'' (fun _ _ _=>(trodAll_cons_mk (shut_bool Tryd.underlying4 _) trodAll_mk0)) (fun sp hsp=>hargs' sp hsp) (fun _ _=>rfl) rfl
    hb (ok_one (by kernel_rfl) rfl (okWide_bool_mk Tryd.underlying4 _))⟩
def layB (cs:List Value):Obj→Obj
  | .cells _ t frozen=>.cells cs.toArray t frozen
  | o=>o
noncomputable def laidWorld (os:Os):World :=
  { World.holding Tryd.prog os ⟨#[],#[],[]⟩ with
    heap:=((World.holding Tryd.prog os ⟨#[],#[],[]⟩).heap.modify 0 (layB (Pinned.utf8FirstZ.map fun (n:Nat)=>Value.int .u8 (n:Int)))).modify 1
      (layB ([128,191,160,191,128,159,144,191,128,143,0,0,0,0,0,0,0,0,0,0,0,0,0,0,0,0,0,0,0,0,0,0].map fun n=>Value.int .u8 n)) }
theorem laid_met (os:Os):laidMet Tryd.prog Rows.pathLeadsUptoRow.laid ((laidWorld os).forCall (fun _ _=>0) ⟨#[],#[.agg #[.int .i64 0,.int .i64 0,.int .u64 0,.string .empty,.slice none 0 0,.slice none 0 0],.slice none 0 0],[]⟩).memory :=
  laidMet_of_run' 8 (by kernel_rfl) (by kernel_rfl)
theorem reads (os:Os) {H:Type} (enc:TypeId × Value→H):∃ places,DataW.whole enc Tryd.prog ((laidWorld os).forCall (fun _ _=>0) ⟨#[],#[.agg #[.int .i64 0,.int .i64 0,.int .u64 0,.string .empty,.slice none 0 0,.slice none 0 0],.slice none 0 0],[]⟩).memory Tryd.f3.params.toList Rows.pathLeadsSpec.vars false #[.agg #[.int .i64 0,.int .i64 0,.int .u64 0,.string .empty,.slice none 0 0,.slice none 0 0],.slice none 0 0].toList 8 = some ([.agg [.lit (.int .i64 0),.lit (.int .i64 0),.lit (.int .u64 0),.lit (.string []),.nil,.nil],.nil],[],places) :=
  ⟨[],by kernel_rfl⟩
set_option maxRecDepth 100000 in
theorem lifted (os : Os) (started : os.Started) (H : Type) (enc : TypeId × Value → H) (F : Stop.Interp) :
    ReturnsInHanded {} Tryd.checked os 3 .any ((Rows.OpenSpec.upto Rows.pathLeadsSpec).preRow enc Tryd.prog Tryd.f3 Rows.pathLeadsUptoRow.domain false Rows.pathLeadsUptoRow.laid) (((Rows.OpenSpec.upto Rows.pathLeadsSpec).at F).post enc Tryd.prog Tryd.f3 false true false false):=by
  obtain ⟨places,hx⟩:=reads os enc
  refine returnsInHanded_of_row (C:=Tryd.checked) (s:=Rows.OpenSpec.upto Rows.pathLeadsSpec) own started (by kernel_rfl) Tryd.func3
    (witness_row_at (enc:=enc) (C:=Tryd.checked) false (laidWorld os) #[.agg #[.int .i64 0,.int .i64 0,.int .u64 0,.string .empty,.slice none 0 0,.slice none 0 0],.slice none 0 0] rfl (by kernel_rfl) (by kernel_rfl) (by kernel_rfl)
      (OpenSpec.preRow_of_cond 8 hx (by kernel_rfl) (fun k hk=>by cases hk; kernel_rfl) (by kernel_rfl) (laid_met os))) ?_
  intro W base args ds gs before hval hW _ hcond _ hL _ _
  exact contract H enc W base args ds gs before hval hW (hcond _ rfl) hL
theorem said:Rows.PathLeadsUptoSaid :=
  OpenClaim.holds_of_cond 3 Tryd.f3 rfl rfl rfl rfl rfl rfl rfl ⟨rfl,rfl,rfl,rfl,rfl⟩ rfl rfl rfl rfl rfl (by kernel_rfl) Tryd.func3 (by kernel_rfl)
    (of_decide_eq_true (by kernel_rfl)) (by unfold Func.isWrapper; first | (rw [if_pos (by decide +kernel)]; kernel_rfl) | (rw [if_neg (by decide +kernel)]; exact ⟨rfl,rfl⟩))
    (fun os started H enc _ F=>by rw [OpenClaim.pre_eq_preRow]; exact lifted os started H enc F)
theorem plain (f : FuncId) (fn : Func) (hf : Tryd.pinned.checked.prog.funcNamed "typecase/typecaselaw.PathLeads" = some f) (hfn : Tryd.pinned.checked.prog.funcs[f]? = some fn) :
    false = Tryd.pinned.checked.prog.looks []∧∀ (j:Nat) t,fn.params[j]? = some t→Tryd.pinned.checked.prog.wantsStandIn t = false:=by
  obtain rfl : f = 3 := Option.some.inj ((show Tryd.prog.funcNamed "typecase/typecaselaw.PathLeads" = some 3 by kernel_rfl).symm.trans hf) |>.symm
  obtain rfl:fn = Tryd.f3:=(Option.some.inj (Tryd.func3.symm.trans hfn)).symm
  refine ⟨by kernel_rfl,fun j t ht=>?_⟩
  rw [Tryd.params3] at ht
  have hm:=Array.mem_of_getElem? ht
  simp only [List.mem_toArray,List.mem_cons,List.not_mem_nil,or_false] at hm
  rcases hm with rfl | rfl
  · exact (show Tryd.prog.wantsStandIn 26 = false by kernel_rfl)
  · exact (show Tryd.prog.wantsStandIn 27 = false by kernel_rfl)
theorem proved:Rows.PathLeadsUptoCardSaid :=
  Claim7.holds_tied_plain_at .later [] _ _ _ _ said (fun _ h=>by cases h) (by kernel_rfl) (fun _ h=>by cases h) pathLeadsUpto_row_tie rfl ⟨rfl,rfl⟩ (by kernel_rfl) rfl plain (by kernel_rfl)

end Go.Proofs.YtnpmmkfdclhbeaaDoor.pathLeads
end
