/-
  A part of a proof: plain laws and walks, one after the other. No conditions.
-/
import Derived.Test.YtmfchbkdakmjhaaDoorPt3
import Derived.Lib.FrozenHead
import Derived.Lib.FrozenHead2
import Derived.Lib.Builder
import Derived.Lib.UnsafeStr
import Derived.Lib.Walk
import Derived.BigRegion
import Derived.Laws.Externs
import Derived.Lib.RuneBytes
import Derived.Lib.IndexAny
import Derived.Lib.ParseIntB
import Derived.Deep.Slices
import Derived.Carry
import Derived.DataReads
import Derived.Laws.Bits64
import Derived.Laws.Bits64b
set_option linter.constructorNameAsVariable false
set_option linter.unusedVariables false
set_option linter.unusedSimpArgs false
set_option linter.unusedSectionVars false
section
namespace Go.Proofs.YtmfchbkdakmjhaaDoor
set_option linter.unusedSectionVars false
set_option linter.unusedSimpArgs false
set_option linter.unusedVariables false
open Go Go.SX Go.Ut Go.RowKit
set_option maxRecDepth 100000
set_option maxHeartbeats 0
def HasU8 [G:Globs]:Prop:=∃ o0 o1:Obj,(1,o0) ∈ G.gl∧(2,o1) ∈ G.gl∧∀ w:World,w.heap[1]? = some o0→w.heap[2]? = some o1→Lib.Utf8Tabs 1 2 w
section
variable [G:Globs]
def decG (s:Str):Nat × Nat:=if s = [] then (65533,0) else decAt s 0
theorem s_Decode (hu:HasU8) (s:Str):PSpec Tryd.prog 102 [.s s] (.tup [.i .i32 (decG s).1,.i .i64 (decG s).2]):=by
  refine ⟨Tryd.call102,fun O w vs hO hG hargs=>?_⟩
  obtain ⟨v0,vs0,rfl,h0,h⟩:=hargs.cons_inv
  obtain rfl:=h.nil_inv
  cases h0
  obtain ⟨o0,o1,m0,m1,ht⟩:=hu
  have hT:=ht w (hG _ m0).2 (hG _ m1).2
  have hd:Lib.decodeGo ⟨s.toArray⟩ = decG s:=by
    unfold Lib.decodeGo decG
    have hsz:(⟨s.toArray⟩:ByteArray).size = s.length:=by simp [ByteArray.size]
    rw [hsz]
    by_cases h:s = []
    · subst h; rfl
    · rw [if_neg (by simpa using h),if_neg h]
      exact decAt_eq s 0
  refine (Tryd.utf8_DecodeRuneInString ⟨s.toArray⟩ w hT).mono fun e w' ⟨he,hw⟩=>?_
  subst he
  rw [hd]
  refine ⟨_,rfl,⟨hw.os,hw.tape,hw.output,hw.size,fun k hk _=>hw.block k hk⟩,.tup _ [_,_] rfl fun j av v hav hv=>?_⟩
  match j with
  | 0=>simp at hav hv; subst hav hv; exact .i _ _
  | 1=>simp at hav hv; subst hav hv; exact .i _ _
  | j + 2=>simp at hav
def codeR (s:Str):AV:=.tup [.i .i32 (code s).1,.i .i64 (code s).2]
theorem w_Next (hu:HasU8) (s:Str):vc Tryd.prog Γ 20 [0,2,3,4,5,16] (Tryd.f63.body.getD .skip) (postK Γ [.tmp 2,.tmp 3] (fun v=>v = codeR s)) ⟨argSlots 0 [.s s],[]⟩:=by
  have qd:=s_Decode hu s
  by_cases h:s = []
  · subst h
    refine Or.inl (Exists.intro _ (And.intro (qd) ?_))
    repeat (first | (focus (refine And.intro ?_ (fun h9=>?_); rotate_left 1; (focus (exfalso; revert h9; first | decide | (simp<;>omega) | (intro h9; simp at h9<;>omega))); refine fun _=>?_)) | (focus (refine And.intro (fun h9=>?_) ?_; (focus (exfalso; revert h9; first | decide | (simp<;>omega) | (intro h9; simp at h9<;>omega))); refine fun _=>?_)))
    rfl
  · have hd:decG s = decAt s 0:=by unfold decG; rw [if_neg h]
    rw [hd] at qd
    have hp:=dec_pos s 0
    by_cases hb:(decAt s 0).1 = 65533∧(decAt s 0).2 = 1
    · have hc:code s = (-1,1):=by unfold code; rw [if_neg h,if_pos hb]
      rw [hb.1,hb.2] at qd
      unfold codeR
      rw [hc]
      refine Or.inl (Exists.intro _ (And.intro (qd) ?_))
      repeat (first | (focus (refine And.intro ?_ (fun h9=>?_); rotate_left 1; (focus (exfalso; revert h9; first | decide | (simp<;>omega) | (intro h9; simp at h9<;>omega))); refine fun _=>?_)) | (focus (refine And.intro (fun h9=>?_) ?_; (focus (exfalso; revert h9; first | decide | (simp<;>omega) | (intro h9; simp at h9<;>omega))); refine fun _=>?_)))
      rfl
    · have hc:code s = (((decAt s 0).1:Int),(decAt s 0).2):=by unfold code; rw [if_neg h,if_neg hb]
      unfold codeR
      rw [hc]
      refine Or.inl (Exists.intro _ (And.intro (qd) ?_))
      refine And.intro (fun h1=>?_) (fun h1=>?_)
      · have h1:(decAt s 0).1 = 65533:=by have:=eq_of_beq h1; omega
        have h2:(decAt s 0).2≠1:=fun e=>hb ⟨h1,e⟩
        refine And.intro (fun h3=>?_) (fun h3=>?_)
        · exfalso
          have:(((decAt s 0).2:Int) < 2):=of_decide_eq_true (show decide (((decAt s 0).2:Int) < 2) = true from h3)
          omega
        · rfl
      · (focus (refine And.intro (fun h9=>?_) ?_; (focus (exfalso; revert h9; first | decide | (simp<;>omega) | (intro h9; simp at h9<;>omega))); refine fun _=>?_))
        rfl
theorem s_Next (hu:HasU8) (s:Str):PSpec Tryd.prog 63 [.s s] (codeR s) :=
  pspec_of_vc Γ_good Tryd.func63 rfl Tryd.call63 Tryd.results63 Tryd.ntmps63 (Nat.le_of_ble_eq_true rfl) (w_Next hu s)
theorem w_Scalar (n:Int):vc Tryd.prog Γ 17 [0,2] (Tryd.f65.body.getD .skip) (postK Γ [.tmp 2] (fun v=>v = .b (decide (scalar n)))) ⟨argSlots 0 [.i .i64 n],[]⟩:=by
  repeat' (refine And.intro (fun h=>?_) (fun h=>?_)<;>(try simp [-List.getD_eq_getElem?_getD,-Int.pred_toNat] at h))
  all_goals
    refine congrArg AV.b ?_
    rw [Bool.eq_iff_iff]
    simp only [cond_true,cond_false,decide_eq_true_eq,Bool.false_eq_true,true_iff,false_iff]
    unfold scalar
    first | omega | (constructor<;>intro h9<;>(try (exfalso; exact h9))<;>omega)
theorem s_Scalar (n:Int):PSpec Tryd.prog 65 [.i .i64 n] (.b (decide (scalar n))) :=
  pspec_of_vc Γ_good Tryd.func65 rfl Tryd.call65 Tryd.results65 Tryd.ntmps65 (Nat.le_of_ble_eq_true rfl) (w_Scalar n)
theorem w_Size (n:Int):vc Tryd.prog Γ 23 [0,2,3,14,17,20] (Tryd.f101.body.getD .skip) (postK Γ [.tmp 2] (fun v=>v = .i .i64 (sizeR n))) ⟨argSlots 0 [.i .i32 n],[]⟩:=by
  repeat' (refine And.intro (fun h=>?_) (fun h=>?_)<;>(try simp [-List.getD_eq_getElem?_getD,-Int.pred_toNat] at h)<;>(try (exfalso; first | omega | contradiction)))
  all_goals
    refine congrArg (AV.i .i64) ?_
    unfold sizeR
    by_cases hs:scalar n
    · rw [if_pos hs]
      unfold scalar at hs
      (repeat' split)<;>omega
    · rw [if_neg hs]
      all_goals
        unfold scalar at hs
        omega
theorem s_Size (n:Int):PSpec Tryd.prog 101 [.i .i32 n] (.i .i64 (sizeR n)) :=
  pspec_of_vc Γ_good Tryd.func101 rfl Tryd.call101 Tryd.results101 Tryd.ntmps101 (Nat.le_of_ble_eq_true rfl) (w_Size n)
end
end Go.Proofs.YtmfchbkdakmjhaaDoor
end
section
namespace Go.Proofs.YtmfchbkdakmjhaaDoor
set_option linter.unusedSectionVars false
set_option linter.unusedSimpArgs false
set_option linter.unusedVariables false
open Go Go.SX Go.Ut Go.RowKit
set_option maxRecDepth 100000
set_option maxHeartbeats 0
section
variable [G:Globs]
theorem acc_bnd {s:Str} {r:Int} (h0:0≤r) (h1:r≤63):∀ (i:Nat),i≤4→(∀ j,1≤j→j < i→cont s j)→0≤acc s r i∧acc s r i≤16777215:=by
  intro i hi hc
  have key:∀ j,1≤j→j < i→128≤b8 s j∧b8 s j < 192:=hc
  match i,hi with
  | 0,_=>exact ⟨h0,by simp only [acc]; omega⟩
  | 1,_=>exact ⟨h0,by simp only [acc]; omega⟩
  | 2,_=>have k1:=key 1 (by decide) (by decide); simp only [acc]; omega
  | 3,_=>have k1:=key 1 (by decide) (by decide); have k2:=key 2 (by decide) (by decide); simp only [acc]; omega
  | 4,_=>have k1:=key 1 (by decide) (by decide); have k2:=key 2 (by decide) (by decide); have k3:=key 3 (by decide) (by decide); simp only [acc]; omega
  | i + 5,h=>exfalso; omega
theorem i32_in (n:Int) (h0:0≤n) (h1:n≤2147483647):IntKind.i32.wrap n = n:=IntWalk.i32_in n ⟨by omega,h1⟩
theorem w_Code (s:Str):vc Tryd.prog Γ 90 [0,2,3,4,5,6,7,9,13,19,30,41,55,58,70,86] (Tryd.f58.body.getD .skip) (postK Γ [.tmp 2,.tmp 3] (fun v=>v = codeR s)) ⟨argSlots 0 [.s s],[]⟩:=by
  by_cases h0:s = []
  · subst h0
    (focus (refine And.intro ?_ (fun h9=>?_); rotate_left 1; (focus (exfalso; revert h9; first | decide | (simp<;>omega) | (intro h9; simp at h9<;>omega))); refine fun _=>?_))
    rfl
  have hl:1≤s.length:=by cases s with
    | nil=>exact absurd rfl h0
    | cons c r=>simp
  have hb:=b8_rng s 0
  have hw:IntKind.i64.wrap (((s.getD (Int.toNat 0) 0).toNat:Nat):Int) = b8 s 0:=IntWalk.i64_in _ ⟨by show _≤b8 s 0; omega,by show b8 s 0≤_; omega⟩
  refine And.intro (fun h9=>absurd (eq_of_beq h9) h0) (fun _=>?_)
  rcases (show b8 s 0 < 128∨(128≤b8 s 0∧b8 s 0 < 192)∨(192≤b8 s 0∧b8 s 0 < 224)∨(224≤b8 s 0∧b8 s 0 < 240)∨(240≤b8 s 0∧b8 s 0 < 248)∨248≤b8 s 0 by omega) with hc | hc | hc | hc | hc | hc
  · refine Exists.intro [.blk [0,1,2,3,4,5]] (And.intro (by kernel_rfl) ?_)
    refine And.intro ⟨by omega,by omega⟩ ?_
    refine And.intro ⟨by omega,by omega⟩ ?_
    rw [hw]
    refine And.intro (fun _=>?_) (fun h9=>absurd (show b8 s 0 < 128 by omega) (of_decide_eq_false h9))
    rw [codeR,code1 h0 hc]
    show AV.tup [.i .i32 (IntKind.i32.wrap (b8 s 0)),.i .i64 1] = _
    rw [i32_in _ (by omega) (by omega)]
    all_goals rfl
  · have hbad:code s = (-1,1):=code_bad h0 (by omega)
    refine Exists.intro [.blk [0,1,2,3,4,5]] (And.intro (by kernel_rfl) ?_)
    refine And.intro ⟨by omega,by omega⟩ ?_
    refine And.intro ⟨by omega,by omega⟩ ?_
    rw [hw]
    refine And.intro (fun h9=>absurd (of_decide_eq_true h9) (show ¬ (b8 s 0 < 128) by omega)) (fun _=>?_)
    refine And.intro ⟨by omega,by omega⟩ ?_
    refine And.intro (fun h9=>absurd (of_decide_eq_true h9) (show ¬ (192≤b8 s 0) by omega)) (fun _=>?_)
    (focus (refine And.intro (fun h9=>?_) ?_; (focus (exfalso; revert h9; first | decide | (simp<;>omega) | (intro h9; simp at h9<;>omega))); refine fun _=>?_))
    refine And.intro ⟨by omega,by omega⟩ ?_
    refine And.intro (fun h9=>absurd (of_decide_eq_true h9) (show ¬ (224≤b8 s 0) by omega)) (fun _=>?_)
    (focus (refine And.intro (fun h9=>?_) ?_; (focus (exfalso; revert h9; first | decide | (simp<;>omega) | (intro h9; simp at h9<;>omega))); refine fun _=>?_))
    refine And.intro ⟨by omega,by omega⟩ ?_
    refine And.intro (fun h9=>absurd (of_decide_eq_true h9) (show ¬ (240≤b8 s 0) by omega)) (fun _=>?_)
    (focus (refine And.intro (fun h9=>?_) ?_; (focus (exfalso; revert h9; first | decide | (simp<;>omega) | (intro h9; simp at h9<;>omega))); refine fun _=>?_))
    rw [codeR,hbad]
    rfl
  · have hlead:lead s = (2,128,b8 s 0 - 192):=by unfold lead; rw [if_pos (by omega)]
    have hg:good s↔(2≤s.length∧(∀ i,1≤i→i < 2→cont s i)∧128≤acc s (b8 s 0 - 192) 2∧scalar (acc s (b8 s 0 - 192) 2)):=by unfold good; rw [hlead]
    have hbad:¬ good s→code s = (-1,1):=(code_many h0 (by omega) (by omega)).2
    refine Exists.intro [.blk [0,1,2,3,4,5]] (And.intro (by kernel_rfl) ?_)
    refine And.intro ⟨by omega,by omega⟩ ?_
    refine And.intro ⟨by omega,by omega⟩ ?_
    rw [hw]
    refine And.intro (fun h9=>absurd (of_decide_eq_true h9) (show ¬ (b8 s 0 < 128) by omega)) (fun _=>?_)
    refine And.intro ⟨by omega,by omega⟩ ?_
    refine And.intro (fun _=>?_) (fun h9=>absurd (show 192≤b8 s 0 by omega) (of_decide_eq_false h9))
    refine And.intro ⟨by omega,by omega⟩ ?_
    refine And.intro (fun _=>?_) (fun h9=>absurd (show b8 s 0 < 224 by omega) (of_decide_eq_false h9))
    refine And.intro ⟨by omega,by omega⟩ ?_
    intro _
    refine And.intro (fun hs=>?_) (fun hs=>?_)
    · have hs:(s.length:Int) < 2:=of_decide_eq_true hs
      show AV.tup [.i .i32 (-1),.i .i64 1] = codeR s
      rw [codeR,hbad (fun h=>by have:=(hg.1 h).1; omega)]
      all_goals rfl
    · have hs:¬ (s.length:Int) < 2:=of_decide_eq_false hs
      refine Exists.intro [] (Exists.intro [] (Exists.intro [] (Exists.intro Nat (Exists.intro (fun i=>1≤i∧i≤2∧∀ j,1≤j→j < i→cont s j) (Exists.intro (fun i=>⟨[(0,.s s),(4,.i .i64 2),(5,.i .i64 128),(6,.i .i64 (acc s (b8 s 0 - 192) i)),(7,.i .i64 i)],[]⟩) (Exists.intro (fun i=>2 - i) (Exists.intro 1 (And.intro ⟨Nat.le_refl _,by decide,fun j h1 h2=>by omega⟩ (And.intro ?_ ?_)))))))))
      · (repeat' (first | exact trivial | exact Or.inl rfl | exact Or.inr (Or.inl ⟨rfl,_,rfl⟩) | exact Or.inr (Or.inr (Or.inr ⟨_,_,_,rfl,rfl⟩)) | refine And.intro ?_ ?_))
      · rintro i ⟨hi1,hin,hcs⟩
        have hab:=acc_bnd (s:=s) (r:=(b8 s 0 - 192)) (by omega) (by omega) i (by omega) hcs
        have hbi:=b8_rng s i
        refine And.intro (fun hc=>?_) (fun hc=>?_)
        · have hc:i < 2:=by have:(i:Int) < 2:=of_decide_eq_true hc; omega
          refine And.intro ⟨by omega,by omega⟩ ?_
          refine And.intro (fun h1=>?_) (fun h1=>?_)
          · have h1:¬ b8 s i < 128:=of_decide_eq_false h1
            refine And.intro ⟨by omega,by omega⟩ ?_
            refine And.intro (fun h2=>?_) (fun h2=>?_)
            · have h2:192≤b8 s i:=of_decide_eq_true h2
              show AV.tup [.i .i32 (-1),.i .i64 1] = codeR s
              rw [codeR,hbad (fun h=>by have:=(hg.1 h).2.1 i hi1 hc; unfold cont at this; omega)]
              all_goals rfl
            · have h2:¬ 192≤b8 s i:=of_decide_eq_false h2
              have hwi:IntKind.i64.wrap (((s.getD (Int.toNat (i:Int)) 0).toNat:Nat):Int) = b8 s i:=IntWalk.i64_in _ ⟨by show _≤b8 s i; omega,by show b8 s i≤_; omega⟩
              have hacc:acc s (b8 s 0 - 192) (i + 1) = acc s (b8 s 0 - 192) i * 64 + b8 s i - 128:=by
                obtain ⟨k,rfl⟩:∃ k,i = k + 1:=⟨i - 1,by omega⟩
                rfl
              refine And.intro ⟨by omega,by omega⟩ ?_
              refine And.intro ⟨by omega,by omega⟩ ?_
              refine And.intro ⟨by rw [hwi]; omega,by rw [hwi]; omega⟩ ?_
              rw [hwi]
              refine And.intro ⟨by omega,by omega⟩ ?_
              refine And.intro ⟨by omega,by omega⟩ ?_
              have hcs':∀ j,1≤j→j < i + 1→cont s j:=fun j h3 h4=>by
                rcases Nat.lt_or_ge j i with h | h
                · exact hcs j h3 h
                · have:j = i:=by omega
                  subst this
                  exact ⟨by omega,by omega⟩
              refine Exists.intro [] (Exists.intro (i + 1) (And.intro ⟨by omega,by omega,hcs'⟩ (And.intro ?_ ?_)))
              · (repeat' (first | exact trivial | exact Or.inl rfl | exact Or.inl (congrArg (AV.i .i64) hacc.symm) | refine And.intro ?_ ?_))
              · show 2 - (i + 1) < 2 - i
                omega
          · have h1:b8 s i < 128:=of_decide_eq_true (show decide (b8 s i < 128) = true from h1)
            (focus (refine And.intro ?_ (fun h9=>?_); rotate_left 1; (focus (exfalso; revert h9; first | decide | (simp<;>omega) | (intro h9; simp at h9<;>omega))); refine fun _=>?_))
            show AV.tup [.i .i32 (-1),.i .i64 1] = codeR s
            rw [codeR,hbad (fun h=>by have:=(hg.1 h).2.1 i hi1 hc; unfold cont at this; omega)]
            all_goals rfl
        · have hc:i = 2:=by have:¬ (i:Int) < 2:=of_decide_eq_false hc; omega
          subst hc
          refine And.intro (fun h1=>?_) (fun h1=>?_)
          · have h1:¬ acc s (b8 s 0 - 192) 2 < 128:=of_decide_eq_false h1
            refine Or.inl (Exists.intro _ (And.intro (s_Scalar (acc s (b8 s 0 - 192) 2)) ?_))
            refine And.intro (fun h2=>?_) (fun h2=>?_)
            · have h2:¬ scalar (acc s (b8 s 0 - 192) 2):=by simpa using h2
              show AV.tup [.i .i32 (-1),.i .i64 1] = codeR s
              rw [codeR,hbad (fun h=>h2 (hg.1 h).2.2.2)]
              all_goals rfl
            · have h2:scalar (acc s (b8 s 0 - 192) 2):=by simpa using h2
              have hgood:good s:=hg.2 ⟨by omega,hcs,by omega,h2⟩
              have hw2:IntKind.i32.wrap (acc s (b8 s 0 - 192) 2) = acc s (b8 s 0 - 192) 2:=i32_in _ (by omega) (by unfold scalar at h2; omega)
              have hcd:=(code_many h0 (by omega) (by omega)).1 hgood
              rw [hlead] at hcd
              rw [codeR,hcd]
              show AV.tup [.i .i32 (IntKind.i32.wrap (acc s (b8 s 0 - 192) 2)),.i .i64 2] = _
              rw [hw2]
              all_goals rfl
          · have h1:acc s (b8 s 0 - 192) 2 < 128:=of_decide_eq_true (show decide (acc s (b8 s 0 - 192) 2 < 128) = true from h1)
            (focus (refine And.intro ?_ (fun h9=>?_); rotate_left 1; (focus (exfalso; revert h9; first | decide | (simp<;>omega) | (intro h9; simp at h9<;>omega))); refine fun _=>?_))
            show AV.tup [.i .i32 (-1),.i .i64 1] = codeR s
            rw [codeR,hbad (fun h=>by have:=(hg.1 h).2.2.1; omega)]
            all_goals rfl
  · have hlead:lead s = (3,2048,b8 s 0 - 224):=by unfold lead; rw [if_neg (by omega),if_pos (by omega)]
    have hg:good s↔(3≤s.length∧(∀ i,1≤i→i < 3→cont s i)∧2048≤acc s (b8 s 0 - 224) 3∧scalar (acc s (b8 s 0 - 224) 3)):=by unfold good; rw [hlead]
    have hbad:¬ good s→code s = (-1,1):=(code_many h0 (by omega) (by omega)).2
    refine Exists.intro [.blk [0,1,2,3,4,5]] (And.intro (by kernel_rfl) ?_)
    refine And.intro ⟨by omega,by omega⟩ ?_
    refine And.intro ⟨by omega,by omega⟩ ?_
    rw [hw]
    refine And.intro (fun h9=>absurd (of_decide_eq_true h9) (show ¬ (b8 s 0 < 128) by omega)) (fun _=>?_)
    refine And.intro ⟨by omega,by omega⟩ ?_
    refine And.intro (fun _=>?_) (fun h9=>absurd (show 192≤b8 s 0 by omega) (of_decide_eq_false h9))
    refine And.intro ⟨by omega,by omega⟩ ?_
    refine And.intro (fun h9=>absurd (of_decide_eq_true h9) (show ¬ (b8 s 0 < 224) by omega)) (fun _=>?_)
    refine And.intro ⟨by omega,by omega⟩ ?_
    refine And.intro (fun _=>?_) (fun h9=>absurd (show 224≤b8 s 0 by omega) (of_decide_eq_false h9))
    refine And.intro ⟨by omega,by omega⟩ ?_
    refine And.intro (fun _=>?_) (fun h9=>absurd (show b8 s 0 < 240 by omega) (of_decide_eq_false h9))
    refine And.intro ⟨by omega,by omega⟩ ?_
    intro _
    refine And.intro (fun hs=>?_) (fun hs=>?_)
    · have hs:(s.length:Int) < 3:=of_decide_eq_true hs
      show AV.tup [.i .i32 (-1),.i .i64 1] = codeR s
      rw [codeR,hbad (fun h=>by have:=(hg.1 h).1; omega)]
      all_goals rfl
    · have hs:¬ (s.length:Int) < 3:=of_decide_eq_false hs
      refine Exists.intro [] (Exists.intro [] (Exists.intro [] (Exists.intro Nat (Exists.intro (fun i=>1≤i∧i≤3∧∀ j,1≤j→j < i→cont s j) (Exists.intro (fun i=>⟨[(0,.s s),(4,.i .i64 3),(5,.i .i64 2048),(6,.i .i64 (acc s (b8 s 0 - 224) i)),(7,.i .i64 i)],[]⟩) (Exists.intro (fun i=>3 - i) (Exists.intro 1 (And.intro ⟨Nat.le_refl _,by decide,fun j h1 h2=>by omega⟩ (And.intro ?_ ?_)))))))))
      · (repeat' (first | exact trivial | exact Or.inl rfl | exact Or.inr (Or.inl ⟨rfl,_,rfl⟩) | exact Or.inr (Or.inr (Or.inr ⟨_,_,_,rfl,rfl⟩)) | refine And.intro ?_ ?_))
      · rintro i ⟨hi1,hin,hcs⟩
        have hab:=acc_bnd (s:=s) (r:=(b8 s 0 - 224)) (by omega) (by omega) i (by omega) hcs
        have hbi:=b8_rng s i
        refine And.intro (fun hc=>?_) (fun hc=>?_)
        · have hc:i < 3:=by have:(i:Int) < 3:=of_decide_eq_true hc; omega
          refine And.intro ⟨by omega,by omega⟩ ?_
          refine And.intro (fun h1=>?_) (fun h1=>?_)
          · have h1:¬ b8 s i < 128:=of_decide_eq_false h1
            refine And.intro ⟨by omega,by omega⟩ ?_
            refine And.intro (fun h2=>?_) (fun h2=>?_)
            · have h2:192≤b8 s i:=of_decide_eq_true h2
              show AV.tup [.i .i32 (-1),.i .i64 1] = codeR s
              rw [codeR,hbad (fun h=>by have:=(hg.1 h).2.1 i hi1 hc; unfold cont at this; omega)]
              all_goals rfl
            · have h2:¬ 192≤b8 s i:=of_decide_eq_false h2
              have hwi:IntKind.i64.wrap (((s.getD (Int.toNat (i:Int)) 0).toNat:Nat):Int) = b8 s i:=IntWalk.i64_in _ ⟨by show _≤b8 s i; omega,by show b8 s i≤_; omega⟩
              have hacc:acc s (b8 s 0 - 224) (i + 1) = acc s (b8 s 0 - 224) i * 64 + b8 s i - 128:=by
                obtain ⟨k,rfl⟩:∃ k,i = k + 1:=⟨i - 1,by omega⟩
                rfl
              refine And.intro ⟨by omega,by omega⟩ ?_
              refine And.intro ⟨by omega,by omega⟩ ?_
              refine And.intro ⟨by rw [hwi]; omega,by rw [hwi]; omega⟩ ?_
              rw [hwi]
              refine And.intro ⟨by omega,by omega⟩ ?_
              refine And.intro ⟨by omega,by omega⟩ ?_
              have hcs':∀ j,1≤j→j < i + 1→cont s j:=fun j h3 h4=>by
                rcases Nat.lt_or_ge j i with h | h
                · exact hcs j h3 h
                · have:j = i:=by omega
                  subst this
                  exact ⟨by omega,by omega⟩
              refine Exists.intro [] (Exists.intro (i + 1) (And.intro ⟨by omega,by omega,hcs'⟩ (And.intro ?_ ?_)))
              · (repeat' (first | exact trivial | exact Or.inl rfl | exact Or.inl (congrArg (AV.i .i64) hacc.symm) | refine And.intro ?_ ?_))
              · show 3 - (i + 1) < 3 - i
                omega
          · have h1:b8 s i < 128:=of_decide_eq_true (show decide (b8 s i < 128) = true from h1)
            (focus (refine And.intro ?_ (fun h9=>?_); rotate_left 1; (focus (exfalso; revert h9; first | decide | (simp<;>omega) | (intro h9; simp at h9<;>omega))); refine fun _=>?_))
            show AV.tup [.i .i32 (-1),.i .i64 1] = codeR s
            rw [codeR,hbad (fun h=>by have:=(hg.1 h).2.1 i hi1 hc; unfold cont at this; omega)]
            all_goals rfl
        · have hc:i = 3:=by have:¬ (i:Int) < 3:=of_decide_eq_false hc; omega
          subst hc
          refine And.intro (fun h1=>?_) (fun h1=>?_)
          · have h1:¬ acc s (b8 s 0 - 224) 3 < 2048:=of_decide_eq_false h1
            refine Or.inl (Exists.intro _ (And.intro (s_Scalar (acc s (b8 s 0 - 224) 3)) ?_))
            refine And.intro (fun h2=>?_) (fun h2=>?_)
            · have h2:¬ scalar (acc s (b8 s 0 - 224) 3):=by simpa using h2
              show AV.tup [.i .i32 (-1),.i .i64 1] = codeR s
              rw [codeR,hbad (fun h=>h2 (hg.1 h).2.2.2)]
              all_goals rfl
            · have h2:scalar (acc s (b8 s 0 - 224) 3):=by simpa using h2
              have hgood:good s:=hg.2 ⟨by omega,hcs,by omega,h2⟩
              have hw2:IntKind.i32.wrap (acc s (b8 s 0 - 224) 3) = acc s (b8 s 0 - 224) 3:=i32_in _ (by omega) (by unfold scalar at h2; omega)
              have hcd:=(code_many h0 (by omega) (by omega)).1 hgood
              rw [hlead] at hcd
              rw [codeR,hcd]
              show AV.tup [.i .i32 (IntKind.i32.wrap (acc s (b8 s 0 - 224) 3)),.i .i64 3] = _
              rw [hw2]
              all_goals rfl
          · have h1:acc s (b8 s 0 - 224) 3 < 2048:=of_decide_eq_true (show decide (acc s (b8 s 0 - 224) 3 < 2048) = true from h1)
            (focus (refine And.intro ?_ (fun h9=>?_); rotate_left 1; (focus (exfalso; revert h9; first | decide | (simp<;>omega) | (intro h9; simp at h9<;>omega))); refine fun _=>?_))
            show AV.tup [.i .i32 (-1),.i .i64 1] = codeR s
            rw [codeR,hbad (fun h=>by have:=(hg.1 h).2.2.1; omega)]
            all_goals rfl
  · have hlead:lead s = (4,65536,b8 s 0 - 240):=by unfold lead; rw [if_neg (by omega),if_neg (by omega)]
    have hg:good s↔(4≤s.length∧(∀ i,1≤i→i < 4→cont s i)∧65536≤acc s (b8 s 0 - 240) 4∧scalar (acc s (b8 s 0 - 240) 4)):=by unfold good; rw [hlead]
    have hbad:¬ good s→code s = (-1,1):=(code_many h0 (by omega) (by omega)).2
    refine Exists.intro [.blk [0,1,2,3,4,5]] (And.intro (by kernel_rfl) ?_)
    refine And.intro ⟨by omega,by omega⟩ ?_
    refine And.intro ⟨by omega,by omega⟩ ?_
    rw [hw]
    refine And.intro (fun h9=>absurd (of_decide_eq_true h9) (show ¬ (b8 s 0 < 128) by omega)) (fun _=>?_)
    refine And.intro ⟨by omega,by omega⟩ ?_
    refine And.intro (fun _=>?_) (fun h9=>absurd (show 192≤b8 s 0 by omega) (of_decide_eq_false h9))
    refine And.intro ⟨by omega,by omega⟩ ?_
    refine And.intro (fun h9=>absurd (of_decide_eq_true h9) (show ¬ (b8 s 0 < 224) by omega)) (fun _=>?_)
    refine And.intro ⟨by omega,by omega⟩ ?_
    refine And.intro (fun _=>?_) (fun h9=>absurd (show 224≤b8 s 0 by omega) (of_decide_eq_false h9))
    refine And.intro ⟨by omega,by omega⟩ ?_
    refine And.intro (fun h9=>absurd (of_decide_eq_true h9) (show ¬ (b8 s 0 < 240) by omega)) (fun _=>?_)
    refine And.intro ⟨by omega,by omega⟩ ?_
    refine And.intro (fun _=>?_) (fun h9=>absurd (show 240≤b8 s 0 by omega) (of_decide_eq_false h9))
    refine And.intro ⟨by omega,by omega⟩ ?_
    refine And.intro (fun _=>?_) (fun h9=>absurd (show b8 s 0 < 248 by omega) (of_decide_eq_false h9))
    refine And.intro ⟨by omega,by omega⟩ ?_
    intro _
    refine And.intro (fun hs=>?_) (fun hs=>?_)
    · have hs:(s.length:Int) < 4:=of_decide_eq_true hs
      show AV.tup [.i .i32 (-1),.i .i64 1] = codeR s
      rw [codeR,hbad (fun h=>by have:=(hg.1 h).1; omega)]
      all_goals rfl
    · have hs:¬ (s.length:Int) < 4:=of_decide_eq_false hs
      refine Exists.intro [] (Exists.intro [] (Exists.intro [] (Exists.intro Nat (Exists.intro (fun i=>1≤i∧i≤4∧∀ j,1≤j→j < i→cont s j) (Exists.intro (fun i=>⟨[(0,.s s),(4,.i .i64 4),(5,.i .i64 65536),(6,.i .i64 (acc s (b8 s 0 - 240) i)),(7,.i .i64 i)],[]⟩) (Exists.intro (fun i=>4 - i) (Exists.intro 1 (And.intro ⟨Nat.le_refl _,by decide,fun j h1 h2=>by omega⟩ (And.intro ?_ ?_)))))))))
      · (repeat' (first | exact trivial | exact Or.inl rfl | exact Or.inr (Or.inl ⟨rfl,_,rfl⟩) | exact Or.inr (Or.inr (Or.inr ⟨_,_,_,rfl,rfl⟩)) | refine And.intro ?_ ?_))
      · rintro i ⟨hi1,hin,hcs⟩
        have hab:=acc_bnd (s:=s) (r:=(b8 s 0 - 240)) (by omega) (by omega) i (by omega) hcs
        have hbi:=b8_rng s i
        refine And.intro (fun hc=>?_) (fun hc=>?_)
        · have hc:i < 4:=by have:(i:Int) < 4:=of_decide_eq_true hc; omega
          refine And.intro ⟨by omega,by omega⟩ ?_
          refine And.intro (fun h1=>?_) (fun h1=>?_)
          · have h1:¬ b8 s i < 128:=of_decide_eq_false h1
            refine And.intro ⟨by omega,by omega⟩ ?_
            refine And.intro (fun h2=>?_) (fun h2=>?_)
            · have h2:192≤b8 s i:=of_decide_eq_true h2
              show AV.tup [.i .i32 (-1),.i .i64 1] = codeR s
              rw [codeR,hbad (fun h=>by have:=(hg.1 h).2.1 i hi1 hc; unfold cont at this; omega)]
              all_goals rfl
            · have h2:¬ 192≤b8 s i:=of_decide_eq_false h2
              have hwi:IntKind.i64.wrap (((s.getD (Int.toNat (i:Int)) 0).toNat:Nat):Int) = b8 s i:=IntWalk.i64_in _ ⟨by show _≤b8 s i; omega,by show b8 s i≤_; omega⟩
              have hacc:acc s (b8 s 0 - 240) (i + 1) = acc s (b8 s 0 - 240) i * 64 + b8 s i - 128:=by
                obtain ⟨k,rfl⟩:∃ k,i = k + 1:=⟨i - 1,by omega⟩
                rfl
              refine And.intro ⟨by omega,by omega⟩ ?_
              refine And.intro ⟨by omega,by omega⟩ ?_
              refine And.intro ⟨by rw [hwi]; omega,by rw [hwi]; omega⟩ ?_
              rw [hwi]
              refine And.intro ⟨by omega,by omega⟩ ?_
              refine And.intro ⟨by omega,by omega⟩ ?_
              have hcs':∀ j,1≤j→j < i + 1→cont s j:=fun j h3 h4=>by
                rcases Nat.lt_or_ge j i with h | h
                · exact hcs j h3 h
                · have:j = i:=by omega
                  subst this
                  exact ⟨by omega,by omega⟩
              refine Exists.intro [] (Exists.intro (i + 1) (And.intro ⟨by omega,by omega,hcs'⟩ (And.intro ?_ ?_)))
              · (repeat' (first | exact trivial | exact Or.inl rfl | exact Or.inl (congrArg (AV.i .i64) hacc.symm) | refine And.intro ?_ ?_))
              · show 4 - (i + 1) < 4 - i
                omega
          · have h1:b8 s i < 128:=of_decide_eq_true (show decide (b8 s i < 128) = true from h1)
            (focus (refine And.intro ?_ (fun h9=>?_); rotate_left 1; (focus (exfalso; revert h9; first | decide | (simp<;>omega) | (intro h9; simp at h9<;>omega))); refine fun _=>?_))
            show AV.tup [.i .i32 (-1),.i .i64 1] = codeR s
            rw [codeR,hbad (fun h=>by have:=(hg.1 h).2.1 i hi1 hc; unfold cont at this; omega)]
            all_goals rfl
        · have hc:i = 4:=by have:¬ (i:Int) < 4:=of_decide_eq_false hc; omega
          subst hc
          refine And.intro (fun h1=>?_) (fun h1=>?_)
          · have h1:¬ acc s (b8 s 0 - 240) 4 < 65536:=of_decide_eq_false h1
            refine Or.inl (Exists.intro _ (And.intro (s_Scalar (acc s (b8 s 0 - 240) 4)) ?_))
            refine And.intro (fun h2=>?_) (fun h2=>?_)
            · have h2:¬ scalar (acc s (b8 s 0 - 240) 4):=by simpa using h2
              show AV.tup [.i .i32 (-1),.i .i64 1] = codeR s
              rw [codeR,hbad (fun h=>h2 (hg.1 h).2.2.2)]
              all_goals rfl
            · have h2:scalar (acc s (b8 s 0 - 240) 4):=by simpa using h2
              have hgood:good s:=hg.2 ⟨by omega,hcs,by omega,h2⟩
              have hw2:IntKind.i32.wrap (acc s (b8 s 0 - 240) 4) = acc s (b8 s 0 - 240) 4:=i32_in _ (by omega) (by unfold scalar at h2; omega)
              have hcd:=(code_many h0 (by omega) (by omega)).1 hgood
              rw [hlead] at hcd
              rw [codeR,hcd]
              show AV.tup [.i .i32 (IntKind.i32.wrap (acc s (b8 s 0 - 240) 4)),.i .i64 4] = _
              rw [hw2]
              all_goals rfl
          · have h1:acc s (b8 s 0 - 240) 4 < 65536:=of_decide_eq_true (show decide (acc s (b8 s 0 - 240) 4 < 65536) = true from h1)
            (focus (refine And.intro ?_ (fun h9=>?_); rotate_left 1; (focus (exfalso; revert h9; first | decide | (simp<;>omega) | (intro h9; simp at h9<;>omega))); refine fun _=>?_))
            show AV.tup [.i .i32 (-1),.i .i64 1] = codeR s
            rw [codeR,hbad (fun h=>by have:=(hg.1 h).2.2.1; omega)]
            all_goals rfl
  · have hbad:code s = (-1,1):=code_bad h0 (by omega)
    refine Exists.intro [.blk [0,1,2,3,4,5]] (And.intro (by kernel_rfl) ?_)
    refine And.intro ⟨by omega,by omega⟩ ?_
    refine And.intro ⟨by omega,by omega⟩ ?_
    rw [hw]
    refine And.intro (fun h9=>absurd (of_decide_eq_true h9) (show ¬ (b8 s 0 < 128) by omega)) (fun _=>?_)
    refine And.intro ⟨by omega,by omega⟩ ?_
    refine And.intro (fun _=>?_) (fun h9=>absurd (show 192≤b8 s 0 by omega) (of_decide_eq_false h9))
    refine And.intro ⟨by omega,by omega⟩ ?_
    refine And.intro (fun h9=>absurd (of_decide_eq_true h9) (show ¬ (b8 s 0 < 224) by omega)) (fun _=>?_)
    refine And.intro ⟨by omega,by omega⟩ ?_
    refine And.intro (fun _=>?_) (fun h9=>absurd (show 224≤b8 s 0 by omega) (of_decide_eq_false h9))
    refine And.intro ⟨by omega,by omega⟩ ?_
    refine And.intro (fun h9=>absurd (of_decide_eq_true h9) (show ¬ (b8 s 0 < 240) by omega)) (fun _=>?_)
    refine And.intro ⟨by omega,by omega⟩ ?_
    refine And.intro (fun _=>?_) (fun h9=>absurd (show 240≤b8 s 0 by omega) (of_decide_eq_false h9))
    refine And.intro ⟨by omega,by omega⟩ ?_
    refine And.intro (fun h9=>absurd (of_decide_eq_true h9) (show ¬ (b8 s 0 < 248) by omega)) (fun _=>?_)
    rw [codeR,hbad]
    rfl
theorem s_Code (s:Str):PSpec Tryd.prog 58 [.s s] (codeR s) :=
  pspec_of_vc Γ_good Tryd.func58 rfl Tryd.call58 Tryd.results58 Tryd.ntmps58 (Nat.le_of_ble_eq_true rfl) (w_Code s)
end
end Go.Proofs.YtmfchbkdakmjhaaDoor
end
section
namespace Go.Proofs.YtmfchbkdakmjhaaDoor
set_option linter.unusedSectionVars false
set_option linter.unusedSimpArgs false
set_option linter.unusedVariables false
open Go Go.SX Go.Ut Go.RowKit
set_option maxRecDepth 100000
set_option maxHeartbeats 0
section
variable [G:Globs]
theorem w_one (n:Int):vc Tryd.prog Γ 7 [0,2] (Tryd.f97.body.getD .skip) (postK Γ [.tmp 2] (fun v=>v = .s [eb n])) ⟨argSlots 0 [.i .i64 n],[]⟩:=by
  show _ = _
  rfl
theorem s_one (n:Int):PSpec Tryd.prog 97 [.i .i64 n] (.s [eb n]) :=
  pspec_of_vc Γ_good Tryd.func97 rfl Tryd.call97 Tryd.results97 Tryd.ntmps97 (Nat.le_of_ble_eq_true rfl) (w_one n)
theorem w_CodeOf (n:Int) (h:scalar n):vc Tryd.prog Γ 70 [0,2,3,4,10,24] (Tryd.f60.body.getD .skip) (postK Γ [.tmp 2] (fun v=>v = .s (encS n))) ⟨argSlots 0 [.i .i64 n],[]⟩:=by
  unfold scalar at h
  have d1:n.tdiv 64 = n / 64:=Int.tdiv_eq_ediv_of_nonneg h.1
  have d2:n.tdiv 4096 = n / 4096:=Int.tdiv_eq_ediv_of_nonneg h.1
  have d3:n.tdiv 262144 = n / 262144:=Int.tdiv_eq_ediv_of_nonneg h.1
  have m1:n.tmod 64 = n % 64:=Int.tmod_eq_emod_of_nonneg h.1
  have m2:(n / 64).tmod 64 = (n / 64) % 64:=Int.tmod_eq_emod_of_nonneg (by omega)
  have m3:(n / 4096).tmod 64 = (n / 4096) % 64:=Int.tmod_eq_emod_of_nonneg (by omega)
  refine And.intro (fun h1=>?_) (fun h1=>?_)
  · have h1:n < 128:=of_decide_eq_true h1
    have e:encS n = [eb n]:=by unfold encS; rw [if_pos h1]
    refine Or.inl (Exists.intro _ (And.intro (s_one n) ?_))
    rw [e]
    rfl
  · have h1:¬ n < 128:=of_decide_eq_false h1
    refine And.intro (fun h2=>?_) (fun h2=>?_)
    · have h2:n < 2048:=of_decide_eq_true h2
      have e:encS n = [eb (192 + n.tdiv 64)]++[eb (128 + n.tmod 64)]:=by unfold encS; rw [if_neg h1,if_pos h2]
      refine And.intro (by decide) ?_
      refine And.intro ⟨by rw [d1]; omega,by rw [d1]; omega⟩ ?_
      refine And.intro ⟨by rw [d1]; omega,by rw [d1]; omega⟩ ?_
      refine Or.inl (Exists.intro _ (And.intro (s_one (192 + n.tdiv 64)) ?_))
      refine And.intro (by decide) ?_
      refine And.intro ⟨by rw [m1]; omega,by rw [m1]; omega⟩ ?_
      refine Or.inl (Exists.intro _ (And.intro (s_one (128 + n.tmod 64)) ?_))
      refine And.intro (by show 1 + 1≤maxLen; unfold maxLen; omega) ?_
      rw [e]
      rfl
    · have h2:¬ n < 2048:=of_decide_eq_false h2
      refine And.intro (fun h3=>?_) (fun h3=>?_)
      · have h3:n < 65536:=of_decide_eq_true h3
        have e:encS n = ([eb (224 + n.tdiv 4096)]++[eb (128 + (n.tdiv 64).tmod 64)])++[eb (128 + n.tmod 64)]:=by unfold encS; rw [if_neg h1,if_neg h2,if_pos h3]
        refine And.intro (by decide) ?_
        refine And.intro ⟨by rw [d2]; omega,by rw [d2]; omega⟩ ?_
        refine And.intro ⟨by rw [d2]; omega,by rw [d2]; omega⟩ ?_
        refine Or.inl (Exists.intro _ (And.intro (s_one (224 + n.tdiv 4096)) ?_))
        refine And.intro (by decide) ?_
        refine And.intro ⟨by rw [d1]; omega,by rw [d1]; omega⟩ ?_
        refine And.intro (by decide) ?_
        refine And.intro ⟨by rw [d1,m2]; omega,by rw [d1,m2]; omega⟩ ?_
        refine Or.inl (Exists.intro _ (And.intro (s_one (128 + (n.tdiv 64).tmod 64)) ?_))
        refine And.intro (by show 1 + 1≤maxLen; unfold maxLen; omega) ?_
        refine And.intro (by decide) ?_
        refine And.intro ⟨by rw [m1]; omega,by rw [m1]; omega⟩ ?_
        refine Or.inl (Exists.intro _ (And.intro (s_one (128 + n.tmod 64)) ?_))
        refine And.intro (by show 2 + 1≤maxLen; unfold maxLen; omega) ?_
        rw [e]
        rfl
      · have h3:¬ n < 65536:=of_decide_eq_false h3
        have e:encS n = (([eb (240 + n.tdiv 262144)]++[eb (128 + (n.tdiv 4096).tmod 64)])++[eb (128 + (n.tdiv 64).tmod 64)])++[eb (128 + n.tmod 64)]:=by unfold encS; rw [if_neg h1,if_neg h2,if_neg h3]
        refine And.intro (by decide) ?_
        refine And.intro ⟨by rw [d3]; omega,by rw [d3]; omega⟩ ?_
        refine And.intro ⟨by rw [d3]; omega,by rw [d3]; omega⟩ ?_
        refine Or.inl (Exists.intro _ (And.intro (s_one (240 + n.tdiv 262144)) ?_))
        refine And.intro (by decide) ?_
        refine And.intro ⟨by rw [d2]; omega,by rw [d2]; omega⟩ ?_
        refine And.intro (by decide) ?_
        refine And.intro ⟨by rw [d2,m3]; omega,by rw [d2,m3]; omega⟩ ?_
        refine Or.inl (Exists.intro _ (And.intro (s_one (128 + (n.tdiv 4096).tmod 64)) ?_))
        refine And.intro (by show 1 + 1≤maxLen; unfold maxLen; omega) ?_
        refine And.intro (by decide) ?_
        refine And.intro ⟨by rw [d1]; omega,by rw [d1]; omega⟩ ?_
        refine And.intro (by decide) ?_
        refine And.intro ⟨by rw [d1,m2]; omega,by rw [d1,m2]; omega⟩ ?_
        refine Or.inl (Exists.intro _ (And.intro (s_one (128 + (n.tdiv 64).tmod 64)) ?_))
        refine And.intro (by show 2 + 1≤maxLen; unfold maxLen; omega) ?_
        refine And.intro (by decide) ?_
        refine And.intro ⟨by rw [m1]; omega,by rw [m1]; omega⟩ ?_
        refine Or.inl (Exists.intro _ (And.intro (s_one (128 + n.tmod 64)) ?_))
        refine And.intro (by show 3 + 1≤maxLen; unfold maxLen; omega) ?_
        rw [e]
        rfl
theorem s_CodeOf (n:Int) (h:scalar n):PSpec Tryd.prog 60 [.i .i64 n] (.s (encS n)) :=
  pspec_of_vc Γ_good Tryd.func60 rfl Tryd.call60 Tryd.results60 Tryd.ntmps60 (Nat.le_of_ble_eq_true rfl) (w_CodeOf n h)
theorem w_BadPlace (s:Str):vc Tryd.prog Γ 23 [0,2,3,4,5,9,18] (Tryd.f21.body.getD .skip) (postK Γ [.tmp 2] (fun v=>v = .i .i64 (bad s))) ⟨argSlots 0 [.s s],[]⟩:=by
  refine Exists.intro [] (Exists.intro [] (Exists.intro [] (Exists.intro Nat (Exists.intro (fun i=>i≤s.length∧badFrom s i = bad s) (Exists.intro (fun i=>⟨[(0,.s s),(3,.i .i64 i)],[]⟩) (Exists.intro (fun i=>s.length - i) (Exists.intro 0 (And.intro ⟨Nat.zero_le _,rfl⟩ (And.intro ?_ ?_)))))))))
  · (repeat' (first | exact trivial | exact Or.inl rfl | exact Or.inr (Or.inl ⟨rfl,_,rfl⟩) | exact Or.inr (Or.inr (Or.inr ⟨_,_,_,rfl,rfl⟩)) | refine And.intro ?_ ?_))
  · rintro i ⟨hi,heq⟩
    intro hml
    unfold maxLen at hml
    refine And.intro (fun hc=>?_) (fun hc=>?_)
    · have hk:i < s.length:=by have:(i:Int) < s.length:=of_decide_eq_true hc; omega
      rw [bad_step hk] at heq
      have hp:=dec_pos s i
      have hle:=dec_le hk
      have ht:(s.take (Int.toNat (s.length:Int))).drop (Int.toNat i) = s.drop i:=by simp only [Int.toNat_natCast,List.take_length]
      have qc:=s_Code (s.drop i)
      unfold codeR at qc
      rw [code_at hk] at qc
      refine And.intro ⟨by omega,by omega,Int.le_refl _⟩ ?_
      rw [ht]
      by_cases hb:(decAt s i).1 = 65533∧(decAt s i).2 = 1
      · rw [if_pos hb] at qc heq
        refine Or.inl (Exists.intro _ (And.intro (qc) ?_))
        (focus (refine And.intro ?_ (fun h9=>?_); rotate_left 1; (focus (exfalso; revert h9; first | decide | (simp<;>omega) | (intro h9; simp at h9<;>omega))); refine fun _=>?_))
        exact congrArg (AV.i .i64) heq
      · rw [if_neg hb] at qc heq
        refine Or.inl (Exists.intro _ (And.intro (qc) ?_))
        refine And.intro (fun h9=>absurd (of_decide_eq_true h9) (by simp only; omega)) (fun _=>?_)
        refine And.intro ⟨by simp only; omega,by simp only; omega⟩ ?_
        refine Exists.intro [] (Exists.intro (i + (decAt s i).2) (And.intro ⟨hle,heq⟩ (And.intro ?_ ?_)))
        · (repeat' (first | exact trivial | exact Or.inl rfl | exact Or.inr (Or.inl ⟨rfl,_,rfl⟩) | exact Or.inr (Or.inr (Or.inr ⟨_,_,_,rfl,rfl⟩)) | refine And.intro ?_ ?_))
        · show s.length - (i + (decAt s i).2) < s.length - i
          omega
    · have hk:s.length≤i:=by have:¬ (i:Int) < s.length:=of_decide_eq_false hc; omega
      rw [bad_end hk] at heq
      exact congrArg (AV.i .i64) heq
theorem s_BadPlace (s:Str):PSpec Tryd.prog 21 [.s s] (.i .i64 (bad s)) :=
  pspec_of_vc Γ_good Tryd.func21 rfl Tryd.call21 Tryd.results21 Tryd.ntmps21 (Nat.le_of_ble_eq_true rfl) (w_BadPlace s)
theorem w_Bad (hu:HasU8) (s:Str):vc Tryd.prog Γ 25 [0,2,3,4,6,8,9,10,14,23] (Tryd.f49.body.getD .skip) (postK Γ [.tmp 2] (fun v=>v = .i .i64 (bad s))) ⟨argSlots 0 [.s s],[]⟩:=by
  refine Exists.intro [] (Exists.intro [] (Exists.intro [] (Exists.intro Nat (Exists.intro (fun i=>i≤s.length∧badFrom s i = bad s) (Exists.intro (fun i=>⟨[(0,.s s),(8,.ob 8 8 (.it s i))],[]⟩) (Exists.intro (fun i=>s.length - i) (Exists.intro 0 (And.intro ⟨Nat.zero_le _,rfl⟩ (And.intro ?_ ?_)))))))))
  · (repeat' (first | exact trivial | exact Or.inl rfl | exact Or.inr (Or.inl ⟨rfl,_,rfl⟩) | exact Or.inr (Or.inr (Or.inr ⟨_,_,_,rfl,rfl⟩)) | refine And.intro ?_ ?_))
  · rintro i ⟨hi,heq⟩
    refine And.intro (fun hk=>?_) (fun hk=>?_)
    · rw [bad_step hk] at heq
      have hp:=dec_pos s i
      have hle:=dec_le hk
      have ht:(s.take (Int.toNat (s.length:Int))).drop (Int.toNat i) = s.drop i:=by simp only [Int.toNat_natCast,List.take_length]
      have qc:=s_Next hu (s.drop i)
      unfold codeR at qc
      rw [code_at hk] at qc
      (focus (refine And.intro ?_ (fun h9=>?_); rotate_left 1; (focus (exfalso; revert h9; first | decide | (simp<;>omega) | (intro h9; simp at h9<;>omega))); refine fun _=>?_))
      refine And.intro (fun h1=>?_) (fun h1=>?_)
      · have h1:(decAt s i).1 = 65533:=by have:=eq_of_beq h1; omega
        refine And.intro ⟨by omega,by omega,Int.le_refl _⟩ ?_
        rw [ht]
        by_cases hb:(decAt s i).1 = 65533∧(decAt s i).2 = 1
        · rw [if_pos hb] at qc heq
          refine Or.inl (Exists.intro _ (And.intro (qc) ?_))
          (focus (refine And.intro ?_ (fun h9=>?_); rotate_left 1; (focus (exfalso; revert h9; first | decide | (simp<;>omega) | (intro h9; simp at h9<;>omega))); refine fun _=>?_))
          exact congrArg (AV.i .i64) heq
        · rw [if_neg hb] at qc heq
          refine Or.inl (Exists.intro _ (And.intro (qc) ?_))
          have h2:(decAt s i).2≠1:=fun e=>hb ⟨h1,e⟩
          refine And.intro (fun h9=>absurd (eq_of_beq h9) (by simp only; omega)) (fun _=>?_)
          refine Exists.intro [] (Exists.intro (i + (decAt s i).2) (And.intro ⟨hle,heq⟩ (And.intro ?_ ?_)))
          · (repeat' (first | exact trivial | exact Or.inl rfl | exact Or.inr (Or.inl ⟨rfl,_,rfl⟩) | exact Or.inr (Or.inr (Or.inr ⟨_,_,_,rfl,rfl⟩)) | refine And.intro ?_ ?_))
          · show s.length - (i + (decAt s i).2) < s.length - i
            omega
      · have h1:(decAt s i).1≠65533:=by have:=ne_of_beq_false h1; omega
        rw [if_neg (fun h=>h1 h.1)] at heq
        refine Exists.intro [] (Exists.intro (i + (decAt s i).2) (And.intro ⟨hle,heq⟩ (And.intro ?_ ?_)))
        · (repeat' (first | exact trivial | exact Or.inl rfl | exact Or.inr (Or.inl ⟨rfl,_,rfl⟩) | exact Or.inr (Or.inr (Or.inr ⟨_,_,_,rfl,rfl⟩)) | refine And.intro ?_ ?_))
        · show s.length - (i + (decAt s i).2) < s.length - i
          omega
    · rw [bad_end (by omega)] at heq
      (focus (refine And.intro (fun h9=>?_) ?_; (focus (exfalso; revert h9; first | decide | (simp<;>omega) | (intro h9; simp at h9<;>omega))); refine fun _=>?_))
      exact congrArg (AV.i .i64) heq
theorem s_Bad (hu:HasU8) (s:Str):PSpec Tryd.prog 49 [.s s] (.i .i64 (bad s)) :=
  pspec_of_vc Γ_good Tryd.func49 rfl Tryd.call49 Tryd.results49 Tryd.ntmps49 (Nat.le_of_ble_eq_true rfl) (w_Bad hu s)
theorem bad_range {s:Str} {i:Nat} (h:badFrom s i < 0) (hk:i < s.length):¬ ((decAt s i).1 = 65533∧(decAt s i).2 = 1)∧badFrom s (i + (decAt s i).2) < 0:=by
  rw [bad_step hk] at h
  by_cases hb:(decAt s i).1 = 65533∧(decAt s i).2 = 1
  · rw [if_pos hb] at h; omega
  · rw [if_neg hb] at h; exact ⟨hb,h⟩
theorem w_Scalars (s:Str) (hs:s.length≤1048576) (hb:bad s < 0):vc Tryd.prog Γ 22 [0,2,3,4,5,8] (Tryd.f59.body.getD .skip) (postK Γ [.tmp 2] (fun v=>v = .rd .rune (runes s))) ⟨argSlots 0 [.s s],[]⟩:=by
  refine Exists.intro [(3,30,.rune)] (Exists.intro [] (Exists.intro [] (Exists.intro (List Int × Nat) (Exists.intro (fun x=>x.2≤s.length∧x.1.length≤x.2∧badFrom s x.2 < 0∧x.1++runesFrom s x.2 = runes s) (Exists.intro (fun ⟨out,i⟩=>⟨[(0,.s (s.drop i)),(3,.vec 30 .rune out)],[]⟩) (Exists.intro (fun x=>s.length - x.2) (Exists.intro ([],0) (And.intro ⟨Nat.zero_le _,Nat.le_refl _,hb,rfl⟩ (And.intro ?_ ?_)))))))))
  · (repeat' (first | exact trivial | exact Or.inl rfl | exact Or.inr (Or.inl ⟨rfl,_,rfl⟩) | exact Or.inr (Or.inr (Or.inr ⟨_,_,_,rfl,rfl⟩)) | refine And.intro ?_ ?_))
  · rintro ⟨out,i⟩ ⟨hi,hol,hbi,heq⟩
    simp only at hi hol hbi heq
    have hdl:(s.drop i).length = s.length - i:=List.length_drop ..
    intro _
    refine And.intro (fun hc=>?_) (fun hc=>?_)
    · have hk:i < s.length:=by have:(0:Int) < (s.drop i).length:=of_decide_eq_true hc; omega
      obtain ⟨hnb,hbn⟩:=bad_range hbi hk
      have hp:=dec_pos s i
      have hle:=dec_le hk
      have qc:=s_Code (s.drop i)
      unfold codeR at qc
      rw [code_at hk,if_neg hnb] at qc
      rw [runes_step hk,← List.singleton_append,← List.append_assoc] at heq
      refine Or.inl (Exists.intro _ (And.intro (qc) ?_))
      refine And.intro (by show (out.length + 1) * 4≤_; omega) ?_
      refine And.intro ⟨by simp only; omega,by simp only; omega,Int.le_refl _⟩ ?_
      have ht:((s.drop i).take (Int.toNat ((s.drop i).length:Int))).drop (Int.toNat ((decAt s i).2:Int)) = s.drop (i + (decAt s i).2):=by simp only [Int.toNat_natCast,List.take_length,List.drop_drop]
      rw [ht]
      refine Exists.intro [(17,30)] (Exists.intro (out++[((decAt s i).1:Int)],i + (decAt s i).2) (And.intro ⟨hle,by show (out++[_]).length≤_; rw [List.length_append,List.length_singleton]; show out.length + 1≤i + (decAt s i).2; omega,hbn,heq⟩ (And.intro ?_ ?_)))
      · (repeat' (first | exact trivial | exact Or.inl rfl | exact Or.inr (Or.inl ⟨rfl,_,rfl⟩) | exact Or.inr (Or.inr (Or.inr ⟨_,_,_,rfl,rfl⟩)) | refine And.intro ?_ ?_))
      · show s.length - (i + (decAt s i).2) < s.length - i
        omega
    · have hk:s.length≤i:=by have:¬ (0:Int) < (s.drop i).length:=of_decide_eq_false hc; omega
      rw [runes_end hk,List.append_nil] at heq
      rw [← heq]
      show _ = _
      rfl
theorem s_Scalars (s:Str) (hs:s.length≤1048576) (hb:bad s < 0):PSpec Tryd.prog 59 [.s s] (.rd .rune (runes s)) :=
  pspec_of_vc Γ_good Tryd.func59 rfl Tryd.call59 Tryd.results59 Tryd.ntmps59 (Nat.le_of_ble_eq_true rfl) (w_Scalars s hs hb)
end
end Go.Proofs.YtmfchbkdakmjhaaDoor
end
section
namespace Go.SX
section
variable {P:Program} {β:Nat→Option Nat} {w:World} {id2:Nat} {e:TypeId} {l:Str} {u:Value}

theorem bcells_strCells (s:Str):Lib.strCells ⟨s.toArray⟩ = bcells s:=by simp [Lib.strCells,bcells]
theorem bcells_length (s:Str):(bcells s).length = s.length:=by simp [bcells]
theorem bcells_append (s t:Str):bcells (s++t) = bcells s++bcells t:=by simp [bcells]
theorem bcells_one (s:Str):∀ v ∈ bcells s,v.oneCell' = true:=by
  intro v hv
  simp only [bcells,List.mem_map] at hv
  obtain ⟨b,_,rfl⟩:=hv
  rfl
structure BufNext (β:Nat→Option Nat) (w w':World) (id2:Nat) (e:TypeId) (l:Str) (v:Value) (b2:Option Nat):Prop where
  stp:Stp (fun k=>β id2 = some k) w w'
  blk:∀ g,b2 = some g→g < w'.heap.size∧(β id2 = some g∨w.heap.size≤g)
  buf:∀ (β':Nat→Option Nat) (w'':World),β' id2 = b2→(∀ g,b2 = some g→w''.heap[g]? = w'.heap[g]?)→BufAt β' w'' id2 e l v
  sl:∃ a n c,v = .slice a n c
theorem BufAt.same (h:BufAt β w id2 e l u):BufNext β w w id2 e l u (β id2):=by
  refine ⟨Stp.refl _ _,fun g hg=>⟨?_,.inl hg⟩,fun β' w'' hβ hk=>?_,?_⟩
  · rcases h with ⟨_,_,h3⟩ | ⟨g',c,cur,fz,h1,h2,h3,_⟩
    · rw [h3] at hg; cases hg
    · rw [h1] at hg; injection hg with hg; subst hg; exact (Array.getElem?_eq_some_iff.1 h3).1
  · rcases h with ⟨h1,h2,h3⟩ | ⟨g',c,cur,fz,h1,h2,h3,h4⟩
    · exact .inl ⟨h1,h2,hβ.trans h3⟩
    · exact .inr ⟨g',c,cur,fz,hβ.trans h1,h2,(hk g' h1).trans h3,h4⟩
  · rcases h with ⟨_,h2,_⟩ | ⟨g',c,cur,fz,h1,h2,_⟩
    · exact ⟨_,_,_,h2⟩
    · exact ⟨_,_,_,h2⟩
theorem buf_new {w' : World} {b : Str} {cur : Array Value} {c : Nat} (hb : b ≠ []) (hst : Stp (fun _ => False) w w') (hh : w'.heap[w.heap.size]? = some (.cells cur e (0, 0))) (hc : b.length ≤ c) (hm : c ≤ maxLen) (hsz : cur.size = c) (ht : cur.toList.take b.length = bcells b) :
    BufNext β w w' id2 e b (.slice (some ⟨w.heap.size,0,none⟩) b.length c) (some w.heap.size):=by
  refine ⟨hst.mono fun _ _ h=>h.elim,fun g hg=>?_,fun β' w'' hβ hk=>.inr ⟨w.heap.size,c,cur,(0,0),hβ,rfl,(hk _ rfl).trans hh,Nat.zero_le _,hc,hm,hsz,ht,hb⟩,_,_,_,rfl⟩
  injection hg with hg
  subst hg
  exact ⟨(Array.getElem?_eq_some_iff.1 hh).1,.inr (Nat.le_refl _)⟩
theorem buf_app (h : BufAt β w id2 e l u) (s : Str) {t x ty : TypeId} {i : TypeInfo} (ht : P.underlying t = some (.slice e)) (hx : P.underlying x = some .string) (hi : P.info? e = some i) (hz : i.zero = some (.int .u8 0)) (hsize : i.size = 1) (hby : i.bytes = 1)
    (hlen:l.length + s.length≤140737488355328) :
    ∃ v' w' b2,(Builtin.append_ #[t,x] ty #[u,.string ⟨s.toArray⟩]).run P w = .ok v' w'∧BufNext β w w' id2 e (l++s) v' b2:=by
  have hss:(⟨s.toArray⟩:ByteArray).size = s.length:=by simp [ByteArray.size]
  have hml:(140737488355328:Nat)≤maxLen:=by unfold maxLen; omega
  rcases h with ⟨rfl,rfl,h3⟩ | ⟨g,c,cur,fz,h1,rfl,h2,h3,h4,h5,h6,h7,h8⟩
  · simp only [List.length_nil,Nat.zero_add] at hlen
    obtain ⟨v',w',hr,hown,hg,hnil⟩:=Lib.run_append_own_stringF (P:=P) w w.heap.size t x ty e i ht hx hi hz hsize hby (.slice none 0 0) 0 [] (World.ownsRowF_nil _ _ _ _) ⟨s.toArray⟩ (by rw [hss]; omega) (by rw [hss]; omega) (Nat.le_refl _)
    have hst:Stp (fun _=>False) w w':=⟨hg.os,hg.tape,hg.output,hg.size,fun k hk _=>hg.block k hk (by simp [Value.ownBlock])⟩
    rw [hss,bcells_strCells] at hown
    rw [hss] at hnil
    simp only [List.nil_append,Nat.zero_add] at hown
    by_cases hs:s = []
    · subst hs
      have hv:v' = .slice none 0 0:=hnil.2 ⟨rfl,rfl⟩
      subst hv
      refine ⟨_,w',none,hr,hst.mono fun _ _ h=>h.elim,fun g hg=>(nomatch hg),fun β' w'' hβ _=>.inl ⟨rfl,rfl,hβ⟩,_,_,_,rfl⟩
    · rcases hown.2 with ⟨hv,hn⟩ | ⟨g,cap,cur,fz,rfl,hB,k2,k3,k4,k5,k6,k7⟩
      · exact absurd (List.eq_nil_of_length_eq_zero hn) hs
      · refine ⟨_,w',some g,hr,hst.mono fun _ _ h=>h.elim,fun g' hg'=>?_,fun β' w'' hβ hk=>.inr ⟨g,cap,cur,fz,hβ,rfl,(hk g rfl).trans k2,by simpa using k3,k4,k5,by simpa using k6,by simpa using k7,hs⟩,_,_,_,rfl⟩
        injection hg' with hg'
        subst hg'
        exact ⟨(Array.getElem?_eq_some_iff.1 k2).1,.inr hB⟩
  · by_cases hroom:l.length + s.length≤c
    · have hr:=Lib.run_append_room_stringF (P:=P) w t x ty e i ht hx hi hsize g l.length c cur fz h2 h3 ⟨s.toArray⟩ (by rw [hss]; exact hroom) (by rw [hss,h6]; exact hroom)
      rw [hss,bcells_strCells] at hr
      refine ⟨_,_,some g,hr,⟨rfl,rfl,rfl,by simp,fun k _ hk=>setRow_other w g k _ fun e=>hk (by rw [e]; exact h1)⟩,fun g' hg'=>?_,fun β' w'' hβ hk=>.inr ⟨g,c,_,fz,hβ,?_,(hk g rfl).trans (setRow_heap w g cur _ e _ h2),?_,?_,h5,?_,?_,?_⟩,_,_,_,rfl⟩
      · injection hg' with hg'
        subst hg'
        exact ⟨by simpa using (Array.getElem?_eq_some_iff.1 h2).1,.inl h1⟩
      · rw [List.length_append]
      · rw [List.length_append]; omega
      · rw [List.length_append]; omega
      · simp only [List.size_toArray,List.length_append,List.length_take,List.length_drop,Array.length_toList,bcells_length,h6]
        omega
      · rw [h7,List.length_append,bcells_append]
        have:(bcells l++bcells s).length = l.length + s.length:=by simp [bcells_length]
        rw [← this]
        exact List.take_left
      · simp [h8]
    · have hold : ∀ (j : Nat) v, (bcells l)[j]? = some v → w.cell? ((⟨g, 0, none⟩ : Addr).add j) = some v := by
        intro j v hv
        have hadd:(⟨g,0,none⟩:Addr).add j = ⟨g,j,none⟩:=by unfold Addr.add; split<;>simp_all
        rw [hadd,cell_of_row w g j cur e fz h2]
        rw [← h7,List.getElem?_take] at hv
        split at hv
        · simpa using hv
        · cases hv
      have hr:=Lib.run_append_grow_string (P:=P) w t x ty e i (.int .u8 0) ht hx hi hz ⟨g,0,none⟩ l.length c (bcells l) (by rw [hsize,bcells_length,Nat.mul_one]) hold ⟨s.toArray⟩ (by rw [hss]; omega) (by rw [hss]; omega)
        (by rw [hby]; exact growslice_fits (by rw [hss]; omega) (by rw [hss]; omega))
      rw [hss,bcells_strCells] at hr
      have hge:=grownCap_ge w (l.length + s.length) c e
      have hcm:=grownCap_le_maxLen w (l.length + s.length) c e (by omega)
      refine ⟨_,_,some w.heap.size,hr,?_⟩
      rw [show l.length + s.length = (l++s).length by rw [List.length_append]] at *
      refine buf_new (by simp [h8]) ⟨rfl,rfl,rfl,by simp,fun k hk _=>Lib.alloc_old w.drew _ k hk⟩ (heap_alloc_new w.drew _) hge hcm ?_ ?_
      · have hz1:(Value.int IntKind.u8 0).cells.size = 1:=rfl
        simp only [Array.size_append,List.size_toArray,size_zeroCells,hz1,bcells_length,List.length_append] at hge ⊢
        omega
      · simp only [Array.toList_append,List.append_assoc]
        rw [bcells_append,show (l++s).length = (bcells l++bcells s).length by simp [bcells_length],← List.append_assoc]
        exact List.take_left
theorem wpList_buf {ops : Array Oper} {rest : List Oper} {o : Oper} {a : Act} {Q : Exit → Act → World → Prop} (hgd : o.guard = none) (sl x : Operand) (t xt : TypeId)
    (ho:o.op = .call { callee:=.builtin .append,args:=#[sl,x],argTypes:=#[t,xt] }) {i:TypeInfo} (ht:P.underlying t = some (.slice e)) (hx:P.underlying xt = some .string) (hi:P.info? e = some i) (hz:i.zero = some (.int .u8 0)) (hsize:i.size = 1) (hby:i.bytes = 1)
    (h:BufAt β w id2 e l u) (s:Str) (hs:a.eval sl = u) (hxe:a.eval x = .string ⟨s.toArray⟩) (hlen:l.length + s.length≤140737488355328)
    (k:∀ v' w' b2,BufNext β w w' id2 e (l++s) v' b2→wpList P ops Q rest (a.put o.dst v') w'):wpList P ops Q (o::rest) a w:=by
  refine wpList_plain hgd fun K hK=>?_
  obtain ⟨v',w',b2,hr,hn⟩:=buf_app (P:=P) h s (t:=t) (x:=xt) (ty:=o.type) ht hx hi hz hsize hby hlen
  have hrun:(execOp a.eval o).run P w = .ok (.value v') w':=by
    simp [execOp,ho,resolve,invoke,builtin,hs,hxe,hr]
  unfold Oper.wp
  rw [hrun]
  exact hK _ _ (k v' w' b2 hn)
theorem buf_appB (h : BufAt β w id2 e l u) (s : Str) (hs : s ≠ []) {ad : Addr} {c0 : Nat} (hsrc : ∀ (j : Nat) v, (bcells s)[j]? = some v → w.cell? (ad.add j) = some v) {t ty : TypeId} {i : TypeInfo} (ht : P.underlying t = some (.slice e)) (hi : P.info? e = some i) (hz : i.zero = some (.int .u8 0)) (hsize : i.size = 1) (hby : i.bytes = 1)
    (hlen:l.length + s.length≤140737488355328) :
    ∃ v' w' b2,(Builtin.append_ #[t,t] ty #[u,.slice (some ad) s.length c0]).run P w = .ok v' w'∧BufNext β w w' id2 e (l++s) v' b2:=by
  have hml:(140737488355328:Nat)≤maxLen:=by unfold maxLen; omega
  have hz1:(Value.int IntKind.u8 0).cells.size = 1:=rfl
  rcases h with ⟨rfl,rfl,h3⟩ | ⟨g,c,cur,fz,h1,rfl,h2,h3,h4,h5,h6,h7,h8⟩
  · simp only [List.length_nil,Nat.zero_add] at hlen
    obtain ⟨v',w',hr,hown,hg,hnil⟩:=run_append_ownF (P:=P) w w.heap.size t ty e i (.int .u8 0) 1 1 ht hi hz hsize hby hz1 (by decide) (.slice none 0 0) 0 [] (World.ownsRowF_nil _ _ _ _) ad s.length c0 (bcells s) (by rw [bcells_length,Nat.mul_one]) hsrc (bcells_one s) (by omega) (by omega) (Nat.le_refl _)
    have hst:Stp (fun _=>False) w w':=⟨hg.os,hg.tape,hg.output,hg.size,fun k hk _=>hg.block k hk (by simp [Value.ownBlock])⟩
    simp only [List.nil_append,Nat.zero_add] at hown
    rcases hown.2 with ⟨hv,hn⟩ | ⟨g,cap,cur,fz,rfl,hB,k2,k3,k4,k5,k6,k7⟩
    · exact absurd (List.eq_nil_of_length_eq_zero hn) hs
    · refine ⟨_,w',some g,hr,hst.mono fun _ _ h=>h.elim,fun g' hg'=>?_,fun β' w'' hβ hk=>.inr ⟨g,cap,cur,fz,hβ,rfl,(hk g rfl).trans k2,by simpa using k3,k4,k5,by simpa using k6,by simpa using k7,hs⟩,_,_,_,rfl⟩
      injection hg' with hg'
      subst hg'
      exact ⟨(Array.getElem?_eq_some_iff.1 k2).1,.inr hB⟩
  · by_cases hroom:l.length + s.length≤c
    · have hr:=run_append_roomF (P:=P) w t ty e i ht hi g l.length c cur fz h2 (by rw [hsize,Nat.mul_one]; exact h3) ad s.length c0 (bcells s) (by rw [bcells_length,hsize,Nat.mul_one]) hsrc (bcells_one s) hroom (by rw [bcells_length,hsize,Nat.mul_one,h6]; exact hroom)
      rw [bcells_length,hsize,Nat.mul_one] at hr
      refine ⟨_,_,some g,hr,⟨rfl,rfl,rfl,by simp,fun k _ hk=>setRow_other w g k _ fun e=>hk (by rw [e]; exact h1)⟩,fun g' hg'=>?_,fun β' w'' hβ hk=>.inr ⟨g,c,_,fz,hβ,?_,(hk g rfl).trans (setRow_heap w g cur _ e _ h2),?_,?_,h5,?_,?_,?_⟩,_,_,_,rfl⟩
      · injection hg' with hg'
        subst hg'
        exact ⟨by simpa using (Array.getElem?_eq_some_iff.1 h2).1,.inl h1⟩
      · rw [List.length_append]
      · rw [List.length_append]; omega
      · rw [List.length_append]; omega
      · simp only [List.size_toArray,List.length_append,List.length_take,List.length_drop,Array.length_toList,bcells_length,h6]
        omega
      · rw [h7,List.length_append,bcells_append]
        have:(bcells l++bcells s).length = l.length + s.length:=by simp [bcells_length]
        rw [← this]
        exact List.take_left
      · simp [h8]
    · have hold : ∀ (j : Nat) v, (bcells l)[j]? = some v → w.cell? ((⟨g, 0, none⟩ : Addr).add j) = some v := by
        intro j v hv
        have hadd:(⟨g,0,none⟩:Addr).add j = ⟨g,j,none⟩:=by unfold Addr.add; split<;>simp_all
        rw [hadd,cell_of_row w g j cur e fz h2]
        rw [← h7,List.getElem?_take] at hv
        split at hv
        · simpa using hv
        · cases hv
      have hr:=run_append_grow (P:=P) w t ty e i (.int .u8 0) ht hi hz ⟨g,0,none⟩ l.length c (bcells l) (by rw [hsize,bcells_length,Nat.mul_one]) hold ad s.length c0 (bcells s) (by rw [hsize,bcells_length,Nat.mul_one]) hsrc (by omega) (by omega)
        (by rw [hby]; exact growslice_fits (by omega) (by omega))
      have hge:=grownCap_ge w (l.length + s.length) c e
      have hcm:=grownCap_le_maxLen w (l.length + s.length) c e (by omega)
      refine ⟨_,_,some w.heap.size,hr,?_⟩
      rw [show l.length + s.length = (l++s).length by rw [List.length_append]] at *
      refine buf_new (by simp [h8]) ⟨rfl,rfl,rfl,by simp,fun k hk _=>Lib.alloc_old w.drew _ k hk⟩ (heap_alloc_new w.drew _) hge hcm ?_ ?_
      · simp only [Array.size_append,List.size_toArray,size_zeroCells,hz1,bcells_length,List.length_append] at hge ⊢
        omega
      · simp only [Array.toList_append,List.append_assoc]
        rw [bcells_append,show (l++s).length = (bcells l++bcells s).length by simp [bcells_length],← List.append_assoc]
        exact List.take_left
theorem wpList_bufB {ops : Array Oper} {rest : List Oper} {o : Oper} {a : Act} {Q : Exit → Act → World → Prop} (hgd : o.guard = none) (sl x : Operand) (t : TypeId)
    (ho:o.op = .call { callee:=.builtin .append,args:=#[sl,x],argTypes:=#[t,t] }) {i:TypeInfo} (ht:P.underlying t = some (.slice e)) (hi:P.info? e = some i) (hz:i.zero = some (.int .u8 0)) (hsize:i.size = 1) (hby:i.bytes = 1)
    (h:BufAt β w id2 e l u) (s:Str) (hs0:s≠[]) {ad:Addr} {m c0:Nat} (hsrc:∀ (j:Nat) v,(bcells s)[j]? = some v→w.cell? (ad.add j) = some v) (hm:m = s.length) (hs:a.eval sl = u) (hxe:a.eval x = .slice (some ad) m c0) (hlen:l.length + s.length≤140737488355328)
    (k:∀ v' w' b2,BufNext β w w' id2 e (l++s) v' b2→wpList P ops Q rest (a.put o.dst v') w'):wpList P ops Q (o::rest) a w:=by
  refine wpList_plain hgd fun K hK=>?_
  subst hm
  obtain ⟨v',w',b2,hr,hn⟩:=buf_appB (P:=P) h s hs0 hsrc (t:=t) (ty:=o.type) (c0:=c0) ht hi hz hsize hby hlen
  have hrun:(execOp a.eval o).run P w = .ok (.value v') w':=by
    simp [execOp,ho,resolve,invoke,builtin,hs,hxe,hr]
  unfold Oper.wp
  rw [hrun]
  exact hK _ _ (k v' w' b2 hn)
end
end Go.SX
end
section
namespace Go.Proofs.YtmfchbkdakmjhaaDoor
set_option linter.unusedSectionVars false
set_option linter.unusedSimpArgs false
set_option linter.unusedVariables false
open Go Go.SX Go.RowKit
set_option maxRecDepth 100000
set_option maxHeartbeats 4000000
theorem sbInfo:∃ j,Tryd.prog.info? 86 = some j∧j.size = 2:=Option.map_eq_some_iff.1 (show (Tryd.prog.info? 86).map (·.size) = some 2 by kernel_rfl)
theorem u8Info:∃ i,Tryd.prog.info? 5 = some i∧i.zero = some (.int .u8 0)∧i.size = 1∧i.bytes = 1:=by
  obtain ⟨i,h1,h2⟩:=Option.map_eq_some_iff.1 (show (Tryd.prog.info? 5).map (fun i=>(i.zero,i.size,i.bytes)) = some (some (.int .u8 0),1,1) by kernel_rfl)
  simp only [Prod.mk.injEq] at h2
  exact ⟨i,h1,h2.1,h2.2.1,h2.2.2⟩
theorem cc_used (b : Nat) (w : World) (h0 : w.cell? ⟨b, 0, none⟩ = some (.pointer (some ⟨b, 0, none⟩))) :
    Calls Tryd.prog 94 #[.pointer (some ⟨b,0,none⟩)] w fun e w'=>e = .returned (.tuple #[])∧w' = w:=by
  obtain ⟨j,hj,_⟩:=sbInfo
  go_enter Tryd.func94,Tryd.ntmps94
  go_wp2
  rw [Lib.run_neq_ptr_same w _ Tryd.underlying83 hj]
  go_wp2
  go_end0
  exact ⟨rfl,rfl⟩
theorem cc_fresh (b : Nat) (w : World) (h0 : w.cell? ⟨b, 0, none⟩ = some (.pointer none)) (hsh : w.shape? b = some (86, 2)) (hfz : w.frozen? ⟨b, 0, none⟩ = false) :
    Calls Tryd.prog 94 #[.pointer (some ⟨b,0,none⟩)] w fun e w'=>e = .returned (.tuple #[])∧w' = w.setCell ⟨b,0,none⟩ (.pointer (some ⟨b,0,none⟩)):=by
  obtain ⟨j,hj,hjs⟩:=sbInfo
  go_enter Tryd.func94,Tryd.ntmps94
  go_wp2
  rw [Lib.run_to_unsafe w ⟨b,0,none⟩ Tryd.underlying83 Tryd.underlying163 hj (by rw [hjs]; decide) hsh (Nat.zero_lt_succ 1)]
  simp only [Result.andThen]
  rw [Oper.upon_value]
  go_wp2
  rw [run_callFunc_extern Tryd.func131 (by kernel_rfl) (by kernel_rfl) (by kernel_rfl) (e:=Extern.AbiNoEscape.same) (by kernel_rfl)]
  rw [Lib.run_noEscape]
  simp only [Result.andThen]
  rw [Oper.upon_value]
  go_wp2
  rw [Lib.run_from_unsafe w ⟨b,0,none⟩ Tryd.underlying163 Tryd.underlying83 hj hsh (by kernel_rfl)]
  simp only [Result.andThen]
  rw [Oper.upon_value]
  go_wp2
  go_end0
  exact ⟨rfl,rfl⟩
theorem set_cell0 {w:World} {b:Nat} {p v q:Value} (h:w.heap[b]? = some (.cells #[p,v] 86 (0,0))):(w.setCell ⟨b,0,none⟩ q).heap[b]? = some (.cells #[q,v] 86 (0,0)) :=
  heap_setCell_same w b 0 #[p,v] 86 q h
theorem set_cell1 {w:World} {b:Nat} {p v q:Value} (h:w.heap[b]? = some (.cells #[p,v] 86 (0,0))):(w.setCell ⟨b,1,none⟩ q).heap[b]? = some (.cells #[p,q] 86 (0,0)) :=
  heap_setCell_same w b 1 #[p,v] 86 q h
theorem set_stp (w:World) (b i:Nat) (q:Value):Stp (fun k=>k = b) w (w.setCell ⟨b,i,none⟩ q) :=
  ⟨rfl,rfl,rfl,by simp [World.setCell],fun k _ hk=>heap_setCell_other w ⟨b,i,none⟩ k q hk⟩
theorem cc (b : Nat) (p v : Value) (w : World) (hp : p = .pointer none ∨ p = .pointer (some ⟨b, 0, none⟩)) (h : w.heap[b]? = some (.cells #[p, v] 86 (0, 0))) :
    Calls Tryd.prog 94 #[.pointer (some ⟨b,0,none⟩)] w fun e w'=>e = .returned (.tuple #[])∧w'.heap[b]? = some (.cells #[.pointer (some ⟨b,0,none⟩),v] 86 (0,0))∧Stp (fun k=>k = b) w w':=by
  have c0:w.cell? ⟨b,0,none⟩ = some p:=by rw [Lib.cell_of_heap h]; rfl
  rcases hp with rfl | rfl
  · refine (cc_fresh b w c0 (by simp [World.shape?,h]) (Lib.frozen_of_heap h 0)).mono ?_
    rintro e w' ⟨rfl,rfl⟩
    exact ⟨rfl,set_cell0 h,set_stp _ _ _ _⟩
  · refine (cc_used b w c0).mono ?_
    rintro e w' ⟨rfl,rfl⟩
    exact ⟨rfl,h,Stp.refl _ _⟩
theorem sb_end {β : Nat → Option Nat} {w w1 w2 : World} {id id2 b : Nat} {l : Str} {q u v : Value} {b2 : Option Nat} (hne : id ≠ id2) (hb : β id = some b) (hdis : ∀ g, β id2 = some g → β id ≠ some g) (hlt : b < w.heap.size)
    (hs1:Stp (fun k=>k = b) w w1) (hb1:w1.heap[b]? = some (.cells #[q,u] 86 (0,0))) (hq:q = .pointer none∨q = .pointer (some ⟨b,0,none⟩)) (hn:BufNext β w1 w2 id2 5 l v b2) :
    Stp (fun k=>β id = some k∨β id2 = some k) w (w2.setCell ⟨b,1,none⟩ v)∧(∀ g,b2 = some g→g < (w2.setCell ⟨b,1,none⟩ v).heap.size∧(β id2 = some g∨w.heap.size≤g)) ∧
      ∀ O':Nat→Prop,(∀ k,k < w.heap.size→O' k→True)→ObAt (setβ β id2 b2) O' (w2.setCell ⟨b,1,none⟩ v) id id2 (.sb 86 5 l) (.pointer (some ⟨b,0,none⟩)):=by
  have hb2:w2.heap[b]? = some (.cells #[q,u] 86 (0,0)):=by
    rw [hn.stp.block b (Nat.lt_of_lt_of_le hlt hs1.size) fun e=>hdis b e hb]
    exact hb1
  have hnb:∀ g,b2 = some g→g≠b:=by
    rintro g hg rfl
    rcases (hn.blk g hg).2 with h | h
    · exact hdis g h hb
    · exact absurd (Nat.lt_of_lt_of_le hlt hs1.size) (by omega)
  refine ⟨((hs1.mono fun k _ hk=>.inl (by rw [hb,hk])).trans (hn.stp.mono fun k _ hk=>.inr hk) fun _ _ h=>h).trans (set_stp w2 b 1 _) fun k _ hk=>.inl (by rw [hb,hk]),fun g hg=>?_,fun O' _=>?_⟩
  · refine ⟨by rw [show (w2.setCell ⟨b,1,none⟩ v).heap.size = w2.heap.size by simp [World.setCell]]; exact (hn.blk g hg).1,?_⟩
    exact (hn.blk g hg).2.imp (fun h=>h) fun h=>Nat.le_trans hs1.size h
  · refine ⟨b,q,v,by unfold setβ; rw [if_neg hne]; exact hb,rfl,set_cell1 hb2,hq,hn.buf _ _ (by simp [setβ]) fun g hg=>?_⟩
    exact heap_setCell_other w2 ⟨b,1,none⟩ g v (hnb g hg)
theorem buf_kept {β:Nat→Option Nat} {w w1:World} {id2:Nat} {e:TypeId} {l:Str} {u:Value} (h:BufAt β w id2 e l u) (hk:∀ g,β id2 = some g→w1.heap[g]? = w.heap[g]?):BufAt β w1 id2 e l u:=by
  rcases h with h | ⟨g,c,cur,fz,h1,h2,h3,h4⟩
  · exact .inl h
  · exact .inr ⟨g,c,cur,fz,h1,h2,(hk g h1).trans h3,h4⟩
theorem buf_lt {β:Nat→Option Nat} {w:World} {id2:Nat} {e:TypeId} {l:Str} {u:Value} (h:BufAt β w id2 e l u) {g:Nat} (hg:β id2 = some g):g < w.heap.size:=by
  rcases h with ⟨_,_,h⟩ | ⟨g',c,cur,fz,h1,h2,h3,h4⟩
  · rw [h] at hg; cases hg
  · rw [h1] at hg; injection hg with hg; subst hg; exact (Array.getElem?_eq_some_iff.1 h3).1
variable [Globs]
theorem sb_String (l:Str):ObSpec Tryd.prog 57 (.sb 86 5 l) [] (.s l) (.sb 86 5 l):=by
  refine ⟨Tryd.call57,fun β O w id id2 v vs hne hO hid hid2 hdis hG hob hargs=>?_⟩
  obtain rfl:=hargs.nil_inv
  obtain ⟨b,p,u,hb,rfl,hbk,hp,hbuf⟩:=hob
  have hlt:b < w.heap.size:=(Array.getElem?_eq_some_iff.1 hbk).1
  have hcell:Tryd.prog.cellsOf 5 = 1:=by kernel_rfl
  have c1:w.drew.cell? ⟨b,1,none⟩ = some u:=by
    have:w.drew.heap[b]? = some (.cells #[p,u] 86 (0,0)):=hbk
    rw [Lib.cell_of_heap this]; rfl
  rcases hbuf with ⟨rfl,rfl,h3⟩ | ⟨g,c,cur,fz,h1,rfl,h2,h3,h4,h5,h6,h7,h8⟩
  · have hSD:(Builtin.unsafeSliceData_ #[84] 133 #[.slice none 0 0]).run Tryd.prog w.drew = .ok (.pointer none) w.drew:=Lib.run_unsafeSliceData_nil _ _ _ _ _
    have hUS:(Builtin.unsafeString_ #[133,3] 9 #[.pointer none,.int .i64 0]).run Tryd.prog w.drew = .ok (.string .empty) w.drew:=Lib.run_unsafeString_none w.drew _ _ _ _
    have hob:∀ O':Nat→Prop,ObAt (setβ β id2 (β id2)) O' w.drew id id2 (.sb 86 5 []) (.pointer (some ⟨b,0,none⟩)):=fun O' =>
      ⟨b,p,_,by unfold setβ; rw [if_neg hne]; exact hb,rfl,hbk,hp,.inl ⟨rfl,rfl,by simp [setβ,h3]⟩⟩
    have fin:Stp (fun k=>β id = some k∨β id2 = some k) w w.drew:=(Stp.drew w).mono fun _ _ h=>h.elim
    have him:Im (fun _=>True) w.drew (.s []) (.string .empty):=.s [] (Nat.zero_le _)
    go_enter Tryd.func57,Tryd.ntmps57
    go_wp2
    go_region
    all_goals
      go_wp2
      go_ret
      exact ⟨_,β id2,rfl,fin,(fun g hg=>by rw [h3] at hg; cases hg),him,fun O' _=>hob O'⟩
  · have hl0:l.length≠0:=by simpa using h8
    have hgb:g≠b:=fun e=>hdis g h1 (by rw [hb,e])
    have hSD:(Builtin.unsafeSliceData_ #[84] 133 #[.slice (some ⟨g,0,none⟩) l.length c]).run Tryd.prog w.drew = .ok (.pointer (some ⟨g,0,none⟩)) w.drew :=
      Lib.run_unsafeSliceData_row _ _ _ _ _ _ (by omega)
    have h2':w.drew.heap[g]? = some (.cells cur 5 fz):=h2
    have hUS:(Builtin.unsafeString_ #[133,3] 9 #[.pointer (some ⟨g,0,none⟩),.int .i64 l.length]).run Tryd.prog w.drew = .ok (.string ⟨l.toArray⟩) (w.drew.freeze ⟨g,0,none⟩ l.length):=by
      refine Lib.run_unsafeString_row w.drew 133 3 9 5 Tryd.underlying133 hcell g cur.size (by simp [World.shape?,h2']) l h8 (by omega) (by unfold maxLen at h5; omega) ?_
      intro j x hx
      have hadd:(⟨g,0,none⟩:Addr).add j = ⟨g,j,none⟩:=by unfold Addr.add; split<;>simp_all
      rw [hadd,cell_of_row w.drew g j cur 5 fz h2']
      have hv:(bcells l)[j]? = some (.int .u8 x.toNat):=by simp [bcells,hx]
      rw [← h7,List.getElem?_take] at hv
      split at hv
      · simpa using hv
      · cases hv
    have hheap:∀ k,k≠g→(w.drew.freeze ⟨g,0,none⟩ l.length).heap[k]? = w.heap[k]?:=by
      intro k hk
      unfold World.freeze
      rw [if_neg hl0]
      simp only [Array.getElem?_modify]
      rw [if_neg (fun e=>hk e.symm)]
      rfl
    have hsz:(w.drew.freeze ⟨g,0,none⟩ l.length).heap.size = w.heap.size:=by
      unfold World.freeze
      rw [if_neg hl0]
      simp only [Array.size_modify]
      rfl
    have hg2:∃ fz',(w.drew.freeze ⟨g,0,none⟩ l.length).heap[g]? = some (.cells cur 5 fz')∧fz'.2≤l.length:=by
      obtain ⟨lo,hi⟩:=fz
      unfold World.freeze
      rw [if_neg hl0]
      refine ⟨(if lo == hi then (0,0 + l.length) else (min lo 0,max hi (0 + l.length))),by simp [Array.getElem?_modify,h2'],?_⟩
      simp only at h3
      split<;>simp<;>omega
    obtain ⟨fz',hg2,hfz'⟩:=hg2
    have hob:∀ O':Nat→Prop,ObAt (setβ β id2 (β id2)) O' (w.drew.freeze ⟨g,0,none⟩ l.length) id id2 (.sb 86 5 l) (.pointer (some ⟨b,0,none⟩)):=fun O' =>
      ⟨b,p,_,by unfold setβ; rw [if_neg hne]; exact hb,rfl,(hheap b (fun e=>hgb e.symm)).trans hbk,hp,.inr ⟨g,c,cur,fz',by simp [setβ,h1],rfl,hg2,hfz',h4,h5,h6,h7,h8⟩⟩
    have fin:Stp (fun k=>β id = some k∨β id2 = some k) w (w.drew.freeze ⟨g,0,none⟩ l.length):=by
      refine ⟨?_,?_,?_,Nat.le_of_eq hsz.symm,fun k _ hk=>hheap k fun e=>hk (.inr (by rw [h1,e]))⟩<;>(unfold World.freeze; rw [if_neg hl0]; rfl)
    have him:Im (fun _=>True) (w.drew.freeze ⟨g,0,none⟩ l.length) (.s l) (.string ⟨l.toArray⟩):=.s l (by omega)
    have hblk:∀ g',β id2 = some g'→g' < (w.drew.freeze ⟨g,0,none⟩ l.length).heap.size∧(β id2 = some g'∨w.heap.size≤g'):=fun g' hg'=>by
      refine ⟨?_,.inl hg'⟩
      rw [h1] at hg'
      injection hg' with hg'
      subst hg'
      rw [hsz]
      exact (Array.getElem?_eq_some_iff.1 h2).1
    go_enter Tryd.func57,Tryd.ntmps57
    go_wp2
    go_region
    all_goals
      go_wp2
      go_ret
      exact ⟨_,β id2,rfl,fin,hblk,him,fun O' _=>hob O'⟩
end Go.Proofs.YtmfchbkdakmjhaaDoor
end
section
namespace Go.Proofs.YtmfchbkdakmjhaaDoor
set_option linter.unusedSectionVars false
set_option linter.unusedSimpArgs false
set_option linter.unusedVariables false
open Go Go.SX Go.RowKit
set_option maxRecDepth 100000
set_option maxHeartbeats 4000000
theorem ru_cells {r:Int} {zs:List Int} (h:Lib.encodeRuneZ r = zs):bcells (Lib.encodeRune r) = zs.map (Value.int .u8):=by
  have:=Lib.byteCells_encodeRune r
  unfold Lib.runeCells at this
  rw [h] at this
  exact this
theorem ru_ne (r:Int):Lib.encodeRune r≠[]:=by
  have:=(Lib.encodeRuneZ_length r).1
  unfold Lib.encodeRune
  intro e
  rw [List.map_eq_nil_iff] at e
  rw [e] at this
  exact absurd this (by decide)
theorem next_alloc {β:Nat→Option Nat} {w w':World} {o:Obj} {id2:Nat} {e:TypeId} {l:Str} {v:Value} {b2:Option Nat} (h:BufNext β (w.alloc o) w' id2 e l v b2):BufNext β w w' id2 e l v b2:=by
  have hs:Stp (fun _=>False) w (w.alloc o):=letI:Globs:=⟨[]⟩; Stp.alloc w o
  refine ⟨(hs.mono fun _ _ h=>h.elim).trans h.stp fun _ _ h=>h,fun g hg=>⟨(h.blk g hg).1,?_⟩,h.buf,h.sl⟩
  rcases (h.blk g hg).2 with h | h
  · exact .inl h
  · exact .inr (Nat.le_trans hs.size h)
def RuNext (β:Nat→Option Nat) (w:World) (id2:Nat) (l:Str) (r:Int) (e:Ending) (w':World):Prop:=∃ v' b2,e = .returned v'∧BufNext β w w' id2 5 (l++Lib.encodeRune r) v' b2
section
variable {β:Nat→Option Nat} {w:World} {id2:Nat} {l:Str} {u:Value}
theorem ar_one (hbuf:BufAt β w id2 5 l u) (hlen:l.length + 4≤140737488355328) {r:Int} (h0:0≤r) (h1:r≤127):Calls Tryd.prog 95 #[u,.int .i32 r] w (RuNext β w id2 l r):=by
  obtain ⟨i0,hi,hz0,hz1,hz2⟩:=u8Info
  have hc:bcells (Lib.encodeRune r) = [.int .u8 r]:=ru_cells (Lib.encodeRuneZ_one h0 h1)
  have hl:(Lib.encodeRune r).length = 1:=by rw [← bcells_length,hc]; rfl
  go_enter Tryd.func95,Tryd.ntmps95
  go_wp2_with (at_builtin; refine wpList_bufB rfl _ _ 84 rfl Tryd.underlying84 hi hz0 hz1 hz2 (buf_kept hbuf fun g hg=>Lib.alloc_old _ _ g (buf_lt hbuf hg)) (Lib.encodeRune r) (ru_ne r) (ad:=⟨w.heap.size,0,none⟩) (m:=1) (c0:=1) ?_ hl.symm rfl rfl (by omega) ?_)
  · intro j v hj
    rw [hc] at hj
    match j,hj with
    | 0,hj=>simp at hj; subst hj; simp [Addr.add]
    | (j + 1),hj=>simp at hj
  intro v' w2 b2 hn
  obtain ⟨ao,n',cap,rfl⟩:=hn.sl
  go_wp2
  go_ret
  exact ⟨_,b2,rfl,next_alloc hn⟩
theorem an_two (hbuf:BufAt β w id2 5 l u) (hlen:l.length + 4≤140737488355328) {r:Int} (h0:128≤r) (h1:r≤2047):Calls Tryd.prog 132 #[u,.int .i32 r] w (RuNext β w id2 l r):=by
  obtain ⟨i0,hi,hz0,hz1,hz2⟩:=u8Info
  have hc:bcells (Lib.encodeRune r) = [.int .u8 (192 + r / 64),.int .u8 (128 + r % 64)]:=ru_cells (Lib.encodeRuneZ_two (by omega) (by omega))
  have hl:(Lib.encodeRune r).length = 2:=by rw [← bcells_length,hc]; rfl
  go_enter Tryd.func132,Tryd.ntmps132
  go_wp2_with (at_builtin; refine wpList_bufB rfl _ _ 84 rfl Tryd.underlying84 hi hz0 hz1 hz2 (buf_kept hbuf fun g hg=>Lib.alloc_old _ _ g (buf_lt hbuf hg)) (Lib.encodeRune r) (ru_ne r) (ad:=⟨w.heap.size,0,none⟩) (m:=2) (c0:=2) ?_ hl.symm rfl rfl (by omega) ?_)
  · intro j v hj
    rw [hc] at hj
    match j,hj with
    | 0,hj=>simp at hj; subst hj; simp [Addr.add]
    | 1,hj=>simp at hj; subst hj; simp [Addr.add]
    | (j + 2),hj=>simp at hj
  intro v' w2 b2 hn
  obtain ⟨ao,n',cap,rfl⟩:=hn.sl
  go_wp2
  go_ret
  exact ⟨_,b2,rfl,next_alloc hn⟩
theorem an_three_lo (hbuf:BufAt β w id2 5 l u) (hlen:l.length + 4≤140737488355328) {r:Int} (h0:2048≤r) (h1:r < 55296):Calls Tryd.prog 132 #[u,.int .i32 r] w (RuNext β w id2 l r):=by
  obtain ⟨i0,hi,hz0,hz1,hz2⟩:=u8Info
  have hc:bcells (Lib.encodeRune r) = [.int .u8 (224 + r / 4096),.int .u8 (128 + r / 64 % 64),.int .u8 (128 + r % 64)]:=ru_cells (Lib.encodeRuneZ_three (Or.inl ⟨by omega,by omega⟩))
  have hl:(Lib.encodeRune r).length = 3:=by rw [← bcells_length,hc]; rfl
  go_enter Tryd.func132,Tryd.ntmps132
  go_wp2_with (at_builtin; refine wpList_bufB rfl _ _ 84 rfl Tryd.underlying84 hi hz0 hz1 hz2 (buf_kept hbuf fun g hg=>Lib.alloc_old _ _ g (buf_lt hbuf hg)) (Lib.encodeRune r) (ru_ne r) (ad:=⟨w.heap.size,0,none⟩) (m:=3) (c0:=3) ?_ hl.symm rfl rfl (by omega) ?_)
  · intro j v hj
    rw [hc] at hj
    match j,hj with
    | 0,hj=>simp at hj; subst hj; simp [Addr.add]
    | 1,hj=>simp at hj; subst hj; simp [Addr.add]
    | 2,hj=>simp at hj; subst hj; simp [Addr.add]
    | (j + 3),hj=>simp at hj
  intro v' w2 b2 hn
  obtain ⟨ao,n',cap,rfl⟩:=hn.sl
  go_wp2
  go_ret
  exact ⟨_,b2,rfl,next_alloc hn⟩
theorem an_three_hi (hbuf:BufAt β w id2 5 l u) (hlen:l.length + 4≤140737488355328) {r:Int} (h0:57343 < r) (h1:r≤65535):Calls Tryd.prog 132 #[u,.int .i32 r] w (RuNext β w id2 l r):=by
  obtain ⟨i0,hi,hz0,hz1,hz2⟩:=u8Info
  have hc:bcells (Lib.encodeRune r) = [.int .u8 (224 + r / 4096),.int .u8 (128 + r / 64 % 64),.int .u8 (128 + r % 64)]:=ru_cells (Lib.encodeRuneZ_three (Or.inr ⟨by omega,by omega⟩))
  have hl:(Lib.encodeRune r).length = 3:=by rw [← bcells_length,hc]; rfl
  go_enter Tryd.func132,Tryd.ntmps132
  go_wp2_with (at_builtin; refine wpList_bufB rfl _ _ 84 rfl Tryd.underlying84 hi hz0 hz1 hz2 (buf_kept hbuf fun g hg=>Lib.alloc_old _ _ g (buf_lt hbuf hg)) (Lib.encodeRune r) (ru_ne r) (ad:=⟨w.heap.size,0,none⟩) (m:=3) (c0:=3) ?_ hl.symm rfl rfl (by omega) ?_)
  · intro j v hj
    rw [hc] at hj
    match j,hj with
    | 0,hj=>simp at hj; subst hj; simp [Addr.add]
    | 1,hj=>simp at hj; subst hj; simp [Addr.add]
    | 2,hj=>simp at hj; subst hj; simp [Addr.add]
    | (j + 3),hj=>simp at hj
  intro v' w2 b2 hn
  obtain ⟨ao,n',cap,rfl⟩:=hn.sl
  go_wp2
  go_ret
  exact ⟨_,b2,rfl,next_alloc hn⟩
theorem an_four (hbuf:BufAt β w id2 5 l u) (hlen:l.length + 4≤140737488355328) {r:Int} (h0:65536≤r) (h1:r≤1114111):Calls Tryd.prog 132 #[u,.int .i32 r] w (RuNext β w id2 l r):=by
  obtain ⟨i0,hi,hz0,hz1,hz2⟩:=u8Info
  have hc:bcells (Lib.encodeRune r) = [.int .u8 (240 + r / 262144),.int .u8 (128 + r / 4096 % 64),.int .u8 (128 + r / 64 % 64),.int .u8 (128 + r % 64)]:=ru_cells (Lib.encodeRuneZ_four (by omega) (by omega))
  have hl:(Lib.encodeRune r).length = 4:=by rw [← bcells_length,hc]; rfl
  go_enter Tryd.func132,Tryd.ntmps132
  go_wp2_with (at_builtin; refine wpList_bufB rfl _ _ 84 rfl Tryd.underlying84 hi hz0 hz1 hz2 (buf_kept hbuf fun g hg=>Lib.alloc_old _ _ g (buf_lt hbuf hg)) (Lib.encodeRune r) (ru_ne r) (ad:=⟨w.heap.size,0,none⟩) (m:=4) (c0:=4) ?_ hl.symm rfl rfl (by omega) ?_)
  · intro j v hj
    rw [hc] at hj
    match j,hj with
    | 0,hj=>simp at hj; subst hj; simp [Addr.add]
    | 1,hj=>simp at hj; subst hj; simp [Addr.add]
    | 2,hj=>simp at hj; subst hj; simp [Addr.add]
    | 3,hj=>simp at hj; subst hj; simp [Addr.add]
    | (j + 4),hj=>simp at hj
  intro v' w2 b2 hn
  obtain ⟨ao,n',cap,rfl⟩:=hn.sl
  go_wp2
  go_ret
  exact ⟨_,b2,rfl,next_alloc hn⟩
theorem an_bad_neg (hbuf:BufAt β w id2 5 l u) (hlen:l.length + 4≤140737488355328) {r:Int} (h0 : -2147483648≤r) (h1:r < 0):Calls Tryd.prog 132 #[u,.int .i32 r] w (RuNext β w id2 l r):=by
  obtain ⟨i0,hi,hz0,hz1,hz2⟩:=u8Info
  have hc:bcells (Lib.encodeRune r) = [.int .u8 239,.int .u8 191,.int .u8 189]:=ru_cells (Lib.encodeRuneZ_bad (r:=r) (by omega))
  have hl:(Lib.encodeRune r).length = 3:=by rw [← bcells_length,hc]; rfl
  go_enter Tryd.func132,Tryd.ntmps132
  go_wp2_with (at_builtin; refine wpList_bufB rfl _ _ 84 rfl Tryd.underlying84 hi hz0 hz1 hz2 (buf_kept hbuf fun g hg=>Lib.alloc_old _ _ g (buf_lt hbuf hg)) (Lib.encodeRune r) (ru_ne r) (ad:=⟨w.heap.size,0,none⟩) (m:=3) (c0:=3) ?_ hl.symm rfl rfl (by omega) ?_)
  · intro j v hj
    rw [hc] at hj
    match j,hj with
    | 0,hj=>simp at hj; subst hj; simp [Addr.add]
    | 1,hj=>simp at hj; subst hj; simp [Addr.add]
    | 2,hj=>simp at hj; subst hj; simp [Addr.add]
    | (j + 3),hj=>simp at hj
  intro v' w2 b2 hn
  obtain ⟨ao,n',cap,rfl⟩:=hn.sl
  go_wp2
  go_ret
  exact ⟨_,b2,rfl,next_alloc hn⟩
theorem an_bad_sur (hbuf:BufAt β w id2 5 l u) (hlen:l.length + 4≤140737488355328) {r:Int} (h0:55296≤r) (h1:r≤57343):Calls Tryd.prog 132 #[u,.int .i32 r] w (RuNext β w id2 l r):=by
  obtain ⟨i0,hi,hz0,hz1,hz2⟩:=u8Info
  have hc:bcells (Lib.encodeRune r) = [.int .u8 239,.int .u8 191,.int .u8 189]:=ru_cells (Lib.encodeRuneZ_bad (r:=r) (by omega))
  have hl:(Lib.encodeRune r).length = 3:=by rw [← bcells_length,hc]; rfl
  go_enter Tryd.func132,Tryd.ntmps132
  go_wp2_with (at_builtin; refine wpList_bufB rfl _ _ 84 rfl Tryd.underlying84 hi hz0 hz1 hz2 (buf_kept hbuf fun g hg=>Lib.alloc_old _ _ g (buf_lt hbuf hg)) (Lib.encodeRune r) (ru_ne r) (ad:=⟨w.heap.size,0,none⟩) (m:=3) (c0:=3) ?_ hl.symm rfl rfl (by omega) ?_)
  all_goals first
    | (intro v' w2 b2 hn; obtain ⟨ao,n',cap,rfl⟩:=hn.sl; go_wp2; go_ret; exact ⟨_,b2,rfl,next_alloc hn⟩)
    | (intro j v hj
       rw [hc] at hj
       match j,hj with
       | 0,hj=>simp at hj; subst hj; simp [Addr.add]
       | 1,hj=>simp at hj; subst hj; simp [Addr.add]
       | 2,hj=>simp at hj; subst hj; simp [Addr.add]
       | (j + 3),hj=>simp at hj)
theorem an_bad_big (hbuf:BufAt β w id2 5 l u) (hlen:l.length + 4≤140737488355328) {r:Int} (h0:1114111 < r) (h1:r≤2147483647):Calls Tryd.prog 132 #[u,.int .i32 r] w (RuNext β w id2 l r):=by
  obtain ⟨i0,hi,hz0,hz1,hz2⟩:=u8Info
  have hc:bcells (Lib.encodeRune r) = [.int .u8 239,.int .u8 191,.int .u8 189]:=ru_cells (Lib.encodeRuneZ_bad (r:=r) (by omega))
  have hl:(Lib.encodeRune r).length = 3:=by rw [← bcells_length,hc]; rfl
  go_enter Tryd.func132,Tryd.ntmps132
  go_wp2_with (at_builtin; refine wpList_bufB rfl _ _ 84 rfl Tryd.underlying84 hi hz0 hz1 hz2 (buf_kept hbuf fun g hg=>Lib.alloc_old _ _ g (buf_lt hbuf hg)) (Lib.encodeRune r) (ru_ne r) (ad:=⟨w.heap.size,0,none⟩) (m:=3) (c0:=3) ?_ hl.symm rfl rfl (by omega) ?_)
  · intro j v hj
    rw [hc] at hj
    match j,hj with
    | 0,hj=>simp at hj; subst hj; simp [Addr.add]
    | 1,hj=>simp at hj; subst hj; simp [Addr.add]
    | 2,hj=>simp at hj; subst hj; simp [Addr.add]
    | (j + 3),hj=>simp at hj
  intro v' w2 b2 hn
  obtain ⟨ao,n',cap,rfl⟩:=hn.sl
  go_wp2
  go_ret
  exact ⟨_,b2,rfl,next_alloc hn⟩
theorem an_all (hbuf:BufAt β w id2 5 l u) (hlen:l.length + 4≤140737488355328) {r:Int} (hr0 : -2147483648≤r) (hr1:r≤2147483647) (hna:r < 0∨128≤r):Calls Tryd.prog 132 #[u,.int .i32 r] w (RuNext β w id2 l r):=by
  by_cases c0:r < 0
  · exact an_bad_neg hbuf hlen hr0 c0
  by_cases c1:r≤2047
  · exact an_two hbuf hlen (by omega) c1
  by_cases c2:r < 55296
  · exact an_three_lo hbuf hlen (by omega) c2
  by_cases c3:r≤57343
  · exact an_bad_sur hbuf hlen (by omega) c3
  by_cases c4:r≤65535
  · exact an_three_hi hbuf hlen (by omega) c4
  by_cases c5:r≤1114111
  · exact an_four hbuf hlen (by omega) c5
  · exact an_bad_big hbuf hlen (by omega) hr1
theorem ar_other (hbuf:BufAt β w id2 5 l u) (hlen:l.length + 4≤140737488355328) {r:Int} (hr0 : -2147483648≤r) (hr1:r≤2147483647) (hna:r < 0∨128≤r):Calls Tryd.prog 95 #[u,.int .i32 r] w (RuNext β w id2 l r):=by
  rcases hna with hna | hna
  all_goals
    go_enter Tryd.func95,Tryd.ntmps95
    go_wp2_with (go_at_call 132; refine (an_all hbuf hlen hr0 hr1 (by omega)).mono ?_)
    rintro e w1 ⟨v',b2,rfl,hn⟩
    obtain ⟨ao,n',cap,rfl⟩:=hn.sl
    go_wp2
    go_ret
    exact ⟨_,b2,rfl,hn⟩
theorem ar_all (hbuf:BufAt β w id2 5 l u) (hlen:l.length + 4≤140737488355328) {r:Int} (hr0 : -2147483648≤r) (hr1:r≤2147483647):Calls Tryd.prog 95 #[u,.int .i32 r] w (RuNext β w id2 l r):=by
  by_cases c:0≤r∧r≤127
  · exact ar_one hbuf hlen c.1 c.2
  · exact ar_other hbuf hlen hr0 hr1 (by omega)
end
variable [Globs]
theorem sb_WriteRune (l:Str) {r:Int} (hr0 : -2147483648≤r) (hr1:r≤2147483647) (hlen:l.length + 4≤140737488355328):ObSpec Tryd.prog 54 (.sb 86 5 l) [.i .i32 r] (.x) (.sb 86 5 (l++Lib.encodeRune r)):=by
  refine ⟨Tryd.call54,fun β O w id id2 v vs hne hO hid hid2 hdis hG hob hargs=>?_⟩
  obtain ⟨v1,vs',rfl,h1,h⟩:=hargs.cons_inv
  obtain rfl:=h.nil_inv
  cases h1
  obtain ⟨b,p,u,hb,rfl,hbk,hp,hbuf⟩:=hob
  have hlt:b < w.heap.size:=(Array.getElem?_eq_some_iff.1 hbk).1
  obtain ⟨ua,un,uc,hus⟩:∃ a n c,u = .slice a n c:=hbuf.same.sl
  go_enter Tryd.func54,Tryd.ntmps54
  go_wp2_with (go_at_call 94; refine (cc b p u _ hp hbk).mono ?_)
  rintro e w1 ⟨rfl,hb1,hs1⟩
  have c1:w1.cell? ⟨b,1,none⟩ = some u:=by rw [Lib.cell_of_heap hb1]; rfl
  have hbuf1:=buf_kept hbuf fun g hg=>hs1.block g (buf_lt hbuf hg) fun e=>hdis g hg (by rw [hb,e])
  subst hus
  go_wp2_with (go_at_call 95; refine (ar_all hbuf1 hlen hr0 hr1).mono ?_)
  rintro e w2 ⟨v',b2,rfl,hn⟩
  obtain ⟨hst,hblk,hob⟩:=sb_end hne hb hdis hlt hs1 hb1 (.inr rfl) hn
  have hb2:w2.heap[b]? = some (.cells #[.pointer (some ⟨b,0,none⟩),.slice ua un uc] 86 (0,0)):=by
    rw [hn.stp.block b (Nat.lt_of_lt_of_le hlt hs1.size) fun e=>hdis b e hb]
    exact hb1
  have d1:w2.cell? ⟨b,1,none⟩ = some (.slice ua un uc):=by rw [Lib.cell_of_heap hb2]; rfl
  have f1:w2.frozen? ⟨b,1,none⟩ = false:=Lib.frozen_of_heap hb2 1
  obtain ⟨ao,n',cap,rfl⟩:=hn.sl
  go_wp2
  go_ret2
  exact ⟨_,b2,rfl,hst,hblk,.x _,fun O' _=>hob O' fun _ _ _=>trivial⟩
end Go.Proofs.YtmfchbkdakmjhaaDoor
end
section
namespace Go.Proofs.YtmfchbkdakmjhaaDoor
set_option linter.unusedSectionVars false
set_option linter.unusedSimpArgs false
set_option linter.unusedVariables false
open Go Go.SX Go.Ut Go.RowKit
set_option maxRecDepth 100000
set_option maxHeartbeats 0
theorem size0 (n:Int):sizeR n = 0↔¬ scalar n:=by
  unfold sizeR
  by_cases h:scalar n
  · rw [if_pos h]
    refine ⟨fun e=>?_,fun e=>absurd h e⟩
    (repeat' split at e)<;>exact absurd e (by decide)
  · rw [if_neg h]
    exact ⟨fun _=>h,fun _=>rfl⟩
section
variable [G:Globs]
end
end Go.Proofs.YtmfchbkdakmjhaaDoor
end
section
namespace Go.Proofs.YtmfchbkdakmjhaaDoor
set_option linter.unusedSectionVars false
set_option linter.unusedSimpArgs false
set_option linter.unusedVariables false
open Go Go.SX Go.RowKit
set_option maxRecDepth 100000
set_option maxHeartbeats 4000000
theorem next_allocB {β:Nat→Option Nat} {w w':World} {o:Obj} {id2:Nat} {e:TypeId} {l:Str} {v:Value} {b2:Option Nat} (h:BufNext β (w.alloc o) w' id2 e l v b2):BufNext β w w' id2 e l v b2:=by
  have hs:Stp (fun _=>False) w (w.alloc o):=letI:Globs:=⟨[]⟩; Stp.alloc w o
  refine ⟨(hs.mono fun _ _ h=>h.elim).trans h.stp fun _ _ h=>h,fun g hg=>⟨(h.blk g hg).1,?_⟩,h.buf,h.sl⟩
  rcases (h.blk g hg).2 with h | h
  · exact .inl h
  · exact .inr (Nat.le_trans hs.size h)
variable [Globs]
theorem sb_WriteByte (l:Str) (c:UInt8) (hlen:l.length + 1≤140737488355328):ObSpec Tryd.prog 53 (.sb 86 5 l) [.i .u8 (c.toNat:Int)] (.x) (.sb 86 5 (l++[c])):=by
  refine ⟨Tryd.call53,fun β O w id id2 v vs hne hO hid hid2 hdis hG hob hargs=>?_⟩
  obtain ⟨v1,vs',rfl,h1,h⟩:=hargs.cons_inv
  obtain rfl:=h.nil_inv
  cases h1
  obtain ⟨b,p,u,hb,rfl,hbk,hp,hbuf⟩:=hob
  obtain ⟨i0,hi,hz0,hz1,hz2⟩:=u8Info
  have hc:bcells [c] = [.int .u8 (c.toNat:Int)]:=rfl
  have hlt:b < w.heap.size:=(Array.getElem?_eq_some_iff.1 hbk).1
  go_enter Tryd.func53,Tryd.ntmps53
  go_wp2_with (go_at_call 94; refine (cc b p u _ hp hbk).mono ?_)
  rintro e w1 ⟨rfl,hb1,hs1⟩
  have c1:w1.cell? ⟨b,1,none⟩ = some u:=by rw [Lib.cell_of_heap hb1]; rfl
  have hbuf1:=buf_kept hbuf fun g hg=>hs1.block g (buf_lt hbuf hg) fun e=>hdis g hg (by rw [hb,e])
  go_wp2_with (at_builtin; refine wpList_bufB rfl _ _ 84 rfl Tryd.underlying84 hi hz0 hz1 hz2 (buf_kept hbuf1 fun g hg=>Lib.alloc_old _ _ g (buf_lt hbuf1 hg)) [c] (by simp) (ad:=⟨w1.heap.size,0,none⟩) (m:=1) (c0:=1) ?_ rfl rfl rfl hlen ?_)
  · intro j v hj
    rw [hc] at hj
    match j,hj with
    | 0,hj=>simp at hj; subst hj; simp [Addr.add]
    | (j + 1),hj=>simp at hj
  intro v' w2 b2 hn0
  have hn:=next_allocB hn0
  obtain ⟨hst,hblk,hob⟩:=sb_end hne hb hdis hlt hs1 hb1 (.inr rfl) hn
  have hb2:w2.heap[b]? = some (.cells #[.pointer (some ⟨b,0,none⟩),u] 86 (0,0)):=by
    rw [hn.stp.block b (Nat.lt_of_lt_of_le hlt hs1.size) fun e=>hdis b e hb]
    exact hb1
  have d1:w2.cell? ⟨b,1,none⟩ = some u:=by rw [Lib.cell_of_heap hb2]; rfl
  have f1:w2.frozen? ⟨b,1,none⟩ = false:=Lib.frozen_of_heap hb2 1
  obtain ⟨ao,n',cap,rfl⟩:=hn.sl
  go_wp2
  go_ret
  exact ⟨_,b2,rfl,hst,hblk,.x _,fun O' _=>hob O' fun _ _ _=>trivial⟩
end Go.Proofs.YtmfchbkdakmjhaaDoor
end
section
namespace Go.Proofs.YtmfchbkdakmjhaaDoor
set_option linter.unusedSectionVars false
set_option linter.unusedSimpArgs false
set_option linter.unusedVariables false
open Go Go.SX Go.Ut Go.Nm Go.Es
set_option maxRecDepth 100000
set_option maxHeartbeats 1000000
def lett (n:Int):Prop:=(97≤n∧n≤122)∨(65≤n∧n≤90)
instance (n:Int):Decidable (lett n):=by unfold lett; infer_instance
section
variable [G:Globs]
theorem w_letter (n:Int):vc Tryd.prog Γ 17 [0,2] (Tryd.f66.body.getD .skip) (postK Γ [.tmp 2] (fun v=>v = .b (decide (lett n)))) ⟨argSlots 0 [.i .u8 n],[]⟩:=by
  repeat' (refine And.intro (fun h=>?_) (fun h=>?_)<;>(try simp [-List.getD_eq_getElem?_getD,-Int.pred_toNat] at h))
  all_goals
    refine congrArg AV.b ?_
    rw [Bool.eq_iff_iff]
    simp only [cond_true,cond_false,decide_eq_true_eq,Bool.false_eq_true,true_iff,false_iff]
    unfold lett
    first | omega | (constructor<;>intro h9<;>(try (exfalso; exact h9))<;>omega)
theorem s_letter (n:Int):PSpec Tryd.prog 66 [.i .u8 n] (.b (decide (lett n))) :=
  pspec_of_vc Γ_good Tryd.func66 rfl Tryd.call66 Tryd.results66 Tryd.ntmps66 (Nat.le_of_ble_eq_true rfl) (w_letter n)
theorem w_bareP (s:Str):vc Tryd.prog Γ 68 [0,2,3,4,5,6,13,15,16,17,18,59,61,62] (Tryd.f26.body.getD .skip) (postK Γ [.tmp 2] (fun v=>v = .b (bare s))) ⟨argSlots 0 [.s s],[]⟩:=by
  by_cases h0:s = []
  · subst h0
    (repeat' (first | (refine And.intro (fun h=>?_) (fun h=>?_)<;>(try simp [-List.getD_eq_getElem?_getD,-Int.pred_toNat] at h)<;>(try (exfalso; first | omega | contradiction))) | (refine And.intro (rng64 (by omega) (by omega)) ?_) | (refine And.intro ⟨by omega,by omega⟩ ?_) | (refine And.intro ⟨by omega,by omega,by omega⟩ ?_) | (intro _)))
    rfl
  have hb0:(s == []) = false:=by simpa using h0
  have h1:1≤s.length:=by cases s with | nil=>exact absurd rfl h0 | cons _ _=>exact Nat.succ_le_succ (Nat.zero_le _)
  by_cases h2:s.length≤100
  · (repeat' (first | (refine And.intro (fun h=>?_) (fun h=>?_)<;>(try simp [-List.getD_eq_getElem?_getD,-Int.pred_toNat] at h)<;>(try (exfalso; first | omega | contradiction))) | (refine And.intro (rng64 (by omega) (by omega)) ?_) | (refine And.intro ⟨by omega,by omega⟩ ?_) | (refine And.intro ⟨by omega,by omega,by omega⟩ ?_) | (intro _)))
    refine Exists.intro [] (Exists.intro [] (Exists.intro [] (Exists.intro Nat (Exists.intro (fun k=>k≤s.length∧keyUp s k) (Exists.intro (fun k=>⟨[(0,.s s),(15,.rd .u8 (toJ s)),(16,.i .i64 (toJ s).length),(17,.i .i64 k)],[]⟩) (Exists.intro (fun k=>s.length - k) (Exists.intro 0 (And.intro ⟨Nat.zero_le _,keyUp_zero s⟩ (And.intro ?_ ?_)))))))))
    · (repeat' (first | exact trivial | exact Or.inl rfl | exact Or.inr (Or.inl ⟨rfl,_,rfl⟩) | exact Or.inr (Or.inr (Or.inr ⟨_,_,_,rfl,rfl⟩)) | refine And.intro ?_ ?_))
    rintro k ⟨hk0,hu⟩
    have hjl:=toJ_len s
    refine And.intro (fun h=>?_) (fun h=>?_)
    · have hk:k < s.length:=by have:(k:Int) < (toJ s).length:=of_decide_eq_true h; omega
      refine And.intro ⟨by omega,by omega⟩ ?_
      have hg:(toJ s).getD (Int.toNat k) 0 = ((s.getD k 0).toNat:Int):=by
        rw [Int.toNat_natCast,List.getD_eq_getElem?_getD,List.getD_eq_getElem?_getD]
        unfold toJ
        rw [List.getElem?_map,List.getElem?_eq_getElem hk]
        rfl
      rw [hg]
      have hcl:=(s.getD k 0).toNat_lt
      have hyes:=fun h=>keyUp_succ (s:=s) (k:=k) hu ((keyC_iff _ _).2 h)
      have hno:=fun h=>bare_no (s:=s) (k:=k) hk (keyC_no h)
      generalize s.getD k 0 = c at *
      by_cases hcl1:keyP k c
      · have hyes:=hyes hcl1
        unfold keyP at hcl1
        rcases hcl1 with h3 | h3 | h3 | ⟨h3,h4 | h4⟩
        all_goals
          (repeat' (first | (refine And.intro (fun h=>?_) (fun h=>?_)<;>(try simp [-List.getD_eq_getElem?_getD,-Int.pred_toNat] at h)<;>(try (exfalso; first | omega | contradiction))) | (refine And.intro (rng64 (by omega) (by omega)) ?_) | (refine And.intro ⟨by omega,by omega⟩ ?_) | (refine And.intro ⟨by omega,by omega,by omega⟩ ?_) | (intro _)))
          refine Exists.intro [] (Exists.intro (k + 1) (And.intro ⟨hk,hyes⟩ (And.intro ?_ ?_)))
          · (repeat' (first | exact trivial | exact Or.inl rfl | exact Or.inr (Or.inl ⟨rfl,_,rfl⟩) | exact Or.inr (Or.inr (Or.inr ⟨_,_,_,rfl,rfl⟩)) | refine And.intro ?_ ?_))
          · (exact Nat.sub_lt_sub_left (by omega) (by omega))
      · rw [hno hcl1]
        unfold keyP at hcl1
        by_cases hk0:k = 0
        · subst hk0
          rcases (show c.toNat < 65∨(90 < c.toNat∧c.toNat < 95)∨c.toNat = 96∨122 < c.toNat by omega) with h3 | h3 | h3 | h3
          all_goals
            rcases (show (48≤c.toNat∧c.toNat≤57)∨c.toNat = 45∨(c.toNat < 45∨c.toNat = 46∨c.toNat = 47∨57 < c.toNat) by omega) with h4 | h4 | h4
            all_goals first
              | (exfalso; omega)
              | ((repeat' (first | (refine And.intro (fun h=>?_) (fun h=>?_)<;>(try simp [-List.getD_eq_getElem?_getD,-Int.pred_toNat] at h)<;>(try (exfalso; first | omega | contradiction))) | (refine And.intro (rng64 (by omega) (by omega)) ?_) | (refine And.intro ⟨by omega,by omega⟩ ?_) | (refine And.intro ⟨by omega,by omega,by omega⟩ ?_) | (intro _))); all_goals rfl)
        · rcases (show c.toNat < 45∨c.toNat = 46∨c.toNat = 47∨(57 < c.toNat∧c.toNat < 65)∨(90 < c.toNat∧c.toNat < 95)∨c.toNat = 96∨122 < c.toNat by omega) with h3 | h3 | h3 | h3 | h3 | h3 | h3
          all_goals
            (repeat' (first | (refine And.intro (fun h=>?_) (fun h=>?_)<;>(try simp [-List.getD_eq_getElem?_getD,-Int.pred_toNat] at h)<;>(try (exfalso; first | omega | contradiction))) | (refine And.intro (rng64 (by omega) (by omega)) ?_) | (refine And.intro ⟨by omega,by omega⟩ ?_) | (refine And.intro ⟨by omega,by omega,by omega⟩ ?_) | (intro _)))
            all_goals rfl
    · have hk:k = s.length:=by have:¬ (k:Int) < (toJ s).length:=of_decide_eq_false h; omega
      subst hk
      have hy:=fun h=>bare_yes (s:=s) ⟨h1,h2⟩ hu h
      have hw:=bare_word (s:=s)
      unfold wordB at hy hw
      by_cases e0:s = [110,117,108,108]
      · rw [hw (by simp [e0])]
        (repeat' (first | (refine And.intro (fun h=>?_) (fun h=>?_)<;>(try simp [-List.getD_eq_getElem?_getD,-Int.pred_toNat] at h)<;>(try (exfalso; first | omega | contradiction))) | (refine And.intro (rng64 (by omega) (by omega)) ?_) | (refine And.intro ⟨by omega,by omega⟩ ?_) | (refine And.intro ⟨by omega,by omega,by omega⟩ ?_) | (intro _)))
        all_goals rfl
      by_cases e1:s = [116,114,117,101]
      · rw [hw (by simp [e1])]
        (repeat' (first | (refine And.intro (fun h=>?_) (fun h=>?_)<;>(try simp [-List.getD_eq_getElem?_getD,-Int.pred_toNat] at h)<;>(try (exfalso; first | omega | contradiction))) | (refine And.intro (rng64 (by omega) (by omega)) ?_) | (refine And.intro ⟨by omega,by omega⟩ ?_) | (refine And.intro ⟨by omega,by omega,by omega⟩ ?_) | (intro _)))
        all_goals rfl
      by_cases e2:s = [102,97,108,115,101]
      · rw [hw (by simp [e2])]
        (repeat' (first | (refine And.intro (fun h=>?_) (fun h=>?_)<;>(try simp [-List.getD_eq_getElem?_getD,-Int.pred_toNat] at h)<;>(try (exfalso; first | omega | contradiction))) | (refine And.intro (rng64 (by omega) (by omega)) ?_) | (refine And.intro ⟨by omega,by omega⟩ ?_) | (refine And.intro ⟨by omega,by omega,by omega⟩ ?_) | (intro _)))
        all_goals rfl
      by_cases e3:s = [110,97,110]
      · rw [hw (by simp [e3])]
        (repeat' (first | (refine And.intro (fun h=>?_) (fun h=>?_)<;>(try simp [-List.getD_eq_getElem?_getD,-Int.pred_toNat] at h)<;>(try (exfalso; first | omega | contradiction))) | (refine And.intro (rng64 (by omega) (by omega)) ?_) | (refine And.intro ⟨by omega,by omega⟩ ?_) | (refine And.intro ⟨by omega,by omega,by omega⟩ ?_) | (intro _)))
        all_goals rfl
      by_cases e4:s = [105,110,102]
      · rw [hw (by simp [e4])]
        (repeat' (first | (refine And.intro (fun h=>?_) (fun h=>?_)<;>(try simp [-List.getD_eq_getElem?_getD,-Int.pred_toNat] at h)<;>(try (exfalso; first | omega | contradiction))) | (refine And.intro (rng64 (by omega) (by omega)) ?_) | (refine And.intro ⟨by omega,by omega⟩ ?_) | (refine And.intro ⟨by omega,by omega,by omega⟩ ?_) | (intro _)))
        all_goals rfl
      rw [hy (by simp [e0,e1,e2,e3,e4])]
      (repeat' (first | (refine And.intro (fun h=>?_) (fun h=>?_)<;>(try simp [-List.getD_eq_getElem?_getD,-Int.pred_toNat] at h)<;>(try (exfalso; first | omega | contradiction))) | (refine And.intro (rng64 (by omega) (by omega)) ?_) | (refine And.intro ⟨by omega,by omega⟩ ?_) | (refine And.intro ⟨by omega,by omega,by omega⟩ ?_) | (intro _)))
      all_goals rfl
  · rw [bare_len (fun h=>h2 h.2)]
    (repeat' (first | (refine And.intro (fun h=>?_) (fun h=>?_)<;>(try simp [-List.getD_eq_getElem?_getD,-Int.pred_toNat] at h)<;>(try (exfalso; first | omega | contradiction))) | (refine And.intro (rng64 (by omega) (by omega)) ?_) | (refine And.intro ⟨by omega,by omega⟩ ?_) | (refine And.intro ⟨by omega,by omega,by omega⟩ ?_) | (intro _)))
    rfl
theorem s_bareP (s:Str):PSpec Tryd.prog 26 [.s s] (.b (bare s)) :=
  pspec_of_vc Γ_good Tryd.func26 rfl Tryd.call26 Tryd.results26 Tryd.ntmps26 (Nat.le_of_ble_eq_true rfl) (w_bareP s)
end
end Go.Proofs.YtmfchbkdakmjhaaDoor
end
section
namespace Go.Proofs.YtmfchbkdakmjhaaDoor
set_option linter.unusedSectionVars false
set_option linter.unusedSimpArgs false
set_option linter.unusedVariables false
open Go Go.SX Go.Ut Go.Nm Go.Es
set_option maxRecDepth 100000
set_option maxHeartbeats 1000000
section
variable [G:Globs]
theorem w_isDig (s:Str) (k:Nat) (hk:k < s.length):vc Tryd.prog Γ 21 [0,1,4] (Tryd.f67.body.getD .skip) (postK Γ [.tmp 4] (fun v=>v = .b (decide (48≤(s.getD k 0).toNat∧(s.getD k 0).toNat≤57)))) ⟨argSlots 0 [.s s,.i .i64 k],[]⟩:=by
  have hg:s.getD (Int.toNat (k:Int)) 0 = s.getD k 0:=by rw [Int.toNat_natCast]
  rw [← hg]
  intro _
  refine And.intro (fun _=>?_) (fun h=>absurd (of_decide_eq_false h) (by omega))
  refine And.intro ⟨by omega,by omega⟩ ?_
  generalize hc:s.getD (Int.toNat (k:Int)) 0 = c
  refine And.intro (fun h=>?_) (fun h=>?_)
  · have h:(48:Int)≤(c.toNat:Int):=of_decide_eq_true h
    refine And.intro ⟨by omega,by omega⟩ ?_
    rw [hc]
    refine congrArg AV.b ?_
    rw [Bool.eq_iff_iff]
    simp only [cond_true,cond_false,decide_eq_true_eq]
    omega
  · have h:¬ (48:Int)≤(c.toNat:Int):=of_decide_eq_false h
    refine congrArg AV.b ?_
    rw [Bool.eq_iff_iff]
    simp only [cond_true,cond_false,decide_eq_true_eq,Bool.false_eq_true]
    exact ⟨False.elim,fun h9=>h (by omega)⟩
theorem s_isDig (s:Str) (k:Nat) (hk:k < s.length):PSpec Tryd.prog 67 [.s s,.i .i64 k] (.b (decide (48≤(s.getD k 0).toNat∧(s.getD k 0).toNat≤57))) :=
  pspec_of_vc Γ_good Tryd.func67 rfl Tryd.call67 Tryd.results67 Tryd.ntmps67 (Nat.le_of_ble_eq_true rfl) (w_isDig s k hk)
theorem w_bareR (s:Str):vc Tryd.prog Γ 62 [0,2,3,31,35,47,61] (Tryd.f27.body.getD .skip) (postK Γ [.tmp 2] (fun v=>v = .b (bare s))) ⟨argSlots 0 [.s s],[]⟩:=by
  have hw:=bare_word (s:=s)
  unfold wordB at hw
  by_cases h1:1≤s.length∧s.length≤100
  rotate_left
  · rw [bare_len h1]
    by_cases h2:1≤s.length
    · (repeat' (first | (refine And.intro (fun h=>?_) (fun h=>?_)<;>(try simp [-List.getD_eq_getElem?_getD,-Int.pred_toNat] at h)<;>(try (exfalso; first | omega | contradiction))) | (refine And.intro (rng64 (by omega) (by omega)) ?_) | (refine And.intro ⟨by omega,by omega⟩ ?_) | (refine And.intro ⟨by omega,by omega,by omega⟩ ?_) | (intro _)))
      all_goals rfl
    · (repeat' (first | (refine And.intro (fun h=>?_) (fun h=>?_)<;>(try simp [-List.getD_eq_getElem?_getD,-Int.pred_toNat] at h)<;>(try (exfalso; first | omega | contradiction))) | (refine And.intro (rng64 (by omega) (by omega)) ?_) | (refine And.intro ⟨by omega,by omega⟩ ?_) | (refine And.intro ⟨by omega,by omega,by omega⟩ ?_) | (intro _)))
      all_goals rfl
  by_cases e0:s = [110,117,108,108]
  · rw [hw (by simp [e0])]; (repeat' (first | (refine And.intro (fun h=>?_) (fun h=>?_)<;>(try simp [-List.getD_eq_getElem?_getD,-Int.pred_toNat] at h)<;>(try (exfalso; first | omega | contradiction))) | (refine And.intro (rng64 (by omega) (by omega)) ?_) | (refine And.intro ⟨by omega,by omega⟩ ?_) | (refine And.intro ⟨by omega,by omega,by omega⟩ ?_) | (intro _))); all_goals rfl
  by_cases e1:s = [116,114,117,101]
  · rw [hw (by simp [e1])]; (repeat' (first | (refine And.intro (fun h=>?_) (fun h=>?_)<;>(try simp [-List.getD_eq_getElem?_getD,-Int.pred_toNat] at h)<;>(try (exfalso; first | omega | contradiction))) | (refine And.intro (rng64 (by omega) (by omega)) ?_) | (refine And.intro ⟨by omega,by omega⟩ ?_) | (refine And.intro ⟨by omega,by omega,by omega⟩ ?_) | (intro _))); all_goals rfl
  by_cases e2:s = [102,97,108,115,101]
  · rw [hw (by simp [e2])]; (repeat' (first | (refine And.intro (fun h=>?_) (fun h=>?_)<;>(try simp [-List.getD_eq_getElem?_getD,-Int.pred_toNat] at h)<;>(try (exfalso; first | omega | contradiction))) | (refine And.intro (rng64 (by omega) (by omega)) ?_) | (refine And.intro ⟨by omega,by omega⟩ ?_) | (refine And.intro ⟨by omega,by omega,by omega⟩ ?_) | (intro _))); all_goals rfl
  by_cases e3:s = [110,97,110]
  · rw [hw (by simp [e3])]; (repeat' (first | (refine And.intro (fun h=>?_) (fun h=>?_)<;>(try simp [-List.getD_eq_getElem?_getD,-Int.pred_toNat] at h)<;>(try (exfalso; first | omega | contradiction))) | (refine And.intro (rng64 (by omega) (by omega)) ?_) | (refine And.intro ⟨by omega,by omega⟩ ?_) | (refine And.intro ⟨by omega,by omega,by omega⟩ ?_) | (intro _))); all_goals rfl
  by_cases e4:s = [105,110,102]
  · rw [hw (by simp [e4])]; (repeat' (first | (refine And.intro (fun h=>?_) (fun h=>?_)<;>(try simp [-List.getD_eq_getElem?_getD,-Int.pred_toNat] at h)<;>(try (exfalso; first | omega | contradiction))) | (refine And.intro (rng64 (by omega) (by omega)) ?_) | (refine And.intro ⟨by omega,by omega⟩ ?_) | (refine And.intro ⟨by omega,by omega,by omega⟩ ?_) | (intro _))); all_goals rfl
  (repeat' (first | (refine And.intro (fun h=>?_) (fun h=>?_)<;>(try simp [-List.getD_eq_getElem?_getD,-Int.pred_toNat] at h)<;>(try (exfalso; first | omega | contradiction))) | (refine And.intro (rng64 (by omega) (by omega)) ?_) | (refine And.intro ⟨by omega,by omega⟩ ?_) | (refine And.intro ⟨by omega,by omega,by omega⟩ ?_) | (intro _)))
  refine Exists.intro [] (Exists.intro [] (Exists.intro [] (Exists.intro Nat (Exists.intro (fun k=>k≤s.length∧keyUp s k) (Exists.intro (fun k=>⟨[(0,.s s),(3,.i .i64 k)],[]⟩) (Exists.intro (fun k=>s.length - k) (Exists.intro 0 (And.intro ⟨Nat.zero_le _,keyUp_zero s⟩ (And.intro ?_ ?_)))))))))
  · (repeat' (first | exact trivial | exact Or.inl rfl | exact Or.inr (Or.inl ⟨rfl,_,rfl⟩) | exact Or.inr (Or.inr (Or.inr ⟨_,_,_,rfl,rfl⟩)) | refine And.intro ?_ ?_))
  rintro k ⟨hk0,hu⟩
  intro _
  refine And.intro (fun h=>?_) (fun h=>?_)
  · have hk:k < s.length:=by have:(k:Int) < s.length:=of_decide_eq_true h; omega
    refine And.intro ⟨by omega,by omega⟩ ?_
    have hg:s.getD (Int.toNat (k:Int)) 0 = s.getD k 0:=by rw [Int.toNat_natCast]
    have hyes:=fun h=>keyUp_succ (s:=s) (k:=k) hu ((keyC_iff _ _).2 h)
    have hno:=fun h=>bare_no (s:=s) (k:=k) hk (keyC_no h)
    have hD:=s_isDig s k hk
    have hcl:=(s.getD k 0).toNat_lt
    refine Or.inl (Exists.intro _ (And.intro (s_letter ((s.getD (Int.toNat (k:Int)) 0).toNat:Int)) ?_))
    by_cases hL:lett ((s.getD k 0).toNat:Int)
    · have hyes:=hyes (by unfold lett at hL; unfold keyP; omega)
      (repeat' (first | (refine And.intro (fun h=>?_) (fun h=>?_)<;>(try simp [-List.getD_eq_getElem?_getD,-Int.pred_toNat] at h)<;>(try (exfalso; first | omega | contradiction))) | (refine And.intro (rng64 (by omega) (by omega)) ?_) | (refine And.intro ⟨by omega,by omega⟩ ?_) | (refine And.intro ⟨by omega,by omega,by omega⟩ ?_) | (intro _)))
      refine Exists.intro [] (Exists.intro (k + 1) (And.intro ⟨hk,hyes⟩ (And.intro ?_ ?_)))
      · (repeat' (first | exact trivial | exact Or.inl rfl | exact Or.inr (Or.inl ⟨rfl,_,rfl⟩) | exact Or.inr (Or.inr (Or.inr ⟨_,_,_,rfl,rfl⟩)) | refine And.intro ?_ ?_))
      · (exact Nat.sub_lt_sub_left (by omega) (by omega))
    by_cases h95:(s.getD k 0).toNat = 95
    · have hyes:=hyes (by unfold keyP; omega)
      (repeat' (first | (refine And.intro (fun h=>?_) (fun h=>?_)<;>(try simp [-List.getD_eq_getElem?_getD,-Int.pred_toNat] at h)<;>(try (exfalso; first | omega | contradiction))) | (refine And.intro (rng64 (by omega) (by omega)) ?_) | (refine And.intro ⟨by omega,by omega⟩ ?_) | (refine And.intro ⟨by omega,by omega,by omega⟩ ?_) | (intro _)))
      refine Exists.intro [] (Exists.intro (k + 1) (And.intro ⟨hk,hyes⟩ (And.intro ?_ ?_)))
      · (repeat' (first | exact trivial | exact Or.inl rfl | exact Or.inr (Or.inl ⟨rfl,_,rfl⟩) | exact Or.inr (Or.inr (Or.inr ⟨_,_,_,rfl,rfl⟩)) | refine And.intro ?_ ?_))
      · (exact Nat.sub_lt_sub_left (by omega) (by omega))
    by_cases hk0:k = 0
    · rw [hno (by unfold lett at hL; unfold keyP; omega)]
      (repeat' (first | (refine And.intro (fun h=>?_) (fun h=>?_)<;>(try simp [-List.getD_eq_getElem?_getD,-Int.pred_toNat] at h)<;>(try (exfalso; first | omega | contradiction))) | (refine And.intro (rng64 (by omega) (by omega)) ?_) | (refine And.intro ⟨by omega,by omega⟩ ?_) | (refine And.intro ⟨by omega,by omega,by omega⟩ ?_) | (intro _)))
      all_goals rfl
    by_cases h45:(s.getD k 0).toNat = 45
    · have hyes:=hyes (by unfold keyP; omega)
      have hq:(((s.getD k 0).toNat:Int) != 45) = false:=by rw [h45]; rfl
      (repeat' (first | (refine And.intro (fun h=>?_) (fun h=>?_)<;>(try simp [-List.getD_eq_getElem?_getD,-Int.pred_toNat] at h)<;>(try (exfalso; first | omega | contradiction))) | (refine And.intro (rng64 (by omega) (by omega)) ?_) | (refine And.intro ⟨by omega,by omega⟩ ?_) | (refine And.intro ⟨by omega,by omega,by omega⟩ ?_) | (intro _)))
      all_goals first
        | (exfalso; simp_all; done)
        | skip
      refine Exists.intro [] (Exists.intro (k + 1) (And.intro ⟨hk,hyes⟩ (And.intro ?_ ?_)))
      · (repeat' (first | exact trivial | exact Or.inl rfl | exact Or.inr (Or.inl ⟨rfl,_,rfl⟩) | exact Or.inr (Or.inr (Or.inr ⟨_,_,_,rfl,rfl⟩)) | refine And.intro ?_ ?_))
      · (exact Nat.sub_lt_sub_left (by omega) (by omega))
    by_cases hd:48≤(s.getD k 0).toNat∧(s.getD k 0).toNat≤57
    · have hyes:=hyes (by unfold keyP; omega)
      rw [decide_eq_true hd] at hD
      (repeat' (first | (refine And.intro (fun h=>?_) (fun h=>?_)<;>(try simp [-List.getD_eq_getElem?_getD,-Int.pred_toNat] at h)<;>(try (exfalso; first | omega | contradiction))) | (refine And.intro (rng64 (by omega) (by omega)) ?_) | (refine And.intro ⟨by omega,by omega⟩ ?_) | (refine And.intro ⟨by omega,by omega,by omega⟩ ?_) | (intro _)))
      refine Or.inl (Exists.intro _ (And.intro (hD) ?_))
      (repeat' (first | (refine And.intro (fun h=>?_) (fun h=>?_)<;>(try simp [-List.getD_eq_getElem?_getD,-Int.pred_toNat] at h)<;>(try (exfalso; first | omega | contradiction))) | (refine And.intro (rng64 (by omega) (by omega)) ?_) | (refine And.intro ⟨by omega,by omega⟩ ?_) | (refine And.intro ⟨by omega,by omega,by omega⟩ ?_) | (intro _)))
      refine Exists.intro [] (Exists.intro (k + 1) (And.intro ⟨hk,hyes⟩ (And.intro ?_ ?_)))
      · (repeat' (first | exact trivial | exact Or.inl rfl | exact Or.inr (Or.inl ⟨rfl,_,rfl⟩) | exact Or.inr (Or.inr (Or.inr ⟨_,_,_,rfl,rfl⟩)) | refine And.intro ?_ ?_))
      · (exact Nat.sub_lt_sub_left (by omega) (by omega))
    · rw [hno (by unfold lett at hL; unfold keyP; omega)]
      rw [decide_eq_false hd] at hD
      (repeat' (first | (refine And.intro (fun h=>?_) (fun h=>?_)<;>(try simp [-List.getD_eq_getElem?_getD,-Int.pred_toNat] at h)<;>(try (exfalso; first | omega | contradiction))) | (refine And.intro (rng64 (by omega) (by omega)) ?_) | (refine And.intro ⟨by omega,by omega⟩ ?_) | (refine And.intro ⟨by omega,by omega,by omega⟩ ?_) | (intro _)))
      refine Or.inl (Exists.intro _ (And.intro (hD) ?_))
      (repeat' (first | (refine And.intro (fun h=>?_) (fun h=>?_)<;>(try simp [-List.getD_eq_getElem?_getD,-Int.pred_toNat] at h)<;>(try (exfalso; first | omega | contradiction))) | (refine And.intro (rng64 (by omega) (by omega)) ?_) | (refine And.intro ⟨by omega,by omega⟩ ?_) | (refine And.intro ⟨by omega,by omega,by omega⟩ ?_) | (intro _)))
      all_goals rfl
  · have hk:k = s.length:=by have:¬ (k:Int) < s.length:=of_decide_eq_false h; omega
    subst hk
    rw [bare_yes h1 hu (by unfold wordB; simp [e0,e1,e2,e3,e4])]
    rfl
theorem s_bareR (s:Str):PSpec Tryd.prog 27 [.s s] (.b (bare s)) :=
  pspec_of_vc Γ_good Tryd.func27 rfl Tryd.call27 Tryd.results27 Tryd.ntmps27 (Nat.le_of_ble_eq_true rfl) (w_bareR s)
end
end Go.Proofs.YtmfchbkdakmjhaaDoor
end
section
namespace Go.Proofs.YtmfchbkdakmjhaaDoor
set_option linter.unusedSectionVars false
set_option linter.unusedSimpArgs false
set_option linter.unusedVariables false
open Go Go.SX Go.RowKit
set_option maxRecDepth 100000
set_option maxHeartbeats 4000000
variable [Globs]
theorem sb_WriteString (l s:Str) (hlen:l.length + s.length≤140737488355328):ObSpec Tryd.prog 55 (.sb 86 5 l) [.s s] (.x) (.sb 86 5 (l++s)):=by
  refine ⟨Tryd.call55,fun β O w id id2 v vs hne hO hid hid2 hdis hG hob hargs=>?_⟩
  obtain ⟨v1,vs',rfl,h1,h⟩:=hargs.cons_inv
  obtain rfl:=h.nil_inv
  cases h1
  obtain ⟨b,p,u,hb,rfl,hbk,hp,hbuf⟩:=hob
  obtain ⟨i0,hi,hz0,hz1,hz2⟩:=u8Info
  have hlt:b < w.heap.size:=(Array.getElem?_eq_some_iff.1 hbk).1
  go_enter Tryd.func55,Tryd.ntmps55
  go_wp2_with (go_at_call 94; refine (cc b p u _ hp hbk).mono ?_)
  rintro e w1 ⟨rfl,hb1,hs1⟩
  have c1:w1.cell? ⟨b,1,none⟩ = some u:=by rw [Lib.cell_of_heap hb1]; rfl
  have hbuf1:=buf_kept hbuf fun g hg=>hs1.block g (buf_lt hbuf hg) fun e=>hdis g hg (by rw [hb,e])
  go_wp2_with (at_builtin; refine wpList_buf rfl _ _ 84 9 rfl Tryd.underlying84 Tryd.underlying9 hi hz0 hz1 hz2 hbuf1 s rfl rfl hlen ?_)
  intro v' w2 b2 hn
  obtain ⟨hst,hblk,hob⟩:=sb_end hne hb hdis hlt hs1 hb1 (.inr rfl) hn
  have hb2:w2.heap[b]? = some (.cells #[.pointer (some ⟨b,0,none⟩),u] 86 (0,0)):=by
    rw [hn.stp.block b (Nat.lt_of_lt_of_le hlt hs1.size) fun e=>hdis b e hb]
    exact hb1
  have d1:w2.cell? ⟨b,1,none⟩ = some u:=by rw [Lib.cell_of_heap hb2]; rfl
  have f1:w2.frozen? ⟨b,1,none⟩ = false:=Lib.frozen_of_heap hb2 1
  obtain ⟨ao,n',cap,rfl⟩:=hn.sl
  go_wp2
  go_ret2
  exact ⟨_,b2,rfl,hst,hblk,.x _,fun O' _=>hob O' fun _ _ _=>trivial⟩
end Go.Proofs.YtmfchbkdakmjhaaDoor
end
section
namespace Go.Proofs.YtmfchbkdakmjhaaDoor
set_option linter.unusedSectionVars false
set_option linter.unusedSimpArgs false
set_option linter.unusedVariables false
open Go Go.SX Go.Ut Go.Nm Go.Es
set_option maxRecDepth 100000
set_option maxHeartbeats 1000000
section
variable [G:Globs]
theorem w_fmt0 (ht:HasNum) (n:Int) (b k:Nat) (hb:b = 2 ^ k) (hk:k = 1∨k = 3∨k = 4) (hc:Lib.ctz 64 b = k) (h0 : -9223372036854775808≤n) (h1:n≤9223372036854775807):vc Tryd.prog Γ 54 [0,1,4,5,6,7,9,11,17,23,34] (Tryd.f96.body.getD .skip) (postK Γ [.tmp 4] (fun v=>v = .s (txtB n b))) ⟨argSlots 0 [.i .i64 n,.i .i64 (b:Int)],[]⟩:=by
  have hbv:(b = 2∧k = 1)∨(b = 8∧k = 3)∨(b = 16∧k = 4):=by
    rcases hk with rfl | rfl | rfl
    · exact .inl ⟨hb,rfl⟩
    · exact .inr (.inl ⟨hb,rfl⟩)
    · exact .inr (.inr ⟨hb,rfl⟩)
  have hF:=s_fbits ht n b k hb hk hc h0 h1
  (repeat' (first | (refine And.intro (fun h=>?_) (fun h=>?_)<;>(try simp [-List.getD_eq_getElem?_getD,-Int.pred_toNat] at h)<;>(try (exfalso; first | omega | contradiction))) | (refine And.intro (rng64 (by omega) (by omega)) ?_) | (refine And.intro ⟨by omega,by omega⟩ ?_) | (refine And.intro ⟨by omega,by omega,by omega⟩ ?_) | (intro _)))
  refine Or.inl (Exists.intro _ (And.intro (hF) ?_))
  rfl
theorem s_fmt0 (ht:HasNum) (n:Int) (b k:Nat) (hb:b = 2 ^ k) (hk:k = 1∨k = 3∨k = 4) (hc:Lib.ctz 64 b = k) (h0 : -9223372036854775808≤n) (h1:n≤9223372036854775807):PSpec Tryd.prog 96 [.i .i64 n,.i .i64 (b:Int)] (.s (txtB n b)) :=
  pspec_of_vc Γ_good Tryd.func96 rfl Tryd.call96 Tryd.results96 Tryd.ntmps96 (Nat.le_of_ble_eq_true rfl) (w_fmt0 ht n b k hb hk hc h0 h1)
theorem w_fmtB (ht:HasNum) (n:Int) (b k:Nat) (hb:b = 2 ^ k) (hk:k = 1∨k = 3∨k = 4) (hc:Lib.ctz 64 b = k) (h0 : -9223372036854775808≤n) (h1:n≤9223372036854775807):vc Tryd.prog Γ 8 [0,1,4] (Tryd.f56.body.getD .skip) (postK Γ [.tmp 4] (fun v=>v = .s (txtB n b))) ⟨argSlots 0 [.i .i64 n,.i .i64 (b:Int)],[]⟩:=by
  refine Or.inl (Exists.intro _ (And.intro (s_fmt0 ht n b k hb hk hc h0 h1) ?_))
  rfl
theorem s_fmtB (ht:HasNum) (n:Int) (b k:Nat) (hb:b = 2 ^ k) (hk:k = 1∨k = 3∨k = 4) (hc:Lib.ctz 64 b = k) (h0 : -9223372036854775808≤n) (h1:n≤9223372036854775807):PSpec Tryd.prog 56 [.i .i64 n,.i .i64 (b:Int)] (.s (txtB n b)) :=
  pspec_of_vc Γ_good Tryd.func56 rfl Tryd.call56 Tryd.results56 Tryd.ntmps56 (Nat.le_of_ble_eq_true rfl) (w_fmtB ht n b k hb hk hc h0 h1)
theorem w_quoteP (ht:HasNum) (hu:HasU8) (s:Str) (hs:s.length≤1048576):vc Tryd.prog Γ 55 [0,2,3,4,6,9,12,13,14,18,28,32,36,40] (Tryd.f19.body.getD .skip) (postK Γ [.tmp 2,.tmp 3] (fun v=>v = if 0≤bad s then .tup [.s [],.i .i64 3] else .tup [.s (qAll s),.i .i64 0])) ⟨argSlots 0 [.s s],[]⟩:=by
  refine Or.inl (Exists.intro _ (And.intro (s_Bad hu s) ?_))
  refine And.intro (fun h=>?_) (fun h=>?_)
  · have h:0≤bad s:=of_decide_eq_true h
    rw [if_pos h]
    rfl
  have h:¬ 0≤bad s:=of_decide_eq_false h
  rw [if_neg h]
  refine Exists.intro 100 (And.intro rfl ?_)
  refine Exists.intro _ (Exists.intro _ (And.intro (sb_WriteByte [] 34 (by decide)) ?_))
  refine Exists.intro [] (Exists.intro [] (Exists.intro [] (Exists.intro (Str × Nat) (Exists.intro (fun x=>x.2≤s.length∧x.1++qFrom s x.2++[34] = qAll s∧x.1.length≤1 + 6 * x.2) (Exists.intro (fun ⟨o,i⟩=>⟨[(4,.ob 4 100 (.sb 86 5 o)),(12,.ob 12 12 (.it s i))],[]⟩) (Exists.intro (fun x=>s.length - x.2) (Exists.intro ([34],0) (And.intro ⟨Nat.zero_le _,rfl,Nat.le_refl _⟩ (And.intro ?_ ?_)))))))))
  · (repeat' (first | exact trivial | exact Or.inl rfl | exact Or.inr (Or.inl ⟨rfl,_,rfl⟩) | exact Or.inr (Or.inr (Or.inr ⟨_,_,_,rfl,rfl⟩)) | refine And.intro ?_ ?_))
  rintro ⟨o,i⟩ ⟨hi,heq,hol⟩
  simp only at hi heq hol
  refine And.intro (fun hk=>?_) (fun hk=>?_)
  · rw [qFrom_step hk,← List.append_assoc] at heq
    have hp:=dec_pos s i
    have hle:=dec_le hk
    have hd:=dec_rune s i
    have hsc:=dec_scalar s i
    have h0:(0:Int)≤((decAt s i).1:Int):=by omega
    have h6:=q1_le h0
    have hlen:(o++q1 ((decAt s i).1:Int)).length≤1 + 6 * (i + (decAt s i).2):=by rw [List.length_append]; omega
    have hE:=encode_scalar hsc
    have hqq:q1 ((decAt s i).1:Int) = q1 ((decAt s i).1:Int):=rfl
    conv at hqq=>rhs; unfold q1
    generalize hr:((decAt s i).1:Int) = r at *
    (focus (refine And.intro ?_ (fun h9=>?_); rotate_left 1; (focus (exfalso; revert h9; first | decide | (simp<;>omega) | (intro h9; simp at h9<;>omega))); refine fun _=>?_))
    have hN:(o++q1 r).length≤100000000:=by omega
    by_cases c1:r = 34
    · (repeat' (first | (refine And.intro (fun h=>?_) (fun h=>?_)<;>(try simp [-List.getD_eq_getElem?_getD,-Int.pred_toNat] at h)<;>(try (exfalso; first | omega | contradiction))) | (refine And.intro (rng64 (by omega) (by omega)) ?_) | (refine And.intro ⟨by omega,by omega⟩ ?_) | (refine And.intro ⟨by omega,by omega,by omega⟩ ?_) | (intro _)))
      refine Exists.intro _ (Exists.intro _ (And.intro (sb_WriteByte o 92 (by omega)) ?_))
      refine Exists.intro _ (Exists.intro _ (And.intro (sb_WriteRune (o++[92]) (r:=r) (by omega) (by omega) (by rw [List.length_append,List.length_cons,List.length_nil]; omega)) ?_))
      rw [show (o++[92])++Lib.encodeRune r = o++q1 r by rw [hE,hqq,if_pos c1,c1,List.append_assoc]; rfl]
      refine Exists.intro [] (Exists.intro (o++q1 r,i + (decAt s i).2) (And.intro ⟨hle,heq,hlen⟩ (And.intro ?_ ?_)))
      · (repeat' (first | exact trivial | exact Or.inl rfl | exact Or.inr (Or.inl ⟨rfl,_,rfl⟩) | exact Or.inr (Or.inr (Or.inr ⟨_,_,_,rfl,rfl⟩)) | refine And.intro ?_ ?_))
      · (exact Nat.sub_lt_sub_left (by omega) (by omega))
    rw [if_neg c1] at hqq
    by_cases c2:r = 92
    · (repeat' (first | (refine And.intro (fun h=>?_) (fun h=>?_)<;>(try simp [-List.getD_eq_getElem?_getD,-Int.pred_toNat] at h)<;>(try (exfalso; first | omega | contradiction))) | (refine And.intro (rng64 (by omega) (by omega)) ?_) | (refine And.intro ⟨by omega,by omega⟩ ?_) | (refine And.intro ⟨by omega,by omega,by omega⟩ ?_) | (intro _)))
      refine Exists.intro _ (Exists.intro _ (And.intro (sb_WriteByte o 92 (by omega)) ?_))
      refine Exists.intro _ (Exists.intro _ (And.intro (sb_WriteRune (o++[92]) (r:=r) (by omega) (by omega) (by rw [List.length_append,List.length_cons,List.length_nil]; omega)) ?_))
      rw [show (o++[92])++Lib.encodeRune r = o++q1 r by rw [hE,hqq,if_pos c2,c2,List.append_assoc]; rfl]
      refine Exists.intro [] (Exists.intro (o++q1 r,i + (decAt s i).2) (And.intro ⟨hle,heq,hlen⟩ (And.intro ?_ ?_)))
      · (repeat' (first | exact trivial | exact Or.inl rfl | exact Or.inr (Or.inl ⟨rfl,_,rfl⟩) | exact Or.inr (Or.inr (Or.inr ⟨_,_,_,rfl,rfl⟩)) | refine And.intro ?_ ?_))
      · (exact Nat.sub_lt_sub_left (by omega) (by omega))
    rw [if_neg c2] at hqq
    by_cases c3:r = 10
    · (repeat' (first | (refine And.intro (fun h=>?_) (fun h=>?_)<;>(try simp [-List.getD_eq_getElem?_getD,-Int.pred_toNat] at h)<;>(try (exfalso; first | omega | contradiction))) | (refine And.intro (rng64 (by omega) (by omega)) ?_) | (refine And.intro ⟨by omega,by omega⟩ ?_) | (refine And.intro ⟨by omega,by omega,by omega⟩ ?_) | (intro _)))
      refine Exists.intro _ (Exists.intro _ (And.intro (sb_WriteString o [92,110] (by show o.length + 2≤_; omega)) ?_))
      rw [show o++[92,110] = o++q1 r by rw [hqq,if_pos c3]]
      refine Exists.intro [] (Exists.intro (o++q1 r,i + (decAt s i).2) (And.intro ⟨hle,heq,hlen⟩ (And.intro ?_ ?_)))
      · (repeat' (first | exact trivial | exact Or.inl rfl | exact Or.inr (Or.inl ⟨rfl,_,rfl⟩) | exact Or.inr (Or.inr (Or.inr ⟨_,_,_,rfl,rfl⟩)) | refine And.intro ?_ ?_))
      · (exact Nat.sub_lt_sub_left (by omega) (by omega))
    rw [if_neg c3] at hqq
    by_cases c4:r = 9
    · (repeat' (first | (refine And.intro (fun h=>?_) (fun h=>?_)<;>(try simp [-List.getD_eq_getElem?_getD,-Int.pred_toNat] at h)<;>(try (exfalso; first | omega | contradiction))) | (refine And.intro (rng64 (by omega) (by omega)) ?_) | (refine And.intro ⟨by omega,by omega⟩ ?_) | (refine And.intro ⟨by omega,by omega,by omega⟩ ?_) | (intro _)))
      refine Exists.intro _ (Exists.intro _ (And.intro (sb_WriteString o [92,116] (by show o.length + 2≤_; omega)) ?_))
      rw [show o++[92,116] = o++q1 r by rw [hqq,if_pos c4]]
      refine Exists.intro [] (Exists.intro (o++q1 r,i + (decAt s i).2) (And.intro ⟨hle,heq,hlen⟩ (And.intro ?_ ?_)))
      · (repeat' (first | exact trivial | exact Or.inl rfl | exact Or.inr (Or.inl ⟨rfl,_,rfl⟩) | exact Or.inr (Or.inr (Or.inr ⟨_,_,_,rfl,rfl⟩)) | refine And.intro ?_ ?_))
      · (exact Nat.sub_lt_sub_left (by omega) (by omega))
    rw [if_neg c4] at hqq
    by_cases c5:r = 13
    · (repeat' (first | (refine And.intro (fun h=>?_) (fun h=>?_)<;>(try simp [-List.getD_eq_getElem?_getD,-Int.pred_toNat] at h)<;>(try (exfalso; first | omega | contradiction))) | (refine And.intro (rng64 (by omega) (by omega)) ?_) | (refine And.intro ⟨by omega,by omega⟩ ?_) | (refine And.intro ⟨by omega,by omega,by omega⟩ ?_) | (intro _)))
      refine Exists.intro _ (Exists.intro _ (And.intro (sb_WriteString o [92,114] (by show o.length + 2≤_; omega)) ?_))
      rw [show o++[92,114] = o++q1 r by rw [hqq,if_pos c5]]
      refine Exists.intro [] (Exists.intro (o++q1 r,i + (decAt s i).2) (And.intro ⟨hle,heq,hlen⟩ (And.intro ?_ ?_)))
      · (repeat' (first | exact trivial | exact Or.inl rfl | exact Or.inr (Or.inl ⟨rfl,_,rfl⟩) | exact Or.inr (Or.inr (Or.inr ⟨_,_,_,rfl,rfl⟩)) | refine And.intro ?_ ?_))
      · (exact Nat.sub_lt_sub_left (by omega) (by omega))
    rw [if_neg c5] at hqq
    by_cases c6:r < 32∨r = 127
    · rw [if_pos c6] at hqq
      have hF:=s_fmtB ht r 16 4 rfl (.inr (.inr rfl)) rfl (by omega) (by omega)
      have hT:txtB r 16 = txtN 16 r.toNat:=by unfold txtB; rw [if_neg (by omega),show r.natAbs = r.toNat by omega]; rfl
      have hT2:=hexT_le h0 c6
      rw [hT] at hF
      have hw:IntKind.i64.wrap r = r:=by rw [IntKind.wrap_i64]; omega
      have hF:PSpec Tryd.prog 56 [.i .i64 (IntKind.i64.wrap r),.i .i64 16] (.s (txtN 16 r.toNat)):=by rw [hw]; exact hF
      have hm:maxLen = 1152921504606846976∨1000000≤maxLen:=.inr (by decide)
      have hmm:1000000≤maxLen:=by decide
      rcases c6 with c6 | c6
      all_goals
        (repeat' (first | (refine And.intro (fun h=>?_) (fun h=>?_)<;>(try simp [-List.getD_eq_getElem?_getD,-Int.pred_toNat] at h)<;>(try (exfalso; first | omega | contradiction))) | (refine And.intro (rng64 (by omega) (by omega)) ?_) | (refine And.intro ⟨by omega,by omega⟩ ?_) | (refine And.intro ⟨by omega,by omega,by omega⟩ ?_) | (intro _)))
        refine Or.inl (Exists.intro _ (And.intro (hF) ?_))
        refine And.intro (by show 3 + (txtN 16 r.toNat).length≤maxLen; omega) ?_
        refine And.intro (by rw [List.length_append]; show 3 + (txtN 16 r.toNat).length + 1≤maxLen; omega) ?_
        refine Exists.intro _ (Exists.intro _ (And.intro (sb_WriteString o ([92,117,123]++txtN 16 r.toNat++[125]) (by rw [List.length_append,List.length_append]; show o.length + (3 + (txtN 16 r.toNat).length + 1)≤_; omega)) ?_))
        rw [← hqq]
        refine Exists.intro [] (Exists.intro (o++q1 r,i + (decAt s i).2) (And.intro ⟨hle,heq,hlen⟩ (And.intro ?_ ?_)))
        · (repeat' (first | exact trivial | exact Or.inl rfl | exact Or.inr (Or.inl ⟨rfl,_,rfl⟩) | exact Or.inr (Or.inr (Or.inr ⟨_,_,_,rfl,rfl⟩)) | refine And.intro ?_ ?_))
        · (exact Nat.sub_lt_sub_left (by omega) (by omega))
    rw [if_neg c6] at hqq
    (repeat' (first | (refine And.intro (fun h=>?_) (fun h=>?_)<;>(try simp [-List.getD_eq_getElem?_getD,-Int.pred_toNat] at h)<;>(try (exfalso; first | omega | contradiction))) | (refine And.intro (rng64 (by omega) (by omega)) ?_) | (refine And.intro ⟨by omega,by omega⟩ ?_) | (refine And.intro ⟨by omega,by omega,by omega⟩ ?_) | (intro _)))
    refine Exists.intro _ (Exists.intro _ (And.intro (sb_WriteRune o (r:=r) (by omega) (by omega) (by omega)) ?_))
    rw [show o++Lib.encodeRune r = o++q1 r by rw [hE,hqq]]
    refine Exists.intro [] (Exists.intro (o++q1 r,i + (decAt s i).2) (And.intro ⟨hle,heq,hlen⟩ (And.intro ?_ ?_)))
    · (repeat' (first | exact trivial | exact Or.inl rfl | exact Or.inr (Or.inl ⟨rfl,_,rfl⟩) | exact Or.inr (Or.inr (Or.inr ⟨_,_,_,rfl,rfl⟩)) | refine And.intro ?_ ?_))
    · (exact Nat.sub_lt_sub_left (by omega) (by omega))
  · rw [qFrom_end (by omega),List.append_nil] at heq
    (focus (refine And.intro (fun h9=>?_) ?_; (focus (exfalso; revert h9; first | decide | (simp<;>omega) | (intro h9; simp at h9<;>omega))); refine fun _=>?_))
    refine Exists.intro _ (Exists.intro _ (And.intro (sb_WriteByte o 34 (by omega)) ?_))
    refine Exists.intro _ (Exists.intro _ (And.intro (sb_String (o++[34])) ?_))
    rw [heq]
    rfl
theorem s_quoteP (ht:HasNum) (hu:HasU8) (s:Str) (hs:s.length≤1048576):PSpec Tryd.prog 19 [.s s] (if 0≤bad s then .tup [.s [],.i .i64 3] else .tup [.s (qAll s),.i .i64 0]) :=
  pspec_of_vc Γ_good Tryd.func19 rfl Tryd.call19 Tryd.results19 Tryd.ntmps19 (Nat.le_of_ble_eq_true rfl) (w_quoteP ht hu s hs)
end
end Go.Proofs.YtmfchbkdakmjhaaDoor
end
section
namespace Go.Proofs.YtmfchbkdakmjhaaDoor
set_option linter.unusedSectionVars false
set_option linter.unusedSimpArgs false
set_option linter.unusedVariables false
open Go Go.SX Go.Ut Go.Nm Go.Es
set_option maxRecDepth 100000
set_option maxHeartbeats 1000000
section
variable [G:Globs]
theorem runesF_len (s:Str):∀ (f i:Nat),(runesF s f i).length≤f
  | 0,_=>by rw [runesF]; exact Nat.le_refl _
  | f + 1,i=>by
    rw [runesF]
    split
    · exact Nat.succ_le_succ (runesF_len s f _)
    · exact Nat.zero_le _
theorem qL_take {l:List Int} {k:Nat} (h:k < l.length):qL (l.take (k + 1)) = qL (l.take k)++q1 l[k]:=by
  unfold qL
  rw [List.take_succ_eq_append_getElem h,List.flatMap_append]
  simp
theorem w_quotedR (s:Str) (hs:s.length≤1048576) (hb:bad s < 0):vc Tryd.prog Γ 74 [0,2,3,5,7,8,9,10,18,23,28,33,38,43,54,66] (Tryd.f22.body.getD .skip) (postK Γ [.tmp 2] (fun v=>v = .s (qAll s))) ⟨argSlots 0 [.s s],[]⟩:=by
  refine Or.inl (Exists.intro _ (And.intro (s_Scalars s hs hb) ?_))
  have hq:qAll s = [34]++qL (runes s)++[34]:=rfl
  rw [hq]
  have hsc:=runes_scalar s
  have hll:(runes s).length≤s.length:=by rw [runes_from0]; exact runesF_len s _ _
  generalize runes s = l at *
  intro _
  refine Exists.intro [] (Exists.intro [] (Exists.intro [] (Exists.intro Nat (Exists.intro (fun k=>k≤l.length∧(qL (l.take k)).length≤6 * k) (Exists.intro (fun k=>⟨[(3,.s ([34]++qL (l.take k))),(7,.rd .rune l),(8,.i .i64 l.length),(9,.i .i64 k)],[]⟩) (Exists.intro (fun k=>l.length - k) (Exists.intro 0 (And.intro ⟨Nat.zero_le _,Nat.le_refl _⟩ (And.intro ?_ ?_)))))))))
  · (repeat' (first | exact trivial | exact Or.inl rfl | exact Or.inr (Or.inl ⟨rfl,_,rfl⟩) | exact Or.inr (Or.inr (Or.inr ⟨_,_,_,rfl,rfl⟩)) | refine And.intro ?_ ?_))
  rintro k ⟨hk0,hol⟩
  refine And.intro (fun h=>?_) (fun h=>?_)
  · have hk:k < l.length:=by have:(k:Int) < l.length:=of_decide_eq_true h; omega
    refine And.intro ⟨by omega,by omega⟩ ?_
    have hg:l.getD (Int.toNat k) 0 = l[k]:=by rw [Int.toNat_natCast,List.getD_eq_getElem?_getD,List.getElem?_eq_getElem hk]; rfl
    rw [hg]
    have hs1:=hsc l[k] (List.getElem_mem hk)
    have hqt:=qL_take hk
    have h6:=q1_le hs1.1
    have hol2:(qL (l.take (k + 1))).length≤6 * (k + 1):=by rw [hqt,List.length_append]; omega
    have hmm:100000000≤maxLen:=by decide
    have hlk:0≤l[k]∧l[k]≤1114111:=⟨hs1.1,hs1.2.1⟩
    have hl1:([34]++qL (l.take k)).length≤10000000:=by rw [List.length_append]; show 1 + (qL (l.take k)).length≤_; omega
    have fin:∀ x:Str,q1 l[k] = x→([34]++qL (l.take k))++x = [34]++qL (l.take (k + 1)):=fun x e=>by rw [hqt,e,List.append_assoc]
    rcases q1_c hs1.1 with ⟨c,e⟩ | ⟨c,e⟩ | ⟨c,e⟩ | ⟨c,e⟩ | ⟨c,e⟩ | ⟨c,e⟩ | ⟨c,e⟩ | ⟨c,e⟩ | ⟨c,e⟩
    · (repeat' (first | (refine And.intro (fun h=>?_) (fun h=>?_)<;>(try simp [-List.getD_eq_getElem?_getD,-Int.pred_toNat] at h)<;>(try (exfalso; first | omega | contradiction))) | (refine And.intro (rng64 (by omega) (by omega)) ?_) | (refine And.intro ⟨by omega,by omega⟩ ?_) | (refine And.intro ⟨by omega,by omega,by omega⟩ ?_) | (intro _)))
      refine And.intro (by show ([34]++qL (l.take k)).length + 2≤maxLen; omega) ?_
      rw [fin _ e]
      refine And.intro ⟨by omega,by omega⟩ ?_
      refine Exists.intro [] (Exists.intro (k + 1) (And.intro ⟨hk,hol2⟩ (And.intro ?_ ?_)))
      · (repeat' (first | exact trivial | exact Or.inl rfl | exact Or.inr (Or.inl ⟨rfl,_,rfl⟩) | exact Or.inr (Or.inr (Or.inr ⟨_,_,_,rfl,rfl⟩)) | refine And.intro ?_ ?_))
      · (exact Nat.sub_lt_sub_left (by omega) (by omega))
    · (repeat' (first | (refine And.intro (fun h=>?_) (fun h=>?_)<;>(try simp [-List.getD_eq_getElem?_getD,-Int.pred_toNat] at h)<;>(try (exfalso; first | omega | contradiction))) | (refine And.intro (rng64 (by omega) (by omega)) ?_) | (refine And.intro ⟨by omega,by omega⟩ ?_) | (refine And.intro ⟨by omega,by omega,by omega⟩ ?_) | (intro _)))
      refine And.intro (by show ([34]++qL (l.take k)).length + 2≤maxLen; omega) ?_
      rw [fin _ e]
      refine And.intro ⟨by omega,by omega⟩ ?_
      refine Exists.intro [] (Exists.intro (k + 1) (And.intro ⟨hk,hol2⟩ (And.intro ?_ ?_)))
      · (repeat' (first | exact trivial | exact Or.inl rfl | exact Or.inr (Or.inl ⟨rfl,_,rfl⟩) | exact Or.inr (Or.inr (Or.inr ⟨_,_,_,rfl,rfl⟩)) | refine And.intro ?_ ?_))
      · (exact Nat.sub_lt_sub_left (by omega) (by omega))
    · (repeat' (first | (refine And.intro (fun h=>?_) (fun h=>?_)<;>(try simp [-List.getD_eq_getElem?_getD,-Int.pred_toNat] at h)<;>(try (exfalso; first | omega | contradiction))) | (refine And.intro (rng64 (by omega) (by omega)) ?_) | (refine And.intro ⟨by omega,by omega⟩ ?_) | (refine And.intro ⟨by omega,by omega,by omega⟩ ?_) | (intro _)))
      refine And.intro (by show ([34]++qL (l.take k)).length + 2≤maxLen; omega) ?_
      rw [fin _ e]
      refine And.intro ⟨by omega,by omega⟩ ?_
      refine Exists.intro [] (Exists.intro (k + 1) (And.intro ⟨hk,hol2⟩ (And.intro ?_ ?_)))
      · (repeat' (first | exact trivial | exact Or.inl rfl | exact Or.inr (Or.inl ⟨rfl,_,rfl⟩) | exact Or.inr (Or.inr (Or.inr ⟨_,_,_,rfl,rfl⟩)) | refine And.intro ?_ ?_))
      · (exact Nat.sub_lt_sub_left (by omega) (by omega))
    · (repeat' (first | (refine And.intro (fun h=>?_) (fun h=>?_)<;>(try simp [-List.getD_eq_getElem?_getD,-Int.pred_toNat] at h)<;>(try (exfalso; first | omega | contradiction))) | (refine And.intro (rng64 (by omega) (by omega)) ?_) | (refine And.intro ⟨by omega,by omega⟩ ?_) | (refine And.intro ⟨by omega,by omega,by omega⟩ ?_) | (intro _)))
      refine And.intro (by show ([34]++qL (l.take k)).length + 2≤maxLen; omega) ?_
      rw [fin _ e]
      refine And.intro ⟨by omega,by omega⟩ ?_
      refine Exists.intro [] (Exists.intro (k + 1) (And.intro ⟨hk,hol2⟩ (And.intro ?_ ?_)))
      · (repeat' (first | exact trivial | exact Or.inl rfl | exact Or.inr (Or.inl ⟨rfl,_,rfl⟩) | exact Or.inr (Or.inr (Or.inr ⟨_,_,_,rfl,rfl⟩)) | refine And.intro ?_ ?_))
      · (exact Nat.sub_lt_sub_left (by omega) (by omega))
    · (repeat' (first | (refine And.intro (fun h=>?_) (fun h=>?_)<;>(try simp [-List.getD_eq_getElem?_getD,-Int.pred_toNat] at h)<;>(try (exfalso; first | omega | contradiction))) | (refine And.intro (rng64 (by omega) (by omega)) ?_) | (refine And.intro ⟨by omega,by omega⟩ ?_) | (refine And.intro ⟨by omega,by omega,by omega⟩ ?_) | (intro _)))
      refine And.intro (by show ([34]++qL (l.take k)).length + 2≤maxLen; omega) ?_
      rw [fin _ e]
      refine And.intro ⟨by omega,by omega⟩ ?_
      refine Exists.intro [] (Exists.intro (k + 1) (And.intro ⟨hk,hol2⟩ (And.intro ?_ ?_)))
      · (repeat' (first | exact trivial | exact Or.inl rfl | exact Or.inr (Or.inl ⟨rfl,_,rfl⟩) | exact Or.inr (Or.inr (Or.inr ⟨_,_,_,rfl,rfl⟩)) | refine And.intro ?_ ?_))
      · (exact Nat.sub_lt_sub_left (by omega) (by omega))
    · (repeat' (first | (refine And.intro (fun h=>?_) (fun h=>?_)<;>(try simp [-List.getD_eq_getElem?_getD,-Int.pred_toNat] at h)<;>(try (exfalso; first | omega | contradiction))) | (refine And.intro (rng64 (by omega) (by omega)) ?_) | (refine And.intro ⟨by omega,by omega⟩ ?_) | (refine And.intro ⟨by omega,by omega,by omega⟩ ?_) | (intro _)))
      refine And.intro ⟨by omega,by omega,by show l[k] + 1≤16; omega⟩ ?_
      rw [hex_cutI hs1.1 c.1]
      refine And.intro (by show 3 + 1≤maxLen; omega) ?_
      refine And.intro (by show 4 + 1≤maxLen; omega) ?_
      refine And.intro (by show ([34]++qL (l.take k)).length + 5≤maxLen; omega) ?_
      rw [fin _ e]
      refine And.intro ⟨by omega,by omega⟩ ?_
      refine Exists.intro [] (Exists.intro (k + 1) (And.intro ⟨hk,hol2⟩ (And.intro ?_ ?_)))
      · (repeat' (first | exact trivial | exact Or.inl rfl | exact Or.inr (Or.inl ⟨rfl,_,rfl⟩) | exact Or.inr (Or.inr (Or.inr ⟨_,_,_,rfl,rfl⟩)) | refine And.intro ?_ ?_))
      · (exact Nat.sub_lt_sub_left (by omega) (by omega))
    · (repeat' (first | (refine And.intro (fun h=>?_) (fun h=>?_)<;>(try simp [-List.getD_eq_getElem?_getD,-Int.pred_toNat] at h)<;>(try (exfalso; first | omega | contradiction))) | (refine And.intro (rng64 (by omega) (by omega)) ?_) | (refine And.intro ⟨by omega,by omega⟩ ?_) | (refine And.intro ⟨by omega,by omega,by omega⟩ ?_) | (intro _)))
      refine And.intro ⟨by omega,by omega,by show l[k] - 15≤16; omega⟩ ?_
      rw [show l[k] - 15 = (l[k] - 16) + 1 by omega,hex_cutI (r:=l[k] - 16) (by omega) (by omega)]
      refine And.intro (by show 4 + 1≤maxLen; omega) ?_
      refine And.intro (by show 5 + 1≤maxLen; omega) ?_
      refine And.intro (by show ([34]++qL (l.take k)).length + 6≤maxLen; omega) ?_
      rw [fin _ e]
      refine And.intro ⟨by omega,by omega⟩ ?_
      refine Exists.intro [] (Exists.intro (k + 1) (And.intro ⟨hk,hol2⟩ (And.intro ?_ ?_)))
      · (repeat' (first | exact trivial | exact Or.inl rfl | exact Or.inr (Or.inl ⟨rfl,_,rfl⟩) | exact Or.inr (Or.inr (Or.inr ⟨_,_,_,rfl,rfl⟩)) | refine And.intro ?_ ?_))
      · (exact Nat.sub_lt_sub_left (by omega) (by omega))
    · (repeat' (first | (refine And.intro (fun h=>?_) (fun h=>?_)<;>(try simp [-List.getD_eq_getElem?_getD,-Int.pred_toNat] at h)<;>(try (exfalso; first | omega | contradiction))) | (refine And.intro (rng64 (by omega) (by omega)) ?_) | (refine And.intro ⟨by omega,by omega⟩ ?_) | (refine And.intro ⟨by omega,by omega,by omega⟩ ?_) | (intro _)))
      refine And.intro (by show ([34]++qL (l.take k)).length + 6≤maxLen; omega) ?_
      rw [fin _ e]
      refine And.intro ⟨by omega,by omega⟩ ?_
      refine Exists.intro [] (Exists.intro (k + 1) (And.intro ⟨hk,hol2⟩ (And.intro ?_ ?_)))
      · (repeat' (first | exact trivial | exact Or.inl rfl | exact Or.inr (Or.inl ⟨rfl,_,rfl⟩) | exact Or.inr (Or.inr (Or.inr ⟨_,_,_,rfl,rfl⟩)) | refine And.intro ?_ ?_))
      · (exact Nat.sub_lt_sub_left (by omega) (by omega))
    · (repeat' (first | (refine And.intro (fun h=>?_) (fun h=>?_)<;>(try simp [-List.getD_eq_getElem?_getD,-Int.pred_toNat] at h)<;>(try (exfalso; first | omega | contradiction))) | (refine And.intro (rng64 (by omega) (by omega)) ?_) | (refine And.intro ⟨by omega,by omega⟩ ?_) | (refine And.intro ⟨by omega,by omega,by omega⟩ ?_) | (intro _)))
      have hw:IntKind.i64.wrap l[k] = l[k]:=by rw [IntKind.wrap_i64]; have:=hs1.2.1; omega
      have hC:PSpec Tryd.prog 60 [.i .i64 (IntKind.i64.wrap l[k])] (.s (encS l[k])):=by rw [hw]; exact s_CodeOf l[k] hs1
      refine Or.inl (Exists.intro _ (And.intro (hC) ?_))
      have h4:=encS_le l[k]
      refine And.intro (by omega) ?_
      rw [fin _ e]
      refine And.intro ⟨by omega,by omega⟩ ?_
      refine Exists.intro [] (Exists.intro (k + 1) (And.intro ⟨hk,hol2⟩ (And.intro ?_ ?_)))
      · (repeat' (first | exact trivial | exact Or.inl rfl | exact Or.inr (Or.inl ⟨rfl,_,rfl⟩) | exact Or.inr (Or.inr (Or.inr ⟨_,_,_,rfl,rfl⟩)) | refine And.intro ?_ ?_))
      · (exact Nat.sub_lt_sub_left (by omega) (by omega))
  · have hk:k = l.length:=by have:¬ (k:Int) < l.length:=of_decide_eq_false h; omega
    subst hk
    rw [List.take_length] at hol ⊢
    refine And.intro (by rw [List.length_append]; show 1 + (qL l).length + 1≤maxLen; unfold maxLen; omega) ?_
    rfl
theorem s_quotedR (s:Str) (hs:s.length≤1048576) (hb:bad s < 0):PSpec Tryd.prog 22 [.s s] (.s (qAll s)) :=
  pspec_of_vc Γ_good Tryd.func22 rfl Tryd.call22 Tryd.results22 Tryd.ntmps22 (Nat.le_of_ble_eq_true rfl) (w_quotedR s hs hb)
end
end Go.Proofs.YtmfchbkdakmjhaaDoor
end
section
namespace Go.Proofs.YtmfchbkdakmjhaaDoor
set_option linter.unusedSectionVars false
set_option linter.unusedSimpArgs false
set_option linter.unusedVariables false
open Go Go.SX Go.Ut Go.Nm Go.Es
set_option maxRecDepth 100000
set_option maxHeartbeats 1000000
section
variable [G:Globs]
theorem w_lower (c:UInt8):vc Tryd.prog Γ 5 [0,2] (Tryd.f176.body.getD .skip) (postK Γ [.tmp 2] (fun v=>v = .i .u8 (lowC c))) ⟨argSlots 0 [.i .u8 (c.toNat:Int)],[]⟩:=by
  rfl
theorem s_lower (c:UInt8):PSpec Tryd.prog 176 [.i .u8 (c.toNat:Int)] (.i .u8 (lowC c)) :=
  pspec_of_vc Γ_good Tryd.func176 rfl Tryd.call176 Tryd.results176 Tryd.ntmps176 (Nat.le_of_ble_eq_true rfl) (w_lower c)
def hexR (s:Str):AV:=if hexA s then .tup [.i .u64 (hexN 0 s:Int),.er none] else .tup [.i .u64 0,.er (some (202,some 2))]
theorem w_parse0 (s:Str) (h0:s≠[]) (h6:s.length≤6):vc Tryd.prog Γ 172 [0,1,2,6,7,8,9,10,11,12,13,15,16,17,19,25,32,37,40,52,64,77,83,85,90,92,99,100,101,102,106,112,121,137,141,159,169] (Tryd.f138.body.getD .skip) (postK Γ [.tmp 6,.tmp 7] (fun v=>v = hexR s)) ⟨argSlots 0 [.s s,.i .i64 16,.i .i64 32],[]⟩:=by
  (repeat' (first | (refine And.intro (fun h=>?_) (fun h=>?_)<;>(try simp [-List.getD_eq_getElem?_getD,-Int.pred_toNat] at h)<;>(try (exfalso; first | omega | contradiction))) | (refine And.intro (rng64 (by omega) (by omega)) ?_) | (refine And.intro ⟨by omega,by omega⟩ ?_) | (refine And.intro ⟨by omega,by omega,by omega⟩ ?_) | (intro _)))
  refine And.intro (by decide) ?_
  (repeat' (first | (refine And.intro (fun h=>?_) (fun h=>?_)<;>(try simp [-List.getD_eq_getElem?_getD,-Int.pred_toNat] at h)<;>(try (exfalso; first | omega | contradiction))) | (refine And.intro (rng64 (by omega) (by omega)) ?_) | (refine And.intro ⟨by omega,by omega⟩ ?_) | (refine And.intro ⟨by omega,by omega,by omega⟩ ?_) | (intro _)))
  have hjl:=toJ_len s
  refine Exists.intro [] (Exists.intro [] (Exists.intro [] (Exists.intro Nat (Exists.intro (fun k=>k≤s.length∧hexA (s.take k)) (Exists.intro (fun k=>⟨[(1,.i .i64 16),(8,.b false),(9,.s s),(10,.i .u64 1152921504606846976),(11,.i .u64 4294967295),(12,.b false),(13,.i .u64 (hexN 0 (s.take k):Int)),(99,.rd .u8 (toJ s)),(100,.i .i64 (toJ s).length),(101,.i .i64 k)],[]⟩) (Exists.intro (fun k=>s.length - k) (Exists.intro 0 (And.intro ⟨Nat.zero_le _,fun c hc=>nomatch hc⟩ (And.intro ?_ ?_)))))))))
  · (repeat' (first | exact trivial | exact Or.inl rfl | exact Or.inr (Or.inl ⟨rfl,_,rfl⟩) | exact Or.inr (Or.inr (Or.inr ⟨_,_,_,rfl,rfl⟩)) | refine And.intro ?_ ?_))
  rintro k ⟨hk0,hx⟩
  refine And.intro (fun h=>?_) (fun h=>?_)
  · have hk:k < s.length:=by have:(k:Int) < (toJ s).length:=of_decide_eq_true h; omega
    refine And.intro ⟨by omega,by omega⟩ ?_
    have hg:(toJ s).getD (Int.toNat k) 0 = (s[k].toNat:Int):=by
      rw [Int.toNat_natCast,List.getD_eq_getElem?_getD]
      unfold toJ
      rw [List.getElem?_map,List.getElem?_eq_getElem hk]
      rfl
    rw [hg]
    have htk:s.take (k + 1) = s.take k++[s[k]]:=List.take_succ_eq_append_getElem hk
    have hl6:hexN 0 (s.take k) < 16777216:=hexN_six hx (by rw [List.length_take]; omega)
    obtain ⟨l1,l2,l3,l4,l5⟩:=low_at s[k]
    have hlow:=s_lower s[k]
    have hcl:=s[k].toNat_lt
    have hno:¬ dgt s[k] < 16→hexR s = .tup [.i .u64 0,.er (some (202,some 2))]:=fun h=>by
      unfold hexR
      rw [if_neg (fun h9=>h (h9 s[k] (List.getElem_mem hk)))]
    have hyes:dgt s[k] < 16→hexA (s.take (k + 1)):=fun h=>by rw [htk]; exact hexA_append hx h
    have hnx:hexN 0 (s.take (k + 1)) = hexN 0 (s.take k) * 16 + dgt s[k]:=by rw [htk,hexN_append]
    generalize s[k] = c at *
    generalize hexN 0 (s.take k) = n at *
    have key:(hexR s = hexR s):=rfl
    by_cases hd:48≤c.toNat∧c.toNat≤57
    · obtain ⟨l5,l6⟩:=l5 hd
      refine And.intro (fun h=>absurd (eq_of_beq h) (by omega)) (fun _=>?_)
      refine And.intro (fun h=>by cases h) (fun _=>?_)
      refine And.intro (fun _=>?_) (fun h=>absurd (of_decide_eq_false h) (by omega))
      refine And.intro (fun _=>?_) (fun h=>absurd (of_decide_eq_false h) (by omega))
      have e:IntKind.u8.wrap ((c.toNat:Int) - 48) = (dgt c:Int):=by rw [IntKind.wrap_u8]; omega
      have hw16:IntKind.u8.wrap 16 = 16:=rfl
      have hu16:IntKind.u64.wrap 16 = 16:=rfl
      have hud:IntKind.u64.wrap (dgt c:Int) = (dgt c:Int):=by rw [IntKind.wrap_u64]; omega
      have hm:IntKind.u64.wrap ((n:Int) * IntKind.u64.wrap 16) = (n:Int) * 16:=by rw [hu16,IntKind.wrap_u64]; omega
      have hs:IntKind.u64.wrap ((n:Int) * 16 + IntKind.u64.wrap (dgt c:Int)) = (n:Int) * 16 + (dgt c:Int):=by rw [hud,IntKind.wrap_u64]; omega
      refine And.intro (fun h=>absurd (of_decide_eq_true h) (by rw [hw16,e]; omega)) (fun _=>?_)
      refine And.intro (fun h=>absurd (of_decide_eq_true h) (by omega)) (fun _=>?_)
      refine And.intro (fun _=>?_) (fun h=>absurd (of_decide_eq_true (by simpa using h)) (by rw [hm,e,hs]; omega))
      refine And.intro (fun h=>absurd (of_decide_eq_true h) (by rw [hm,e,hs]; omega)) (fun _=>?_)
      refine And.intro ⟨by omega,by omega⟩ ?_
      refine Exists.intro [] (Exists.intro (k + 1) (And.intro ⟨hk,hyes l6⟩ (And.intro ?_ ?_)))
      · (repeat' (first | exact trivial | exact Or.inl rfl | exact Or.inl ((congrArg (AV.i .u64) (by rw [hm,e,hs,hnx]; omega))) | refine And.intro ?_ ?_))
      · (exact Nat.sub_lt_sub_left (by omega) (by omega))
    · rcases (show c.toNat < 48∨c.toNat = 95∨(57 < c.toNat∧c.toNat≠95) by omega) with h9 | h9 | h9
      all_goals
        (repeat' (first | (refine And.intro (fun h=>?_) (fun h=>?_)<;>(try simp [-List.getD_eq_getElem?_getD,-Int.pred_toNat] at h)<;>(try (exfalso; first | omega | contradiction))) | (refine And.intro (rng64 (by omega) (by omega)) ?_) | (refine And.intro ⟨by omega,by omega⟩ ?_) | (refine And.intro ⟨by omega,by omega,by omega⟩ ?_) | (intro _)))
        refine Or.inl (Exists.intro _ (And.intro (hlow) ?_))
        rcases (show lowC c < 97∨122 < lowC c∨(97≤lowC c∧lowC c≤102)∨(103≤lowC c∧lowC c≤122) by omega) with v | v | v | v
        · rw [hno (by have:=l2 ⟨by omega,hd⟩; omega)]
          (repeat' (first | (refine And.intro (fun h=>?_) (fun h=>?_)<;>(try simp [-List.getD_eq_getElem?_getD,-Int.pred_toNat] at h)<;>(try (exfalso; first | omega | contradiction))) | (refine And.intro (rng64 (by omega) (by omega)) ?_) | (refine And.intro ⟨by omega,by omega⟩ ?_) | (refine And.intro ⟨by omega,by omega,by omega⟩ ?_) | (intro _)))
          rfl
        · rw [hno (by have:=l2 ⟨by omega,hd⟩; omega)]
          (repeat' (first | (refine And.intro (fun h=>?_) (fun h=>?_)<;>(try simp [-List.getD_eq_getElem?_getD,-Int.pred_toNat] at h)<;>(try (exfalso; first | omega | contradiction))) | (refine And.intro (rng64 (by omega) (by omega)) ?_) | (refine And.intro ⟨by omega,by omega⟩ ?_) | (refine And.intro ⟨by omega,by omega,by omega⟩ ?_) | (intro _)))
          refine Or.inl (Exists.intro _ (And.intro (hlow) ?_))
          (repeat' (first | (refine And.intro (fun h=>?_) (fun h=>?_)<;>(try simp [-List.getD_eq_getElem?_getD,-Int.pred_toNat] at h)<;>(try (exfalso; first | omega | contradiction))) | (refine And.intro (rng64 (by omega) (by omega)) ?_) | (refine And.intro ⟨by omega,by omega⟩ ?_) | (refine And.intro ⟨by omega,by omega,by omega⟩ ?_) | (intro _)))
          rfl
        · obtain ⟨l7,l8⟩:=l3 ⟨by omega,by omega,hd⟩
          (repeat' (first | (refine And.intro (fun h=>?_) (fun h=>?_)<;>(try simp [-List.getD_eq_getElem?_getD,-Int.pred_toNat] at h)<;>(try (exfalso; first | omega | contradiction))) | (refine And.intro (rng64 (by omega) (by omega)) ?_) | (refine And.intro ⟨by omega,by omega⟩ ?_) | (refine And.intro ⟨by omega,by omega,by omega⟩ ?_) | (intro _)))
          refine Or.inl (Exists.intro _ (And.intro (hlow) ?_))
          refine And.intro (fun _=>?_) (fun h=>absurd (of_decide_eq_false h) (by omega))
          refine Or.inl (Exists.intro _ (And.intro (hlow) ?_))
          have e:IntKind.u8.wrap (IntKind.u8.wrap (lowC c - 97) + 10) = (dgt c:Int):=by rw [IntKind.wrap_u8,IntKind.wrap_u8]; omega
          have hw16:IntKind.u8.wrap 16 = 16:=rfl
          have hu16:IntKind.u64.wrap 16 = 16:=rfl
          have hud:IntKind.u64.wrap (dgt c:Int) = (dgt c:Int):=by rw [IntKind.wrap_u64]; omega
          have hm:IntKind.u64.wrap ((n:Int) * IntKind.u64.wrap 16) = (n:Int) * 16:=by rw [hu16,IntKind.wrap_u64]; omega
          have hs:IntKind.u64.wrap ((n:Int) * 16 + IntKind.u64.wrap (dgt c:Int)) = (n:Int) * 16 + (dgt c:Int):=by rw [hud,IntKind.wrap_u64]; omega
          refine And.intro (fun h=>absurd (of_decide_eq_true h) (by rw [hw16,e]; omega)) (fun _=>?_)
          refine And.intro (fun h=>absurd (of_decide_eq_true h) (by omega)) (fun _=>?_)
          refine And.intro (fun _=>?_) (fun h=>absurd (of_decide_eq_true (by simpa using h)) (by rw [hm,e,hs]; omega))
          refine And.intro (fun h=>absurd (of_decide_eq_true h) (by rw [hm,e,hs]; omega)) (fun _=>?_)
          refine And.intro ⟨by omega,by omega⟩ ?_
          refine Exists.intro [] (Exists.intro (k + 1) (And.intro ⟨hk,hyes l8⟩ (And.intro ?_ ?_)))
          · (repeat' (first | exact trivial | exact Or.inl rfl | exact Or.inl ((congrArg (AV.i .u64) (by rw [hm,e,hs,hnx]; omega))) | refine And.intro ?_ ?_))
          · (exact Nat.sub_lt_sub_left (by omega) (by omega))
        · have l7:=l4 ⟨by omega,by omega,hd⟩
          rw [hno (by omega)]
          (repeat' (first | (refine And.intro (fun h=>?_) (fun h=>?_)<;>(try simp [-List.getD_eq_getElem?_getD,-Int.pred_toNat] at h)<;>(try (exfalso; first | omega | contradiction))) | (refine And.intro (rng64 (by omega) (by omega)) ?_) | (refine And.intro ⟨by omega,by omega⟩ ?_) | (refine And.intro ⟨by omega,by omega,by omega⟩ ?_) | (intro _)))
          refine Or.inl (Exists.intro _ (And.intro (hlow) ?_))
          refine And.intro (fun _=>?_) (fun h=>absurd (of_decide_eq_false h) (by omega))
          refine Or.inl (Exists.intro _ (And.intro (hlow) ?_))
          have e:IntKind.u8.wrap (IntKind.u8.wrap (lowC c - 97) + 10) = lowC c - 97 + 10:=by rw [IntKind.wrap_u8,IntKind.wrap_u8]; omega
          have hw16:IntKind.u8.wrap 16 = 16:=rfl
          refine And.intro (fun _=>?_) (fun h=>absurd (of_decide_eq_false h) (by rw [hw16,e]; omega))
          rfl
  · have hk:k = s.length:=by have:¬ (k:Int) < (toJ s).length:=of_decide_eq_false h; omega
    subst hk
    rw [List.take_length] at hx ⊢
    have hR:hexR s = .tup [.i .u64 (hexN 0 s:Int),.er none]:=by unfold hexR; rw [if_pos hx]
    rw [hR]
    (repeat' (first | (refine And.intro (fun h=>?_) (fun h=>?_)<;>(try simp [-List.getD_eq_getElem?_getD,-Int.pred_toNat] at h)<;>(try (exfalso; first | omega | contradiction))) | (refine And.intro (rng64 (by omega) (by omega)) ?_) | (refine And.intro ⟨by omega,by omega⟩ ?_) | (refine And.intro ⟨by omega,by omega,by omega⟩ ?_) | (intro _)))
    rfl
theorem s_parse0 (s:Str) (h0:s≠[]) (h6:s.length≤6):PSpec Tryd.prog 138 [.s s,.i .i64 16,.i .i64 32] (hexR s) :=
  pspec_of_vc Γ_good Tryd.func138 rfl Tryd.call138 Tryd.results138 Tryd.ntmps138 (Nat.le_of_ble_eq_true rfl) (w_parse0 s h0 h6)
end
end Go.Proofs.YtmfchbkdakmjhaaDoor
end
section
namespace Go.Ut
set_option linter.unusedSectionVars false
set_option linter.unusedSimpArgs false
set_option linter.unusedVariables false
open Go Go.SX
theorem dec_same {n m b0 b1 b2 b3 c1 c2 c3 r k : Nat} (h : Lib.decodeN n b0 b1 b2 b3 = (r, k)) (hg : ¬ (r = 65533 ∧ k = 1)) (hm : k ≤ m) (h1 : 2 ≤ k → c1 = b1) (h2 : 3 ≤ k → c2 = b2) (h3 : 4 ≤ k → c3 = b3) :
    Lib.decodeN m b0 c1 c2 c3 = (r,k):=by
  unfold Lib.decodeN at h
  split at h
  · rename_i c
    unfold Lib.decodeN
    rw [if_pos c]
    exact h
  rename_i c0
  split at h
  · rename_i c
    split at h
    · rename_i d
      injection h with hr hk
      subst hk
      obtain rfl:=h1 (by omega)
      unfold Lib.decodeN
      rw [if_neg c0,if_pos ⟨c.1,by omega,c.2.2⟩,if_pos d,hr]
    · injection h with hr hk
      exact absurd ⟨hr.symm,hk.symm⟩ hg
  rename_i c1'
  split at h
  · rename_i c
    split at h
    · rename_i d
      injection h with hr hk
      subst hk
      obtain rfl:=h1 (by omega)
      obtain rfl:=h2 (by omega)
      unfold Lib.decodeN
      rw [if_neg c0,if_neg (by omega),if_pos ⟨c.1,⟨by omega,c.2.1.2⟩,by omega,c.2.2.2⟩,if_pos d,hr]
    · injection h with hr hk
      exact absurd ⟨hr.symm,hk.symm⟩ hg
  rename_i c2'
  split at h
  · rename_i c
    split at h
    · rename_i d
      injection h with hr hk
      subst hk
      obtain rfl:=h1 (by omega)
      obtain rfl:=h2 (by omega)
      obtain rfl:=h3 (by omega)
      unfold Lib.decodeN
      rw [if_neg c0,if_neg (by omega),if_neg (by omega),if_pos ⟨c.1,⟨by omega,c.2.1.2⟩,⟨by omega,c.2.2.1.2⟩,by omega,c.2.2.2.2⟩,if_pos d,hr]
    · injection h with hr hk
      exact absurd ⟨hr.symm,hk.symm⟩ hg
  · injection h with hr hk
    exact absurd ⟨hr.symm,hk.symm⟩ hg
theorem getD_of_take {a b:Str} {n k:Nat} (h:a.take n = b.take n) (hk:k < n):a.getD k 0 = b.getD k 0:=by
  have h1:(a.take n)[k]? = (b.take n)[k]?:=by rw [h]
  rw [List.getElem?_take_of_lt hk,List.getElem?_take_of_lt hk] at h1
  rw [List.getD_eq_getElem?_getD,List.getD_eq_getElem?_getD,h1]
theorem dec_len4 (s:Str) (i:Nat):(decAt s i).2≤4:=by
  unfold decAt Lib.decodeN
  repeat' split
  all_goals exact Nat.le_of_ble_eq_true rfl
theorem dec_front {s:Str} {i:Nat} (hk:i < s.length) (hg:¬ ((decAt s i).1 = 65533∧(decAt s i).2 = 1)) (t:Str):decAt (encS ((decAt s i).1:Int)++t) 0 = decAt s i:=by
  obtain ⟨h1,h2,h3⟩:=good_at hk hg
  have hle:=dec_le hk
  have hpos:=dec_pos s i
  have hl:(encS ((decAt s i).1:Int)).length = (decAt s i).2:=by
    rw [← h3,List.length_take,List.length_drop]
    omega
  have ht:(encS ((decAt s i).1:Int)++t).take (decAt s i).2 = (s.drop i).take (decAt s i).2:=by
    rw [h3,List.take_append_of_le_length (by omega),List.take_of_length_le (by omega)]
  have hD:∀ k,k < (decAt s i).2→(encS ((decAt s i).1:Int)++t).getD k 0 = s.getD (i + k) 0:=fun k hk=>by
    rw [getD_of_take ht hk,getD_drop]
  have hN:(decAt s i).2≤(encS ((decAt s i).1:Int)++t).length:=by rw [List.length_append]; omega
  generalize hS:encS ((decAt s i).1:Int)++t = S at hD hN
  have hd:Lib.decodeN (s.length - i) (s.getD i 0).toNat (s.getD (i + 1) 0).toNat (s.getD (i + 2) 0).toNat (s.getD (i + 3) 0).toNat = ((decAt s i).1,(decAt s i).2):=rfl
  have:=dec_same (m:=S.length) (c1:=(S.getD 1 0).toNat) (c2:=(S.getD 2 0).toNat) (c3:=(S.getD 3 0).toNat) hd hg hN (fun h=>congrArg UInt8.toNat (hD 1 (by omega))) (fun h=>congrArg UInt8.toNat (hD 2 (by omega))) (fun h=>congrArg UInt8.toNat (hD 3 (by omega)))
  show Lib.decodeN (S.length - 0) (S.getD 0 0).toNat (S.getD (0 + 1) 0).toNat (S.getD (0 + 2) 0).toNat (S.getD (0 + 3) 0).toNat = decAt s i
  rw [hD 0 (by omega),Nat.sub_zero]
  exact this
theorem dec_app {s:Str} {i:Nat} (hk:i < s.length) (hg:¬ ((decAt s i).1 = 65533∧(decAt s i).2 = 1)) {S t:Str} {j:Nat} (hS:S.drop j = encS ((decAt s i).1:Int)++t):decAt S j = decAt s i:=by
  rw [← decAt_drop,hS]
  exact dec_front hk hg t
end Go.Ut
end
section
namespace Go.Es
set_option linter.unusedSectionVars false
set_option linter.unusedSimpArgs false
set_option linter.unusedVariables false
open Go Go.SX Go.Ut Go.Nm
def uniP (ds:Str):Int × Int × Int :=
  if 1≤ds.findIdx (· == 125)∧ds.findIdx (· == 125)≤6∧ds.findIdx (· == 125) < ds.length∧hexA (ds.take (ds.findIdx (· == 125))) then
    (if scalar (hexN 0 (ds.take (ds.findIdx (· == 125))):Int) then ((hexN 0 (ds.take (ds.findIdx (· == 125))):Int),3 + (ds.findIdx (· == 125):Int),0) else (0,0,3)) else (0,0,4)
def escP:Str→Int × Int × Int
  | []=>(0,0,4)
  | c::r=>if c.toNat = 34∨c.toNat = 92∨c.toNat = 47 then ((c.toNat:Int),1,0) else if c.toNat = 110 then (10,1,0) else if c.toNat = 116 then (9,1,0) else if c.toNat = 114 then (13,1,0) else
    if c.toNat = 117∧r.head? = some 123 then uniP (r.drop 1) else (0,0,4)
def tup3 (x:Int × Int × Int):AV:=.tup [.i .i32 x.1,.i .i64 x.2.1,.i .i64 x.2.2]
theorem idx_find (l:Str) (c:UInt8):Lib.indexByte l c = if l.findIdx (· == c) < l.length then (l.findIdx (· == c):Int) else -1:=by
  induction l with
  | nil=>rfl
  | cons b r ih =>
    rw [Lib.indexByte,List.findIdx_cons]
    cases hb:b == c with
    | true=>rw [if_pos rfl]; simp
    | false =>
      rw [if_neg (by decide),ih]
      simp only [cond_false,List.length_cons,Nat.add_lt_add_iff_right]
      by_cases h:r.findIdx (· == c) < r.length
      · simp only [if_pos h]
        rw [if_neg (by simp)]
        omega
      · simp only [if_neg h]
        rfl
theorem pre_iff (c:UInt8) (r:Str):isPre [117,123] (c::r) = true↔c.toNat = 117∧r.head? = some 123:=by
  unfold isPre
  rw [decide_eq_true_eq]
  have h1:c = 117↔c.toNat = 117:=⟨fun h=>by rw [h]; rfl,fun h=>UInt8.toNat_inj.1 h⟩
  cases r with
  | nil=>simp
  | cons d t=>simp [h1]
def unqF (s:Str):Nat→Str→Nat→Str × Int × Int
  | 0,_,_=>([],0,4)
  | f + 1, o, i => if i < s.length then
      (if (s.getD i 0).toNat = 34 then (o,(i:Int) + 1,0) else if (s.getD i 0).toNat = 10 then ([],0,4) else if (s.getD i 0).toNat = 92 then
        (if (escP (s.drop (i + 1))).2.2≠0 then ([],0,(escP (s.drop (i + 1))).2.2) else unqF s f (o++encS (escP (s.drop (i + 1))).1) (i + (1 + (escP (s.drop (i + 1))).2.1).toNat))
      else if (decAt s i).1 = 65533∧(decAt s i).2 = 1 then ([],0,3) else unqF s f (o++encS ((decAt s i).1:Int)) (i + (decAt s i).2))
    else ([],0,4)
theorem uniP_rng (ds:Str):(0≤(uniP ds).2.1∧(uniP ds).2.1≤9)∧((uniP ds).2.2 = 0→scalar (uniP ds).1):=by
  unfold uniP
  split
  · rename_i h
    split
    · rename_i h2
      exact ⟨⟨by show (0:Int)≤3 + _; omega,by show (3:Int) + _≤9; omega⟩,fun _=>h2⟩
    · exact ⟨⟨by decide,by decide⟩,fun h=>absurd h (by decide)⟩
  · exact ⟨⟨by decide,by decide⟩,fun h=>absurd h (by decide)⟩
theorem escP_rng (l:Str):(0≤(escP l).2.1∧(escP l).2.1≤9)∧((escP l).2.2 = 0→scalar (escP l).1):=by
  cases l with
  | nil=>exact ⟨⟨by decide,by decide⟩,fun h=>absurd h (by decide)⟩
  | cons c r =>
    rw [escP]
    split
    · rename_i h
      refine ⟨⟨by show (0:Int)≤1; decide,by show (1:Int)≤9; decide⟩,fun _=>?_⟩
      show scalar (c.toNat:Int)
      unfold scalar
      omega
    split
    · exact ⟨⟨by decide,by decide⟩,fun _=>by decide⟩
    split
    · exact ⟨⟨by decide,by decide⟩,fun _=>by decide⟩
    split
    · exact ⟨⟨by decide,by decide⟩,fun _=>by decide⟩
    split
    · exact uniP_rng _
    · exact ⟨⟨by decide,by decide⟩,fun h=>absurd h (by decide)⟩
theorem unqF_fuel (s:Str):∀ (f g:Nat) (o:Str) (i:Nat),s.length≤f + i→s.length≤g + i→unqF s f o i = unqF s g o i
  | 0,0,_,_,_,_=>rfl
  | 0,g + 1,o,i,h,_=>by rw [unqF,unqF,if_neg (by omega)]
  | f + 1,0,o,i,_,h=>by rw [unqF,unqF,if_neg (by omega)]
  | f + 1,g + 1,o,i,h,h2=>by
    rw [unqF,unqF]
    have hr:=(escP_rng (s.drop (i + 1))).1
    have hp:=dec_pos s i
    rw [unqF_fuel s f g (o++encS (escP (s.drop (i + 1))).1) (i + (1 + (escP (s.drop (i + 1))).2.1).toNat) (by omega) (by omega),unqF_fuel s f g (o++encS ((decAt s i).1:Int)) (i + (decAt s i).2) (by omega) (by omega)]
def unqFrom (s:Str) (o:Str) (i:Nat):Str × Int × Int:=unqF s s.length o i
def unq (s:Str):Str × Int × Int:=if isPre [34] s then unqFrom s [] 1 else ([],0,4)
def tupU (x:Str × Int × Int):AV:=.tup [.s x.1,.i .i64 x.2.1,.i .i64 x.2.2]
theorem unq_end {s o:Str} {i:Nat} (h:s.length≤i):unqFrom s o i = ([],0,4):=by
  unfold unqFrom
  rw [unqF_fuel s s.length 0 o i (by omega) (by omega),unqF]
theorem unq_step {s o : Str} {i : Nat} (h : i < s.length) : unqFrom s o i =
    (if (s.getD i 0).toNat = 34 then (o, (i : Int) + 1, 0) else if (s.getD i 0).toNat = 10 then ([], 0, 4) else if (s.getD i 0).toNat = 92 then
        (if (escP (s.drop (i + 1))).2.2≠0 then ([],0,(escP (s.drop (i + 1))).2.2) else unqFrom s (o++encS (escP (s.drop (i + 1))).1) (i + (1 + (escP (s.drop (i + 1))).2.1).toNat))
      else if (decAt s i).1 = 65533∧(decAt s i).2 = 1 then ([],0,3) else unqFrom s (o++encS ((decAt s i).1:Int)) (i + (decAt s i).2)):=by
  unfold unqFrom
  rw [unqF_fuel s s.length (s.length + 1) o i (by omega) (by omega),unqF,if_pos h]
theorem pre34 (s:Str):isPre [34] s = true↔s≠[]∧(s.getD 0 0).toNat = 34:=by
  unfold isPre
  rw [decide_eq_true_eq]
  cases s with
  | nil=>simp
  | cons c r =>
    have h1:c = 34↔c.toNat = 34:=⟨fun h=>by rw [h]; rfl,fun h=>UInt8.toNat_inj.1 h⟩
    simp [h1]
theorem idx_is {ds:Str} {m:Nat} (hm:m < ds.length) (hc:(ds.getD m 0).toNat = 125) (hx:hexA (ds.take m)):ds.findIdx (· == 125) = m:=by
  rw [List.getD_eq_getElem?_getD,List.getElem?_eq_getElem hm] at hc
  have hc:ds[m] = 125:=UInt8.toNat_inj.1 hc
  refine (List.findIdx_eq hm).2 ⟨by rw [hc]; rfl,fun j hj=>?_⟩
  have h1:ds[j] ∈ ds.take m:=by
    rw [List.mem_take_iff_getElem]
    exact ⟨j,by omega,rfl⟩
  have h2:=hx _ h1
  have h3:ds[j]≠125:=fun e=>by rw [e] at h2; revert h2; decide
  simpa using h3
theorem uni_exit {ds : Str} {m : Nat} (h7 : m ≤ 7) (hl : m ≤ ds.length) (hx : hexA (ds.take m)) (hend : m = 7 ∨ ds.length ≤ m ∨ ¬ dgt (ds.getD m 0) < 16) :
    (1≤m∧m≤6∧m < ds.length∧(ds.getD m 0).toNat = 125→uniP ds = if scalar (hexN 0 (ds.take m):Int) then ((hexN 0 (ds.take m):Int),3 + (m:Int),0) else (0,0,3)) ∧
    (¬ (1≤m∧m≤6∧m < ds.length∧(ds.getD m 0).toNat = 125)→uniP ds = (0,0,4)):=by
  refine ⟨fun ⟨h1,h2,h3,h4⟩=>?_,fun hno=>?_⟩
  · have he:=idx_is h3 h4 hx
    unfold uniP
    rw [he,if_pos ⟨h1,h2,h3,hx⟩]
  · unfold uniP
    rw [if_neg]
    generalize he:ds.findIdx (· == 125) = e
    rintro ⟨h1,h2,h3,h4⟩
    have hce:ds[e] = 125:=by
      have:=List.findIdx_getElem (xs:=ds) (p:=(· == 125)) (w:=by rw [he]; exact h3)
      simp only [he,beq_iff_eq] at this
      exact this
    have hD:∀ k (hk:k < ds.length),ds.getD k 0 = ds[k]:=fun k hk=>by rw [List.getD_eq_getElem?_getD,List.getElem?_eq_getElem hk]; rfl
    have hle:m≤e:=by
      refine Nat.le_of_not_lt fun hlt=>?_
      have h5:ds[e] ∈ ds.take m:=by rw [List.mem_take_iff_getElem]; exact ⟨e,by omega,rfl⟩
      have h6:=hx _ h5
      rw [hce] at h6
      revert h6
      decide
    have hge:e≤m:=by
      refine Nat.le_of_not_lt fun hlt=>?_
      rcases hend with h | h | h
      · omega
      · omega
      · rw [hD m (by omega)] at h
        exact h (h4 _ (by rw [List.mem_take_iff_getElem]; exact ⟨m,by omega,rfl⟩))
    obtain rfl:=Nat.le_antisymm hle hge
    exact hno ⟨h1,h2,h3,by rw [hD m h3,hce]; rfl⟩
end Go.Es
end
section
namespace Go.Proofs.YtmfchbkdakmjhaaDoor
set_option linter.unusedSectionVars false
set_option linter.unusedSimpArgs false
set_option linter.unusedVariables false
open Go Go.SX Go.Ut Go.Nm Go.Es
set_option maxRecDepth 100000
set_option maxHeartbeats 1000000
def HasErr [G:Globs]:Prop:=∃ (T:TypeId) (p:Value) (e:TypeId) (fz:Nat × Nat),(4,Obj.cells #[.iface T p] e fz) ∈ G.gl
section
variable [G:Globs]
theorem s_IndexByte (s:Str) (n:Int):PSpec Tryd.prog 99 [.s s,.i .u8 n] (.i .i64 (Lib.indexByte s n.toNat.toUInt8)):=by
  refine ⟨Tryd.call99,fun O w vs hO _ hargs=>?_⟩
  obtain ⟨v0,vs0,rfl,h0,h⟩:=hargs.cons_inv
  obtain ⟨v1,vs1,rfl,h1,h⟩:=h.cons_inv
  obtain rfl:=h.nil_inv
  cases h0
  cases h1
  refine (Tryd.strings_IndexByte ⟨s.toArray⟩ n w).mono fun e w' ⟨he,hw⟩=>?_
  subst he hw
  exact ⟨_,rfl,Stp.refl _ _,.i _ _⟩
theorem s_toErr (he:HasErr) (fn s:Str) (b k:Int) (hl:s.length≤1000000):PSpec Tryd.prog 139 [.s fn,.s s,.i .i64 b,.i .i64 k,.er (some (202,some 2))] (.er (some (204,none))):=by
  refine ⟨Tryd.call139,fun O w vs hO hG hargs=>?_⟩
  obtain ⟨v0,vs0,rfl,h0,h⟩:=hargs.cons_inv
  obtain ⟨v1,vs1,rfl,h1,h⟩:=h.cons_inv
  obtain ⟨v2,vs2,rfl,h2,h⟩:=h.cons_inv
  obtain ⟨v3,vs3,rfl,h3,h⟩:=h.cons_inv
  obtain ⟨v4,vs4,rfl,h4,h⟩:=h.cons_inv
  obtain rfl:=h.nil_inv
  cases h0
  cases h1
  cases h2
  cases h3
  cases h4
  obtain ⟨T,p,e,fz,hm⟩:=he
  have hcell:w.cell? ⟨4,0,none⟩ = some (.iface T p):=by simp [World.cell?,(hG _ hm).2]
  refine (Tryd.strconv_toError_syntax ⟨fn.toArray⟩ ⟨s.toArray⟩ b k (.iface T p) w (by show s.length≤_; omega) hcell (.inr ⟨_,_,rfl⟩)).mono fun e w' ⟨N,he,_,_,hb⟩=>?_
  subst he
  exact ⟨_,rfl,⟨hb.os,hb.tape,hb.output,hb.size,fun k hk _=>hb.block k hk⟩,.er2 _ _⟩
theorem w_parseU (he:HasErr) (s:Str) (h0:s≠[]) (h6:s.length≤6):vc Tryd.prog Γ 26 [0,1,2,6,7,8,9,18] (Tryd.f100.body.getD .skip) (postK Γ [.tmp 6,.tmp 7] (fun v=>v = if hexA s then .tup [.i .u64 (hexN 0 s:Int),.er none] else .tup [.i .u64 0,.er (some (204,none))])) ⟨argSlots 0 [.s s,.i .i64 16,.i .i64 32],[]⟩:=by
  have hP:=s_parse0 s h0 h6
  unfold hexR at hP
  by_cases hx:hexA s
  · rw [if_pos hx] at hP ⊢
    refine Or.inl (Exists.intro _ (And.intro (hP) ?_))
    (repeat' (first | (refine And.intro (fun h=>?_) (fun h=>?_)<;>(try simp [-List.getD_eq_getElem?_getD,-Int.pred_toNat] at h)<;>(try (exfalso; first | omega | contradiction))) | (refine And.intro (rng64 (by omega) (by omega)) ?_) | (refine And.intro ⟨by omega,by omega⟩ ?_) | (refine And.intro ⟨by omega,by omega,by omega⟩ ?_) | (intro _)))
    rfl
  · rw [if_neg hx] at hP ⊢
    refine Or.inl (Exists.intro _ (And.intro (hP) ?_))
    (repeat' (first | (refine And.intro (fun h=>?_) (fun h=>?_)<;>(try simp [-List.getD_eq_getElem?_getD,-Int.pred_toNat] at h)<;>(try (exfalso; first | omega | contradiction))) | (refine And.intro (rng64 (by omega) (by omega)) ?_) | (refine And.intro ⟨by omega,by omega⟩ ?_) | (refine And.intro ⟨by omega,by omega,by omega⟩ ?_) | (intro _)))
    refine Or.inl (Exists.intro _ (And.intro (s_toErr he [80,97,114,115,101,85,105,110,116] s 16 32 (by omega)) ?_))
    rfl
theorem s_parseU (he:HasErr) (s:Str) (h0:s≠[]) (h6:s.length≤6):PSpec Tryd.prog 100 [.s s,.i .i64 16,.i .i64 32] (if hexA s then .tup [.i .u64 (hexN 0 s:Int),.er none] else .tup [.i .u64 0,.er (some (204,none))]) :=
  pspec_of_vc Γ_good Tryd.func100 rfl Tryd.call100 Tryd.results100 Tryd.ntmps100 (Nat.le_of_ble_eq_true rfl) (w_parseU he s h0 h6)
theorem w_escapeP (he:HasErr) (s:Str) (hs:s.length≤1048576):vc Tryd.prog Γ 61 [0,2,3,4,5,6,7,8,9,11,13,14,21,23,25,43,52,56] (Tryd.f62.body.getD .skip) (postK Γ [.tmp 2,.tmp 3,.tmp 4] (fun v=>v = tup3 (escP s))) ⟨argSlots 0 [.s s],[]⟩:=by
  cases s with
  | nil=>(repeat' (first | (refine And.intro (fun h=>?_) (fun h=>?_)<;>(try simp [-List.getD_eq_getElem?_getD,-Int.pred_toNat] at h)<;>(try (exfalso; first | omega | contradiction))) | (refine And.intro (rng64 (by omega) (by omega)) ?_) | (refine And.intro ⟨by omega,by omega⟩ ?_) | (refine And.intro ⟨by omega,by omega,by omega⟩ ?_) | (intro _))); rfl
  | cons c r =>
  have hcl:=c.toNat_lt
  rw [escP]
  have hw:IntKind.i32.wrap (c.toNat:Int) = (c.toNat:Int):=by rw [IntKind.wrap_i32]; omega
  have hne:((c::r) == []) = false:=rfl
  refine And.intro (fun h=>absurd (hne.symm.trans h) (by decide)) (fun _=>?_)
  have h0l:(0:Int) < ((c::r).length:Int):=by show (0:Int) < ((r.length + 1:Nat):Int); omega
  refine And.intro ⟨Int.le_refl 0,h0l⟩ ?_
  rw [show (c::r).getD (Int.toNat 0) 0 = c from rfl]
  by_cases c1:c.toNat = 34∨c.toNat = 92∨c.toNat = 47
  · rw [if_pos c1]
    rcases c1 with c1 | c1 | c1
    all_goals
      (repeat' (first | (refine And.intro (fun h=>?_) (fun h=>?_)<;>(try simp [-List.getD_eq_getElem?_getD,-Int.pred_toNat] at h)<;>(try (exfalso; first | omega | contradiction))) | (refine And.intro (rng64 (by omega) (by omega)) ?_) | (refine And.intro ⟨by omega,by omega⟩ ?_) | (refine And.intro ⟨by omega,by omega,by omega⟩ ?_) | (intro _)))
      exact congrArg (fun x:Int=>AV.tup [.i .i32 x,.i .i64 1,.i .i64 0]) hw
  rw [if_neg c1]
  by_cases c2:c.toNat = 110
  · rw [if_pos c2]; (repeat' (first | (refine And.intro (fun h=>?_) (fun h=>?_)<;>(try simp [-List.getD_eq_getElem?_getD,-Int.pred_toNat] at h)<;>(try (exfalso; first | omega | contradiction))) | (refine And.intro (rng64 (by omega) (by omega)) ?_) | (refine And.intro ⟨by omega,by omega⟩ ?_) | (refine And.intro ⟨by omega,by omega,by omega⟩ ?_) | (intro _))); rfl
  rw [if_neg c2]
  by_cases c3:c.toNat = 116
  · rw [if_pos c3]; (repeat' (first | (refine And.intro (fun h=>?_) (fun h=>?_)<;>(try simp [-List.getD_eq_getElem?_getD,-Int.pred_toNat] at h)<;>(try (exfalso; first | omega | contradiction))) | (refine And.intro (rng64 (by omega) (by omega)) ?_) | (refine And.intro ⟨by omega,by omega⟩ ?_) | (refine And.intro ⟨by omega,by omega,by omega⟩ ?_) | (intro _))); rfl
  rw [if_neg c3]
  by_cases c4:c.toNat = 114
  · rw [if_pos c4]; (repeat' (first | (refine And.intro (fun h=>?_) (fun h=>?_)<;>(try simp [-List.getD_eq_getElem?_getD,-Int.pred_toNat] at h)<;>(try (exfalso; first | omega | contradiction))) | (refine And.intro (rng64 (by omega) (by omega)) ?_) | (refine And.intro ⟨by omega,by omega⟩ ?_) | (refine And.intro ⟨by omega,by omega,by omega⟩ ?_) | (intro _))); rfl
  rw [if_neg c4]
  have hC:=s_cutPre (c::r) [117,123]
  (repeat' (first | (refine And.intro (fun h=>?_) (fun h=>?_)<;>(try simp [-List.getD_eq_getElem?_getD,-Int.pred_toNat] at h)<;>(try (exfalso; first | omega | contradiction))) | (refine And.intro (rng64 (by omega) (by omega)) ?_) | (refine And.intro ⟨by omega,by omega⟩ ?_) | (refine And.intro ⟨by omega,by omega,by omega⟩ ?_) | (intro _)))
  refine Or.inl (Exists.intro _ (And.intro (hC) ?_))
  have hI:=s_IndexByte (cutP [117,123] (c::r)) 125
  rw [show (125:Int).toNat.toUInt8 = (125:UInt8) from rfl,idx_find] at hI
  by_cases hp:c.toNat = 117∧r.head? = some 123
  rotate_left
  · rw [if_neg hp]
    have hf:isPre [117,123] (c::r) = false:=by
      cases hh:isPre [117,123] (c::r) with
      | false=>rfl
      | true=>exact absurd ((pre_iff c r).1 hh) hp
    rw [hf]
    refine Or.inl (Exists.intro _ (And.intro (hI) ?_))
    (repeat' (first | (refine And.intro (fun h=>?_) (fun h=>?_)<;>(try simp [-List.getD_eq_getElem?_getD,-Int.pred_toNat] at h)<;>(try (exfalso; first | omega | contradiction))) | (refine And.intro (rng64 (by omega) (by omega)) ?_) | (refine And.intro ⟨by omega,by omega⟩ ?_) | (refine And.intro ⟨by omega,by omega,by omega⟩ ?_) | (intro _)))
    rfl
  rw [if_pos hp]
  have ht:isPre [117,123] (c::r) = true:=(pre_iff c r).2 hp
  have hd:cutP [117,123] (c::r) = r.drop 1:=by unfold cutP; rw [if_pos ht]; rfl
  rw [ht,hd]
  rw [hd] at hI
  have hdl:(r.drop 1).length≤1048576:=by rw [List.length_drop]; have:(c::r).length = r.length + 1:=rfl; omega
  generalize r.drop 1 = ds at *
  unfold uniP
  generalize hE:ds.findIdx (· == 125) = e at *
  refine Or.inl (Exists.intro _ (And.intro (hI) ?_))
  by_cases he1:1≤e∧e≤6∧e < ds.length
  rotate_left
  · by_cases hlt:e < ds.length
    · rw [if_pos hlt,if_neg (fun h=>he1 ⟨h.1,h.2.1,h.2.2.1⟩)]
      rcases (show e < 1∨6 < e by omega) with h9 | h9
      all_goals
        (repeat' (first | (refine And.intro (fun h=>?_) (fun h=>?_)<;>(try simp [-List.getD_eq_getElem?_getD,-Int.pred_toNat] at h)<;>(try (exfalso; first | omega | contradiction))) | (refine And.intro (rng64 (by omega) (by omega)) ?_) | (refine And.intro ⟨by omega,by omega⟩ ?_) | (refine And.intro ⟨by omega,by omega,by omega⟩ ?_) | (intro _)))
        all_goals rfl
    · rw [if_neg hlt,if_neg (fun h=>he1 ⟨h.1,h.2.1,h.2.2.1⟩)]
      (repeat' (first | (refine And.intro (fun h=>?_) (fun h=>?_)<;>(try simp [-List.getD_eq_getElem?_getD,-Int.pred_toNat] at h)<;>(try (exfalso; first | omega | contradiction))) | (refine And.intro (rng64 (by omega) (by omega)) ?_) | (refine And.intro ⟨by omega,by omega⟩ ?_) | (refine And.intro ⟨by omega,by omega,by omega⟩ ?_) | (intro _)))
      all_goals rfl
  rw [if_pos he1.2.2]
  (repeat' (first | (refine And.intro (fun h=>?_) (fun h=>?_)<;>(try simp [-List.getD_eq_getElem?_getD,-Int.pred_toNat] at h)<;>(try (exfalso; first | omega | contradiction))) | (refine And.intro (rng64 (by omega) (by omega)) ?_) | (refine And.intro ⟨by omega,by omega⟩ ?_) | (refine And.intro ⟨by omega,by omega,by omega⟩ ?_) | (intro _)))
  have hsl:List.drop (Int.toNat 0) (List.take (Int.toNat (e:Int)) ds) = ds.take e:=by rw [Int.toNat_natCast]; rfl
  rw [hsl]
  have hle:(ds.take e).length = e:=by rw [List.length_take]; omega
  have hU:=s_parseU he (ds.take e) (fun h=>by rw [h] at hle; have:([]:Str).length = 0:=rfl; omega) (by omega)
  by_cases hx:hexA (ds.take e)
  rotate_left
  · rw [if_neg hx] at hU
    rw [if_neg (fun h=>hx h.2.2.2)]
    refine Or.inl (Exists.intro _ (And.intro (hU) ?_))
    (repeat' (first | (refine And.intro (fun h=>?_) (fun h=>?_)<;>(try simp [-List.getD_eq_getElem?_getD,-Int.pred_toNat] at h)<;>(try (exfalso; first | omega | contradiction))) | (refine And.intro (rng64 (by omega) (by omega)) ?_) | (refine And.intro ⟨by omega,by omega⟩ ?_) | (refine And.intro ⟨by omega,by omega,by omega⟩ ?_) | (intro _)))
    rfl
  rw [if_pos hx] at hU
  rw [if_pos ⟨he1.1,he1.2.1,he1.2.2,hx⟩]
  have h24:=hexN_six hx (by omega)
  generalize hexN 0 (ds.take e) = n at *
  have hw32:IntKind.i32.wrap (n:Int) = (n:Int):=by rw [IntKind.wrap_i32]; omega
  have hS:PSpec Tryd.prog 101 [.i .i32 (IntKind.i32.wrap (n:Int))] (.i .i64 (sizeR (n:Int))):=by rw [hw32]; exact s_Size (n:Int)
  have hz:=size0 (n:Int)
  refine Or.inl (Exists.intro _ (And.intro (hU) ?_))
  (repeat' (first | (refine And.intro (fun h=>?_) (fun h=>?_)<;>(try simp [-List.getD_eq_getElem?_getD,-Int.pred_toNat] at h)<;>(try (exfalso; first | omega | contradiction))) | (refine And.intro (rng64 (by omega) (by omega)) ?_) | (refine And.intro ⟨by omega,by omega⟩ ?_) | (refine And.intro ⟨by omega,by omega,by omega⟩ ?_) | (intro _)))
  refine Or.inl (Exists.intro _ (And.intro (hS) ?_))
  by_cases hsc:scalar (n:Int)
  · rw [if_pos hsc]
    refine And.intro (fun h=>absurd (hz.1 (eq_of_beq h)) (fun h=>h hsc)) (fun _=>?_)
    (repeat' (first | (refine And.intro (fun h=>?_) (fun h=>?_)<;>(try simp [-List.getD_eq_getElem?_getD,-Int.pred_toNat] at h)<;>(try (exfalso; first | omega | contradiction))) | (refine And.intro (rng64 (by omega) (by omega)) ?_) | (refine And.intro ⟨by omega,by omega⟩ ?_) | (refine And.intro ⟨by omega,by omega,by omega⟩ ?_) | (intro _)))
    exact congrArg (fun x:Int=>AV.tup [.i .i32 x,.i .i64 (3 + (e:Int)),.i .i64 0]) hw32
  · rw [if_neg hsc]
    refine And.intro (fun _=>?_) (fun h=>absurd (hz.2 hsc) (ne_of_beq_false h))
    rfl
theorem s_escapeP (he:HasErr) (s:Str) (hs:s.length≤1048576):PSpec Tryd.prog 62 [.s s] (tup3 (escP s)) :=
  pspec_of_vc Γ_good Tryd.func62 rfl Tryd.call62 Tryd.results62 Tryd.ntmps62 (Nat.le_of_ble_eq_true rfl) (w_escapeP he s hs)
end
end Go.Proofs.YtmfchbkdakmjhaaDoor
end
section
namespace Go.Es
set_option linter.unusedSectionVars false
set_option linter.unusedSimpArgs false
set_option linter.unusedVariables false
open Go Go.SX Go.Ut Go.Nm
theorem drop_len {S:Str} {i:Nat} {c:UInt8} {X:Str} (h:S.drop i = c::X):i < S.length∧S.getD i 0 = c∧S.drop (i + 1) = X:=by
  have h1:i < S.length:=by
    refine Nat.lt_of_not_le fun h2=>?_
    rw [List.drop_eq_nil_of_le h2] at h
    cases h
  refine ⟨h1,?_,?_⟩
  · have:=getD_drop S i 0 0
    rw [h] at this
    exact this.symm
  · rw [← List.drop_drop,h]
    rfl
theorem unq_esc {S o X:Str} {i:Nat} {v n:Int} (hS:S.drop i = 92::X) (he:escP X = (v,n,0)):unqFrom S o i = unqFrom S (o++encS v) (i + (1 + n).toNat):=by
  obtain ⟨h1,h2,h3⟩:=drop_len hS
  rw [unq_step h1,h2,h3,he,if_neg (by decide),if_neg (by decide),if_pos (by decide),if_neg (fun h=>h rfl)]
theorem dgt_dcI:∀ k:Fin 16,dgt (dcI ((k.val:Nat):Int)) = k.val∧dcI ((k.val:Nat):Int)≠125:=by decide +kernel
theorem dgt_dc {r:Int} (h0:0≤r) (h1:r < 16):(dgt (dcI r):Int) = r∧dcI r≠125:=by
  have h:=dgt_dcI ⟨r.toNat,by omega⟩
  simp only at h
  rw [show ((r.toNat:Nat):Int) = r by omega] at h
  exact ⟨by omega,h.2⟩
theorem escP_u (X:Str):escP (117::123::X) = uniP X:=by
  rw [escP,if_neg (by decide),if_neg (by decide),if_neg (by decide),if_neg (by decide),if_pos ⟨by decide,rfl⟩]
  rfl
theorem uniP_at {a X:Str} (h1:1≤a.length) (h2:a.length≤6) (ha:hexA a) (hs:scalar (hexN 0 a:Int)):uniP (a++125::X) = ((hexN 0 a:Int),3 + (a.length:Int),0):=by
  have ht:(a++125::X).take a.length = a:=List.take_left
  have h125:(a++125::X).getD a.length 0 = 125:=by
    rw [List.getD_eq_getElem?_getD,List.getElem?_append_right (Nat.le_refl _),Nat.sub_self]
    rfl
  have:=(uni_exit (ds:=a++125::X) (m:=a.length) (by omega) (by rw [List.length_append]; omega) (by rw [ht]; exact ha) (.inr (.inr (by rw [h125]; decide)))).1
    ⟨h1,h2,by rw [List.length_append,List.length_cons]; omega,by rw [h125]; decide⟩
  rw [this,ht,if_pos hs]
theorem unq_q1 {key : Str} {k : Nat} (hk : k < key.length) (hg : ¬ ((decAt key k).1 = 65533 ∧ (decAt key k).2 = 1)) {S o X : Str} {i : Nat} (hS : S.drop i = q1 ((decAt key k).1 : Int) ++ X) :
    unqFrom S o i = unqFrom S (o++encS ((decAt key k).1:Int)) (i + (q1 ((decAt key k).1:Int)).length):=by
  have hsc:=dec_scalar key k
  have hap:=dec_app (S:=S) (t:=X) (j:=i) hk hg
  generalize hr:((decAt key k).1:Int) = r at hS hsc hap
  have h0:0≤r:=hsc.1
  rcases q1_c h0 with ⟨h,e⟩ | ⟨h,e⟩ | ⟨h,e⟩ | ⟨h,e⟩ | ⟨h,e⟩ | ⟨h,e⟩ | ⟨h,e⟩ | ⟨h,e⟩ | ⟨h,e⟩
  · subst h
    rw [e] at hS ⊢
    exact unq_esc (v:=34) (n:=1) hS rfl
  · subst h
    rw [e] at hS ⊢
    exact unq_esc (v:=92) (n:=1) hS rfl
  · subst h
    rw [e] at hS ⊢
    exact unq_esc (v:=10) (n:=1) hS rfl
  · subst h
    rw [e] at hS ⊢
    exact unq_esc (v:=9) (n:=1) hS rfl
  · subst h
    rw [e] at hS ⊢
    exact unq_esc (v:=13) (n:=1) hS rfl
  · have hd:=dgt_dc h0 h.1
    have hN:(hexN 0 [dcI r]:Int) = r:=by
      show ((0 * 16 + dgt (dcI r):Nat):Int) = r
      omega
    rw [e] at hS ⊢
    refine unq_esc (v:=r) (n:=4) hS ?_
    show escP (117::123::([dcI r]++125::X)) = _
    rw [escP_u,uniP_at (a:=[dcI r]) (Nat.le_refl 1) (Nat.le_of_ble_eq_true rfl) (fun c hc=>by rw [List.mem_singleton.1 hc]; omega) (by rw [hN]; exact hsc),hN]
    rfl
  · have hd:=dgt_dc (r:=r - 16) (by omega) (by omega)
    have hN:(hexN 0 [49,dcI (r - 16)]:Int) = r:=by
      show (((0 * 16 + dgt 49) * 16 + dgt (dcI (r - 16)):Nat):Int) = r
      rw [show dgt 49 = 1 by decide]
      omega
    rw [e] at hS ⊢
    refine unq_esc (v:=r) (n:=5) hS ?_
    show escP (117::123::([49,dcI (r - 16)]++125::X)) = _
    rw [escP_u,uniP_at (a:=[49,dcI (r - 16)]) (Nat.le_succ 1) (Nat.le_of_ble_eq_true rfl) (fun c hc=>?_) (by rw [hN]; exact hsc),hN]
    · rfl
    · rcases List.mem_cons.1 hc with rfl | hc
      · decide
      · rw [List.mem_singleton.1 hc]; omega
  · subst h
    rw [e] at hS ⊢
    have hN:(hexN 0 [55,102]:Int) = 127:=by decide
    have hx:escP (117::123::([55,102]++125::X)) = (127,5,0):=by
      rw [escP_u,uniP_at (a:=[55,102]) (Nat.le_succ 1) (by decide) (by decide) (by decide),hN]
      rfl
    exact unq_esc hS hx
  · rw [e] at hS ⊢
    have hd:=hap hS
    have hlen:(encS r).length = (decAt key k).2:=by
      have h3:=(good_at hk hg).2.2
      rw [hr] at h3
      have hle:=dec_le hk
      rw [← h3,List.length_take,List.length_drop]
      omega
    have hi:i < S.length:=by
      refine Nat.lt_of_not_le fun h2=>?_
      rw [List.drop_eq_nil_of_le h2] at hS
      have h4:=congrArg List.length hS
      rw [List.length_append,hlen] at h4
      have:=dec_pos key k
      simp only [List.length_nil] at h4
      omega
    have hb:(S.getD i 0).toNat < 128→((S.getD i 0).toNat:Int) = r:=fun hlt=>by
      have h5:decAt S i = ((S.getD i 0).toNat,1):=by
        show Lib.decodeN _ _ _ _ _ = _
        unfold Lib.decodeN
        rw [if_pos hlt]
      rw [← hr,← hd,h5]
    rw [unq_step hi,if_neg (fun h9=>by have:=hb (by omega); omega),if_neg (fun h9=>by have:=hb (by omega); omega),if_neg (fun h9=>by have:=hb (by omega); omega),hd,if_neg hg,hlen,hr]
theorem unq_from {key S t : Str} (n : Nat) : ∀ (k : Nat) (o : Str) (i : Nat), key.length ≤ n + k → k ≤ key.length → badFrom key k < 0 → S.drop i = qFrom key k ++ 34 :: t →
    unqFrom S o i = (o++key.drop k,((i + (qFrom key k).length + 1:Nat):Int),0):=by
  induction n with
  | zero =>
    intro k o i hn hk hb hS
    rw [qFrom_end (by omega)] at hS ⊢
    obtain ⟨h1,h2,h3⟩:=drop_len hS
    rw [unq_step h1,h2,if_pos (by decide),List.drop_eq_nil_of_le (by omega),List.append_nil]
    rfl
  | succ n ih =>
    intro k o i hn hk hb hS
    by_cases hlt:k < key.length
    · have hbr : ¬ ((decAt key k).1 = 65533 ∧ (decAt key k).2 = 1) ∧ badFrom key (k + (decAt key k).2) < 0 := by
        rw [bad_step hlt] at hb
        split at hb
        · omega
        · rename_i h; exact ⟨h,hb⟩
      have hpos:=dec_pos key k
      have hle:=dec_le hlt
      rw [qFrom_step hlt,List.append_assoc] at hS
      rw [unq_q1 hlt hbr.1 hS,ih (k + (decAt key k).2) _ _ (by omega) hle hbr.2 (by rw [← List.drop_drop,hS,List.drop_left]),qFrom_step hlt,List.length_append]
      have h3:=(good_at hlt hbr.1).2.2
      refine Prod.ext ?_ (Prod.ext ?_ rfl)
      · show o++encS ((decAt key k).1:Int)++key.drop (k + (decAt key k).2) = o++key.drop k
        rw [← h3,List.append_assoc,← List.drop_drop,List.take_append_drop]
      · show ((_:Nat):Int) = ((_:Nat):Int)
        omega
    · rw [qFrom_end (by omega)] at hS ⊢
      obtain ⟨h1,h2,h3⟩:=drop_len hS
      rw [unq_step h1,h2,if_pos (by decide),List.drop_eq_nil_of_le (by omega),List.append_nil]
      rfl
theorem unq_round {key:Str} (hb:bad key < 0) (t:Str):unq (qAll key++t) = (key,((qAll key).length:Int),0):=by
  unfold unq
  rw [if_pos (by unfold qAll isPre; rw [decide_eq_true_eq]; exact ⟨by simp,rfl⟩)]
  have hS:(qAll key++t).drop 1 = qFrom key 0++34::t:=by
    unfold qAll
    simp
  rw [unq_from key.length 0 [] 1 (by omega) (by omega) hb hS]
  refine Prod.ext rfl (Prod.ext ?_ rfl)
  show ((_:Nat):Int) = _
  unfold qAll
  simp only [List.length_append,List.length_cons,List.length_nil]
  try omega
end Go.Es
end
section
namespace Go.Vl
set_option linter.unusedSectionVars false
set_option linter.unusedSimpArgs false
set_option linter.unusedVariables false
open Go.SX
def orI (a b:Int):Int:=if a = 0 then b else a
def cmpI (a b:Int):Int:=if a = b then 0 else if a < b then -1 else 1
def cmpS (a b:Str):Int:=if a = b then 0 else if Op.bytesLess a b = true then -1 else 1
def rank (f:Int):Int:=if f < 9223372036854775808 then f + 9223372036854775808 else 18446744073709551615 - f
mutual
def cmpV:Val→Val→Int
  | ⟨k,n,f,s,l,e⟩,b=>orI (cmpI k b.kind) (orI (cmpI n b.n) (orI (cmpI (rank f) (rank b.f)) (orI (cmpS s b.s) (orI (cmpL l b.l) (cmpE e b.e)))))
def cmpL:List Val→List Val→Int
  | [],[]=>0
  | [],_::_=>-1
  | _::_,[]=>1
  | x::xs,y::ys=>orI (cmpV x y) (cmpL xs ys)
def cmpE:List (Str × Val)→List (Str × Val)→Int
  | [],[]=>0
  | [],_::_=>-1
  | _::_,[]=>1
  | x::xs,y::ys=>orI (cmpP x y) (cmpE xs ys)
def cmpP:Str × Val→Str × Val→Int
  | (a,x),q=>orI (cmpS a q.1) (cmpV x q.2)
end
theorem cmpI_self (a:Int):cmpI a a = 0:=if_pos rfl
theorem cmpS_self (a:Str):cmpS a a = 0:=if_pos rfl
theorem orI_ne {a b:Int} (h:a≠0):orI a b = a:=if_neg h
theorem orI_zero {b:Int}:orI 0 b = b:=if_pos rfl
mutual
theorem cmpV_self:∀ v:Val,cmpV v v = 0
  | ⟨k,n,f,s,l,e⟩=>by
    rw [cmpV]
    simp only [cmpI_self,cmpS_self,cmpL_self l,cmpE_self e,orI_zero]
theorem cmpL_self:∀ l:List Val,cmpL l l = 0
  | []=>by rw [cmpL]
  | x::xs=>by rw [cmpL,cmpV_self x,cmpL_self xs,orI_zero]
theorem cmpE_self:∀ l:List (Str × Val),cmpE l l = 0
  | []=>by rw [cmpE]
  | x::xs=>by rw [cmpE,cmpP_self x,cmpE_self xs,orI_zero]
theorem cmpP_self:∀ p:Str × Val,cmpP p p = 0
  | (a,x)=>by rw [cmpP,cmpV_self x,cmpS_self,orI_zero]
end
end Go.Vl
end
section
namespace Go.Ck
set_option linter.unusedSectionVars false
set_option linter.unusedSimpArgs false
set_option linter.unusedVariables false
open Go.SX Go.Vl Go.Ut
def oddF (f:Int):Prop:=(f / 4503599627370496) % 2048 = 2047∧f % 4503599627370496≠0∧f≠9221120237041090561
def kindBad (v:Val):Prop :=
  (v.kind < 0∨6 < v.kind)∨(v.kind≠1∧v.kind≠2∧v.n≠0)∨(v.kind = 1∧v.n≠0∧v.n≠1)∨(v.kind≠3∧v.f≠0)∨oddF v.f∨(v.kind≠4∧v.s≠[])∨(v.kind≠5∧0 < v.l.length)∨(v.kind≠6∧0 < v.e.length)
instance (f:Int):Decidable (oddF f):=by unfold oddF; infer_instance
instance (v:Val):Decidable (kindBad v):=by unfold kindBad; infer_instance
def ownF (v:Val) (above:Int):Int :=
  if 20≤above then 5 else if kindBad v then 10 else if 4000 < v.s.length∨200 < v.l.length∨200 < v.e.length then 2 else if 0≤bad v.s then 3 else 0
def keyF (p:Option Str) (k:Str):Int :=
  if 100 < k.length then 2 else if 0≤bad k then 3 else match p with
    | some q=>if Op.bytesLess q k = true then 0 else 14
    | none=>0
def entF:Option Str→List (Str × Val)→Int
  | _,[]=>0
  | p,x::r=>orI (keyF p x.1) (entF (some x.1) r)
def oneF (v:Val) (above:Int):Int:=orI (ownF v above) (entF none v.e)
mutual
def chkV:Val→Int→Int→Int × Int
  | ⟨k,n,f,s,l,e⟩,above,m =>
    if 2000 < m + 1 then (2,m + 1) else if oneF ⟨k,n,f,s,l,e⟩ above≠0 then (oneF ⟨k,n,f,s,l,e⟩ above,m + 1) else
      match chkL l (above + 1) (m + 1) with
      | (r,m')=>if r≠0 then (r,m') else chkE e (above + 1) m'
def chkL:List Val→Int→Int→Int × Int
  | [],_,m=>(0,m)
  | x::xs,above,m=>match chkV x above m with
    | (r,m')=>if r≠0 then (r,m') else chkL xs above m'
def chkE:List (Str × Val)→Int→Int→Int × Int
  | [],_,m=>(0,m)
  | x::xs,above,m=>match chkQ x above m with
    | (r,m')=>if r≠0 then (r,m') else chkE xs above m'
def chkQ:Str × Val→Int→Int→Int × Int
  | (_,x),above,m=>chkV x above m
end
/-! how the count runs -/
mutual
theorem chkV_le:∀ (v:Val) (a m:Int),0≤m→m≤2000→m≤(chkV v a m).2∧(chkV v a m).2≤2001∧((chkV v a m).1 = 0→(chkV v a m).2≤2000)
  | ⟨k,n,f,s,l,e⟩,a,m,h0,h=>by
    rw [chkV]
    by_cases c:2000 < m + 1
    · rw [if_pos c]
      exact ⟨by simp only; omega,by simp only; omega,fun h=>by simp at h⟩
    · rw [if_neg c]
      by_cases d:oneF ⟨k,n,f,s,l,e⟩ a≠0
      · rw [if_pos d]
        exact ⟨by simp only; omega,by simp only; omega,fun h=>absurd h d⟩
      · rw [if_neg d]
        have h1:=chkL_le l (a + 1) (m + 1) (by omega) (by omega)
        cases hx:chkL l (a + 1) (m + 1) with
        | mk r m' =>
          rw [hx] at h1
          simp only at h1 ⊢
          by_cases g:r≠0
          · rw [if_pos g]; exact ⟨by simp only; omega,by simp only; omega,fun h=>absurd h g⟩
          · rw [if_neg g]
            have h2:=chkE_le e (a + 1) m' (by omega) (h1.2.2 (by simpa using g))
            exact ⟨by omega,h2.2.1,h2.2.2⟩
theorem chkL_le:∀ (l:List Val) (a m:Int),0≤m→m≤2000→m≤(chkL l a m).2∧(chkL l a m).2≤2001∧((chkL l a m).1 = 0→(chkL l a m).2≤2000)
  | [],a,m,h0,h=>by rw [chkL]; exact ⟨Int.le_refl _,by simp only; omega,fun _=>h⟩
  | x::xs,a,m,h0,h=>by
    rw [chkL]
    have h1:=chkV_le x a m h0 h
    cases hx:chkV x a m with
    | mk r m' =>
      rw [hx] at h1
      simp only at h1 ⊢
      by_cases g:r≠0
      · rw [if_pos g]; exact ⟨h1.1,h1.2.1,fun h=>absurd h g⟩
      · rw [if_neg g]
        have h2:=chkL_le xs a m' (by omega) (h1.2.2 (by simpa using g))
        exact ⟨by omega,h2.2.1,h2.2.2⟩
theorem chkE_le:∀ (l:List (Str × Val)) (a m:Int),0≤m→m≤2000→m≤(chkE l a m).2∧(chkE l a m).2≤2001∧((chkE l a m).1 = 0→(chkE l a m).2≤2000)
  | [],a,m,h0,h=>by rw [chkE]; exact ⟨Int.le_refl _,by simp only; omega,fun _=>h⟩
  | x::xs,a,m,h0,h=>by
    rw [chkE]
    have h1:=chkQ_le x a m h0 h
    cases hx:chkQ x a m with
    | mk r m' =>
      rw [hx] at h1
      simp only at h1 ⊢
      by_cases g:r≠0
      · rw [if_pos g]; exact ⟨h1.1,h1.2.1,fun h=>absurd h g⟩
      · rw [if_neg g]
        have h2:=chkE_le xs a m' (by omega) (h1.2.2 (by simpa using g))
        exact ⟨by omega,h2.2.1,h2.2.2⟩
theorem chkQ_le:∀ (x:Str × Val) (a m:Int),0≤m→m≤2000→m≤(chkQ x a m).2∧(chkQ x a m).2≤2001∧((chkQ x a m).1 = 0→(chkQ x a m).2≤2000)
  | (_,x),a,m,h0,h=>by rw [chkQ]; exact chkV_le x a m h0 h
end
/-! how deep, and how many -/
mutual
def sizV:Val→Int × Int
  | ⟨_,_,_,_,l,e⟩=>let p:=sizL l (0,1); let q:=sizE e p; (q.1 + 1,q.2)
def sizL:List Val→Int × Int→Int × Int
  | [],p=>p
  | x::xs,p=>sizL xs (let q:=sizV x; (if p.1 < q.1 then q.1 else p.1,p.2 + q.2))
def sizE:List (Str × Val)→Int × Int→Int × Int
  | [],p=>p
  | x::xs,p=>sizE xs (let q:=sizQ x; (if p.1 < q.1 then q.1 else p.1,p.2 + q.2))
def sizQ:Str × Val→Int × Int
  | (_,x)=>sizV x
end
end Go.Ck
end
section
namespace Go.Up
set_option linter.unusedSectionVars false
set_option linter.unusedSimpArgs false
set_option linter.unusedVariables false
open Go.SX Go.Vl Go.Ut Go.Ck
def stepF (p:PStep):Int:=if p.i < -1∨(0≤p.i∧p.key≠[]) then 1 else if 100 < p.key.length then 2 else if 0≤bad p.key then 3 else 0
def stepsF:List PStep→Int
  | []=>0
  | p::r=>orI (stepF p) (stepsF r)
def pathF (p:List PStep):Int:=if 20 < p.length then 5 else stepsF p
theorem stepsF_drop {p:List PStep} {i:Nat} (h:i < p.length):stepsF (p.drop i) = orI (stepF p[i]) (stepsF (p.drop (i + 1))):=by
  rw [List.drop_eq_getElem_cons h,stepsF]
theorem stepsF_mem:∀ {p:List PStep},stepsF p = 0→∀ q ∈ p,stepF q = 0
  | x::r,h,q,hq=>by
    rw [stepsF] at h
    have h1:stepF x = 0:=by
      by_cases c:stepF x = 0
      · exact c
      · rw [orI_ne c] at h; exact h
    rw [h1,orI_zero] at h
    rcases List.mem_cons.1 hq with rfl | hq
    · exact h1
    · exact stepsF_mem h q hq
end Go.Up
end
section
namespace Go.Pth
set_option linter.unusedSectionVars false
set_option linter.unusedSimpArgs false
set_option linter.unusedVariables false
open Go Go.SX Go.Ut Go.Nm Go.Es Go.Up
def keyT (s:Str):Str:=if bare s then s else qAll s
def stepT (p:PStep):Str:=if p.i < 0 then 46::keyT p.key else 91::(txtN 10 p.i.toNat++[93])
def tailT (l:List PStep):Str:=l.flatMap stepT
def pathT (l:List PStep):Str:=36::tailT l
theorem tailT_cons (p:PStep) (l:List PStep):tailT (p::l) = stepT p++tailT l:=rfl
def endC (c:UInt8):Bool:=c == 46 || c == 91
def numR (d:Str):Int × Bool:=match Lib.parseIntB 64 d with
  | .ok v=>(v,decide (0≤v∧v≤4611686018427387904))
  | .syntax=>(0,false)
  | .range=>(Lib.intSat 64 d,false)
def stpP (s:Str):PStep × Str × Bool :=
  if isPre [91] s then (⟨[],(numR ((s.drop 1).take ((s.drop 1).findIdx (· == 93)))).1⟩,(s.drop 1).drop ((s.drop 1).findIdx (· == 93) + 1),(numR ((s.drop 1).take ((s.drop 1).findIdx (· == 93)))).2)
  else if isPre [46] s then
    (if isPre [34] (s.drop 1) then (⟨(unq (s.drop 1)).1,-1⟩,(s.drop 1).drop (unq (s.drop 1)).2.1.toNat,decide ((unq (s.drop 1)).2.2 = 0))
     else (⟨(s.drop 1).take ((s.drop 1).findIdx endC),-1⟩,(s.drop 1).drop ((s.drop 1).findIdx endC),bare ((s.drop 1).take ((s.drop 1).findIdx endC))))
  else (⟨[],0⟩,[],false)
def readF:Nat→List PStep→Str→Bool→List PStep × Bool
  | 0,out,_,ok=>(out,ok)
  | f + 1,out,r,ok=>if ok = true∧r≠[]∧out.length≤20 then readF f (out++[(stpP r).1]) (stpP r).2.1 (stpP r).2.2 else (out,ok)
def finP (s:Str) (x:List PStep × Bool):List PStep × Int:=if x.2 = true∧pathF x.1 = 0∧pathT x.1 = s then (x.1,0) else ([],4)
def readP (s:Str):List PStep × Int:=finP s (readF 21 [] (cutP [36] s) (isPre [36] s))
def isDc (c:UInt8):Bool:=decide (48≤c.toNat∧c.toNat≤57)
def digV:Nat→Str→Option Nat
  | x,[]=>some x
  | x,c::r=>if 576460752303423488 < x then none else digV (x * 10 + (c.toNat - 48)) r
def numE (s:Str) (i:Nat):Option (PStep × Nat):=match digV 0 ((s.drop (i + 1)).takeWhile isDc) with
  | none=>none
  | some x=>if 4611686018427387904 < x then none else some (⟨[],(x:Int)⟩,i + 1 + ((s.drop (i + 1)).takeWhile isDc).length + 1)
def stpR (s:Str) (i:Nat):Option (PStep × Nat) :=
  if (s.getD i 0).toNat = 91 then numE s i
  else if isPre [34] (s.drop (i + 1)) then (if (unq (s.drop (i + 1))).2.2≠0 then none else some (⟨(unq (s.drop (i + 1))).1,-1⟩,i + 1 + (unq (s.drop (i + 1))).2.1.toNat))
  else some (⟨(s.drop (i + 1)).take ((s.drop (i + 1)).findIdx endC),-1⟩,i + 1 + (s.drop (i + 1)).findIdx endC)
def rrF (s:Str):Nat→List PStep→Nat→Option (List PStep)
  | 0,out,_=>some out
  | f + 1,out,i=>if i < s.length then (match stpR s i with
    | none=>none
    | some p=>rrF s f (out++[p.1]) p.2) else some out
def finR (s:Str):Option (List PStep)→Option (List PStep)
  | none=>none
  | some out=>if pathF out = 0∧pathT out = s then some out else none
def readR (s:Str):Option (List PStep):=finR s (rrF s (s.length + 1) [] 1)
/-! numerals -/
def decV:Nat→Str→Nat
  | x,[]=>x
  | x,c::r=>decV (x * 10 + (c.toNat - 48)) r
theorem decV_append (a b:Str):∀ x,decV x (a++b) = decV (decV x a) b:=by
  induction a with
  | nil=>intro x; rfl
  | cons c r ih=>intro x; exact ih _
theorem decV_ge (a:Str):∀ x,x≤decV x a:=by
  induction a with
  | nil=>intro x; exact Nat.le_refl _
  | cons c r ih=>intro x; exact Nat.le_trans (by omega) (ih _)
def allD (s:Str):Prop:=∀ c ∈ s,isDc c = true
theorem dc_digit:∀ k:Fin 10,isDc (dcI ((k.val:Nat):Int)) = true∧(dcI ((k.val:Nat):Int)).toNat = 48 + k.val:=by decide +kernel
theorem dc_dig {d:Nat} (h:d < 10):isDc (dcI (d:Int)) = true∧(dcI (d:Int)).toNat = 48 + d:=dc_digit ⟨d,h⟩
theorem tail_dec:∀ n:Nat,allD (tailN 10 n)∧decV 0 (tailN 10 n) = n∧(0 < n→tailN 10 n≠[]):=by
  intro n
  induction n using Nat.strongRecOn with
  | ind n ih =>
    rcases Nat.eq_zero_or_pos n with e | e
    · subst e
      exact ⟨fun c hc=>(by cases hc),rfl,fun h=>absurd h (by decide)⟩
    · obtain ⟨h1,h2,h3⟩:=ih (n / 10) (by omega)
      have hd:=dc_dig (d:=n % 10) (Nat.mod_lt _ (by decide))
      rw [tailN_pos (by decide) e]
      refine ⟨fun c hc=>?_,?_,fun _=>by simp⟩
      · rcases List.mem_append.1 hc with hc | hc
        · exact h1 c hc
        · rw [List.mem_singleton.1 hc]; exact hd.1
      · rw [decV_append,h2]
        show n / 10 * 10 + ((dcI ((n % 10:Nat):Int)).toNat - 48) = n
        rw [hd.2]
        omega
theorem txt_dec (n:Nat):allD (txtN 10 n)∧decV 0 (txtN 10 n) = n∧txtN 10 n≠[]:=by
  rcases Nat.eq_zero_or_pos n with e | e
  · subst e
    exact ⟨fun c hc=>by rw [List.mem_singleton.1 hc]; decide,rfl,by decide⟩
  · rw [txtN_pos e]
    exact ⟨(tail_dec n).1,(tail_dec n).2.1,(tail_dec n).2.2 e⟩
theorem parseM_dec (l:Str):∀ acc,allD l→decV acc l≤18446744073709551615→Lib.parseUintM (2 ^ 64 - 1) acc l = .ok (decV acc l):=by
  induction l with
  | nil=>intro acc _ _; rfl
  | cons c r ih =>
    intro acc hd hv
    have hc:=hd c (List.mem_cons_self ..)
    unfold isDc at hc
    rw [decide_eq_true_eq] at hc
    have hge:=decV_ge r (acc * 10 + (c.toNat - 48))
    have hv':decV (acc * 10 + (c.toNat - 48)) r≤18446744073709551615:=hv
    rw [Lib.parseUintM, if_pos hc, if_neg (by omega), if_neg (by have : (2 : Nat) ^ 64 - 1 = 18446744073709551615 := by decide
                                                                 omega)]
    exact ih _ (fun x hx=>hd x (List.mem_cons_of_mem _ hx)) hv'
theorem numR_dec {l:Str} (hd:allD l) (hne:l≠[]) (hv:decV 0 l≤4611686018427387904):numR l = ((decV 0 l:Int),true):=by
  cases l with
  | nil=>exact absurd rfl hne
  | cons c r =>
    have hc:=hd c (List.mem_cons_self ..)
    unfold isDc at hc
    rw [decide_eq_true_eq] at hc
    have hp:Lib.parseIntB 64 (c::r) = .ok (decV 0 (c::r):Int):=by
      unfold Lib.parseIntB
      simp only
      rw [if_neg (by omega)]
      unfold Lib.parseUintB
      rw [if_neg (by simp),parseM_dec _ 0 hd (by omega)]
      simp only
      have h63:(2:Nat) ^ (64 - 1) = 9223372036854775808:=by decide
      rw [if_neg (fun h=>by rw [h63] at h; omega),if_neg (fun h=>by omega),if_neg (by omega)]
    unfold numR
    rw [hp]
    exact Prod.ext rfl (decide_eq_true ⟨Int.natCast_nonneg _,by show ((decV 0 (c::r):Nat):Int)≤_; omega⟩)
theorem digV_dec (l:Str):∀ x,decV x l≤4611686018427387904→digV x l = some (decV x l):=by
  induction l with
  | nil=>intro x _; rfl
  | cons c r ih =>
    intro x hv
    have hge:=decV_ge r (x * 10 + (c.toNat - 48))
    have hv':decV (x * 10 + (c.toNat - 48)) r≤4611686018427387904:=hv
    rw [digV,if_neg (by omega)]
    exact ih _ hv'
/-! scans -/
theorem findIdx_app {p:UInt8→Bool} {a b:Str} (ha:∀ c ∈ a,p c = false) (hb:b = []∨∃ c t,b = c::t∧p c = true):(a++b).findIdx p = a.length:=by
  induction a with
  | nil =>
    rcases hb with rfl | ⟨c,t,rfl,h⟩
    · rfl
    · rw [List.nil_append,List.findIdx_cons,h]; rfl
  | cons x r ih =>
    rw [List.cons_append,List.findIdx_cons,ha x (List.mem_cons_self ..),ih (fun c hc=>ha c (List.mem_cons_of_mem _ hc))]
    rfl
theorem takeWhile_app {p:UInt8→Bool} {a b:Str} (ha:∀ c ∈ a,p c = true) (hb:∃ c t,b = c::t∧p c = false):(a++b).takeWhile p = a:=by
  obtain ⟨c,t,rfl,h⟩:=hb
  induction a with
  | nil=>simp [List.takeWhile_cons,h]
  | cons x r ih=>rw [List.cons_append,List.takeWhile_cons,ha x (List.mem_cons_self ..),if_pos rfl,ih (fun c hc=>ha c (List.mem_cons_of_mem _ hc))]
theorem isPre1 (c d:UInt8) (r:Str):isPre [c] (d::r) = decide (d = c):=by
  unfold isPre
  simp
theorem bare_chars {k:Str} (h:bare k = true):k≠[]∧∀ c ∈ k,c≠46∧c≠91∧c≠34:=by
  unfold bare at h
  rw [Bool.and_eq_true,decide_eq_true_eq] at h
  refine ⟨fun e=>by rw [e] at h; exact absurd h.1.1 (by decide),fun c hc=>?_⟩
  obtain ⟨i,hi,rfl⟩:=List.getElem_of_mem hc
  have h1:=(keyC_iff i _).1 (h.1.2.2 i hi)
  rw [List.getD_eq_getElem?_getD,List.getElem?_eq_getElem hi] at h1
  have h1:keyP i k[i]:=h1
  unfold keyP at h1
  have e46:(46:UInt8).toNat = 46:=rfl
  have e91:(91:UInt8).toNat = 91:=rfl
  have e34:(34:UInt8).toNat = 34:=rfl
  exact ⟨fun e=>by rw [e,e46] at h1; omega,fun e=>by rw [e,e91] at h1; omega,fun e=>by rw [e,e34] at h1; omega⟩
theorem stepF_ok {x:PStep} (h:stepF x = 0):(x.i = -1∨(0≤x.i∧x.key = []))∧bad x.key < 0:=by
  unfold stepF at h
  split at h
  · cases h
  rename_i h1
  split at h
  · cases h
  split at h
  · cases h
  rename_i h3
  refine ⟨?_,by omega⟩
  by_cases c:x.i = -1
  · exact .inl c
  · refine .inr ⟨by omega,?_⟩
    by_cases d:x.key = []
    · exact d
    · exact absurd (.inr ⟨by omega,d⟩) h1
def Beh (t:Str):Prop:=t = []∨∃ c r,t = c::r∧endC c = true
theorem beh_tail (l:List PStep):Beh (tailT l):=by
  cases l with
  | nil=>exact .inl rfl
  | cons x r =>
    right
    rw [tailT_cons]
    unfold stepT
    split
    · exact ⟨46,_,rfl,rfl⟩
    · exact ⟨91,_,rfl,rfl⟩
theorem stepT_key {x:PStep} (h:x.i = -1):stepT x = 46::keyT x.key:=by unfold stepT; rw [if_pos (by omega)]
theorem stepT_num {x:PStep} (h:0≤x.i):stepT x = 91::(txtN 10 x.i.toNat++[93]):=by unfold stepT; rw [if_neg (by omega)]
theorem qAll_cons (s:Str):qAll s = 34::(qFrom s 0++[34]):=rfl
theorem dc_not93 {c:UInt8} (h:isDc c = true):(c == 93) = false:=by
  unfold isDc at h
  rw [decide_eq_true_eq] at h
  rw [beq_eq_false_iff_ne]
  rintro rfl
  exact absurd h (by decide)
theorem step_eta {x:PStep} {k:Str} {n:Int} (h1:x.key = k) (h2:x.i = n):(⟨k,n⟩:PStep) = x:=by cases x; subst h1 h2; rfl
theorem stpP_at {x:PStep} (hx:stepF x = 0) (h62:x.i≤4611686018427387904) {t:Str} (ht:Beh t):stpP (stepT x++t) = (x,t,true):=by
  obtain ⟨hc,hb⟩:=stepF_ok hx
  rcases hc with hi | ⟨hi,hk⟩
  · rw [stepT_key hi]
    unfold stpP
    rw [List.cons_append,isPre1,if_neg (by decide),isPre1,if_pos (by decide)]
    show (if isPre [34] (keyT x.key++t) = true then _ else _) = _
    unfold keyT
    by_cases hbr:bare x.key = true
    · rw [if_pos hbr]
      obtain ⟨hne,hch⟩:=bare_chars hbr
      have hf:(x.key++t).findIdx endC = x.key.length:=findIdx_app (fun c hc=>by
        have:=hch c hc
        unfold endC
        rw [Bool.or_eq_false_iff,beq_eq_false_iff_ne,beq_eq_false_iff_ne]
        exact ⟨this.1,this.2.1⟩) ht
      rw [if_neg]
      · show (PStep.mk ((x.key++t).take ((x.key++t).findIdx endC)) (-1),(x.key++t).drop ((x.key++t).findIdx endC),bare ((x.key++t).take ((x.key++t).findIdx endC))) = _
        rw [hf,List.take_left,List.drop_left,hbr,step_eta rfl hi]
      · cases hxk:x.key with
        | nil=>exact absurd hxk hne
        | cons c r =>
          rw [List.cons_append,isPre1,decide_eq_true_eq]
          exact (hch c (by rw [hxk]; exact List.mem_cons_self ..)).2.2
    · rw [if_neg hbr,if_pos (by rw [qAll_cons,List.cons_append,isPre1]; rfl)]
      show (PStep.mk (unq (qAll x.key++t)).1 (-1),(qAll x.key++t).drop (unq (qAll x.key++t)).2.1.toNat,decide ((unq (qAll x.key++t)).2.2 = 0)) = _
      rw [unq_round hb]
      show (PStep.mk x.key (-1),(qAll x.key++t).drop (Int.toNat ((qAll x.key).length:Int)),true) = _
      rw [Int.toNat_natCast,List.drop_left,step_eta rfl hi]
  · rw [stepT_num hi]
    unfold stpP
    rw [List.cons_append,isPre1,if_pos (by decide)]
    show (PStep.mk [] (numR ((txtN 10 x.i.toNat++[93]++t).take ((txtN 10 x.i.toNat++[93]++t).findIdx (· == 93)))).1,(txtN 10 x.i.toNat++[93]++t).drop ((txtN 10 x.i.toNat++[93]++t).findIdx (· == 93) + 1),(numR ((txtN 10 x.i.toNat++[93]++t).take ((txtN 10 x.i.toNat++[93]++t).findIdx (· == 93)))).2) = _
    obtain ⟨d1,d2,d3⟩:=txt_dec x.i.toNat
    rw [List.append_assoc,findIdx_app (b:=[93]++t) (fun c hc=>dc_not93 (d1 c hc)) (.inr ⟨93,t,rfl,rfl⟩),List.take_left,numR_dec d1 d3 (by rw [d2]; omega),d2,← List.drop_drop,List.drop_left]
    rw [step_eta hk (show x.i = ((x.i.toNat:Nat):Int) by omega)]
    rfl
theorem stpP_le {s:Str} (h:(stpP s).2.2 = true):(stpP s).1.i≤4611686018427387904:=by
  unfold stpP at h ⊢
  split
  · rename_i c
    rw [if_pos c] at h
    have h:(numR ((s.drop 1).take ((s.drop 1).findIdx (· == 93)))).2 = true:=h
    show (numR ((s.drop 1).take ((s.drop 1).findIdx (· == 93)))).1≤_
    unfold numR at h ⊢
    split
    · rename_i v hv
      rw [hv] at h
      exact (of_decide_eq_true h).2
    · rename_i hv; rw [hv] at h; cases h
    · rename_i hv; rw [hv] at h; cases h
  split
  · split
    · show (-1:Int)≤_; decide
    · show (-1:Int)≤_; decide
  · show (0:Int)≤_; decide
theorem stpR_at {S:Str} {i:Nat} {x:PStep} (hx:stepF x = 0) (h62:x.i≤4611686018427387904) {t:Str} (ht:Beh t) (hS:S.drop i = stepT x++t):stpR S i = some (x,i + (stepT x).length):=by
  obtain ⟨hc,hb⟩:=stepF_ok hx
  rcases hc with hi | ⟨hi,hk⟩
  · rw [stepT_key hi] at hS ⊢
    obtain ⟨h1,h2,h3⟩:=drop_len hS
    have h3:S.drop (i + 1) = keyT x.key++t:=h3
    unfold stpR
    rw [h2,if_neg (by decide),h3]
    unfold keyT
    by_cases hbr:bare x.key = true
    · rw [if_pos hbr]
      obtain ⟨hne,hch⟩:=bare_chars hbr
      have hf:(x.key++t).findIdx endC = x.key.length:=findIdx_app (fun c hc=>by
        have:=hch c hc
        unfold endC
        rw [Bool.or_eq_false_iff,beq_eq_false_iff_ne,beq_eq_false_iff_ne]
        exact ⟨this.1,this.2.1⟩) ht
      rw [if_neg,hf,List.take_left,step_eta rfl hi]
      · refine congrArg some (Prod.ext rfl ?_)
        show i + 1 + x.key.length = i + (x.key.length + 1)
        omega
      · cases hxk:x.key with
        | nil=>exact absurd hxk hne
        | cons c r =>
          rw [List.cons_append,isPre1,decide_eq_true_eq]
          exact (hch c (by rw [hxk]; exact List.mem_cons_self ..)).2.2
    · rw [if_neg hbr,if_pos (by rw [qAll_cons,List.cons_append,isPre1]; rfl),unq_round hb,if_neg (fun h=>h rfl)]
      show some (PStep.mk x.key (-1),i + 1 + Int.toNat ((qAll x.key).length:Int)) = _
      rw [Int.toNat_natCast,step_eta rfl hi]
      refine congrArg some (Prod.ext rfl ?_)
      show i + 1 + (qAll x.key).length = i + ((qAll x.key).length + 1)
      omega
  · rw [stepT_num hi] at hS ⊢
    obtain ⟨h1,h2,h3⟩:=drop_len hS
    have h3:S.drop (i + 1) = txtN 10 x.i.toNat++93::t:=by rw [h3]; exact List.append_assoc ..
    unfold stpR
    rw [h2,if_pos (by decide)]
    unfold numE
    obtain ⟨d1,d2,d3⟩:=txt_dec x.i.toNat
    rw [h3,takeWhile_app d1 ⟨93,t,rfl,by decide⟩,digV_dec _ 0 (by rw [d2]; omega),d2]
    show (if 4611686018427387904 < x.i.toNat then none else some _) = _
    rw [if_neg (by omega),step_eta hk (show x.i = ((x.i.toNat:Nat):Int) by omega)]
    refine congrArg some (Prod.ext rfl ?_)
    show i + 1 + (txtN 10 x.i.toNat).length + 1 = i + ((txtN 10 x.i.toNat++[93]).length + 1)
    rw [List.length_append]
    show _ = i + ((txtN 10 x.i.toNat).length + 1 + 1)
    omega
theorem stpR_le {s:Str} {i:Nat} {p:PStep × Nat} (h:stpR s i = some p):p.1.i≤4611686018427387904∧i < p.2:=by
  unfold stpR at h
  split at h
  · unfold numE at h
    split at h
    · cases h
    · split at h
      · cases h
      · injection h with h
        subst h
        exact ⟨by show ((_:Nat):Int)≤_; omega,by show i < i + 1 + _ + 1; omega⟩
  split at h
  · split at h
    · cases h
    · injection h with h
      subst h
      exact ⟨by show (-1:Int)≤_; decide,by show i < i + 1 + _; omega⟩
  · injection h with h
    subst h
    exact ⟨by show (-1:Int)≤_; decide,by show i < i + 1 + _; omega⟩
/-! the two readers -/
theorem readF_all (l:List PStep):∀ (f:Nat) (out:List PStep),(∀ x ∈ l,stepF x = 0∧x.i≤4611686018427387904)→l.length≤f→out.length + l.length≤20→readF f out (tailT l) true = (out++l,true):=by
  induction l with
  | nil =>
    intro f out _ _ _
    rw [List.append_nil]
    cases f with
    | zero=>rfl
    | succ f=>rw [readF,if_neg (fun h=>h.2.1 rfl)]
  | cons x r ih =>
    intro f out hx hf ho
    cases f with
    | zero=>exact absurd hf (by simp)
    | succ f =>
      rw [List.length_cons] at hf ho
      have h1:=hx x (List.mem_cons_self ..)
      have hne:tailT (x::r)≠[]:=by rw [tailT_cons]; unfold stepT; split<;>simp
      rw [readF,if_pos ⟨rfl,hne,by omega⟩,tailT_cons,stpP_at h1.1 h1.2 (beh_tail r),ih f _ (fun y hy=>hx y (List.mem_cons_of_mem _ hy)) (by omega) (by rw [List.length_append]; show out.length + 1 + _≤20; omega),List.append_assoc]
      rfl
theorem rrF_all (S:Str) (l:List PStep):∀ (f:Nat) (out:List PStep) (i:Nat),(∀ x ∈ l,stepF x = 0∧x.i≤4611686018427387904)→S.length < f + i→S.drop i = tailT l→i≤S.length→rrF S f out i = some (out++l):=by
  induction l with
  | nil =>
    intro f out i _ hf hS hi
    have h1:=congrArg List.length hS
    rw [List.length_drop] at h1
    have h1:S.length - i = 0:=h1
    cases f with
    | zero=>omega
    | succ f=>rw [rrF,if_neg (by omega),List.append_nil]
  | cons x r ih =>
    intro f out i hx hf hS hi
    cases f with
    | zero=>omega
    | succ f =>
      have h1:=hx x (List.mem_cons_self ..)
      rw [tailT_cons] at hS
      have hst:0 < (stepT x).length:=by unfold stepT; split<;>simp
      have hl:=congrArg List.length hS
      rw [List.length_drop,List.length_append] at hl
      rw [rrF,if_pos (by omega),stpR_at h1.1 h1.2 (beh_tail r) hS]
      show rrF S f (out++[x]) (i + (stepT x).length) = _
      rw [ih f _ _ (fun y hy=>hx y (List.mem_cons_of_mem _ hy)) (by omega) (by rw [← List.drop_drop,hS,List.drop_left]) (by omega),List.append_assoc]
      rfl
theorem readF_le:∀ (f:Nat) (out:List PStep) (r:Str) (ok:Bool),(ok = true→∀ x ∈ out,x.i≤4611686018427387904)→(readF f out r ok).2 = true→∀ x ∈ (readF f out r ok).1,x.i≤4611686018427387904
  | 0,out,r,ok,h,h2=>h h2
  | f + 1,out,r,ok,h,h2=>by
    rw [readF] at h2 ⊢
    split
    · rename_i c
      rw [if_pos c] at h2
      refine readF_le f _ _ _ (fun hk x hx=>?_) h2
      rcases List.mem_append.1 hx with hx | hx
      · exact h c.1 x hx
      · rw [List.mem_singleton.1 hx]; exact stpP_le hk
    · rename_i c
      rw [if_neg c] at h2
      exact h h2
theorem rrF_le (s:Str):∀ (f:Nat) (out:List PStep) (i:Nat) (o:List PStep),(∀ x ∈ out,x.i≤4611686018427387904)→rrF s f out i = some o→∀ x ∈ o,x.i≤4611686018427387904
  | 0,out,i,o,h,h2=>by
    rw [rrF] at h2
    injection h2 with h2
    subst h2
    exact h
  | f + 1,out,i,o,h,h2=>by
    rw [rrF] at h2
    split at h2
    · cases hp:stpR s i with
      | none=>rw [hp] at h2; cases h2
      | some p =>
        rw [hp] at h2
        have hle:=(stpR_le hp).1
        exact rrF_le s f _ _ o (fun x hx=>by
          rcases List.mem_append.1 hx with hx | hx
          · exact h x hx
          · rw [List.mem_singleton.1 hx]; exact hle) h2
    · injection h2 with h2
      subst h2
      exact h
theorem path_right {l:List PStep} (h:pathF l = 0):l.length≤20∧∀ x ∈ l,stepF x = 0:=by
  unfold pathF at h
  split at h
  · cases h
  · exact ⟨by omega,stepsF_mem h⟩
theorem readP_all {l:List PStep} {s:Str} (hf:pathF l = 0) (h62:∀ x ∈ l,x.i≤4611686018427387904) (hs:pathT l = s):readP s = (l,0):=by
  obtain ⟨h1,h2⟩:=path_right hf
  subst hs
  unfold readP pathT
  have hp:isPre [36] (36::tailT l) = true:=by rw [isPre1]; rfl
  unfold cutP
  rw [hp,if_pos rfl]
  show finP _ (readF 21 [] (tailT l) true) = _
  rw [readF_all l 21 [] (fun x hx=>⟨h2 x hx,h62 x hx⟩) (by omega) (by simpa using h1)]
  exact if_pos ⟨rfl,hf,rfl⟩
theorem readR_all {l:List PStep} {s:Str} (hf:pathF l = 0) (h62:∀ x ∈ l,x.i≤4611686018427387904) (hs:pathT l = s):readR s = some l:=by
  obtain ⟨h1,h2⟩:=path_right hf
  subst hs
  unfold readR
  rw [rrF_all (pathT l) l _ [] 1 (fun x hx=>⟨h2 x hx,h62 x hx⟩) (by omega) rfl (by show 1≤(tailT l).length + 1; omega)]
  exact if_pos ⟨hf,rfl⟩
theorem read_same (s:Str):readP s = match readR s with
  | some l=>(l,0)
  | none=>([],4):=by
  cases hR:readR s with
  | some l =>
    unfold readR at hR
    cases hr:rrF s (s.length + 1) [] 1 with
    | none=>rw [hr] at hR; cases hR
    | some o =>
      rw [hr] at hR
      have hR:(if pathF o = 0∧pathT o = s then some o else none) = some l:=hR
      split at hR
      · rename_i c
        injection hR with hR
        subst hR
        exact readP_all c.1 (rrF_le s _ _ _ _ (fun x hx=>by cases hx) hr) c.2
      · cases hR
  | none =>
    show readP s = ([],4)
    unfold readP finP
    split
    · rename_i c
      have:=readR_all c.2.1 (readF_le _ _ _ _ (fun _ x hx=>by cases hx) c.1) c.2.2
      rw [hR] at this
      cases this
    · rfl
end Go.Pth
end
section
namespace Go.Proofs.YtmfchbkdakmjhaaDoor
set_option linter.unusedSectionVars false
set_option linter.unusedSimpArgs false
set_option linter.unusedVariables false
open Go Go.SX Go.Ut Go.Nm Go.Es Go.Pth
set_option maxRecDepth 100000
set_option maxHeartbeats 2000000
theorem toU8 (c:UInt8):((c.toNat:Int).toNat).toUInt8 = c:=by rw [Int.toNat_natCast]; exact UInt8.ofNat_toNat
theorem dec_hi {s:Str} {i:Nat} (h:128≤(decAt s i).1):∀ k,k < (decAt s i).2→128≤(s.getD (i + k) 0).toNat:=by
  intro k hk
  have hk4:k < 4:=by have:=dec_len4 s i; omega
  have e:decAt s i = Lib.decodeN (s.length - i) (s.getD i 0).toNat (s.getD (i + 1) 0).toNat (s.getD (i + 2) 0).toNat (s.getD (i + 3) 0).toNat:=rfl
  rw [e] at h hk
  generalize ha:(s.getD i 0).toNat = a at h hk
  generalize hb:(s.getD (i + 1) 0).toNat = b at h hk
  generalize hc:(s.getD (i + 2) 0).toNat = c at h hk
  generalize hd:(s.getD (i + 3) 0).toNat = d at h hk
  have key:(k = 0→128≤a)∧(k = 1→128≤b)∧(k = 2→128≤c)∧(k = 3→128≤d):=by
    clear ha hb hc hd e
    unfold Lib.decodeN at h hk
    repeat' split at h
    all_goals simp_all
    all_goals omega
  rcases (show k = 0∨k = 1∨k = 2∨k = 3 by omega) with rfl | rfl | rfl | rfl
  · rw [Nat.add_zero,ha]; exact key.1 rfl
  · rw [hb]; exact key.2.1 rfl
  · rw [hc]; exact key.2.2.1 rfl
  · rw [hd]; exact key.2.2.2 rfl
theorem dec_lo {s:Str} {i:Nat} (h:(decAt s i).1 < 128):(decAt s i).2 = 1∧(s.getD i 0).toNat = (decAt s i).1:=by
  have e:decAt s i = Lib.decodeN (s.length - i) (s.getD i 0).toNat (s.getD (i + 1) 0).toNat (s.getD (i + 2) 0).toNat (s.getD (i + 3) 0).toNat:=rfl
  rw [e] at h ⊢
  unfold Lib.decodeN at h ⊢
  split
  · exact ⟨rfl,rfl⟩
  · exfalso
    rename_i c
    rw [if_neg c] at h
    repeat' split at h
    all_goals simp only at h
    all_goals omega
def encU (r:Int):Str:=(Utf8.encode r).data.toList
theorem encU_hi {r:Int} (hs:scalar r) (h:128≤r):2≤(encU r).length∧(encU r).length≤4∧∀ i,i < (encU r).length→128≤((encU r).getD i 0).toNat:=by
  have hv:Utf8.valid r = true:=by
    unfold scalar at hs
    unfold Utf8.valid
    simp only [Bool.and_eq_true,Bool.or_eq_true,decide_eq_true_eq,Bool.not_eq_true']
    first
      | omega
      | (simp; omega)
  have hN:∀ n:Nat,128≤n→n < 256→128≤(UInt8.ofNat n).toNat:=fun n h1 h2=>by
    rw [UInt8.toNat_ofNat']
    omega
  have hc0:128≤r.toNat∧r.toNat≤1114111:=by unfold scalar at hs; omega
  unfold encU Utf8.encode
  simp only [hv,if_true]
  generalize r.toNat = c at hc0
  rw [if_neg (by omega)]
  by_cases c1:c < 2048
  · rw [if_pos (by omega)]
    refine ⟨Nat.le_refl 2,Nat.le_of_ble_eq_true rfl,fun i hi=>?_⟩
    have hi:i < 2:=hi
    rcases (show i = 0∨i = 1 by omega) with rfl | rfl
    · exact hN _ (by omega) (by omega)
    · exact hN _ (by omega) (by omega)
  rw [if_neg (by omega)]
  by_cases c2:c < 65536
  · rw [if_pos (by omega)]
    refine ⟨Nat.le_of_ble_eq_true rfl,Nat.le_of_ble_eq_true rfl,fun i hi=>?_⟩
    have hi:i < 3:=hi
    rcases (show i = 0∨i = 1∨i = 2 by omega) with rfl | rfl | rfl
    · exact hN _ (by omega) (by omega)
    · exact hN _ (by omega) (by omega)
    · exact hN _ (by omega) (by omega)
  rw [if_neg (by omega)]
  refine ⟨Nat.le_of_ble_eq_true rfl,Nat.le_of_ble_eq_true rfl,fun i hi=>?_⟩
  have hi:i < 4:=hi
  rcases (show i = 0∨i = 1∨i = 2∨i = 3 by omega) with rfl | rfl | rfl | rfl
  · exact hN _ (by omega) (by omega)
  · exact hN _ (by omega) (by omega)
  · exact hN _ (by omega) (by omega)
  · exact hN _ (by omega) (by omega)
theorem any_find (s:Str):Lib.indexAny s [46,91] = if s.findIdx endC < s.length then (s.findIdx endC:Int) else -1:=by
  induction s with
  | nil=>rfl
  | cons b r ih =>
    have hb:([46,91]:Str).contains b = endC b:=by
      unfold endC
      simp only [List.contains_cons,List.contains_nil,Bool.or_false]
    rw [Lib.indexAny,List.findIdx_cons,hb]
    cases hc:endC b with
    | true=>simp
    | false =>
      rw [if_neg (by decide),ih]
      simp only [cond_false,List.length_cons,Nat.add_lt_add_iff_right]
      by_cases h:r.findIdx endC < r.length
      · simp only [if_pos h]
        rw [if_neg (by simp)]
        omega
      · simp only [if_neg h]
        rfl
section
variable [G:Globs]
theorem s_IndexByteL (s:Str) (c:UInt8):PSpec Tryd.prog 137 [.s s,.i .u8 (c.toNat:Int)] (.i .i64 (Lib.indexByte s c)):=by
  refine ⟨Tryd.call137,fun O w vs hO _ hargs=>?_⟩
  obtain ⟨v0,vs0,rfl,h0,h⟩:=hargs.cons_inv
  obtain ⟨v1,vs1,rfl,h1,h⟩:=h.cons_inv
  obtain rfl:=h.nil_inv
  cases h0
  cases h1
  refine (Tryd.stringslite_IndexByte ⟨s.toArray⟩ (c.toNat:Int) w).mono fun e w' ⟨he,hw⟩=>?_
  subst he hw
  rw [toU8]
  exact ⟨_,rfl,Stp.refl _ _,.i _ _⟩
theorem s_validRune (r:Int):PSpec Tryd.prog 183 [.i .i32 r] (.b (Lib.validRune r)):=by
  refine ⟨Tryd.call183,fun O w vs hO _ hargs=>?_⟩
  obtain ⟨v0,vs0,rfl,h0,h⟩:=hargs.cons_inv
  obtain rfl:=h.nil_inv
  cases h0
  refine (Tryd.utf8_ValidRune r w).mono fun e w' ⟨he,hw⟩=>?_
  subst he hw
  exact ⟨_,rfl,Stp.refl _ _,.b _⟩
theorem s_idxRuneLo (s:Str) (r:Int) (h0:0≤r) (h1:r < 128):PSpec Tryd.prog 144 [.s s,.i .i32 r] (.i .i64 (Lib.indexByte s r.toNat.toUInt8)):=by
  refine ⟨Tryd.call144,fun O w vs hO _ hargs=>?_⟩
  obtain ⟨v0,vs0,rfl,h2,h⟩:=hargs.cons_inv
  obtain ⟨v1,vs1,rfl,h3,h⟩:=h.cons_inv
  obtain rfl:=h.nil_inv
  cases h2
  cases h3
  refine (Tryd.strings_IndexRune_ascii ⟨s.toArray⟩ r w h0 h1).mono fun e w' ⟨he,hw⟩=>?_
  subst he hw
  exact ⟨_,rfl,Stp.refl _ _,.i _ _⟩
theorem w_index1 (s:Str) (c:UInt8):vc Tryd.prog Γ 143 [0,1,4,5,6,7,8,9,10,11,12,13,16,24,31,36,59,64,73,93,107,114,132,139] (Tryd.f182.body.getD .skip) (postK Γ [.tmp 4] (fun v=>v = .i .i64 (Lib.indexByte s c))) ⟨argSlots 0 [.s s,.s [c]],[]⟩:=by
  intro _
  by_cases hs:s = [c]
  · subst hs
    have:Lib.indexByte [c] c = 0:=by rw [idx_find]; simp
    rw [this]
    (repeat' (first | (refine And.intro (fun h=>?_) (fun h=>?_)<;>(try simp [-List.getD_eq_getElem?_getD,-Int.pred_toNat] at h)<;>(try (exfalso; first | omega | contradiction))) | (refine And.intro (rng64 (by omega) (by omega)) ?_) | (refine And.intro ⟨by omega,by omega⟩ ?_) | (refine And.intro ⟨by omega,by omega,by omega⟩ ?_) | (intro _)))
    all_goals rfl
  · (repeat' (first | (refine And.intro (fun h=>?_) (fun h=>?_)<;>(try simp [-List.getD_eq_getElem?_getD,-Int.pred_toNat] at h)<;>(try (exfalso; first | omega | contradiction))) | (refine And.intro (rng64 (by omega) (by omega)) ?_) | (refine And.intro ⟨by omega,by omega⟩ ?_) | (refine And.intro ⟨by omega,by omega,by omega⟩ ?_) | (intro _)))
    · exact absurd (by assumption) (fun h:[c] = s=>hs h.symm)
    refine And.intro ⟨by decide,by show (0:Int) < 1; decide⟩ ?_
    refine Or.inl (Exists.intro _ (And.intro (s_IndexByteL s c) ?_))
    rfl
theorem s_index1 (s:Str) (c:UInt8):PSpec Tryd.prog 182 [.s s,.s [c]] (.i .i64 (Lib.indexByte s c)) :=
  pspec_of_vc Γ_good Tryd.func182 rfl Tryd.call182 Tryd.results182 Tryd.ntmps182 (Nat.le_of_ble_eq_true rfl) (w_index1 s c)
theorem w_cut0 (s:Str) (c:UInt8) (hs:s.length≤100000000):vc Tryd.prog Γ 23 [0,1,4,5,6,7,12] (Tryd.f142.body.getD .skip) (postK Γ [.tmp 4,.tmp 5,.tmp 6] (fun v=>v = .tup [.s (s.take (s.findIdx (· == c))),.s (s.drop (s.findIdx (· == c) + 1)),.b (decide (s.findIdx (· == c) < s.length))])) ⟨argSlots 0 [.s s,.s [c]],[]⟩:=by
  have hq:=s_index1 s c
  rw [idx_find] at hq
  have hle:=List.findIdx_le_length (xs:=s) (p:=(· == c))
  generalize s.findIdx (· == c) = e at hq hle
  by_cases he:e < s.length
  · rw [if_pos he] at hq
    rw [decide_eq_true he]
    refine Or.inl (Exists.intro _ (And.intro (hq) ?_))
    (repeat' (first | (refine And.intro (fun h=>?_) (fun h=>?_)<;>(try simp [-List.getD_eq_getElem?_getD,-Int.pred_toNat] at h)<;>(try (exfalso; first | omega | contradiction))) | (refine And.intro (rng64 (by omega) (by omega)) ?_) | (refine And.intro ⟨by omega,by omega⟩ ?_) | (refine And.intro ⟨by omega,by omega,by omega⟩ ?_) | (intro _)))
    have hc1:(([c]:Str).length:Int) = 1:=rfl
    refine Exists.intro [.take 0,.take 1,.take 2,.take 3,.take 4,.take 5,.take 6,.blk [7,8,9,10,11]] (And.intro (by kernel_rfl) ?_)
    (repeat' (first | (refine And.intro (fun h=>?_) (fun h=>?_)<;>(try simp [-List.getD_eq_getElem?_getD,-Int.pred_toNat] at h)<;>(try (exfalso; first | omega | contradiction))) | (refine And.intro (rng64 (by omega) (by omega)) ?_) | (refine And.intro ⟨by omega,by omega⟩ ?_) | (refine And.intro ⟨by omega,by omega,by omega⟩ ?_) | (intro _)))
    show AV.tup [.s ((s.take (Int.toNat (e:Int))).drop (Int.toNat 0)),.s ((s.take (Int.toNat (s.length:Int))).drop (Int.toNat ((e:Int) + (([c]:Str).length:Int)))),.b true] = _
    rw [hc1,Int.toNat_natCast,Int.toNat_natCast,List.take_length,show Int.toNat ((e:Int) + 1) = e + 1 by omega]
    rfl
  · rw [if_neg he] at hq
    rw [decide_eq_false he,List.take_of_length_le (by omega),List.drop_eq_nil_of_le (by omega)]
    refine Or.inl (Exists.intro _ (And.intro (hq) ?_))
    (repeat' (first | (refine And.intro (fun h=>?_) (fun h=>?_)<;>(try simp [-List.getD_eq_getElem?_getD,-Int.pred_toNat] at h)<;>(try (exfalso; first | omega | contradiction))) | (refine And.intro (rng64 (by omega) (by omega)) ?_) | (refine And.intro ⟨by omega,by omega⟩ ?_) | (refine And.intro ⟨by omega,by omega,by omega⟩ ?_) | (intro _)))
    all_goals rfl
theorem s_cut0 (s:Str) (c:UInt8) (hs:s.length≤100000000):PSpec Tryd.prog 142 [.s s,.s [c]] (.tup [.s (s.take (s.findIdx (· == c))),.s (s.drop (s.findIdx (· == c) + 1)),.b (decide (s.findIdx (· == c) < s.length))]) :=
  pspec_of_vc Γ_good Tryd.func142 rfl Tryd.call142 Tryd.results142 Tryd.ntmps142 (Nat.le_of_ble_eq_true rfl) (w_cut0 s c hs)
theorem w_cutS (s:Str) (c:UInt8) (hs:s.length≤100000000):vc Tryd.prog Γ 13 [0,1,4,5,6] (Tryd.f105.body.getD .skip) (postK Γ [.tmp 4,.tmp 5,.tmp 6] (fun v=>v = .tup [.s (s.take (s.findIdx (· == c))),.s (s.drop (s.findIdx (· == c) + 1)),.b (decide (s.findIdx (· == c) < s.length))])) ⟨argSlots 0 [.s s,.s [c]],[]⟩:=by
  refine Or.inl (Exists.intro _ (And.intro (s_cut0 s c hs) ?_))
  rfl
theorem s_cutS (s:Str) (c:UInt8) (hs:s.length≤100000000):PSpec Tryd.prog 105 [.s s,.s [c]] (.tup [.s (s.take (s.findIdx (· == c))),.s (s.drop (s.findIdx (· == c) + 1)),.b (decide (s.findIdx (· == c) < s.length))]) :=
  pspec_of_vc Γ_good Tryd.func105 rfl Tryd.call105 Tryd.results105 Tryd.ntmps105 (Nat.le_of_ble_eq_true rfl) (w_cutS s c hs)
theorem w_useSet (n:Int):vc Tryd.prog Γ 5 [0,2] (Tryd.f145.body.getD .skip) (postK Γ [.tmp 2] (fun v=>v = .b (decide (8 < n)))) ⟨argSlots 0 [.i .i64 n],[]⟩:=by
  rfl
theorem s_useSet (n:Int):PSpec Tryd.prog 145 [.i .i64 n] (.b (decide (8 < n))) :=
  pspec_of_vc Γ_good Tryd.func145 rfl Tryd.call145 Tryd.results145 Tryd.ntmps145 (Nat.le_of_ble_eq_true rfl) (w_useSet n)
theorem w_idxRuneErr:vc Tryd.prog Γ 187 [0,1,4,5,6,7,8,9,10,11,12,13,14,15,16,26,33,43,51,64,98,108,124,139,143,156,160,171,175,176,177,181,183] (Tryd.f144.body.getD .skip) (postK Γ [.tmp 4] (fun v=>v = .i .i64 (-1))) ⟨argSlots 0 [.s [46,91],.i .i32 65533],[]⟩:=by
  have hd0:decAt [46,91] 0 = (46,1):=by decide +kernel
  have hd1:decAt [46,91] 1 = (91,1):=by decide +kernel
  (repeat' (first | (refine And.intro (fun h=>?_) (fun h=>?_)<;>(try simp [-List.getD_eq_getElem?_getD,-Int.pred_toNat] at h)<;>(try (exfalso; first | omega | contradiction))) | (refine And.intro (rng64 (by omega) (by omega)) ?_) | (refine And.intro ⟨by omega,by omega⟩ ?_) | (refine And.intro ⟨by omega,by omega,by omega⟩ ?_) | (intro _)))
  refine Exists.intro [] (Exists.intro [] (Exists.intro [] (Exists.intro Nat (Exists.intro (fun p=>p = 0∨p = 1∨p = 2) (Exists.intro (fun p=>⟨[(175,.ob 175 175 (.it [46,91] p))],[]⟩) (Exists.intro (fun p=>2 - p) (Exists.intro 0 (And.intro (.inl rfl) (And.intro ?_ ?_)))))))))
  · (repeat' (first | exact trivial | exact Or.inl rfl | exact Or.inr (Or.inl ⟨rfl,_,rfl⟩) | exact Or.inr (Or.inr (Or.inr ⟨_,_,_,rfl,rfl⟩)) | refine And.intro ?_ ?_))
  rintro p (rfl | rfl | rfl)
  · refine And.intro (fun hk=>?_) (fun hk=>absurd hk (by decide))
    rw [hd0]
    (focus (refine And.intro ?_ (fun h9=>?_); rotate_left 1; (focus (exfalso; revert h9; first | decide | (simp<;>omega) | (intro h9; simp at h9<;>omega))); refine fun _=>?_))
    (repeat' (first | (refine And.intro (fun h=>?_) (fun h=>?_)<;>(try simp [-List.getD_eq_getElem?_getD,-Int.pred_toNat] at h)<;>(try (exfalso; first | omega | contradiction))) | (refine And.intro (rng64 (by omega) (by omega)) ?_) | (refine And.intro ⟨by omega,by omega⟩ ?_) | (refine And.intro ⟨by omega,by omega,by omega⟩ ?_) | (intro _)))
    refine Exists.intro [] (Exists.intro 1 (And.intro (.inr (.inl rfl)) (And.intro ?_ ?_)))
    · (repeat' (first | exact trivial | exact Or.inl rfl | exact Or.inr (Or.inl ⟨rfl,_,rfl⟩) | exact Or.inr (Or.inr (Or.inr ⟨_,_,_,rfl,rfl⟩)) | refine And.intro ?_ ?_))
    · show 2 - 1 < 2 - 0; decide
  · refine And.intro (fun hk=>?_) (fun hk=>absurd hk (by decide))
    rw [hd1]
    (focus (refine And.intro ?_ (fun h9=>?_); rotate_left 1; (focus (exfalso; revert h9; first | decide | (simp<;>omega) | (intro h9; simp at h9<;>omega))); refine fun _=>?_))
    (repeat' (first | (refine And.intro (fun h=>?_) (fun h=>?_)<;>(try simp [-List.getD_eq_getElem?_getD,-Int.pred_toNat] at h)<;>(try (exfalso; first | omega | contradiction))) | (refine And.intro (rng64 (by omega) (by omega)) ?_) | (refine And.intro ⟨by omega,by omega⟩ ?_) | (refine And.intro ⟨by omega,by omega,by omega⟩ ?_) | (intro _)))
    refine Exists.intro [] (Exists.intro 2 (And.intro (.inr (.inr rfl)) (And.intro ?_ ?_)))
    · (repeat' (first | exact trivial | exact Or.inl rfl | exact Or.inr (Or.inl ⟨rfl,_,rfl⟩) | exact Or.inr (Or.inr (Or.inr ⟨_,_,_,rfl,rfl⟩)) | refine And.intro ?_ ?_))
    · show 2 - 2 < 2 - 1; decide
  · refine And.intro (fun hk=>absurd hk (by decide)) (fun hk=>?_)
    (repeat' (first | (refine And.intro (fun h=>?_) (fun h=>?_)<;>(try simp [-List.getD_eq_getElem?_getD,-Int.pred_toNat] at h)<;>(try (exfalso; first | omega | contradiction))) | (refine And.intro (rng64 (by omega) (by omega)) ?_) | (refine And.intro ⟨by omega,by omega⟩ ?_) | (refine And.intro ⟨by omega,by omega,by omega⟩ ?_) | (intro _)))
    all_goals rfl
theorem s_idxRuneErr:PSpec Tryd.prog 144 [.s [46,91],.i .i32 65533] (.i .i64 (-1)) :=
  pspec_of_vc Γ_good Tryd.func144 rfl Tryd.call144 Tryd.results144 Tryd.ntmps144 (Nat.le_of_ble_eq_true rfl) (w_idxRuneErr )
theorem w_idxRuneHi (r:Int) (hs:scalar r) (h:128≤r) (hn:r≠65533):vc Tryd.prog Γ 187 [0,1,4,5,6,7,8,9,10,11,12,13,14,15,16,26,33,43,51,64,98,108,124,139,143,156,160,171,175,176,177,181,183] (Tryd.f144.body.getD .skip) (postK Γ [.tmp 4] (fun v=>v = .i .i64 (-1))) ⟨argSlots 0 [.s [46,91],.i .i32 r],[]⟩:=by
  have hv:Lib.validRune r = true:=by
    unfold scalar at hs
    unfold Lib.validRune
    rw [decide_eq_true_eq]
    omega
  have hq:=s_validRune r
  rw [hv] at hq
  obtain ⟨u2,u4,uh⟩:=encU_hi hs h
  unfold encU at u2 u4 uh
  (repeat' (first | (refine And.intro (fun h=>?_) (fun h=>?_)<;>(try simp [-List.getD_eq_getElem?_getD,-Int.pred_toNat] at h)<;>(try (exfalso; first | omega | contradiction))) | (refine And.intro (rng64 (by omega) (by omega)) ?_) | (refine And.intro ⟨by omega,by omega⟩ ?_) | (refine And.intro ⟨by omega,by omega,by omega⟩ ?_) | (intro _)))
  refine Or.inl (Exists.intro _ (And.intro (hq) ?_))
  (repeat' (first | (refine And.intro (fun h=>?_) (fun h=>?_)<;>(try simp [-List.getD_eq_getElem?_getD,-Int.pred_toNat] at h)<;>(try (exfalso; first | omega | contradiction))) | (refine And.intro (rng64 (by omega) (by omega)) ?_) | (refine And.intro ⟨by omega,by omega⟩ ?_) | (refine And.intro ⟨by omega,by omega,by omega⟩ ?_) | (intro _)))
  generalize hrs:(Utf8.encode r).data.toList = rs at u2 u4 uh
  by_cases hl:rs.length = 2
  · have hb:128≤(rs.getD 1 0).toNat:=uh 1 (by omega)
    have hb2:(rs.getD 1 0).toNat < 256:=(rs.getD 1 0).toNat_lt
    refine Exists.intro [] (Exists.intro [] (Exists.intro [] (Exists.intro Unit (Exists.intro (fun _=>True) (Exists.intro (fun _=>⟨[(0,.s [46,91]),(7,.s rs),(8,.i .i64 1),(9,.i .i64 1)],[]⟩) (Exists.intro (fun _=>0) (Exists.intro () (And.intro trivial (And.intro ?_ ?_)))))))))
    · subst hrs
      (repeat' (first | exact trivial | exact Or.inl rfl | exact Or.inl ((congrArg (AV.i .i64) (show (((Utf8.encode r).data.toList.length:Nat):Int) - 1 = 1 by omega))) | refine And.intro ?_ ?_))
    rintro _ _
    have hI:Lib.indexByte [] (rs.getD 1 0) = -1:=rfl
    have hS:=s_IndexByte [] ((rs.getD 1 0).toNat:Int)
    rw [show (((rs.getD 1 0).toNat:Int).toNat).toUInt8 = rs.getD 1 0 from toU8 _,hI] at hS
    (repeat' (first | (refine And.intro (fun h=>?_) (fun h=>?_)<;>(try simp [-List.getD_eq_getElem?_getD,-Int.pred_toNat] at h)<;>(try (exfalso; first | omega | contradiction))) | (refine And.intro (rng64 (by omega) (by omega)) ?_) | (refine And.intro ⟨by omega,by omega⟩ ?_) | (refine And.intro ⟨by omega,by omega,by omega⟩ ?_) | (intro _)))
    refine Exists.intro [.blk [0,1,2,3,4,5,6]] (And.intro (by kernel_rfl) ?_)
    refine And.intro ⟨by decide,by decide⟩ ?_
    refine And.intro ⟨by decide,by omega⟩ ?_
    have hne:((91:Int) != ((rs.getD 1 0).toNat:Int)) = true:=by
      rw [bne_iff_ne]
      omega
    refine And.intro (fun h9=>?_) (fun h9=>?_)
    · refine Exists.intro [.blk [0,1,2,3,4,5,6,7,8]] (And.intro (by kernel_rfl) ?_)
      (repeat' (first | (refine And.intro (fun h=>?_) (fun h=>?_)<;>(try simp [-List.getD_eq_getElem?_getD,-Int.pred_toNat] at h)<;>(try (exfalso; first | omega | contradiction))) | (refine And.intro (rng64 (by omega) (by omega)) ?_) | (refine And.intro ⟨by omega,by omega⟩ ?_) | (refine And.intro ⟨by omega,by omega,by omega⟩ ?_) | (intro _)))
      refine And.intro ⟨by decide,by decide,by decide⟩ ?_
      refine And.intro ⟨by decide,by omega⟩ ?_
      refine Exists.intro _ (And.intro (hS) ?_)
      (repeat' (first | (refine And.intro (fun h=>?_) (fun h=>?_)<;>(try simp [-List.getD_eq_getElem?_getD,-Int.pred_toNat] at h)<;>(try (exfalso; first | omega | contradiction))) | (refine And.intro (rng64 (by omega) (by omega)) ?_) | (refine And.intro ⟨by omega,by omega⟩ ?_) | (refine And.intro ⟨by omega,by omega,by omega⟩ ?_) | (intro _)))
      all_goals first
        | rfl
        | ((conv=>whnf); trace_state)
    · have h9:((91:Int) != ((rs.getD 1 0).toNat:Int)) = false:=h9
      rw [hne] at h9
      cases h9
  · refine Exists.intro [] (Exists.intro [] (Exists.intro [] (Exists.intro Unit (Exists.intro (fun _=>True) (Exists.intro (fun _=>⟨[(0,.s [46,91]),(7,.s rs),(8,.i .i64 ((rs.length:Int) - 1)),(9,.i .i64 ((rs.length:Int) - 1))],[]⟩) (Exists.intro (fun _=>0) (Exists.intro () (And.intro trivial (And.intro ?_ ?_)))))))))
    · subst hrs
      (repeat' (first | exact trivial | exact Or.inl rfl | exact Or.inr (Or.inl ⟨rfl,_,rfl⟩) | exact Or.inr (Or.inr (Or.inr ⟨_,_,_,rfl,rfl⟩)) | refine And.intro ?_ ?_))
    rintro _ _
    have l2:(([46,91]:Str).length:Int) = 2:=rfl
    (repeat' (first | (refine And.intro (fun h=>?_) (fun h=>?_)<;>(try simp [-List.getD_eq_getElem?_getD,-Int.pred_toNat] at h)<;>(try (exfalso; first | omega | contradiction))) | (refine And.intro (rng64 (by omega) (by omega)) ?_) | (refine And.intro ⟨by omega,by omega⟩ ?_) | (refine And.intro ⟨by omega,by omega,by omega⟩ ?_) | (intro _)))
    all_goals rfl
theorem s_idxRuneHi (r:Int) (hs:scalar r) (h:128≤r) (hn:r≠65533):PSpec Tryd.prog 144 [.s [46,91],.i .i32 r] (.i .i64 (-1)) :=
  pspec_of_vc Γ_good Tryd.func144 rfl Tryd.call144 Tryd.results144 Tryd.ntmps144 (Nat.le_of_ble_eq_true rfl) (w_idxRuneHi r hs h hn)
theorem scan_hit {s:Str} {i:Nat} (hi:i < s.length) (hb:∀ k,k < i→endC (s.getD k 0) = false) (h:endC (s.getD i 0) = true):s.findIdx endC = i:=by
  refine (List.findIdx_eq hi).2 ⟨?_,fun j hj=>?_⟩
  · rw [List.getD_eq_getElem?_getD,List.getElem?_eq_getElem hi] at h; exact h
  · have:=hb j hj
    rw [List.getD_eq_getElem?_getD,List.getElem?_eq_getElem (by omega)] at this
    exact this
theorem scan_end {s:Str} (hb:∀ k,k < s.length→endC (s.getD k 0) = false):¬ s.findIdx endC < s.length:=fun h=>by
  have h1:=List.findIdx_getElem (xs:=s) (p:=endC) (w:=h)
  have h2:=hb _ h
  rw [List.getD_eq_getElem?_getD,List.getElem?_eq_getElem h] at h2
  have h2:endC s[s.findIdx endC] = false:=h2
  rw [h1] at h2
  cases h2
theorem s_anyLong (s:Str) (h8:8 < s.length) (hs:s.length≤1048576):PSpec Tryd.prog 107 [.s s,.s [46,91]] (.i .i64 (if s.findIdx endC < s.length then (s.findIdx endC:Int) else -1)):=by
  refine ⟨Tryd.call107,fun O w vs hO _ hargs=>?_⟩
  obtain ⟨v0,vs0,rfl,h0,h⟩:=hargs.cons_inv
  obtain ⟨v1,vs1,rfl,h1,h⟩:=h.cons_inv
  obtain rfl:=h.nil_inv
  cases h0
  cases h1
  refine (Tryd.strings_IndexAny_long (fun w=>by kernel_rfl) ⟨s.toArray⟩ ⟨#[46,91]⟩ w (by decide) (by show 8 < s.length; exact h8) (by show s.length < _; omega) (by decide) (fun j b hb=>by
    rcases j with _ | _ | j
    · cases hb; decide
    · cases hb; decide
    · cases hb)).mono fun e w' ⟨he,hw⟩=>?_
  subst he hw
  rw [← any_find]
  exact ⟨_,rfl,(Stp.alloc _ _).trans (Stp.alloc _ _) (fun _ _ h=>h),.i _ _⟩
theorem w_anyShort (s:Str) (h8:s.length≤8):vc Tryd.prog Γ 55 [0,1,4,5,6,7,8,9,10,12,15,20,26,32,36,42,45,46,47,53] (Tryd.f107.body.getD .skip) (postK Γ [.tmp 4] (fun v=>v = .i .i64 (if s.findIdx endC < s.length then (s.findIdx endC:Int) else -1))) ⟨argSlots 0 [.s s,.s [46,91]],[]⟩:=by
  have hu:=s_useSet (s.length:Int)
  rw [decide_eq_false (by omega)] at hu
  (repeat' (first | (refine And.intro (fun h=>?_) (fun h=>?_)<;>(try simp [-List.getD_eq_getElem?_getD,-Int.pred_toNat] at h)<;>(try (exfalso; first | omega | contradiction))) | (refine And.intro (rng64 (by omega) (by omega)) ?_) | (refine And.intro ⟨by omega,by omega⟩ ?_) | (refine And.intro ⟨by omega,by omega,by omega⟩ ?_) | (intro _)))
  refine Or.inl (Exists.intro _ (And.intro (hu) ?_))
  (repeat' (first | (refine And.intro (fun h=>?_) (fun h=>?_)<;>(try simp [-List.getD_eq_getElem?_getD,-Int.pred_toNat] at h)<;>(try (exfalso; first | omega | contradiction))) | (refine And.intro (rng64 (by omega) (by omega)) ?_) | (refine And.intro ⟨by omega,by omega⟩ ?_) | (refine And.intro ⟨by omega,by omega,by omega⟩ ?_) | (intro _)))
  refine Exists.intro [] (Exists.intro [] (Exists.intro [] (Exists.intro Nat (Exists.intro (fun i=>i≤s.length∧∀ k,k < i→endC (s.getD k 0) = false) (Exists.intro (fun i=>⟨[(1,.s [46,91]),(45,.ob 45 45 (.it s i))],[]⟩) (Exists.intro (fun i=>s.length - i) (Exists.intro 0 (And.intro ⟨Nat.zero_le _,fun k hk=>absurd hk (Nat.not_lt_zero _)⟩ (And.intro ?_ ?_)))))))))
  · (repeat' (first | exact trivial | exact Or.inl rfl | exact Or.inr (Or.inl ⟨rfl,_,rfl⟩) | exact Or.inr (Or.inr (Or.inr ⟨_,_,_,rfl,rfl⟩)) | refine And.intro ?_ ?_))
  rintro i ⟨hi,hb⟩
  refine And.intro (fun hk=>?_) (fun hk=>?_)
  · have hp:=dec_pos s i
    have hle:=dec_le hk
    have hsc:=dec_scalar s i
    have hlo:=@dec_lo s i
    have hhi:=@dec_hi s i
    have hc:=(s.getD i 0).toNat_lt
    generalize hN:(decAt s i).2 = n at *
    generalize hr:(decAt s i).1 = r at *
    (focus (refine And.intro ?_ (fun h9=>?_); rotate_left 1; (focus (exfalso; revert h9; first | decide | (simp<;>omega) | (intro h9; simp at h9<;>omega))); refine fun _=>?_))
    by_cases c:r < 128
    · obtain ⟨rfl,e⟩:=hlo c
      have hS:=s_idxRuneLo [46,91] (r:Int) (by omega) (by omega)
      rw [Int.toNat_natCast,show (r:Nat).toUInt8 = s.getD i 0 by rw [← e]; exact UInt8.ofNat_toNat] at hS
      by_cases hE:endC (s.getD i 0) = true
      · rw [scan_hit hk hb hE,if_pos hk]
        have hI:0≤Lib.indexByte [46,91] (s.getD i 0):=by
          unfold endC at hE
          rw [Bool.or_eq_true,beq_iff_eq,beq_iff_eq] at hE
          rcases hE with h | h<;>rw [h]<;>decide
        generalize Lib.indexByte [46,91] (s.getD i 0) = z at hS hI
        (repeat' (first | (refine And.intro (fun h=>?_) (fun h=>?_)<;>(try simp [-List.getD_eq_getElem?_getD,-Int.pred_toNat] at h)<;>(try (exfalso; first | omega | contradiction))) | (refine And.intro (rng64 (by omega) (by omega)) ?_) | (refine And.intro ⟨by omega,by omega⟩ ?_) | (refine And.intro ⟨by omega,by omega,by omega⟩ ?_) | (intro _)))
        refine Or.inl (Exists.intro _ (And.intro (hS) ?_))
        (repeat' (first | (refine And.intro (fun h=>?_) (fun h=>?_)<;>(try simp [-List.getD_eq_getElem?_getD,-Int.pred_toNat] at h)<;>(try (exfalso; first | omega | contradiction))) | (refine And.intro (rng64 (by omega) (by omega)) ?_) | (refine And.intro ⟨by omega,by omega⟩ ?_) | (refine And.intro ⟨by omega,by omega,by omega⟩ ?_) | (intro _)))
        all_goals rfl
      · have hE:endC (s.getD i 0) = false:=by simpa using hE
        have hI:Lib.indexByte [46,91] (s.getD i 0) = -1:=by
          unfold endC at hE
          rw [Bool.or_eq_false_iff] at hE
          rw [idx_find]
          have h1:([46,91]:Str).findIdx (· == s.getD i 0) = 2:=by
            rw [List.findIdx_cons,List.findIdx_cons,BEq.comm,hE.1,BEq.comm,hE.2]
            rfl
          rw [h1]
          rfl
        rw [hI] at hS
        have hnx:∀ k,k < i + 1→endC (s.getD k 0) = false:=fun k hk2=>by
          rcases (show k < i∨k = i by omega) with h | h
          · exact hb k h
          · rw [h]; exact hE
        (repeat' (first | (refine And.intro (fun h=>?_) (fun h=>?_)<;>(try simp [-List.getD_eq_getElem?_getD,-Int.pred_toNat] at h)<;>(try (exfalso; first | omega | contradiction))) | (refine And.intro (rng64 (by omega) (by omega)) ?_) | (refine And.intro ⟨by omega,by omega⟩ ?_) | (refine And.intro ⟨by omega,by omega,by omega⟩ ?_) | (intro _)))
        refine Or.inl (Exists.intro _ (And.intro (hS) ?_))
        (repeat' (first | (refine And.intro (fun h=>?_) (fun h=>?_)<;>(try simp [-List.getD_eq_getElem?_getD,-Int.pred_toNat] at h)<;>(try (exfalso; first | omega | contradiction))) | (refine And.intro (rng64 (by omega) (by omega)) ?_) | (refine And.intro ⟨by omega,by omega⟩ ?_) | (refine And.intro ⟨by omega,by omega,by omega⟩ ?_) | (intro _)))
        refine Exists.intro [] (Exists.intro (i + 1) (And.intro ⟨hle,hnx⟩ (And.intro ?_ ?_)))
        · (repeat' (first | exact trivial | exact Or.inl rfl | exact Or.inr (Or.inl ⟨rfl,_,rfl⟩) | exact Or.inr (Or.inr (Or.inr ⟨_,_,_,rfl,rfl⟩)) | refine And.intro ?_ ?_))
        · (exact Nat.sub_lt_sub_left (by omega) (by omega))
    · have hS : PSpec Tryd.prog 144 [.s [46, 91], .i .i32 (r : Int)] (.i .i64 (-1)) := by
        by_cases h9:r = 65533
        · rw [h9]; exact s_idxRuneErr
        · exact s_idxRuneHi (r:Int) hsc (by omega) (by omega)
      have hnx:∀ k,k < i + n→endC (s.getD k 0) = false:=fun k hk2=>by
        rcases (show k < i∨i≤k by omega) with h | h
        · exact hb k h
        · have h3:=hhi (by omega) (k - i) (by omega)
          rw [show i + (k - i) = k by omega] at h3
          unfold endC
          rw [Bool.or_eq_false_iff,beq_eq_false_iff_ne,beq_eq_false_iff_ne]
          exact ⟨fun e=>by rw [e] at h3; revert h3; decide,fun e=>by rw [e] at h3; revert h3; decide⟩
      (repeat' (first | (refine And.intro (fun h=>?_) (fun h=>?_)<;>(try simp [-List.getD_eq_getElem?_getD,-Int.pred_toNat] at h)<;>(try (exfalso; first | omega | contradiction))) | (refine And.intro (rng64 (by omega) (by omega)) ?_) | (refine And.intro ⟨by omega,by omega⟩ ?_) | (refine And.intro ⟨by omega,by omega,by omega⟩ ?_) | (intro _)))
      refine Or.inl (Exists.intro _ (And.intro (hS) ?_))
      (repeat' (first | (refine And.intro (fun h=>?_) (fun h=>?_)<;>(try simp [-List.getD_eq_getElem?_getD,-Int.pred_toNat] at h)<;>(try (exfalso; first | omega | contradiction))) | (refine And.intro (rng64 (by omega) (by omega)) ?_) | (refine And.intro ⟨by omega,by omega⟩ ?_) | (refine And.intro ⟨by omega,by omega,by omega⟩ ?_) | (intro _)))
      refine Exists.intro [] (Exists.intro (i + n) (And.intro ⟨hle,hnx⟩ (And.intro ?_ ?_)))
      · (repeat' (first | exact trivial | exact Or.inl rfl | exact Or.inr (Or.inl ⟨rfl,_,rfl⟩) | exact Or.inr (Or.inr (Or.inr ⟨_,_,_,rfl,rfl⟩)) | refine And.intro ?_ ?_))
      · (exact Nat.sub_lt_sub_left (by omega) (by omega))
  · have he:i = s.length:=by omega
    subst he
    rw [if_neg (scan_end hb)]
    (repeat' (first | (refine And.intro (fun h=>?_) (fun h=>?_)<;>(try simp [-List.getD_eq_getElem?_getD,-Int.pred_toNat] at h)<;>(try (exfalso; first | omega | contradiction))) | (refine And.intro (rng64 (by omega) (by omega)) ?_) | (refine And.intro ⟨by omega,by omega⟩ ?_) | (refine And.intro ⟨by omega,by omega,by omega⟩ ?_) | (intro _)))
    all_goals rfl
theorem s_anyShort (s:Str) (h8:s.length≤8):PSpec Tryd.prog 107 [.s s,.s [46,91]] (.i .i64 (if s.findIdx endC < s.length then (s.findIdx endC:Int) else -1)) :=
  pspec_of_vc Γ_good Tryd.func107 rfl Tryd.call107 Tryd.results107 Tryd.ntmps107 (Nat.le_of_ble_eq_true rfl) (w_anyShort s h8)
theorem s_idxAny (s:Str) (hs:s.length≤1048576):PSpec Tryd.prog 107 [.s s,.s [46,91]] (.i .i64 (if s.findIdx endC < s.length then (s.findIdx endC:Int) else -1)):=by
  by_cases h8:8 < s.length
  · exact s_anyLong s h8 hs
  · exact s_anyShort s (by omega)
end
end Go.Proofs.YtmfchbkdakmjhaaDoor
end
section
namespace Go.Proofs.YtmfchbkdakmjhaaDoor
set_option linter.unusedSectionVars false
set_option linter.unusedSimpArgs false
set_option linter.unusedVariables false
open Go Go.SX Go.Ut Go.Nm Go.Es
set_option maxRecDepth 100000
set_option maxHeartbeats 1000000
section
variable [G:Globs]
theorem w_hasPre (s t:Str):vc Tryd.prog Γ 8 [0,1,4] (Tryd.f61.body.getD .skip) (postK Γ [.tmp 4] (fun v=>v = .b (isPre t s))) ⟨argSlots 0 [.s s,.s t],[]⟩:=by
  refine Or.inl (Exists.intro _ (And.intro (s_hasPre0 s t) ?_))
  rfl
theorem s_hasPre (s t:Str):PSpec Tryd.prog 61 [.s s,.s t] (.b (isPre t s)) :=
  pspec_of_vc Γ_good Tryd.func61 rfl Tryd.call61 Tryd.results61 Tryd.ntmps61 (Nat.le_of_ble_eq_true rfl) (w_hasPre s t)
theorem w_unqP (he:HasErr) (hu:HasU8) (s:Str) (hs:s.length≤1048576):vc Tryd.prog Γ 63 [0,2,3,4,5,6,7,8,9,10,11,14,18,21,30,36,41,43,55] (Tryd.f24.body.getD .skip) (postK Γ [.tmp 2,.tmp 3,.tmp 4] (fun v=>v = tupU (unq s))) ⟨argSlots 0 [.s s],[]⟩:=by
  refine Or.inl (Exists.intro _ (And.intro (s_hasPre s [34]) ?_))
  unfold unq
  cases hp:isPre [34] s with
  | false=>(repeat' (first | (refine And.intro (fun h=>?_) (fun h=>?_)<;>(try simp [-List.getD_eq_getElem?_getD,-Int.pred_toNat] at h)<;>(try (exfalso; first | omega | contradiction))) | (refine And.intro (rng64 (by omega) (by omega)) ?_) | (refine And.intro ⟨by omega,by omega⟩ ?_) | (refine And.intro ⟨by omega,by omega,by omega⟩ ?_) | (intro _))); all_goals rfl
  | true =>
  rw [if_pos rfl]
  generalize hR:unqFrom s [] 1 = R
  refine And.intro (fun h=>by cases h) (fun _=>?_)
  refine Exists.intro 100 (And.intro rfl ?_)
  refine Exists.intro [] (Exists.intro [] (Exists.intro [] (Exists.intro (Str × Nat) (Exists.intro (fun x=>1≤x.2∧x.2≤s.length + 10∧unqFrom s x.1 x.2 = R∧x.1.length≤4 * x.2) (Exists.intro (fun ⟨o,i⟩=>⟨[(0,.s s),(5,.ob 5 100 (.sb 86 5 o)),(6,.i .i64 i)],[]⟩) (Exists.intro (fun x=>s.length - x.2) (Exists.intro ([],1) (And.intro ⟨Nat.le_refl _,by omega,hR,Nat.zero_le _⟩ (And.intro ?_ ?_)))))))))
  · (repeat' (first | exact trivial | exact Or.inl rfl | exact Or.inr (Or.inl ⟨rfl,_,rfl⟩) | exact Or.inr (Or.inr (Or.inr ⟨_,_,_,rfl,rfl⟩)) | refine And.intro ?_ ?_))
  rintro ⟨o,i⟩ ⟨hi1,hi2,heq,hol⟩
  simp only at hi1 hi2 heq hol
  intro _
  refine And.intro (fun h=>?_) (fun h=>?_)
  · have hk:i < s.length:=by have:(i:Int) < s.length:=of_decide_eq_true h; omega
    rw [unq_step hk] at heq
    have hcl:=(s.getD i 0).toNat_lt
    have hp:=dec_pos s i
    have hle:=dec_le hk
    have hd:=dec_rune s i
    have hE:=escP_rng (s.drop (i + 1))
    refine And.intro ⟨by omega,by omega⟩ ?_
    rw [show s.getD (Int.toNat (i:Int)) 0 = s.getD i 0 by rw [Int.toNat_natCast]]
    by_cases c1:(s.getD i 0).toNat = 34
    · rw [if_pos c1] at heq
      (repeat' (first | (refine And.intro (fun h=>?_) (fun h=>?_)<;>(try simp [-List.getD_eq_getElem?_getD,-Int.pred_toNat] at h)<;>(try (exfalso; first | omega | contradiction))) | (refine And.intro (rng64 (by omega) (by omega)) ?_) | (refine And.intro ⟨by omega,by omega⟩ ?_) | (refine And.intro ⟨by omega,by omega,by omega⟩ ?_) | (intro _)))
      refine Exists.intro _ (Exists.intro _ (And.intro (sb_String o) ?_))
      refine And.intro ⟨by omega,by omega⟩ ?_
      rw [← heq]
      rfl
    rw [if_neg c1] at heq
    by_cases c2:(s.getD i 0).toNat = 10
    · rw [if_pos c2] at heq
      rw [← heq]
      (repeat' (first | (refine And.intro (fun h=>?_) (fun h=>?_)<;>(try simp [-List.getD_eq_getElem?_getD,-Int.pred_toNat] at h)<;>(try (exfalso; first | omega | contradiction))) | (refine And.intro (rng64 (by omega) (by omega)) ?_) | (refine And.intro ⟨by omega,by omega⟩ ?_) | (refine And.intro ⟨by omega,by omega,by omega⟩ ?_) | (intro _)))
      rfl
    rw [if_neg c2] at heq
    by_cases c3:(s.getD i 0).toNat = 92
    · rw [if_pos c3] at heq
      (repeat' (first | (refine And.intro (fun h=>?_) (fun h=>?_)<;>(try simp [-List.getD_eq_getElem?_getD,-Int.pred_toNat] at h)<;>(try (exfalso; first | omega | contradiction))) | (refine And.intro (rng64 (by omega) (by omega)) ?_) | (refine And.intro ⟨by omega,by omega⟩ ?_) | (refine And.intro ⟨by omega,by omega,by omega⟩ ?_) | (intro _)))
      rw [show List.drop ((i:Int) + 1).toNat (List.take (s.length:Int).toNat s) = s.drop (i + 1) by rw [Int.toNat_natCast,List.take_length,show ((i:Int) + 1).toNat = i + 1 by omega]]
      have hP:=s_escapeP he (s.drop (i + 1)) (by rw [List.length_drop]; omega)
      unfold tup3 at hP
      generalize escP (s.drop (i + 1)) = x at *
      refine Or.inl (Exists.intro _ (And.intro (hP) ?_))
      obtain ⟨⟨hE1,hE2⟩,hE3⟩:=hE
      by_cases hz:x.2.2 = 0
      · rw [if_neg (fun h=>h hz)] at heq
        have hsc:=hE3 hz
        have hsr:0≤x.1∧x.1≤1114111:=⟨hsc.1,hsc.2.1⟩
        have h4:=encS_le x.1
        refine And.intro (fun h=>absurd hz (by simpa using h)) (fun _=>?_)
        refine Exists.intro _ (Exists.intro _ (And.intro (sb_WriteRune o (r:=x.1) (by omega) (by omega) (by omega)) ?_))
        rw [encode_scalar hsc]
        refine And.intro ⟨by omega,by omega⟩ ?_
        refine And.intro ⟨by omega,by omega⟩ ?_
        refine Exists.intro [] (Exists.intro (o++encS x.1,i + (1 + x.2.1).toNat) (And.intro ⟨by show 1≤i + _; omega,by show i + _≤_; omega,heq,by show (o++encS x.1).length≤4 * (i + _); rw [List.length_append]; omega⟩ (And.intro ?_ ?_)))
        · (repeat' (first | exact trivial | exact Or.inl rfl | exact Or.inl ((congrArg (AV.i .i64) (by show (i:Int) + (1 + x.2.1) = ((i + (1 + x.2.1).toNat:Nat):Int); omega))) | refine And.intro ?_ ?_))
        · show s.length - (i + (1 + x.2.1).toNat) < s.length - i
          omega
      · rw [if_pos hz] at heq
        refine And.intro (fun _=>?_) (fun h=>absurd (by simpa using h) hz)
        rw [← heq]
        rfl
    rw [if_neg c3] at heq
    (repeat' (first | (refine And.intro (fun h=>?_) (fun h=>?_)<;>(try simp [-List.getD_eq_getElem?_getD,-Int.pred_toNat] at h)<;>(try (exfalso; first | omega | contradiction))) | (refine And.intro (rng64 (by omega) (by omega)) ?_) | (refine And.intro ⟨by omega,by omega⟩ ?_) | (refine And.intro ⟨by omega,by omega,by omega⟩ ?_) | (intro _)))
    rw [show List.drop (i:Int).toNat (List.take (s.length:Int).toNat s) = s.drop i by rw [Int.toNat_natCast,Int.toNat_natCast,List.take_length]]
    have qc:=s_Next hu (s.drop i)
    unfold codeR at qc
    rw [code_at hk] at qc
    by_cases hb:(decAt s i).1 = 65533∧(decAt s i).2 = 1
    · rw [if_pos hb] at qc heq
      refine Or.inl (Exists.intro _ (And.intro (qc) ?_))
      rw [← heq]
      (focus (refine And.intro ?_ (fun h9=>?_); rotate_left 1; (focus (exfalso; revert h9; first | decide | (simp<;>omega) | (intro h9; simp at h9<;>omega))); refine fun _=>?_))
      rfl
    · rw [if_neg hb] at qc heq
      have hsc:=dec_scalar s i
      have h4:=encS_le ((decAt s i).1:Int)
      refine Or.inl (Exists.intro _ (And.intro (qc) ?_))
      refine And.intro (fun h9=>absurd (of_decide_eq_true h9) (by simp only; omega)) (fun _=>?_)
      refine Exists.intro _ (Exists.intro _ (And.intro (sb_WriteRune o (r:=((decAt s i).1:Int)) (by omega) (by omega) (by omega)) ?_))
      rw [encode_scalar hsc]
      refine And.intro ⟨by simp only; omega,by simp only; omega⟩ ?_
      refine Exists.intro [] (Exists.intro (o++encS ((decAt s i).1:Int),i + (decAt s i).2) (And.intro ⟨by show 1≤i + _; omega,by show i + _≤_; omega,heq,by show (o++encS ((decAt s i).1:Int)).length≤4 * (i + _); rw [List.length_append]; omega⟩ (And.intro ?_ ?_)))
      · (repeat' (first | exact trivial | exact Or.inl rfl | exact Or.inr (Or.inl ⟨rfl,_,rfl⟩) | exact Or.inr (Or.inr (Or.inr ⟨_,_,_,rfl,rfl⟩)) | refine And.intro ?_ ?_))
      · show s.length - (i + (decAt s i).2) < s.length - i
        omega
  · have hk:s.length≤i:=by have:¬ (i:Int) < s.length:=of_decide_eq_false h; omega
    rw [unq_end hk] at heq
    rw [← heq]
    rfl
theorem s_unqP (he:HasErr) (hu:HasU8) (s:Str) (hs:s.length≤1048576):PSpec Tryd.prog 24 [.s s] (tupU (unq s)) :=
  pspec_of_vc Γ_good Tryd.func24 rfl Tryd.call24 Tryd.results24 Tryd.ntmps24 (Nat.le_of_ble_eq_true rfl) (w_unqP he hu s hs)
end
end Go.Proofs.YtmfchbkdakmjhaaDoor
end
section
namespace Go.Proofs.YtmfchbkdakmjhaaDoor
set_option linter.unusedSectionVars false
set_option linter.unusedSimpArgs false
set_option linter.unusedVariables false
open Go Go.SX Go.Ut Go.Nm Go.Es
set_option maxRecDepth 100000
set_option maxHeartbeats 1000000
section
variable [G:Globs]
theorem w_keyP (ht:HasNum) (hu:HasU8) (s:Str) (hs:s.length≤1048576):vc Tryd.prog Γ 11 [0,2,3,5] (Tryd.f20.body.getD .skip) (postK Γ [.tmp 2,.tmp 3] (fun v=>v = if bare s then .tup [.s s,.i .i64 0] else if 0≤bad s then .tup [.s [],.i .i64 3] else .tup [.s (qAll s),.i .i64 0])) ⟨argSlots 0 [.s s],[]⟩:=by
  refine Or.inl (Exists.intro _ (And.intro (s_bareP s) ?_))
  have hQ:=s_quoteP ht hu s hs
  cases hb:bare s with
  | true=>(repeat' (first | (refine And.intro (fun h=>?_) (fun h=>?_)<;>(try simp [-List.getD_eq_getElem?_getD,-Int.pred_toNat] at h)<;>(try (exfalso; first | omega | contradiction))) | (refine And.intro (rng64 (by omega) (by omega)) ?_) | (refine And.intro ⟨by omega,by omega⟩ ?_) | (refine And.intro ⟨by omega,by omega,by omega⟩ ?_) | (intro _))); all_goals rfl
  | false =>
  rw [if_neg (by decide)]
  by_cases h:0≤bad s
  · rw [if_pos h] at hQ ⊢
    refine And.intro (fun h=>by cases h) (fun _=>?_)
    refine Or.inl (Exists.intro _ (And.intro (hQ) ?_))
    rfl
  · rw [if_neg h] at hQ ⊢
    refine And.intro (fun h=>by cases h) (fun _=>?_)
    refine Or.inl (Exists.intro _ (And.intro (hQ) ?_))
    rfl
theorem s_keyP (ht:HasNum) (hu:HasU8) (s:Str) (hs:s.length≤1048576):PSpec Tryd.prog 20 [.s s] (if bare s then .tup [.s s,.i .i64 0] else if 0≤bad s then .tup [.s [],.i .i64 3] else .tup [.s (qAll s),.i .i64 0]) :=
  pspec_of_vc Γ_good Tryd.func20 rfl Tryd.call20 Tryd.results20 Tryd.ntmps20 (Nat.le_of_ble_eq_true rfl) (w_keyP ht hu s hs)
theorem w_keyR (s:Str) (hs:s.length≤1048576) (hb:bad s < 0):vc Tryd.prog Γ 8 [0,2,4] (Tryd.f23.body.getD .skip) (postK Γ [.tmp 2] (fun v=>v = .s (if bare s then s else qAll s))) ⟨argSlots 0 [.s s],[]⟩:=by
  refine Or.inl (Exists.intro _ (And.intro (s_bareR s) ?_))
  cases hb1:bare s with
  | true=>(repeat' (first | (refine And.intro (fun h=>?_) (fun h=>?_)<;>(try simp [-List.getD_eq_getElem?_getD,-Int.pred_toNat] at h)<;>(try (exfalso; first | omega | contradiction))) | (refine And.intro (rng64 (by omega) (by omega)) ?_) | (refine And.intro ⟨by omega,by omega⟩ ?_) | (refine And.intro ⟨by omega,by omega,by omega⟩ ?_) | (intro _))); all_goals rfl
  | false =>
  rw [if_neg (by decide)]
  refine And.intro (fun h=>by cases h) (fun _=>?_)
  refine Or.inl (Exists.intro _ (And.intro (s_quotedR s hs hb) ?_))
  rfl
theorem s_keyR (s:Str) (hs:s.length≤1048576) (hb:bad s < 0):PSpec Tryd.prog 23 [.s s] (.s (if bare s then s else qAll s)) :=
  pspec_of_vc Γ_good Tryd.func23 rfl Tryd.call23 Tryd.results23 Tryd.ntmps23 (Nat.le_of_ble_eq_true rfl) (w_keyR s hs hb)
end
end Go.Proofs.YtmfchbkdakmjhaaDoor
end
section
namespace Go.SX
set_option linter.unusedSectionVars false
variable [Globs]
open Go.RowKit Go.WideShapes Go.ChangeShapes Go.Deep
theorem mapM_at {α β:Type} {f:α→Option β}:∀ {l:List α} {r:List β},l.mapM f = some r→r.length = l.length∧∀ (j:Nat) x,l[j]? = some x→f x = r[j]?:=by
  intro l
  induction l with
  | nil=>intro r h; simp at h; subst h; exact ⟨rfl,fun j x h=>by simp at h⟩
  | cons a l ih =>
    intro r h
    simp only [List.mapM_cons,Option.bind_eq_bind,Option.bind_eq_some_iff] at h
    obtain ⟨b,hb,bs,hbs,h⟩:=h
    have h:b::bs = r:=by injection h
    subst h
    obtain ⟨h1,h2⟩:=ih hbs
    refine ⟨by simp [h1],fun j x hx=>?_⟩
    cases j with
    | zero=>simp at hx; subst hx; simpa using hb
    | succ j=>simpa using h2 j x (by simpa using hx)
section
variable {H:Type} {encH:TypeId × Value→H} {P:Program} {W:World} {sp:Nat→Bool} {hd:Bool} {O:Nat→Prop}

theorem cells_get {w:World} {base:Nat} {a:Addr} {n:Nat} {cs:List Value} (h:w.cells? base a n = some cs):cs.length = n∧∀ (j:Nat) v,cs[j]? = some v→w.cell? (a.add j) = some v:=by
  unfold World.cells? at h
  split at h
  · obtain ⟨h1,h2⟩:=mapM_at h
    rw [List.length_range] at h1
    refine ⟨h1,fun j v hv=>?_⟩
    have hj:j < n:=by rw [← h1]; exact (List.getElem?_eq_some_iff.1 hv).1
    rw [h2 j j (by simp [hj]),hv]
  · cases h
theorem add_of {a:Addr} {n:Nat} (h:(a.add n).spot = none):a.add n = ⟨a.block,a.off + n,none⟩:=by
  unfold Addr.add at h ⊢
  split
  · rename_i h0
    rw [if_pos h0] at h
    obtain ⟨b,o,s⟩:=a
    simp only at h
    subst h h0
    rfl
  · rfl
theorem arg_int {t:TypeId} {k:IntKind} {fuel:Nat} {cs:List Value} {x:DataW H × List MemPlace} (ht:P.underlying t = some (.int k)) (h:DataW.trod encH P W 0 sp hd fuel t cs = some x):∃ n,cs = [.int k n]∧Im O W (.i k n) (.int k n)∧(Lit.int k n).wf = true:=by
  obtain ⟨n,h1,_,h2⟩:=DataW.trod_int ht h
  exact ⟨n,h1,.i k n,h2⟩
end
theorem wf_i64 {n:Int} (h:(Lit.int .i64 n).wf = true):(-9223372036854775808:Int)≤n∧n≤(9223372036854775807:Int):=by
  simp only [Lit.wf,Bool.and_eq_true,decide_eq_true_eq] at h; exact h
end Go.SX
end
section
namespace Go.SX
set_option linter.unusedSectionVars false
variable [Globs]
open Go.RowKit Go.WideShapes Go.ChangeShapes Go.Deep
section
variable {H:Type} {encH:TypeId × Value→H} {P:Program} {W:World} {sp:Nat→Bool} {hd:Bool} {O:Nat→Prop}
end
end Go.SX
end
section
namespace Go.SX
set_option linter.unusedSectionVars false
variable [Globs]
open Go.RowKit Go.WideShapes Go.ChangeShapes Go.Deep
inductive VB:Val→Prop
  | mk (v:Val):(-9223372036854775808≤v.kind∧v.kind≤9223372036854775807)→(-9223372036854775808≤v.n∧v.n≤9223372036854775807)→(0≤v.f∧v.f≤18446744073709551615)→(∀ x ∈ v.l,VB x)→(∀ p ∈ v.e,VB p.2)→VB v
section
variable {H:Type} {encH:TypeId × Value→H} {P:Program} {W:World} {sp:Nat→Bool} {hd:Bool} {O:Nat→Prop}
def HasF (fs:Array Field) (i off:Nat) (t:TypeId):Prop:=∃ f,fs[i]? = some f∧f.offset = off∧f.type = t
structure VTy (P:Program) (V:TypeId) where
  (fs gs:Array Field) (K N U S L E En:TypeId)
  hV:P.underlying V = some (.struct fs)
  cV:P.cellsOf V = 6
  h0:HasF fs 0 0 K
  h1:HasF fs 1 1 N
  h2:HasF fs 2 2 U
  h3:HasF fs 3 3 S
  h4:HasF fs 4 4 L
  h5:HasF fs 5 5 E
  uK:P.underlying K = some (.int .i64)
  uN:P.underlying N = some (.int .i64)
  uU:P.underlying U = some (.int .u64)
  uS:P.underlying S = some .string
  uL:P.underlying L = some (.slice V)
  uE:P.underlying E = some (.slice En)
  c:P.cellsOf K = 1∧P.cellsOf N = 1∧P.cellsOf U = 1∧P.cellsOf S = 1∧P.cellsOf L = 1∧P.cellsOf E = 1
  hE:P.underlying En = some (.struct gs)
  cE:P.cellsOf En = 7
  g0:HasF gs 0 0 S
  g1:HasF gs 1 1 V
structure MTy (P:Program) (M:TypeId) where
  (fs:Array Field) (K Q S V:TypeId) (T:VTy P V)
  hM:P.underlying M = some (.struct fs)
  cM:P.cellsOf M = 10
  h0:HasF fs 0 0 K
  h1:HasF fs 1 1 Q
  h2:HasF fs 2 2 S
  h3:HasF fs 3 3 S
  h4:HasF fs 4 4 V
  uK:P.underlying K = some (.int .i64)
  uQ:P.underlying Q = some (.slice S)
  uS:P.underlying S = some .string
  c:P.cellsOf K = 1∧P.cellsOf Q = 1∧P.cellsOf S = 1
structure KTy (P:Program) (L:TypeId) where
  (fs:Array Field) (K Q M:TypeId) (T:MTy P M)
  hL:P.underlying L = some (.struct fs)
  cL:P.cellsOf L = 3
  h0:HasF fs 0 0 K
  h1:HasF fs 1 1 K
  h2:HasF fs 2 2 Q
  uK:P.underlying K = some (.int .i64)
  uQ:P.underlying Q = some (.slice M)
  c:P.cellsOf K = 1∧P.cellsOf Q = 1
end
end Go.SX
end
section
namespace Go.Proofs.YtmfchbkdakmjhaaDoor
set_option linter.unusedSectionVars false
set_option linter.unusedSimpArgs false
set_option linter.unusedVariables false
open Go Go.SX Go.Vl
set_option maxRecDepth 100000
set_option maxHeartbeats 0
section
variable [G:Globs]
end
end Go.Proofs.YtmfchbkdakmjhaaDoor
end
section
namespace Go.Proofs.YtmfchbkdakmjhaaDoor
set_option linter.unusedSectionVars false
set_option linter.unusedSimpArgs false
set_option linter.unusedVariables false
open Go Go.SX Go.Vl
set_option maxRecDepth 100000
set_option maxHeartbeats 0
section
variable [G:Globs]
end
end Go.Proofs.YtmfchbkdakmjhaaDoor
end
section
namespace Go.Proofs.YtmfchbkdakmjhaaDoor
set_option linter.unusedSectionVars false
set_option linter.unusedSimpArgs false
set_option linter.unusedVariables false
open Go Go.SX Go.Vl
set_option maxRecDepth 100000
set_option maxHeartbeats 0
section
variable [G:Globs]
end
end Go.Proofs.YtmfchbkdakmjhaaDoor
end
section
namespace Go.SX
set_option linter.unusedSectionVars false
set_option linter.unusedVariables false
set_option linter.unusedSimpArgs false
variable [Globs]
open Go.RowKit Go.WideShapes Go.ChangeShapes Go.Deep
inductive VN (n:Nat):Val→Prop
  | mk (a:Val):a.l.length≤n→a.e.length≤n→(∀ x ∈ a.l,VN n x)→(∀ p ∈ a.e,VN n p.2)→VN n a
theorem VN.mono {n m:Nat} (h:n≤m) {a:Val} (ha:VN n a):VN m a:=by
  induction ha with
  | mk a h1 h2 _ _ i1 i2=>exact .mk a (Nat.le_trans h1 h) (Nat.le_trans h2 h) i1 i2
structure Bulk {H:Type} (bk:DataW H→Nat):Prop where
  len:∀ els rest,els.length≤bk (.slice els rest)
  el:∀ els rest,∀ d ∈ els,bk d≤bk (.slice els rest)
  part:∀ ds,∀ d ∈ ds,bk d≤bk (.agg ds)
section
variable {H:Type} {encH:TypeId × Value→H} {P:Program} {W:World} {sp:Nat→Bool} {hd:Bool} {O:Nat→Prop} {bk:DataW H→Nat}
end
end Go.SX
end
section
namespace Go.Proofs.YtmfchbkdakmjhaaDoor
set_option linter.unusedSectionVars false
set_option linter.unusedSimpArgs false
set_option linter.unusedVariables false
open Go Go.SX Go.Vl
set_option maxRecDepth 100000
set_option maxHeartbeats 0
section
variable [G:Globs]
end
end Go.Proofs.YtmfchbkdakmjhaaDoor
end
section
namespace Go.Proofs.YtmfchbkdakmjhaaDoor
set_option linter.unusedSectionVars false
set_option linter.unusedSimpArgs false
set_option linter.unusedVariables false
open Go Go.SX Go.Ck Go.Vl Go.Ut Go.Up
set_option maxRecDepth 100000
set_option maxHeartbeats 1000000
theorem stepF1 {p:PStep} (h:p.i < -1∨(0≤p.i∧p.key≠[])):stepF p = 1:=if_pos h
theorem stepF2 {p:PStep} (h:¬ (p.i < -1∨(0≤p.i∧p.key≠[]))) (h2:100 < p.key.length):stepF p = 2:=by unfold stepF; rw [if_neg h,if_pos h2]
theorem stepF3 {p:PStep} (h:¬ (p.i < -1∨(0≤p.i∧p.key≠[]))) (h2:¬ 100 < p.key.length) (h3:0≤bad p.key):stepF p = 3:=by unfold stepF; rw [if_neg h,if_neg h2,if_pos h3]
theorem stepF0 {p:PStep} (h:¬ (p.i < -1∨(0≤p.i∧p.key≠[]))) (h2:¬ 100 < p.key.length) (h3:¬ 0≤bad p.key):stepF p = 0:=by unfold stepF; rw [if_neg h,if_neg h2,if_neg h3]
theorem stepsF_stop {l:List PStep} {i:Nat} {e:Int} (h:i < l.length) (he:stepF l[i] = e) (h0:e≠0):stepsF (l.drop i) = e:=by rw [stepsF_drop h,he,orI_ne h0]
theorem stepsF_go {l:List PStep} {i:Nat} (h:i < l.length) (he:stepF l[i] = 0):stepsF (l.drop i) = stepsF (l.drop (i + 1)):=by rw [stepsF_drop h,he,orI_zero]
section
variable [G:Globs]
theorem w_pathC (hu:HasU8) (l:List PStep):vc Tryd.prog Γ 39 [0,2,4,7,8,9,10,11,14,28,33] (Tryd.f33.body.getD .skip) (postK Γ [.tmp 2] (fun v=>v = .i .i64 (pathF l))) ⟨argSlots 0 [.rd .pstep l],[]⟩:=by
  intro hl
  refine And.intro (fun hq=>?_) (fun hq=>?_)
  · refine congrArg (AV.i .i64) ?_
    rw [pathF,if_pos (by have:=of_decide_eq_true hq; omega)]
  rw [pathF,if_neg (by have:=of_decide_eq_false hq; omega)]
  intro _
  refine Exists.intro [] (Exists.intro [] (Exists.intro [] (Exists.intro Nat (Exists.intro (fun i=>i≤(l).length∧(stepsF l = stepsF (l.drop i))) (Exists.intro (fun i=>⟨[(8,.rd .pstep l),(9,.i .i64 l.length),(10,.i .i64 i)],[]⟩) (Exists.intro (fun i=>(l).length - i) (Exists.intro 0 (And.intro ⟨Nat.zero_le _,rfl⟩ (And.intro ?_ ?_)))))))))
  · (repeat' (first | exact trivial | exact Or.inl rfl | exact Or.inr (Or.inl ⟨rfl,_,rfl⟩) | exact Or.inr (Or.inr (Or.inr ⟨_,_,_,rfl,rfl⟩)) | refine And.intro ?_ ?_))
  rintro i ⟨hi,hI⟩
  refine And.intro (fun hz=>?_) (fun hz=>?_)
  · have hi:=ltD hz
    have hg:=getI (τ:=.pstep) hi
    refine And.intro ⟨by omega,by omega⟩ ?_
    rw [hg]
    by_cases c:l[i].i < -1∨(0≤l[i].i∧l[i].key≠[])
    · rw [stepsF_stop hi (stepF1 c) (by decide)] at hI
      rcases c with c | ⟨c,c3⟩
      all_goals (repeat' (first | (refine And.intro (fun h=>?_) (fun h=>?_)<;>(try simp [-List.getD_eq_getElem?_getD,-Int.pred_toNat] at h)<;>(try (exfalso; first | omega | contradiction))) | (refine And.intro (rng64 (by omega) (by omega)) ?_) | (refine And.intro ⟨by omega,by omega⟩ ?_) | (refine And.intro ⟨by omega,by omega,by omega⟩ ?_) | (intro _)))
      all_goals exact congrArg (AV.i .i64) hI.symm
    · have c1 : -1≤l[i].i:=by omega
      have c2:l[i].i < 0∨(0≤l[i].i∧l[i].key = []):=by grind
      by_cases d:100 < l[i].key.length
      · rw [stepsF_stop hi (stepF2 c d) (by decide)] at hI
        rcases c2 with c2 | ⟨c2,c3⟩
        all_goals (repeat' (first | (refine And.intro (fun h=>?_) (fun h=>?_)<;>(try simp [-List.getD_eq_getElem?_getD,-Int.pred_toNat] at h)<;>(try (exfalso; first | omega | contradiction))) | (refine And.intro (rng64 (by omega) (by omega)) ?_) | (refine And.intro ⟨by omega,by omega⟩ ?_) | (refine And.intro ⟨by omega,by omega,by omega⟩ ?_) | (intro _)))
        all_goals exact congrArg (AV.i .i64) hI.symm
      · by_cases e:0≤bad l[i].key
        · rw [stepsF_stop hi (stepF3 c d e) (by decide)] at hI
          rcases c2 with c2 | ⟨c2,c3⟩
          all_goals (repeat' (first | (refine And.intro (fun h=>?_) (fun h=>?_)<;>(try simp [-List.getD_eq_getElem?_getD,-Int.pred_toNat] at h)<;>(try (exfalso; first | omega | contradiction))) | (refine And.intro (rng64 (by omega) (by omega)) ?_) | (refine And.intro ⟨by omega,by omega⟩ ?_) | (refine And.intro ⟨by omega,by omega,by omega⟩ ?_) | (intro _)))
          all_goals refine Or.inl (Exists.intro _ (And.intro (s_Bad hu l[i].key) ?_))
          all_goals (repeat' (first | (refine And.intro (fun h=>?_) (fun h=>?_)<;>(try simp [-List.getD_eq_getElem?_getD,-Int.pred_toNat] at h)<;>(try (exfalso; first | omega | contradiction))) | (refine And.intro (rng64 (by omega) (by omega)) ?_) | (refine And.intro ⟨by omega,by omega⟩ ?_) | (refine And.intro ⟨by omega,by omega,by omega⟩ ?_) | (intro _)))
          all_goals exact congrArg (AV.i .i64) hI.symm
        · rw [stepsF_go hi (stepF0 c d e)] at hI
          have:=len_le hl
          rcases c2 with c2 | ⟨c2,c3⟩
          all_goals (repeat' (first | (refine And.intro (fun h=>?_) (fun h=>?_)<;>(try simp [-List.getD_eq_getElem?_getD,-Int.pred_toNat] at h)<;>(try (exfalso; first | omega | contradiction))) | (refine And.intro (rng64 (by omega) (by omega)) ?_) | (refine And.intro ⟨by omega,by omega⟩ ?_) | (refine And.intro ⟨by omega,by omega,by omega⟩ ?_) | (intro _)))
          all_goals refine Or.inl (Exists.intro _ (And.intro (s_Bad hu l[i].key) ?_))
          all_goals (repeat' (first | (refine And.intro (fun h=>?_) (fun h=>?_)<;>(try simp [-List.getD_eq_getElem?_getD,-Int.pred_toNat] at h)<;>(try (exfalso; first | omega | contradiction))) | (refine And.intro (rng64 (by omega) (by omega)) ?_) | (refine And.intro ⟨by omega,by omega⟩ ?_) | (refine And.intro ⟨by omega,by omega,by omega⟩ ?_) | (intro _)))
          all_goals refine Exists.intro [] (Exists.intro (i + 1) (And.intro ⟨hi,hI⟩ (And.intro ?_ ?_)))
          all_goals first | (exact Nat.sub_lt_sub_left (by omega) (by omega)) | (repeat' (first | exact trivial | exact Or.inl rfl | exact Or.inr (Or.inl ⟨rfl,_,rfl⟩) | exact Or.inr (Or.inr (Or.inr ⟨_,_,_,rfl,rfl⟩)) | refine And.intro ?_ ?_))
  · (have hi:=geD hi hz)
    rw [hI,List.drop_eq_nil_of_le (by omega)]
    rfl
theorem s_pathC (hu:HasU8) (l:List PStep):PSpec Tryd.prog 33 [.rd .pstep l] (.i .i64 (pathF l)) :=
  pspec_of_vc Γ_good Tryd.func33 rfl Tryd.call33 Tryd.results33 Tryd.ntmps33 (Nat.le_of_ble_eq_true rfl) (w_pathC hu l)
theorem w_pathR (l:List PStep):vc Tryd.prog Γ 36 [0,2,4,7,8,9,10,11,26,30,34] (Tryd.f28.body.getD .skip) (postK Γ [.tmp 2] (fun v=>v = .i .i64 (pathF l))) ⟨argSlots 0 [.rd .pstep l],[]⟩:=by
  intro hl
  refine And.intro (fun hq=>?_) (fun hq=>?_)
  · refine congrArg (AV.i .i64) ?_
    rw [pathF,if_pos (by have:=of_decide_eq_true hq; omega)]
  rw [pathF,if_neg (by have:=of_decide_eq_false hq; omega)]
  intro _
  refine Exists.intro [] (Exists.intro [] (Exists.intro [] (Exists.intro Nat (Exists.intro (fun i=>i≤(l).length∧(stepsF l = stepsF (l.drop i))) (Exists.intro (fun i=>⟨[(8,.rd .pstep l),(9,.i .i64 l.length),(10,.i .i64 i)],[]⟩) (Exists.intro (fun i=>(l).length - i) (Exists.intro 0 (And.intro ⟨Nat.zero_le _,rfl⟩ (And.intro ?_ ?_)))))))))
  · (repeat' (first | exact trivial | exact Or.inl rfl | exact Or.inr (Or.inl ⟨rfl,_,rfl⟩) | exact Or.inr (Or.inr (Or.inr ⟨_,_,_,rfl,rfl⟩)) | refine And.intro ?_ ?_))
  rintro i ⟨hi,hI⟩
  refine And.intro (fun hz=>?_) (fun hz=>?_)
  · have hi:=ltD hz
    have hg:=getI (τ:=.pstep) hi
    refine And.intro ⟨by omega,by omega⟩ ?_
    rw [hg]
    by_cases c:l[i].i < -1∨(0≤l[i].i∧l[i].key≠[])
    · rw [stepsF_stop hi (stepF1 c) (by decide)] at hI
      rcases c with c | ⟨c,c3⟩
      all_goals (repeat' (first | (refine And.intro (fun h=>?_) (fun h=>?_)<;>(try simp [-List.getD_eq_getElem?_getD,-Int.pred_toNat] at h)<;>(try (exfalso; first | omega | contradiction))) | (refine And.intro (rng64 (by omega) (by omega)) ?_) | (refine And.intro ⟨by omega,by omega⟩ ?_) | (refine And.intro ⟨by omega,by omega,by omega⟩ ?_) | (intro _)))
      all_goals exact congrArg (AV.i .i64) hI.symm
    · have c1 : -1≤l[i].i:=by omega
      have c2:l[i].i = -1∨(0≤l[i].i∧l[i].key = []):=by grind
      by_cases d:100 < l[i].key.length
      · rw [stepsF_stop hi (stepF2 c d) (by decide)] at hI
        rcases c2 with c2 | ⟨c2,c3⟩
        all_goals (repeat' (first | (refine And.intro (fun h=>?_) (fun h=>?_)<;>(try simp [-List.getD_eq_getElem?_getD,-Int.pred_toNat] at h)<;>(try (exfalso; first | omega | contradiction))) | (refine And.intro (rng64 (by omega) (by omega)) ?_) | (refine And.intro ⟨by omega,by omega⟩ ?_) | (refine And.intro ⟨by omega,by omega,by omega⟩ ?_) | (intro _)))
        all_goals exact congrArg (AV.i .i64) hI.symm
      · by_cases e:0≤bad l[i].key
        · rw [stepsF_stop hi (stepF3 c d e) (by decide)] at hI
          rcases c2 with c2 | ⟨c2,c3⟩
          all_goals (repeat' (first | (refine And.intro (fun h=>?_) (fun h=>?_)<;>(try simp [-List.getD_eq_getElem?_getD,-Int.pred_toNat] at h)<;>(try (exfalso; first | omega | contradiction))) | (refine And.intro (rng64 (by omega) (by omega)) ?_) | (refine And.intro ⟨by omega,by omega⟩ ?_) | (refine And.intro ⟨by omega,by omega,by omega⟩ ?_) | (intro _)))
          all_goals refine Or.inl (Exists.intro _ (And.intro (s_BadPlace l[i].key) ?_))
          all_goals (repeat' (first | (refine And.intro (fun h=>?_) (fun h=>?_)<;>(try simp [-List.getD_eq_getElem?_getD,-Int.pred_toNat] at h)<;>(try (exfalso; first | omega | contradiction))) | (refine And.intro (rng64 (by omega) (by omega)) ?_) | (refine And.intro ⟨by omega,by omega⟩ ?_) | (refine And.intro ⟨by omega,by omega,by omega⟩ ?_) | (intro _)))
          all_goals exact congrArg (AV.i .i64) hI.symm
        · rw [stepsF_go hi (stepF0 c d e)] at hI
          have:=len_le hl
          rcases c2 with c2 | ⟨c2,c3⟩
          all_goals (repeat' (first | (refine And.intro (fun h=>?_) (fun h=>?_)<;>(try simp [-List.getD_eq_getElem?_getD,-Int.pred_toNat] at h)<;>(try (exfalso; first | omega | contradiction))) | (refine And.intro (rng64 (by omega) (by omega)) ?_) | (refine And.intro ⟨by omega,by omega⟩ ?_) | (refine And.intro ⟨by omega,by omega,by omega⟩ ?_) | (intro _)))
          all_goals refine Or.inl (Exists.intro _ (And.intro (s_BadPlace l[i].key) ?_))
          all_goals (repeat' (first | (refine And.intro (fun h=>?_) (fun h=>?_)<;>(try simp [-List.getD_eq_getElem?_getD,-Int.pred_toNat] at h)<;>(try (exfalso; first | omega | contradiction))) | (refine And.intro (rng64 (by omega) (by omega)) ?_) | (refine And.intro ⟨by omega,by omega⟩ ?_) | (refine And.intro ⟨by omega,by omega,by omega⟩ ?_) | (intro _)))
          all_goals refine Exists.intro [] (Exists.intro (i + 1) (And.intro ⟨hi,hI⟩ (And.intro ?_ ?_)))
          all_goals first | (exact Nat.sub_lt_sub_left (by omega) (by omega)) | (repeat' (first | exact trivial | exact Or.inl rfl | exact Or.inr (Or.inl ⟨rfl,_,rfl⟩) | exact Or.inr (Or.inr (Or.inr ⟨_,_,_,rfl,rfl⟩)) | refine And.intro ?_ ?_))
  · (have hi:=geD hi hz)
    rw [hI,List.drop_eq_nil_of_le (by omega)]
    rfl
theorem s_pathR (l:List PStep):PSpec Tryd.prog 28 [.rd .pstep l] (.i .i64 (pathF l)) :=
  pspec_of_vc Γ_good Tryd.func28 rfl Tryd.call28 Tryd.results28 Tryd.ntmps28 (Nat.le_of_ble_eq_true rfl) (w_pathR l)
end
end Go.Proofs.YtmfchbkdakmjhaaDoor
end
