/-
  A part of a proof: plain laws and walks, one after the other. No conditions.
-/
import Derived.Test.YtmfchbkdakmjhaaDoorMo4
import Derived.Laws.Bits64b
import Derived.Lib.ItoaLen
import Derived.Shelf.Spec.BitsCarry
import Derived.Laws.Bits64
import Derived.Laws.IdiomCopy
import Derived.Lib.Overlaps
import Derived.Lib.AppendZerosOnto
import Derived.WalkKit
import Derived.Shelf.Spec.SlicesInsert
set_option linter.constructorNameAsVariable false
set_option linter.unusedVariables false
set_option linter.unusedSimpArgs false
set_option linter.unusedSectionVars false
section
namespace Go.Proofs.YtmfchbkdakmjhaaDoor
set_option linter.unusedSectionVars false
set_option linter.unusedSimpArgs false
set_option linter.unusedVariables false
open Go Go.SX Go.Bg Go.Nm
set_option maxRecDepth 100000
set_option maxHeartbeats 1000000
def isPre (t s:Str):Bool:=decide (t.length≤s.length∧s.take t.length = t)
def cutP (t s:Str):Str:=if isPre t s then s.drop t.length else s
theorem u8_lt (c:UInt8):c.toNat < 256:=c.toNat_lt
theorem dgt_cases (c : UInt8) : ((48 ≤ c.toNat ∧ c.toNat ≤ 57) ∧ (dgt c : Int) = (c.toNat : Int) - 48) ∨ ((97 ≤ c.toNat ∧ c.toNat ≤ 102) ∧ (dgt c : Int) = (c.toNat : Int) - 97 + 10) ∨ ((65 ≤ c.toNat ∧ c.toNat ≤ 70) ∧ (dgt c : Int) = (c.toNat : Int) - 65 + 10) ∨
    ((¬ (48≤c.toNat∧c.toNat≤57)∧¬ (97≤c.toNat∧c.toNat≤102)∧¬ (65≤c.toNat∧c.toNat≤70))∧(dgt c:Int) = 99):=by
  unfold dgt
  by_cases h1:48≤c.toNat∧c.toNat≤57
  · rw [if_pos h1]; exact .inl ⟨h1,by omega⟩
  rw [if_neg h1]
  by_cases h2:97≤c.toNat∧c.toNat≤102
  · rw [if_pos h2]; exact .inr (.inl ⟨h2,by omega⟩)
  rw [if_neg h2]
  by_cases h3:65≤c.toNat∧c.toNat≤70
  · rw [if_pos h3]; exact .inr (.inr (.inl ⟨h3,by omega⟩))
  rw [if_neg h3]
  exact .inr (.inr (.inr ⟨⟨h1,h2,h3⟩,rfl⟩))
section
variable [G:Globs]
theorem w_digit (c:UInt8):vc Tryd.prog Γ 35 [0,2,3,13,24] (Tryd.f163.body.getD .skip) (postK Γ [.tmp 2] (fun v=>v = .i .u64 (dgt c:Int))) ⟨argSlots 0 [.i .u8 (c.toNat:Int)],[]⟩:=by
  have hc:=u8_lt c
  rcases dgt_cases c with ⟨h,e⟩ | ⟨h,e⟩ | ⟨h,e⟩ | ⟨h,e⟩
  · rw [e]
    (repeat' (first | (refine And.intro (fun h=>?_) (fun h=>?_)<;>(try simp [-List.getD_eq_getElem?_getD,-Int.pred_toNat] at h)<;>(try (exfalso; first | omega | contradiction))) | (refine And.intro (rng64 (by omega) (by omega)) ?_) | (refine And.intro ⟨by omega,by omega⟩ ?_) | (refine And.intro ⟨by omega,by omega,by omega⟩ ?_) | (intro _)))
    exact congrArg (AV.i .u64) (by rw [IntKind.wrap_u8,IntKind.wrap_u64]; omega)
  · rw [e]
    (repeat' (first | (refine And.intro (fun h=>?_) (fun h=>?_)<;>(try simp [-List.getD_eq_getElem?_getD,-Int.pred_toNat] at h)<;>(try (exfalso; first | omega | contradiction))) | (refine And.intro (rng64 (by omega) (by omega)) ?_) | (refine And.intro ⟨by omega,by omega⟩ ?_) | (refine And.intro ⟨by omega,by omega,by omega⟩ ?_) | (intro _)))
    exact congrArg (AV.i .u64) (by rw [IntKind.wrap_u8,IntKind.wrap_u64,IntKind.wrap_u64]; omega)
  · rw [e]
    (repeat' (first | (refine And.intro (fun h=>?_) (fun h=>?_)<;>(try simp [-List.getD_eq_getElem?_getD,-Int.pred_toNat] at h)<;>(try (exfalso; first | omega | contradiction))) | (refine And.intro (rng64 (by omega) (by omega)) ?_) | (refine And.intro ⟨by omega,by omega⟩ ?_) | (refine And.intro ⟨by omega,by omega,by omega⟩ ?_) | (intro _)))
    exact congrArg (AV.i .u64) (by rw [IntKind.wrap_u8,IntKind.wrap_u64,IntKind.wrap_u64]; omega)
  · rw [e]
    rcases (show c.toNat < 48∨(57 < c.toNat∧c.toNat < 65)∨(70 < c.toNat∧c.toNat < 97)∨102 < c.toNat by omega) with h | h | h | h
    all_goals
      (repeat' (first | (refine And.intro (fun h=>?_) (fun h=>?_)<;>(try simp [-List.getD_eq_getElem?_getD,-Int.pred_toNat] at h)<;>(try (exfalso; first | omega | contradiction))) | (refine And.intro (rng64 (by omega) (by omega)) ?_) | (refine And.intro ⟨by omega,by omega⟩ ?_) | (refine And.intro ⟨by omega,by omega,by omega⟩ ?_) | (intro _)))
      rfl
theorem s_digit (c:UInt8):PSpec Tryd.prog 163 [.i .u8 (c.toNat:Int)] (.i .u64 (dgt c:Int)) :=
  pspec_of_vc Γ_good Tryd.func163 rfl Tryd.call163 Tryd.results163 Tryd.ntmps163 (Nat.le_of_ble_eq_true rfl) (w_digit c)
theorem w_hexOf (c:UInt8):vc Tryd.prog Γ 35 [0,2,3,13,24] (Tryd.f64.body.getD .skip) (postK Γ [.tmp 2] (fun v=>v = .i .i64 (dgt c:Int))) ⟨argSlots 0 [.i .u8 (c.toNat:Int)],[]⟩:=by
  have hc:=u8_lt c
  have hw:IntKind.i64.wrap (c.toNat:Int) = (c.toNat:Int):=by rw [IntKind.wrap_i64]; omega
  rcases dgt_cases c with ⟨h,e⟩ | ⟨h,e⟩ | ⟨h,e⟩ | ⟨h,e⟩
  · rw [e]
    (repeat' (first | (refine And.intro (fun h=>?_) (fun h=>?_)<;>(try simp [-List.getD_eq_getElem?_getD,-Int.pred_toNat] at h)<;>(try (exfalso; first | omega | contradiction))) | (refine And.intro (rng64 (by omega) (by omega)) ?_) | (refine And.intro ⟨by omega,by omega⟩ ?_) | (refine And.intro ⟨by omega,by omega,by omega⟩ ?_) | (intro _)))
    exact congrArg (AV.i .i64) (by rw [hw])
  · rw [e]
    (repeat' (first | (refine And.intro (fun h=>?_) (fun h=>?_)<;>(try simp [-List.getD_eq_getElem?_getD,-Int.pred_toNat] at h)<;>(try (exfalso; first | omega | contradiction))) | (refine And.intro (rng64 (by omega) (by omega)) ?_) | (refine And.intro ⟨by omega,by omega⟩ ?_) | (refine And.intro ⟨by omega,by omega,by omega⟩ ?_) | (intro _)))
    exact congrArg (AV.i .i64) (by rw [hw])
  · rw [e]
    (repeat' (first | (refine And.intro (fun h=>?_) (fun h=>?_)<;>(try simp [-List.getD_eq_getElem?_getD,-Int.pred_toNat] at h)<;>(try (exfalso; first | omega | contradiction))) | (refine And.intro (rng64 (by omega) (by omega)) ?_) | (refine And.intro ⟨by omega,by omega⟩ ?_) | (refine And.intro ⟨by omega,by omega,by omega⟩ ?_) | (intro _)))
    exact congrArg (AV.i .i64) (by rw [hw])
  · rw [e]
    rcases (show c.toNat < 48∨(57 < c.toNat∧c.toNat < 65)∨(70 < c.toNat∧c.toNat < 97)∨102 < c.toNat by omega) with h | h | h | h
    all_goals
      (repeat' (first | (refine And.intro (fun h=>?_) (fun h=>?_)<;>(try simp [-List.getD_eq_getElem?_getD,-Int.pred_toNat] at h)<;>(try (exfalso; first | omega | contradiction))) | (refine And.intro (rng64 (by omega) (by omega)) ?_) | (refine And.intro ⟨by omega,by omega⟩ ?_) | (refine And.intro ⟨by omega,by omega,by omega⟩ ?_) | (intro _)))
      rfl
theorem s_hexOf (c:UInt8):PSpec Tryd.prog 64 [.i .u8 (c.toNat:Int)] (.i .i64 (dgt c:Int)) :=
  pspec_of_vc Γ_good Tryd.func64 rfl Tryd.call64 Tryd.results64 Tryd.ntmps64 (Nat.le_of_ble_eq_true rfl) (w_hexOf c)
theorem w_hasPre0 (s t:Str):vc Tryd.prog Γ 18 [0,1,4] (Tryd.f98.body.getD .skip) (postK Γ [.tmp 4] (fun v=>v = .b (isPre t s))) ⟨argSlots 0 [.s s,.s t],[]⟩:=by
  intro _ _
  refine And.intro (fun h=>?_) (fun h=>?_)
  · have h:t.length≤s.length:=by have:(t.length:Int)≤s.length:=of_decide_eq_true h; omega
    intro _
    refine And.intro ⟨Int.le_refl _,by omega,by omega⟩ ?_
    show AV.b ((s.take (Int.toNat (t.length:Int))).drop (Int.toNat 0) == t) = _
    refine congrArg AV.b ?_
    unfold isPre
    rw [Int.toNat_natCast,show Int.toNat 0 = 0 from rfl,List.drop_zero,Bool.eq_iff_iff,beq_iff_eq,decide_eq_true_eq]
    exact ⟨fun h9=>⟨h,h9⟩,fun h9=>h9.2⟩
  · have h:¬ t.length≤s.length:=by have:¬ (t.length:Int)≤s.length:=of_decide_eq_false h; omega
    exact congrArg AV.b (decide_eq_false fun h9=>h h9.1).symm
theorem s_hasPre0 (s t:Str):PSpec Tryd.prog 98 [.s s,.s t] (.b (isPre t s)) :=
  pspec_of_vc Γ_good Tryd.func98 rfl Tryd.call98 Tryd.results98 Tryd.ntmps98 (Nat.le_of_ble_eq_true rfl) (w_hasPre0 s t)
theorem w_cutP0 (s t:Str):vc Tryd.prog Γ 15 [0,1,4,5,9] (Tryd.f104.body.getD .skip) (postK Γ [.tmp 4,.tmp 5] (fun v=>v = .tup [.s (cutP t s),.b (isPre t s)])) ⟨argSlots 0 [.s s,.s t],[]⟩:=by
  refine Or.inl (Exists.intro _ (And.intro (s_hasPre0 s t) ?_))
  unfold cutP
  by_cases h:isPre t s = true
  · have hl:t.length≤s.length:=(of_decide_eq_true h).1
    rw [if_pos h,h]
    (repeat' (first | (refine And.intro (fun h=>?_) (fun h=>?_)<;>(try simp [-List.getD_eq_getElem?_getD,-Int.pred_toNat] at h)<;>(try (exfalso; first | omega | contradiction))) | (refine And.intro (rng64 (by omega) (by omega)) ?_) | (refine And.intro ⟨by omega,by omega⟩ ?_) | (refine And.intro ⟨by omega,by omega,by omega⟩ ?_) | (intro _)))
    rw [Int.toNat_natCast,Int.toNat_natCast,List.take_length]
    rfl
  · have h:isPre t s = false:=by simpa using h
    rw [if_neg (by rw [h]; decide),h]
    (repeat' (first | (refine And.intro (fun h=>?_) (fun h=>?_)<;>(try simp [-List.getD_eq_getElem?_getD,-Int.pred_toNat] at h)<;>(try (exfalso; first | omega | contradiction))) | (refine And.intro (rng64 (by omega) (by omega)) ?_) | (refine And.intro ⟨by omega,by omega⟩ ?_) | (refine And.intro ⟨by omega,by omega,by omega⟩ ?_) | (intro _)))
    rfl
theorem s_cutP0 (s t:Str):PSpec Tryd.prog 104 [.s s,.s t] (.tup [.s (cutP t s),.b (isPre t s)]) :=
  pspec_of_vc Γ_good Tryd.func104 rfl Tryd.call104 Tryd.results104 Tryd.ntmps104 (Nat.le_of_ble_eq_true rfl) (w_cutP0 s t)
theorem w_cutPre (s t:Str):vc Tryd.prog Γ 11 [0,1,4,5] (Tryd.f69.body.getD .skip) (postK Γ [.tmp 4,.tmp 5] (fun v=>v = .tup [.s (cutP t s),.b (isPre t s)])) ⟨argSlots 0 [.s s,.s t],[]⟩:=by
  refine Or.inl (Exists.intro _ (And.intro (s_cutP0 s t) ?_))
  rfl
theorem s_cutPre (s t:Str):PSpec Tryd.prog 69 [.s s,.s t] (.tup [.s (cutP t s),.b (isPre t s)]) :=
  pspec_of_vc Γ_good Tryd.func69 rfl Tryd.call69 Tryd.results69 Tryd.ntmps69 (Nat.le_of_ble_eq_true rfl) (w_cutPre s t)
end
end Go.Proofs.YtmfchbkdakmjhaaDoor
end
section
namespace Go.SX
set_option linter.unusedSectionVars false
variable [Globs]
section
variable {P:Program} {N:Nat} {Γ:Ctx} {L:List Nat} {W0:World} {F:Fr} {X:Nat→Prop} {s:St} {β:Nat→Option Nat} {a:Act} {w:World}
def RL1:AV→AV→Prop
  | .agg cs,.agg ds=>AVles cs ds
  | c,d=>AVle c d
def RLs:List AV→List AV→Prop
  | [],[]=>True
  | a::r,b::t=>RL1 a b∧RLs r t
  | _,_=>False
def RL:AV→AV→Prop
  | .tup cs,.tup ds=>RLs cs ds
  | c,d=>RL1 c d
theorem im_RL1 {O:Nat→Prop} {c d:AV} {u:Value} (h:Im O w c u) (hle:RL1 c d):Im O w d u:=by
  unfold RL1 at hle
  split at hle
  · cases h with
    | agg _ vs h1 h2 h3 =>
      have:=all_le (show All2 (Im O w) _ vs from ⟨h1,h3⟩) hle
      exact .agg _ vs this.1 h2 this.2
  · exact im_le h hle
theorem im_RLs {O:Nat→Prop}:∀ {cs ds:List AV} {us:List Value},All2 (Im O w) cs us→RLs cs ds→All2 (Im O w) ds us
  | [],[],us,h,_=>h
  | [],_::_,_,_,hle=>hle.elim
  | _::_,[],_,_,hle=>hle.elim
  | c::r,d::t,us,h,hle=>by
    obtain ⟨u,us',rfl,h1,h2⟩:=h.cons_inv
    exact All2.cons (im_RL1 h1 hle.1) (im_RLs h2 hle.2)
theorem im_RL {O:Nat→Prop} {c d:AV} {u:Value} (h:Im O w c u) (hle:RL c d):Im O w d u:=by
  unfold RL at hle
  split at hle
  · cases h with
    | tup _ vs h1 h2 =>
      have:=im_RLs (show All2 (Im O w) _ vs from ⟨h1,h2⟩) hle
      exact .tup _ vs this.1 this.2
  · exact im_RL1 h hle
theorem pspec_of_vcL (hΓ : Γ.good P) {f : FuncId} {fn : Func} {c : Code} (hf : P.funcs[f]? = some fn) (hb : fn.body = some c) (hcall : ∀ (vs : Array Value) (w : World), (callFunc f vs).run P w = .ok (.enter f vs) w)
    {rs:Array ResultVar} (hrs:fn.results = rs) (hN:fn.ntmps = N) {args:List AV} {r:AV} {L:List Nat} (hlen:args.length≤N)
    (hvc:vc P Γ N L c (postK Γ rs.toList (fun v=>RL v r)) ⟨argSlots 0 args,[]⟩):PSpec P f args r:=by
  refine ⟨hcall,fun O w vs hO hG hargs=>?_⟩
  refine calls_of_wp hf hb ?_
  have hsz:vs.length = args.length:=hargs.1.symm
  have hI:InvB w Fr.none O N ⟨argSlots 0 args,[]⟩ (fun _=>none) { tmps:=vs.toArray++Array.replicate (fn.ntmps - vs.toArray.size) undef,defers:=[] } w:=by
    have hNm:∀ n,¬ Nm ⟨argSlots 0 args,[]⟩ n:=by
      rintro n (⟨cs,h⟩ | ⟨m,h⟩ | ⟨b,cs,h,_⟩)
      · cases h
      · have:=look_args args 0 m
        rw [Nat.zero_add] at this
        simp only [this] at h
        by_cases hm:m < args.length
        · rw [List.getD_eq_getElem?_getD,List.getElem?_eq_getElem hm] at h
          have:=(hargs.2 m _ _ (List.getElem?_eq_getElem hm) (List.getElem?_eq_getElem (by rw [hsz]; exact hm))).ids_nil
          rw [show (some args[m]).getD AV.x = args[m] from rfl,this] at h
          cases h
        · rw [List.getD_eq_getElem?_getD,List.getElem?_eq_none (by omega)] at h
          simp [ids,ids0] at h
      · cases h
    refine ⟨Stp.refl _ _,fun n=>?_,?_,fun n cs h=>(by cases h),fun n m g hn=>absurd hn (hNm n),fun n g hn=>absurd hn (hNm n),rfl,fun k hk=>⟨hO k hk,id⟩,fun n cs g h=>(by cases h),fun _ _=>rfl,hG.step (Stp.refl (fun _=>False) w) (fun _ _ h=>h.elim) fun k _ hk=>hk.elim id fun h=>h.elim⟩
    · have h1:=look_args args 0 n
      rw [Nat.zero_add] at h1
      show Rel _ _ _ (look (argSlots 0 args) n) _
      rw [h1]
      by_cases hm:n < args.length
      · have hmv:n < vs.length:=by rw [hsz]; exact hm
        have h2:=hargs.2 n _ _ (List.getElem?_eq_getElem hm) (List.getElem?_eq_getElem hmv)
        rw [List.getD_eq_getElem?_getD,List.getElem?_eq_getElem hm]
        have h3:(vs.toArray++Array.replicate (fn.ntmps - vs.toArray.size) undef).getD n undef = vs[n]:=by
          rw [Array.getD_eq_getD_getElem?,Array.getElem?_append_left (by simpa using hmv)]
          simp [hmv]
        rw [h3]
        refine Rel.im (h2.mono fun k hk=>?_)
        rcases hk with hk | ⟨m,hm',_⟩
        · exact hk
        · exact absurd hm' (hNm m)
      · rw [List.getD_eq_getElem?_getD,List.getElem?_eq_none (by omega)]
        exact Rel.x
    · show (vs.toArray++Array.replicate (fn.ntmps - vs.toArray.size) undef).size = N
      simp only [Array.size_append,List.size_toArray,Array.size_replicate,hN,hsz]
      omega
  refine vc_ok (W0:=w) (F:=Fr.none) (X:=O) hΓ c _ _ _ _ _ (fun e s a w' hq ⟨β,hI'⟩=>?_) hvc ⟨_,hI⟩
  have key:retK Γ s rs.toList (fun v=>RL v r)→a.defers = []∧∃ v,(results fn a.tmps).run P w' = .ok v w'∧∃ v',Ending.returned v = .returned v'∧Stp (fun _=>False) w w'∧Im O w' r v':=by
    intro h
    rw [← hrs] at h
    obtain ⟨v,u,hv,h1,h2⟩:=ret_ok hΓ hI' h
    exact ⟨hI'.defers,u,h2,u,rfl,hI'.ext,im_RL h1 hv⟩
  cases e with
  | normal=>exact key hq
  | ret=>exact key hq
  | _=>exact hq.elim

theorem pspec_of_VCsL (_hΓ : Γ.good P) {f : FuncId} {fn : Func} {c : Code} (hf : P.funcs[f]? = some fn) (hb : fn.body = some c) (hcall : ∀ (vs : Array Value) (w : World), (callFunc f vs).run P w = .ok (.enter f vs) w)
    {rs:Array ResultVar} (hrs:fn.results = rs) (hN:fn.ntmps = N) {args:List AV} {r:AV} (hlen:args.length≤N)
    (hvc:VCs P Γ N L c (postK Γ rs.toList (fun v=>RL v r)) ⟨argSlots 0 args,[]⟩) (hΓ:Γ.good P):PSpec P f args r:=by
  refine ⟨hcall,fun O w vs hO hG hargs=>?_⟩
  refine calls_of_wp hf hb ?_
  have hsz:vs.length = args.length:=hargs.1.symm
  have hI:InvB w Fr.none O N ⟨argSlots 0 args,[]⟩ (fun _=>none) { tmps:=vs.toArray++Array.replicate (fn.ntmps - vs.toArray.size) undef,defers:=[] } w:=by
    have hNm:∀ n,¬ Nm ⟨argSlots 0 args,[]⟩ n:=by
      rintro n (⟨cs,h⟩ | ⟨m,h⟩ | ⟨b,cs,h,_⟩)
      · cases h
      · have:=look_args args 0 m
        rw [Nat.zero_add] at this
        simp only [this] at h
        by_cases hm:m < args.length
        · rw [List.getD_eq_getElem?_getD,List.getElem?_eq_getElem hm] at h
          have:=(hargs.2 m _ _ (List.getElem?_eq_getElem hm) (List.getElem?_eq_getElem (by rw [hsz]; exact hm))).ids_nil
          rw [show (some args[m]).getD AV.x = args[m] from rfl,this] at h
          cases h
        · rw [List.getD_eq_getElem?_getD,List.getElem?_eq_none (by omega)] at h
          simp [ids,ids0] at h
      · cases h
    refine ⟨Stp.refl _ _,fun n=>?_,?_,fun n cs h=>(by cases h),fun n m g hn=>absurd hn (hNm n),fun n g hn=>absurd hn (hNm n),rfl,fun k hk=>⟨hO k hk,id⟩,fun n cs g h=>(by cases h),fun _ _=>rfl,hG.step (Stp.refl (fun _=>False) w) (fun _ _ h=>h.elim) fun k _ hk=>hk.elim id fun h=>h.elim⟩
    · have h1:=look_args args 0 n
      rw [Nat.zero_add] at h1
      show Rel _ _ _ (look (argSlots 0 args) n) _
      rw [h1]
      by_cases hm:n < args.length
      · have hmv:n < vs.length:=by rw [hsz]; exact hm
        have h2:=hargs.2 n _ _ (List.getElem?_eq_getElem hm) (List.getElem?_eq_getElem hmv)
        rw [List.getD_eq_getElem?_getD,List.getElem?_eq_getElem hm]
        have h3:(vs.toArray++Array.replicate (fn.ntmps - vs.toArray.size) undef).getD n undef = vs[n]:=by
          rw [Array.getD_eq_getD_getElem?,Array.getElem?_append_left (by simpa using hmv)]
          simp [hmv]
        rw [h3]
        refine Rel.im (h2.mono fun k hk=>?_)
        rcases hk with hk | ⟨m,hm',_⟩
        · exact hk
        · exact absurd hm' (hNm m)
      · rw [List.getD_eq_getElem?_getD,List.getElem?_eq_none (by omega)]
        exact Rel.x
    · show (vs.toArray++Array.replicate (fn.ntmps - vs.toArray.size) undef).size = N
      simp only [Array.size_append,List.size_toArray,Array.size_replicate,hN,hsz]
      omega
  refine hvc.ok w Fr.none O _ _ _ (fun e s a w' hq ⟨β,hI'⟩=>?_) ⟨_,hI⟩
  have key:retK Γ s rs.toList (fun v=>RL v r)→a.defers = []∧∃ v,(results fn a.tmps).run P w' = .ok v w'∧∃ v',Ending.returned v = .returned v'∧Stp (fun _=>False) w w'∧Im O w' r v':=by
    intro h
    rw [← hrs] at h
    obtain ⟨v,u,hv,h1,h2⟩:=ret_ok hΓ hI' h
    exact ⟨hI'.defers,u,h2,u,rfl,hI'.ext,im_RL h1 hv⟩
  cases e with
  | normal=>exact key hq
  | ret=>exact key hq
  | _=>exact hq.elim
end
end Go.SX
end
section
namespace Go.Proofs.YtmfchbkdakmjhaaDoor
set_option linter.unusedSectionVars false
set_option linter.unusedSimpArgs false
set_option linter.unusedVariables false
open Go Go.SX Go.Bg Go.Nm
set_option maxRecDepth 100000
set_option maxHeartbeats 1000000
def sgI (n:Int):Int:=if n < 0 then -1 else 1
theorem sg_abs (n:Int):sgI n * (n.natAbs:Int) = n:=by unfold sgI; split<;>omega
theorem sgI_div (n:Int) (a b:Nat):(sgI n * (a:Int)).tdiv b = sgI n * ((a / b:Nat):Int):=by
  unfold sgI
  split
  · rw [Int.neg_one_mul,Int.neg_one_mul,Int.neg_tdiv]; rfl
  · rw [Int.one_mul,Int.one_mul]; rfl
theorem sgI_mod (n:Int) (a b:Nat):(sgI n * (a:Int)).tmod b = sgI n * ((a % b:Nat):Int):=by
  unfold sgI
  split
  · rw [Int.neg_one_mul,Int.neg_one_mul,Int.neg_tmod]; rfl
  · rw [Int.one_mul,Int.one_mul]; rfl
theorem sgI_rng (n:Int) (a:Nat) (h:a≤n.natAbs) (h0 : -9223372036854775808≤n) (h1:n≤9223372036854775807) : -9223372036854775808≤sgI n * (a:Int)∧sgI n * (a:Int)≤9223372036854775807:=by
  unfold sgI
  split<;>omega
theorem txt_len {b n:Nat} (hb:2≤b) (hn:n < 2 ^ 64):(txtN b n).length≤64:=by
  unfold txtN
  split
  · simp
  · rw [List.length_map,List.length_reverse]
    exact dg_len_le hb 64 n (Nat.lt_of_lt_of_le hn (Nat.pow_le_pow_left hb 64))
theorem hex_cut (d:Nat) (h:d < 16):(hexS.take (Int.toNat ((d:Int) + 1))).drop (Int.toNat (d:Int)) = [dcI (d:Int)]:=by
  rcases (show d = 0∨d = 1∨d = 2∨d = 3∨d = 4∨d = 5∨d = 6∨d = 7∨d = 8∨d = 9∨d = 10∨d = 11∨d = 12∨d = 13∨d = 14∨d = 15 by omega) with rfl | rfl | rfl | rfl | rfl | rfl | rfl | rfl | rfl | rfl | rfl | rfl | rfl | rfl | rfl | rfl<;>rfl
section
variable [G:Globs]
theorem w_numText (n:Int) (b:Nat) (hb:b = 2∨b = 8∨b = 10∨b = 16) (h0 : -9223372036854775808≤n) (h1:n≤9223372036854775807):VCs Tryd.prog Γ 48 [0,1,4,5,6,7,8,9,10,12,14,22,30,40] (Tryd.f89.body.getD .skip) (postK Γ [.tmp 4] (fun v=>v = .s (numT n b))) ⟨argSlots 0 [.i .i64 n,.i .i64 (b:Int)],[]⟩:=by
  refine VCs.seq (by first | exact Γ_good | exact Ctx.good_kp Γ_good _) ?_
  refine VCs.seq (by first | exact Γ_good | exact Ctx.good_kp Γ_good _) ?_
  refine VCs.cut (by first | exact Γ_good | exact Ctx.good_kp Γ_good _) Unit (fun _=>True) (fun _=>⟨[(0,.i .i64 n),(1,.i .i64 (b:Int)),(4,.s []),(5,.s (frontS b))],[]⟩) ?_ ?_
  · rcases hb with rfl | rfl | rfl | rfl
    all_goals
      (repeat' (first | (refine And.intro (fun h=>?_) (fun h=>?_)<;>(try simp [-List.getD_eq_getElem?_getD,-Int.pred_toNat] at h)<;>(try (exfalso; first | omega | contradiction))) | (refine And.intro (rng64 (by omega) (by omega)) ?_) | (refine And.intro ⟨by omega,by omega⟩ ?_) | (refine And.intro ⟨by omega,by omega,by omega⟩ ?_) | (intro _)))
      refine Exists.intro () (And.intro trivial ?_)
      (repeat' (first | exact trivial | exact Or.inl rfl | exact Or.inr (Or.inl ⟨rfl,_,rfl⟩) | exact Or.inr (Or.inr (Or.inr ⟨_,_,_,rfl,rfl⟩)) | refine And.intro ?_ ?_))
  rintro ⟨⟩ _
  have hb2:2≤b∧b≤16:=by omega
  have hbe:(b:Int)≠0:=by omega
  refine VCs.of_vc (by first | exact Γ_good | exact Ctx.good_kp Γ_good _) ?_
  refine Exists.intro [] (Exists.intro [] (Exists.intro [] (Exists.intro (Nat × Str) (Exists.intro (fun q=>q.1≤n.natAbs∧((q.2 = []∧q.1 = n.natAbs)∨(q.2≠[]∧tailN b q.1++q.2 = txtN b n.natAbs))) (Exists.intro (fun ⟨a,t⟩=>⟨[(0,.i .i64 n),(1,.i .i64 (b:Int)),(5,.s (frontS b)),(6,.s t),(7,.i .i64 (sgI n * (a:Int)))],[]⟩) (Exists.intro (fun q=>2 * q.1 + (if q.2 = [] then 1 else 0)) (Exists.intro (n.natAbs,[]) (And.intro ⟨Nat.le_refl _,Or.inl ⟨rfl,rfl⟩⟩ (And.intro ?_ ?_)))))))))
  · (repeat' (first | exact trivial | exact Or.inl rfl | exact Or.inl ((congrArg (AV.i .i64) (sg_abs n).symm)) | refine And.intro ?_ ?_))
  · rintro ⟨a,t⟩ ⟨ha,hI⟩
    simp only at ha hI
    have hr:=sgI_rng n a ha h0 h1
    have hdv:=sgI_div n a b
    have hmd:=sgI_mod n a b
    have hz:sgI n * (a:Int) = 0↔a = 0:=by unfold sgI; split<;>omega
    have hab:a % b < b:=Nat.mod_lt _ (by omega)
    have hdr:=sgI_rng n (a / b) (Nat.le_trans (Nat.div_le_self a b) ha) h0 h1
    have hmr:sgI n * ((a % b:Nat):Int) = (a % b:Nat)∨sgI n * ((a % b:Nat):Int) = -((a % b:Nat):Int):=by unfold sgI; split<;>omega
    have hcut:=hex_cut (a % b) (by omega)
    unfold hexS at hcut
    have hlen:=txt_len (b:=b) (n:=n.natAbs) hb2.1 (by omega)
    have hne:(t == []) = decide (t = []):=by cases t<;>rfl
    have htl:t.length≤64:=by
      rcases hI with ⟨h,_⟩ | ⟨_,h⟩
      · rw [h]; exact Nat.zero_le _
      · rw [← h,List.length_append] at hlen; omega
    have hfl : (frontS (b : Int)).length ≤ 2 := by unfold frontS; repeat' split
                                                   all_goals simp
    by_cases hgo:a = 0∧t≠[]
    · have ht : t = txtN b n.natAbs := by
        rcases hI with ⟨h,_⟩ | ⟨_,h⟩
        · exact absurd h hgo.2
        · rw [hgo.1] at h; exact h
      have ht2:=hgo.2
      have ha0:=hgo.1
      rcases (show n < 0∨0≤n by omega) with hn | hn
      · have hT:numT n b = [45]++frontS (b:Int)++t:=by unfold numT; rw [if_pos hn,ht]
        rw [hT]
        (repeat' (first | (refine And.intro (fun h=>?_) (fun h=>?_)<;>(try simp [-List.getD_eq_getElem?_getD,-Int.pred_toNat] at h)<;>(try (exfalso; first | omega | contradiction))) | (refine And.intro (rng64 (by omega) (by omega)) ?_) | (refine And.intro ⟨by omega,by omega⟩ ?_) | (refine And.intro ⟨by omega,by omega,by omega⟩ ?_) | (intro _)))
        refine And.intro (show 1 + (frontS (b:Int)).length≤maxLen by unfold maxLen; omega) ?_
        refine And.intro (show ([45]++frontS (b:Int)).length + t.length≤maxLen by rw [List.length_append]; unfold maxLen; simp only [List.length_cons,List.length_nil]; omega) ?_
        rfl
      · have hT:numT n b = frontS (b:Int)++t:=by unfold numT; rw [if_neg (by omega),ht]; rfl
        rw [hT]
        (repeat' (first | (refine And.intro (fun h=>?_) (fun h=>?_)<;>(try simp [-List.getD_eq_getElem?_getD,-Int.pred_toNat] at h)<;>(try (exfalso; first | omega | contradiction))) | (refine And.intro (rng64 (by omega) (by omega)) ?_) | (refine And.intro ⟨by omega,by omega⟩ ?_) | (refine And.intro ⟨by omega,by omega,by omega⟩ ?_) | (intro _)))
        refine And.intro (show (frontS (b:Int)).length + t.length≤maxLen by unfold maxLen; omega) ?_
        rfl
    · have hN:dcI ((a % b:Nat):Int)::t≠[]:=by simp
      have hI2:tailN b (a / b)++(dcI ((a % b:Nat):Int)::t) = txtN b n.natAbs:=by
        rcases hI with ⟨h,h'⟩ | ⟨_,h⟩
        · subst h
          rw [← h']
          rcases Nat.eq_zero_or_pos a with e | e
          · rw [e,Nat.zero_div,Nat.zero_mod]; rfl
          · rw [txtN_pos e,tailN_pos hb2.1 e]
        · rw [← h,tailN_pos (n:=a) hb2.1 (by rcases Nat.eq_zero_or_pos a with e | e; exact absurd ⟨e,by assumption⟩ hgo; exact e),List.append_assoc]
          rfl
      have hgo2:¬ a = 0∨t = []:=by
        by_cases h:a = 0
        · exact Or.inr (Decidable.byContradiction fun h2=>hgo ⟨h,h2⟩)
        · exact Or.inl h
      have hmu:2 * (a / b) + 0 < 2 * a + (if t = [] then 1 else 0):=by
        rcases Nat.eq_zero_or_pos a with e | e
        · rw [if_pos (hgo2.resolve_left (fun h=>h e)),e,Nat.zero_div]; omega
        · have:=Nat.div_lt_self e (show 1 < b by omega)
          omega
      rcases hgo2 with hg | hg
      · (repeat' (first | (refine And.intro (fun h=>?_) (fun h=>?_)<;>(try simp [-List.getD_eq_getElem?_getD,-Int.pred_toNat] at h)<;>(try (exfalso; first | omega | contradiction))) | (refine And.intro (rng64 (by omega) (by omega)) ?_) | (refine And.intro ⟨by omega,by omega⟩ ?_) | (refine And.intro ⟨by omega,by omega,by omega⟩ ?_) | (intro _)))
        all_goals
          refine And.intro hbe ?_
          rw [hmd]
          refine And.intro (fun h9=>?_) (fun h9=>?_)
          · have h9:sgI n * ((a % b:Nat):Int) < 0:=of_decide_eq_true h9
            have hv:(0:Int) - sgI n * ((a % b:Nat):Int) = ((a % b:Nat):Int):=by omega
            refine Or.inl (And.intro (rng64 (by omega) (by omega)) ?_)
            rw [hv]
            (refine And.intro (rng64 (by omega) (by omega)) ?_)
            refine And.intro (show 0≤((a % b:Nat):Int)∧((a % b:Nat):Int)≤((a % b:Nat):Int) + 1∧((a % b:Nat):Int) + 1≤16 from ⟨by omega,by omega,by omega⟩) ?_
            rw [hcut]
            refine And.intro (show 1 + (t).length≤maxLen by unfold maxLen; omega) ?_
            refine And.intro hbe ?_
            rw [hdv]
            (refine And.intro (rng64 (by omega) (by omega)) ?_)
            refine Exists.intro [] (Exists.intro (a / b,dcI ((a % b:Nat):Int)::t) (And.intro ⟨Nat.le_trans (Nat.div_le_self a b) ha,Or.inr ⟨hN,hI2⟩⟩ (And.intro ?_ ?_)))
            · (repeat' (first | exact trivial | exact Or.inl rfl | exact Or.inr (Or.inl ⟨rfl,_,rfl⟩) | exact Or.inr (Or.inr (Or.inr ⟨_,_,_,rfl,rfl⟩)) | refine And.intro ?_ ?_))
            · simp only
              rw [if_neg hN]
              exact hmu
          · have h9:¬ sgI n * ((a % b:Nat):Int) < 0:=of_decide_eq_false h9
            have hv:sgI n * ((a % b:Nat):Int) = ((a % b:Nat):Int):=by omega
            rw [hv]
            (refine And.intro (rng64 (by omega) (by omega)) ?_)
            refine And.intro (show 0≤((a % b:Nat):Int)∧((a % b:Nat):Int)≤((a % b:Nat):Int) + 1∧((a % b:Nat):Int) + 1≤16 from ⟨by omega,by omega,by omega⟩) ?_
            rw [hcut]
            refine And.intro (show 1 + (t).length≤maxLen by unfold maxLen; omega) ?_
            refine And.intro hbe ?_
            rw [hdv]
            (refine And.intro (rng64 (by omega) (by omega)) ?_)
            refine Exists.intro [] (Exists.intro (a / b,dcI ((a % b:Nat):Int)::t) (And.intro ⟨Nat.le_trans (Nat.div_le_self a b) ha,Or.inr ⟨hN,hI2⟩⟩ (And.intro ?_ ?_)))
            · (repeat' (first | exact trivial | exact Or.inl rfl | exact Or.inr (Or.inl ⟨rfl,_,rfl⟩) | exact Or.inr (Or.inr (Or.inr ⟨_,_,_,rfl,rfl⟩)) | refine And.intro ?_ ?_))
            · simp only
              rw [if_neg hN]
              exact hmu
      · subst hg
        (repeat' (first | (refine And.intro (fun h=>?_) (fun h=>?_)<;>(try simp [-List.getD_eq_getElem?_getD,-Int.pred_toNat] at h)<;>(try (exfalso; first | omega | contradiction))) | (refine And.intro (rng64 (by omega) (by omega)) ?_) | (refine And.intro ⟨by omega,by omega⟩ ?_) | (refine And.intro ⟨by omega,by omega,by omega⟩ ?_) | (intro _)))
        all_goals
          refine And.intro hbe ?_
          rw [hmd]
          refine And.intro (fun h9=>?_) (fun h9=>?_)
          · have h9:sgI n * ((a % b:Nat):Int) < 0:=of_decide_eq_true h9
            have hv:(0:Int) - sgI n * ((a % b:Nat):Int) = ((a % b:Nat):Int):=by omega
            refine Or.inl (And.intro (rng64 (by omega) (by omega)) ?_)
            rw [hv]
            (refine And.intro (rng64 (by omega) (by omega)) ?_)
            refine And.intro (show 0≤((a % b:Nat):Int)∧((a % b:Nat):Int)≤((a % b:Nat):Int) + 1∧((a % b:Nat):Int) + 1≤16 from ⟨by omega,by omega,by omega⟩) ?_
            rw [hcut]
            refine And.intro (show 1 + (([]:Str)).length≤maxLen by unfold maxLen; simp only [List.length_nil]; omega) ?_
            refine And.intro hbe ?_
            rw [hdv]
            (refine And.intro (rng64 (by omega) (by omega)) ?_)
            refine Exists.intro [] (Exists.intro (a / b,dcI ((a % b:Nat):Int)::([]:Str)) (And.intro ⟨Nat.le_trans (Nat.div_le_self a b) ha,Or.inr ⟨hN,hI2⟩⟩ (And.intro ?_ ?_)))
            · (repeat' (first | exact trivial | exact Or.inl rfl | exact Or.inr (Or.inl ⟨rfl,_,rfl⟩) | exact Or.inr (Or.inr (Or.inr ⟨_,_,_,rfl,rfl⟩)) | refine And.intro ?_ ?_))
            · simp only
              rw [if_neg hN]
              exact hmu
          · have h9:¬ sgI n * ((a % b:Nat):Int) < 0:=of_decide_eq_false h9
            have hv:sgI n * ((a % b:Nat):Int) = ((a % b:Nat):Int):=by omega
            rw [hv]
            (refine And.intro (rng64 (by omega) (by omega)) ?_)
            refine And.intro (show 0≤((a % b:Nat):Int)∧((a % b:Nat):Int)≤((a % b:Nat):Int) + 1∧((a % b:Nat):Int) + 1≤16 from ⟨by omega,by omega,by omega⟩) ?_
            rw [hcut]
            refine And.intro (show 1 + (([]:Str)).length≤maxLen by unfold maxLen; simp only [List.length_nil]; omega) ?_
            refine And.intro hbe ?_
            rw [hdv]
            (refine And.intro (rng64 (by omega) (by omega)) ?_)
            refine Exists.intro [] (Exists.intro (a / b,dcI ((a % b:Nat):Int)::([]:Str)) (And.intro ⟨Nat.le_trans (Nat.div_le_self a b) ha,Or.inr ⟨hN,hI2⟩⟩ (And.intro ?_ ?_)))
            · (repeat' (first | exact trivial | exact Or.inl rfl | exact Or.inr (Or.inl ⟨rfl,_,rfl⟩) | exact Or.inr (Or.inr (Or.inr ⟨_,_,_,rfl,rfl⟩)) | refine And.intro ?_ ?_))
            · simp only
              rw [if_neg hN]
              exact hmu
theorem s_numText (n:Int) (b:Nat) (hb:b = 2∨b = 8∨b = 10∨b = 16) (h0 : -9223372036854775808≤n) (h1:n≤9223372036854775807):PSpec Tryd.prog 89 [.i .i64 n,.i .i64 (b:Int)] (.s (numT n b)) :=
  pspec_of_VCs Γ_good Tryd.func89 rfl Tryd.call89 Tryd.results89 Tryd.ntmps89 (Nat.le_of_ble_eq_true rfl) (w_numText n b hb h0 h1) Γ_good
end
end Go.Proofs.YtmfchbkdakmjhaaDoor
end
section
namespace Go.Proofs.YtmfchbkdakmjhaaDoor
set_option linter.unusedSectionVars false
set_option linter.unusedSimpArgs false
set_option linter.unusedVariables false
open Go Go.SX Go.Bg Go.Nm
set_option maxRecDepth 100000
set_option maxHeartbeats 1000000
def HasPow [G : Globs] : Prop := ∃ o0 : Obj, (0, o0) ∈ G.gl ∧ ∀ w : World, w.heap[0]? = some o0 → Lib.TabIs Tryd.prog w "internal/strconv.uint64pow10" .u64 Lib.pow10Tab
theorem dcI_lt {d:Nat} (h:d < 10):dcI (d:Int) = UInt8.ofNat (48 + d):=by
  rcases (show d = 0∨d = 1∨d = 2∨d = 3∨d = 4∨d = 5∨d = 6∨d = 7∨d = 8∨d = 9 by omega) with rfl | rfl | rfl | rfl | rfl | rfl | rfl | rfl | rfl | rfl<;>rfl
theorem dec_txt:∀ n:Nat,Lib.decDigits n = txtN 10 n:=by
  intro n
  induction n using Nat.strongRecOn with
  | ind n ih =>
    rw [Lib.decDigits]
    split
    · rename_i h
      rcases Nat.eq_zero_or_pos n with e | e
      · rw [e]; rfl
      · rw [txtN_pos e,tailN_pos (by decide) e,Nat.div_eq_of_lt h,Nat.mod_eq_of_lt h,tailN_zero,dcI_lt h]
        rfl
    · rename_i h
      rw [ih (n / 10) (by omega),txtN_pos (show 0 < n by omega),tailN_pos (by decide) (show 0 < n by omega),txtN_pos (show 0 < n / 10 by omega),dcI_lt (Nat.mod_lt _ (by decide))]
theorem grow_stp (w:World) (k:Nat) (os:Array Obj):Stp (fun _=>False) w (Go.Sort.grow (w.drewN k) os):=by
  refine ⟨rfl,rfl,rfl,?_,fun j hj _=>?_⟩
  · show w.heap.size≤(w.heap++os).size
    rw [Array.size_append]; omega
  · show (w.heap++os)[j]? = _
    rw [Array.getElem?_append_left hj]
theorem itoa_txt (n:Int):Lib.itoa n = numT n 10:=by
  unfold Lib.itoa numT
  split
  · rw [dec_txt]; rfl
  · rw [dec_txt,show n.toNat = n.natAbs by omega]; rfl
section
variable [G:Globs]
theorem s_fmt10i (ht:HasPow) (n:Int) (h0 : -9223372036854775808≤n) (h1:n≤9223372036854775807):PSpec Tryd.prog 96 [.i .i64 n,.i .i64 10] (.s (numT n 10)):=by
  refine ⟨Tryd.call96,fun O w vs hO hG hargs=>?_⟩
  obtain ⟨v0,vs0,rfl,h2,h⟩:=hargs.cons_inv
  obtain ⟨v1,vs1,rfl,h3,h⟩:=h.cons_inv
  obtain rfl:=h.nil_inv
  cases h2
  cases h3
  obtain ⟨o0,m0,hT⟩:=ht
  have hT:=hT w (hG _ m0).2
  refine (Tryd.internal_strconv_FormatInt_10 n h0 h1 w hT).mono fun e w' ⟨he,k,os,hw⟩=>?_
  subst he hw
  refine ⟨_,rfl,?_,?_⟩
  · exact grow_stp w k os
  · rw [itoa_txt]
    have hl:=Lib.itoa_length_le n h0 h1
    rw [itoa_txt] at hl
    exact .s _ (by unfold maxLen; omega)
theorem w_fmt10 (ht:HasPow) (n:Int) (h0 : -9223372036854775808≤n) (h1:n≤9223372036854775807):vc Tryd.prog Γ 8 [0,1,4] (Tryd.f56.body.getD .skip) (postK Γ [.tmp 4] (fun v=>v = .s (numT n 10))) ⟨argSlots 0 [.i .i64 n,.i .i64 10],[]⟩:=by
  refine Or.inl (Exists.intro _ (And.intro (s_fmt10i ht n h0 h1) ?_))
  rfl
theorem s_fmt10 (ht:HasPow) (n:Int) (h0 : -9223372036854775808≤n) (h1:n≤9223372036854775807):PSpec Tryd.prog 56 [.i .i64 n,.i .i64 10] (.s (numT n 10)) :=
  pspec_of_vc Γ_good Tryd.func56 rfl Tryd.call56 Tryd.results56 Tryd.ntmps56 (Nat.le_of_ble_eq_true rfl) (w_fmt10 ht n h0 h1)
theorem w_textP (ht:HasPow) (n:Int) (h0 : -9223372036854775808≤n) (h1:n≤9223372036854775807):vc Tryd.prog Γ 5 [0,2] (Tryd.f125.body.getD .skip) (postK Γ [.tmp 2] (fun v=>v = .s (numT n 10))) ⟨argSlots 0 [.i .i64 n],[]⟩:=by
  refine Or.inl (Exists.intro _ (And.intro (s_fmt10 ht n h0 h1) ?_))
  rfl
theorem s_textP (ht:HasPow) (n:Int) (h0 : -9223372036854775808≤n) (h1:n≤9223372036854775807):PSpec Tryd.prog 125 [.i .i64 n] (.s (numT n 10)) :=
  pspec_of_vc Γ_good Tryd.func125 rfl Tryd.call125 Tryd.results125 Tryd.ntmps125 (Nat.le_of_ble_eq_true rfl) (w_textP ht n h0 h1)
end
end Go.Proofs.YtmfchbkdakmjhaaDoor
end
section
namespace Go.Proofs.YtmfchbkdakmjhaaDoor
set_option linter.unusedSectionVars false
set_option linter.unusedSimpArgs false
set_option linter.unusedVariables false
open Go Go.SX Go.Bg Go.Nm
set_option maxRecDepth 100000
set_option maxHeartbeats 1000000
section
variable [G:Globs]
theorem s_mul64 (x y:Nat) (hx:x < 18446744073709551616) (hy:y < 18446744073709551616):PSpec Tryd.prog 164 [.i .u64 x,.i .u64 y] (.tup [.i .u64 ((x * y / 18446744073709551616:Nat):Int),.i .u64 ((x * y % 18446744073709551616:Nat):Int)]):=by
  refine ⟨Tryd.call164,fun O w vs hO hG hargs=>?_⟩
  obtain ⟨v0,vs0,rfl,h0,h⟩:=hargs.cons_inv
  obtain ⟨v1,vs1,rfl,h1,h⟩:=h.cons_inv
  obtain rfl:=h.nil_inv
  cases h0
  cases h1
  refine (Tryd.bits_Mul64 x y hx hy w).mono fun e w' ⟨he,hw⟩=>?_
  subst he hw
  exact ⟨_,rfl,Stp.refl _ _,.tup _ [_,_] rfl (fun j av v hav hv=>by
    match j with
    | 0=>simp at hav hv; subst hav hv; exact .i _ _
    | 1=>simp at hav hv; subst hav hv; exact .i _ _
    | j + 2=>simp at hav)⟩
theorem e_add64 (x y:Nat):ESpec Tryd.prog 165 [.i .u64 x,.i .u64 y,.i .u64 0] (.tup [.i .u64 (((x:Int) + y + 0) % 18446744073709551616),.i .u64 (((x:Int) + y + 0) / 18446744073709551616)]):=by
  intro O w vs hargs
  obtain ⟨v0,vs0,rfl,h0,h⟩:=hargs.cons_inv
  obtain ⟨v1,vs1,rfl,h1,h⟩:=h.cons_inv
  obtain ⟨v2,vs2,rfl,h2,h⟩:=h.cons_inv
  obtain rfl:=h.nil_inv
  cases h0
  cases h1
  cases h2
  have hrun:(callFunc 165 #[.int .u64 (x:Int),.int .u64 (y:Int),.int .u64 0]).run Tryd.prog w = .ok (.value (.tuple #[.int .u64 (((x:Int) + y + 0) % 18446744073709551616),.int .u64 (((x:Int) + y + 0) / 18446744073709551616)])) w:=by
    rw [run_callFunc_extern Tryd.func165 (by kernel_rfl) (by kernel_rfl) (by kernel_rfl) (e:=add64Entry) (by kernel_rfl),run_add64 x y 0 (by omega) (by omega) (by omega) (by omega)]
    rfl
  exact ⟨_,hrun,.tup _ [_,_] rfl (fun j av v hav hv=>by
    match j with
    | 0=>simp at hav hv; subst hav hv; exact .i _ _
    | 1=>simp at hav hv; subst hav hv; exact .i _ _
    | j + 2=>simp at hav)⟩
end
end Go.Proofs.YtmfchbkdakmjhaaDoor
end
section
namespace Go.Proofs.YtmfchbkdakmjhaaDoor
set_option linter.unusedSectionVars false
set_option linter.unusedSimpArgs false
set_option linter.unusedVariables false
open Go Go.SX Go.Bg Go.Nm
set_option maxRecDepth 100000
set_option maxHeartbeats 1000000
theorem dgt_lt (c:UInt8):dgt c < 100:=by
  unfold dgt
  split
  · omega
  · split
    · omega
    · split<;>omega
theorem numN_bound {b:Nat} (hb:1≤b):∀ (s:Str) (l:UInt8) (n N:Nat),numN b l n s = some N→N < (n + 1) * b ^ s.length
  | [],l,n,N,h=>by
    rw [numN] at h
    split at h
    · cases h
    · injection h with h; subst h; simp
  | c::r,l,n,N,h=>by
    rw [numN] at h
    have hp:(n + 1) * b ^ r.length≤(n + 1) * b ^ (c::r).length:=Nat.mul_le_mul_left _ (Nat.pow_le_pow_right hb (by simp))
    split at h
    · split at h
      · cases h
      · exact Nat.lt_of_lt_of_le (numN_bound hb r _ _ _ h) hp
    · split at h
      · cases h
      · rename_i hd
        have h1:=numN_bound hb r _ _ _ h
        refine Nat.lt_of_lt_of_le h1 ?_
        rw [List.length_cons,Nat.pow_succ,Nat.mul_comm (b ^ r.length) b,← Nat.mul_assoc]
        refine Nat.mul_le_mul_right _ ?_
        rw [Nat.add_mul]
        omega
theorem bare_long {t : Str} (h : 1 < t.length) (h0 : t.getD 0 0 = 48) :
    bareV t = if t.getD 1 0 = 120 then numN 16 95 0 (t.drop 2) else if t.getD 1 0 = 111 then numN 8 95 0 (t.drop 2) else if t.getD 1 0 = 98 then numN 2 95 0 (t.drop 2) else none:=by
  match t with
  | []=>simp at h
  | [c]=>simp at h
  | c::d::r =>
    have h0:c = 48:=h0
    show _ = if d = 120 then numN 16 95 0 r else if d = 111 then numN 8 95 0 r else if d = 98 then numN 2 95 0 r else none
    subst h0
    have e0:frontB (48::d::r) = if (48:UInt8) = 48∧d = 120 then (16,r) else if (48:UInt8) = 48∧d = 111 then (8,r) else if (48:UInt8) = 48∧d = 98 then (2,r) else (10,48::d::r):=rfl
    unfold bareV
    by_cases h1:d = 120
    · rw [if_pos h1,show frontB (48::d::r) = (16,r) by rw [e0,if_pos ⟨rfl,h1⟩]]
      exact if_neg (fun h=>by have:=h.1; simp at this)
    by_cases h2:d = 111
    · rw [if_neg h1,if_pos h2,show frontB (48::d::r) = (8,r) by rw [e0,if_neg (fun h=>h1 h.2),if_pos ⟨rfl,h2⟩]]
      exact if_neg (fun h=>by have:=h.1; simp at this)
    by_cases h3:d = 98
    · rw [if_neg h1,if_neg h2,if_pos h3,show frontB (48::d::r) = (2,r) by rw [e0,if_neg (fun h=>h1 h.2),if_neg (fun h=>h2 h.2),if_pos ⟨rfl,h3⟩]]
      exact if_neg (fun h=>by have:=h.1; simp at this)
    rw [if_neg h1,if_neg h2,if_neg h3,show frontB (48::d::r) = (10,48::d::r) by rw [e0,if_neg (fun h=>h1 h.2),if_neg (fun h=>h2 h.2),if_neg (fun h=>h3 h.2)]]
    exact if_pos ⟨rfl,by simp,rfl⟩
theorem bare_short {t:Str} (h:¬ (1 < t.length∧t.getD 0 0 = 48)):bareV t = numN 10 95 0 t:=by
  match t with
  | []=>rfl
  | [c]=>exact if_neg (fun h=>by simp [frontB] at h)
  | c::d::r =>
    have h0:c≠48:=fun e=>h ⟨by simp,e⟩
    have e0:frontB (c::d::r) = if c = 48∧d = 120 then (16,r) else if c = 48∧d = 111 then (8,r) else if c = 48∧d = 98 then (2,r) else (10,c::d::r):=rfl
    unfold bareV
    rw [show frontB (c::d::r) = (10,c::d::r) by rw [e0,if_neg (fun h=>h0 h.1),if_neg (fun h=>h0 h.1),if_neg (fun h=>h0 h.1)]]
    exact if_neg (fun h=>h0 h.2.2)
def lastC (u:Str) (i:Nat):UInt8:=if i = 0 then 95 else u.getD (i - 1) 0
theorem drop_tk (s:Str) (k:Nat):(s.take (Int.toNat (s.length:Int))).drop k = s.drop k:=by rw [Int.toNat_natCast,List.take_length]
section
variable [G:Globs]
theorem w_numeral (s:Str) (hs:s.length≤80):VCs Tryd.prog Γ 89 [0,2,3,4,5,6,7,14,24,26,27,29,31,34,52,57,63,68,76] (Tryd.f128.body.getD .skip) (postK Γ [.tmp 2,.tmp 3,.tmp 4] (fun v=>RL v (.tup [.b (minusS s),.rd .int (match bareV (restS s) with | none=>[] | some n=>dg 10000 n),.b (bareV (restS s)).isSome]))) ⟨argSlots 0 [.s s],[]⟩:=by
  refine VCs.seq (by first | exact Γ_good | exact Ctx.good_kp Γ_good _) ?_
  refine VCs.cut (by first | exact Γ_good | exact Ctx.good_kp Γ_good _) Unit (fun _=>True) (fun _=>⟨[(0,.s (restS s)),(2,.b (minusS s)),(3,.nl),(4,.b false)],[]⟩) ?_ ?_
  · cases s with
    | nil =>
      (repeat' (first | (refine And.intro (fun h=>?_) (fun h=>?_)<;>(try simp [-List.getD_eq_getElem?_getD,-Int.pred_toNat] at h)<;>(try (exfalso; first | omega | contradiction))) | (refine And.intro (rng64 (by omega) (by omega)) ?_) | (refine And.intro ⟨by omega,by omega⟩ ?_) | (refine And.intro ⟨by omega,by omega,by omega⟩ ?_) | (intro _)))
      refine Exists.intro () (And.intro trivial ?_)
      (repeat' (first | exact trivial | exact Or.inl rfl | exact Or.inr (Or.inl ⟨rfl,_,rfl⟩) | exact Or.inr (Or.inr (Or.inr ⟨_,_,_,rfl,rfl⟩)) | refine And.intro ?_ ?_))
    | cons c r =>
      have hl:(c::r).length = r.length + 1:=rfl
      have e0:((c::r).getD 0 0).toNat = c.toNat:=rfl
      by_cases hc:c = 45
      · have hm:minusS (c::r) = true:=decide_eq_true hc
        have hr:restS (c::r) = r:=by unfold restS; rw [if_pos hm]; rfl
        have hcn:c.toNat = 45:=by rw [hc]; rfl
        (repeat' (first | (refine And.intro (fun h=>?_) (fun h=>?_)<;>(try simp [-List.getD_eq_getElem?_getD,-Int.pred_toNat] at h)<;>(try (exfalso; first | omega | contradiction))) | (refine And.intro (rng64 (by omega) (by omega)) ?_) | (refine And.intro ⟨by omega,by omega⟩ ?_) | (refine And.intro ⟨by omega,by omega,by omega⟩ ?_) | (intro _)))
        refine Exists.intro [.blk [0,1,2,3]] (And.intro (by kernel_rfl) ?_)
        (repeat' (first | (refine And.intro (fun h=>?_) (fun h=>?_)<;>(try simp [-List.getD_eq_getElem?_getD,-Int.pred_toNat] at h)<;>(try (exfalso; first | omega | contradiction))) | (refine And.intro (rng64 (by omega) (by omega)) ?_) | (refine And.intro ⟨by omega,by omega⟩ ?_) | (refine And.intro ⟨by omega,by omega,by omega⟩ ?_) | (intro _)))
        refine Exists.intro () (And.intro trivial ?_)
        rw [hm,hr]
        (repeat' (first | exact trivial | exact Or.inl rfl | exact Or.inl ((congrArg AV.s (drop_tk (c::r) (Int.toNat 1)))) | refine And.intro ?_ ?_))
      · have hm:minusS (c::r) = false:=decide_eq_false hc
        have hr:restS (c::r) = c::r:=by unfold restS; rw [if_neg (by rw [hm]; decide)]
        have hcn:¬ c.toNat = 45:=fun h=>hc (UInt8.toNat_inj.1 h)
        (repeat' (first | (refine And.intro (fun h=>?_) (fun h=>?_)<;>(try simp [-List.getD_eq_getElem?_getD,-Int.pred_toNat] at h)<;>(try (exfalso; first | omega | contradiction))) | (refine And.intro (rng64 (by omega) (by omega)) ?_) | (refine And.intro ⟨by omega,by omega⟩ ?_) | (refine And.intro ⟨by omega,by omega,by omega⟩ ?_) | (intro _)))
        refine Exists.intro () (And.intro trivial ?_)
        rw [hm,hr]
        (repeat' (first | exact trivial | exact Or.inl rfl | exact Or.inr (Or.inl ⟨rfl,_,rfl⟩) | exact Or.inr (Or.inr (Or.inr ⟨_,_,_,rfl,rfl⟩)) | refine And.intro ?_ ?_))
  rintro ⟨⟩ _
  obtain ⟨t,ht⟩:∃ t,t = restS s:=⟨_,rfl⟩
  have htl:t.length≤80:=by rw [ht]; unfold restS; split<;>(try rw [List.length_drop])<;>omega
  rw [← ht]
  generalize minusS s = m
  refine VCs.seq (by first | exact Γ_good | exact Ctx.good_kp Γ_good _) ?_
  refine VCs.cut (by first | exact Γ_good | exact Ctx.good_kp Γ_good _) (Nat × Str) (fun q=>bareV t = numN q.1 95 0 q.2∧2≤q.1∧q.1≤16∧q.2.length≤80) (fun ⟨b,u⟩=>⟨[(0,.s u),(2,.b m),(3,.nl),(4,.b false),(5,.i .i64 (b:Int))],[]⟩) ?_ ?_
  · clear ht
    match t,htl with
    | [],htl =>
      (repeat' (first | (refine And.intro (fun h=>?_) (fun h=>?_)<;>(try simp [-List.getD_eq_getElem?_getD,-Int.pred_toNat] at h)<;>(try (exfalso; first | omega | contradiction))) | (refine And.intro (rng64 (by omega) (by omega)) ?_) | (refine And.intro ⟨by omega,by omega⟩ ?_) | (refine And.intro ⟨by omega,by omega,by omega⟩ ?_) | (intro _)))
      refine Exists.intro (10,[]) (And.intro ⟨bare_short (by simp),by simp,by simp,htl⟩ ?_)
      (repeat' (first | exact trivial | exact Or.inl rfl | exact Or.inr (Or.inl ⟨rfl,_,rfl⟩) | exact Or.inr (Or.inr (Or.inr ⟨_,_,_,rfl,rfl⟩)) | refine And.intro ?_ ?_))
    | [c],htl =>
      (repeat' (first | (refine And.intro (fun h=>?_) (fun h=>?_)<;>(try simp [-List.getD_eq_getElem?_getD,-Int.pred_toNat] at h)<;>(try (exfalso; first | omega | contradiction))) | (refine And.intro (rng64 (by omega) (by omega)) ?_) | (refine And.intro ⟨by omega,by omega⟩ ?_) | (refine And.intro ⟨by omega,by omega,by omega⟩ ?_) | (intro _)))
      refine Exists.intro (10,[c]) (And.intro ⟨bare_short (by simp),by simp,by simp,htl⟩ ?_)
      (repeat' (first | exact trivial | exact Or.inl rfl | exact Or.inr (Or.inl ⟨rfl,_,rfl⟩) | exact Or.inr (Or.inr (Or.inr ⟨_,_,_,rfl,rfl⟩)) | refine And.intro ?_ ?_))
    | c::d::r,htl =>
      have hl:(c::d::r).length = r.length + 2:=rfl
      have e0:((c::d::r).getD 0 0).toNat = c.toNat:=rfl
      have e1:((c::d::r).getD 1 0).toNat = d.toNat:=rfl
      by_cases hc:c = 48
      · have hcn:c.toNat = 48:=by rw [hc]; rfl
        have hB:=bare_long (t:=c::d::r) (by omega) hc
        have hB:bareV (c::d::r) = if d = 120 then numN 16 95 0 r else if d = 111 then numN 8 95 0 r else if d = 98 then numN 2 95 0 r else none:=hB
        by_cases c1:d = 120
        · rw [if_pos c1] at hB
          have hdn:d.toNat = 120:=by rw [c1]; rfl
          (repeat' (first | (refine And.intro (fun h=>?_) (fun h=>?_)<;>(try simp [-List.getD_eq_getElem?_getD,-Int.pred_toNat] at h)<;>(try (exfalso; first | omega | contradiction))) | (refine And.intro (rng64 (by omega) (by omega)) ?_) | (refine And.intro ⟨by omega,by omega⟩ ?_) | (refine And.intro ⟨by omega,by omega,by omega⟩ ?_) | (intro _)))
          refine Exists.intro (16,r) (And.intro ⟨hB,by simp,by simp,by simp only; omega⟩ ?_)
          (repeat' (first | exact trivial | exact Or.inl rfl | exact Or.inl ((congrArg AV.s (drop_tk (c::d::r) (Int.toNat 2)))) | refine And.intro ?_ ?_))
        rw [if_neg c1] at hB
        have hm1:¬ d.toNat = 120:=fun h=>c1 (UInt8.toNat_inj.1 h)
        by_cases c2:d = 111
        · rw [if_pos c2] at hB
          have hdn:d.toNat = 111:=by rw [c2]; rfl
          (repeat' (first | (refine And.intro (fun h=>?_) (fun h=>?_)<;>(try simp [-List.getD_eq_getElem?_getD,-Int.pred_toNat] at h)<;>(try (exfalso; first | omega | contradiction))) | (refine And.intro (rng64 (by omega) (by omega)) ?_) | (refine And.intro ⟨by omega,by omega⟩ ?_) | (refine And.intro ⟨by omega,by omega,by omega⟩ ?_) | (intro _)))
          refine Exists.intro (8,r) (And.intro ⟨hB,by simp,by simp,by simp only; omega⟩ ?_)
          (repeat' (first | exact trivial | exact Or.inl rfl | exact Or.inl ((congrArg AV.s (drop_tk (c::d::r) (Int.toNat 2)))) | refine And.intro ?_ ?_))
        rw [if_neg c2] at hB
        have hm2:¬ d.toNat = 111:=fun h=>c2 (UInt8.toNat_inj.1 h)
        by_cases c3:d = 98
        · rw [if_pos c3] at hB
          have hdn:d.toNat = 98:=by rw [c3]; rfl
          (repeat' (first | (refine And.intro (fun h=>?_) (fun h=>?_)<;>(try simp [-List.getD_eq_getElem?_getD,-Int.pred_toNat] at h)<;>(try (exfalso; first | omega | contradiction))) | (refine And.intro (rng64 (by omega) (by omega)) ?_) | (refine And.intro ⟨by omega,by omega⟩ ?_) | (refine And.intro ⟨by omega,by omega,by omega⟩ ?_) | (intro _)))
          refine Exists.intro (2,r) (And.intro ⟨hB,by simp,by simp,by simp only; omega⟩ ?_)
          (repeat' (first | exact trivial | exact Or.inl rfl | exact Or.inl ((congrArg AV.s (drop_tk (c::d::r) (Int.toNat 2)))) | refine And.intro ?_ ?_))
        rw [if_neg c3] at hB
        have hm3:¬ d.toNat = 98:=fun h=>c3 (UInt8.toNat_inj.1 h)
        (repeat' (first | (refine And.intro (fun h=>?_) (fun h=>?_)<;>(try simp [-List.getD_eq_getElem?_getD,-Int.pred_toNat] at h)<;>(try (exfalso; first | omega | contradiction))) | (refine And.intro (rng64 (by omega) (by omega)) ?_) | (refine And.intro ⟨by omega,by omega⟩ ?_) | (refine And.intro ⟨by omega,by omega,by omega⟩ ?_) | (intro _)))
        rw [hB]
        (repeat' (first | exact trivial | exact Or.inl rfl | exact Or.inr ⟨rfl,_,rfl⟩ | refine And.intro ?_ ?_))
      · have hB:=bare_short (t:=c::d::r) (fun h=>hc h.2)
        have hcn:¬ c.toNat = 48:=fun h=>hc (UInt8.toNat_inj.1 h)
        (repeat' (first | (refine And.intro (fun h=>?_) (fun h=>?_)<;>(try simp [-List.getD_eq_getElem?_getD,-Int.pred_toNat] at h)<;>(try (exfalso; first | omega | contradiction))) | (refine And.intro (rng64 (by omega) (by omega)) ?_) | (refine And.intro ⟨by omega,by omega⟩ ?_) | (refine And.intro ⟨by omega,by omega,by omega⟩ ?_) | (intro _)))
        refine Exists.intro (10,c::d::r) (And.intro ⟨hB,by simp,by simp,htl⟩ ?_)
        (repeat' (first | exact trivial | exact Or.inl rfl | exact Or.inr (Or.inl ⟨rfl,_,rfl⟩) | exact Or.inr (Or.inr (Or.inr ⟨_,_,_,rfl,rfl⟩)) | refine And.intro ?_ ?_))
  rintro ⟨b,u⟩ ⟨hB,hb1,hb2,hul⟩
  simp only at hB hb1 hb2 hul
  rw [hB]
  clear hB
  refine VCs.of_vc (by first | exact Γ_good | exact Ctx.good_kp Γ_good _) ?_
  by_cases hz:u = []
  · subst hz
    rw [show numN b 95 0 [] = none from rfl]
    (repeat' (first | (refine And.intro (fun h=>?_) (fun h=>?_)<;>(try simp [-List.getD_eq_getElem?_getD,-Int.pred_toNat] at h)<;>(try (exfalso; first | omega | contradiction))) | (refine And.intro (rng64 (by omega) (by omega)) ?_) | (refine And.intro ⟨by omega,by omega⟩ ?_) | (refine And.intro ⟨by omega,by omega,by omega⟩ ?_) | (intro _)))
    (repeat' (first | exact trivial | exact Or.inl rfl | exact Or.inr ⟨rfl,_,rfl⟩ | refine And.intro ?_ ?_))
  have hl:0 < u.length:=List.length_pos_iff.2 hz
  have hne:(u == []) = false:=by cases u with
    | nil=>exact absurd rfl hz
    | cons c r=>rfl
  have hp0:0 < u.length:=hl
  by_cases h0:u.getD 0 0 = 95
  · have hN : numN b 95 0 u = none := by
      cases u with
      | nil=>rfl
      | cons c r =>
        have h0:c = 95:=h0
        rw [numN,if_pos h0,if_pos rfl]
    rw [hN]
    have hn0:(u.getD 0 0).toNat = 95:=by rw [h0]; rfl
    (repeat' (first | (refine And.intro (fun h=>?_) (fun h=>?_)<;>(try simp [-List.getD_eq_getElem?_getD,-Int.pred_toNat] at h)<;>(try (exfalso; first | omega | contradiction))) | (refine And.intro (rng64 (by omega) (by omega)) ?_) | (refine And.intro ⟨by omega,by omega⟩ ?_) | (refine And.intro ⟨by omega,by omega,by omega⟩ ?_) | (intro _)))
    (repeat' (first | exact trivial | exact Or.inl rfl | exact Or.inr ⟨rfl,_,rfl⟩ | refine And.intro ?_ ?_))
  have hn0:¬ (u.getD 0 0).toNat = 95:=fun h=>h0 (UInt8.toNat_inj.1 h)
  have hlast:u.getLast? = some (u.getD (u.length - 1) 0):=by
    rw [List.getLast?_eq_getElem?,List.getD_eq_getElem?_getD,List.getElem?_eq_getElem (by omega)]
    rfl
  have hix:Int.toNat ((u.length:Int) - 1) = u.length - 1:=by omega
  by_cases h9:u.getD (u.length - 1) 0 = 95
  · have hN:numN b 95 0 u = none:=numN_end u 95 0 hz (by rw [hlast,h9])
    rw [hN]
    have hn9:(u.getD (Int.toNat ((u.length:Int) - 1)) 0).toNat = 95:=by rw [hix,h9]; rfl
    (repeat' (first | (refine And.intro (fun h=>?_) (fun h=>?_)<;>(try simp [-List.getD_eq_getElem?_getD,-Int.pred_toNat] at h)<;>(try (exfalso; first | omega | contradiction))) | (refine And.intro (rng64 (by omega) (by omega)) ?_) | (refine And.intro ⟨by omega,by omega⟩ ?_) | (refine And.intro ⟨by omega,by omega,by omega⟩ ?_) | (intro _)))
    (repeat' (first | exact trivial | exact Or.inl rfl | exact Or.inr ⟨rfl,_,rfl⟩ | refine And.intro ?_ ?_))
  have hn9:¬ (u.getD (Int.toNat ((u.length:Int) - 1)) 0).toNat = 95:=fun h=>h9 (by rw [hix] at h; exact UInt8.toNat_inj.1 h)
  (repeat' (first | (refine And.intro (fun h=>?_) (fun h=>?_)<;>(try simp [-List.getD_eq_getElem?_getD,-Int.pred_toNat] at h)<;>(try (exfalso; first | omega | contradiction))) | (refine And.intro (rng64 (by omega) (by omega)) ?_) | (refine And.intro ⟨by omega,by omega⟩ ?_) | (refine And.intro ⟨by omega,by omega,by omega⟩ ?_) | (intro _)))
  refine Exists.intro [] (Exists.intro [] (Exists.intro [] (Exists.intro (Nat × Nat) (Exists.intro (fun q=>q.1≤u.length∧numN b (lastC u q.1) q.2 (u.drop q.1) = numN b 95 0 u∧q.2 < b ^ q.1) (Exists.intro (fun ⟨i,n⟩=>⟨[(0,.s u),(2,.b m),(3,.rd .int (dg 10000 n)),(4,.b false),(5,.i .i64 (b:Int)),(6,.i .i64 (i:Int))],[]⟩) (Exists.intro (fun q=>u.length - q.1) (Exists.intro (0,0) (And.intro ⟨Nat.zero_le _,rfl,by simp⟩ (And.intro ?_ ?_)))))))))
  · (repeat' (first | exact trivial | exact Or.inl rfl | exact Or.inr (Or.inl ⟨rfl,_,rfl⟩) | exact Or.inr (Or.inr (Or.inr ⟨_,_,_,rfl,rfl⟩)) | refine And.intro ?_ ?_))
  · rintro ⟨i,n⟩ ⟨hi,hI,hn⟩
    simp only at hi hI hn
    intro _
    refine And.intro (fun hc=>?_) (fun hc=>?_)
    · have hi : i < u.length := by have : (i : Int) < (u.length : Int) := of_decide_eq_true hc
                                   omega
      have hdr:u.drop i = u.getD i 0::u.drop (i + 1):=by
        rw [List.drop_eq_getElem_cons hi,List.getD_eq_getElem?_getD,List.getElem?_eq_getElem hi]; rfl
      rw [hdr,numN] at hI
      have hgi:u.getD (Int.toNat (i:Int)) 0 = u.getD i 0:=by rw [Int.toNat_natCast]
      have hlc:lastC u (i + 1) = u.getD i 0:=rfl
      by_cases hu:u.getD i 0 = 95
      · rw [if_pos hu] at hI
        have hi0:0 < i:=by
          rcases Nat.eq_zero_or_pos i with e | e
          · rw [e] at hu; exact absurd hu h0
          · exact e
        have hlast2:lastC u i = u.getD (i - 1) 0:=by unfold lastC; rw [if_neg (by omega)]
        have hgi1:u.getD (Int.toNat ((i:Int) - 1)) 0 = u.getD (i - 1) 0:=by rw [show Int.toNat ((i:Int) - 1) = i - 1 by omega]
        have hun:(u.getD i 0).toNat = 95:=by rw [hu]; rfl
        by_cases hd:u.getD (i - 1) 0 = 95
        · rw [hlast2,if_pos hd] at hI
          rw [← hI]
          have hdn:(u.getD (Int.toNat ((i:Int) - 1)) 0).toNat = 95:=by rw [hgi1,hd]; rfl
          (repeat' (first | (refine And.intro (fun h=>?_) (fun h=>?_)<;>(try simp [-List.getD_eq_getElem?_getD,-Int.pred_toNat] at h)<;>(try (exfalso; first | omega | contradiction))) | (refine And.intro (rng64 (by omega) (by omega)) ?_) | (refine And.intro ⟨by omega,by omega⟩ ?_) | (refine And.intro ⟨by omega,by omega,by omega⟩ ?_) | (intro _)))
          (repeat' (first | exact trivial | exact Or.inl rfl | exact Or.inr ⟨rfl,_,rfl⟩ | refine And.intro ?_ ?_))
        · rw [hlast2,if_neg hd] at hI
          have hdn:¬ (u.getD (Int.toNat ((i:Int) - 1)) 0).toNat = 95:=fun h=>hd (by rw [hgi1] at h; exact UInt8.toNat_inj.1 h)
          (repeat' (first | (refine And.intro (fun h=>?_) (fun h=>?_)<;>(try simp [-List.getD_eq_getElem?_getD,-Int.pred_toNat] at h)<;>(try (exfalso; first | omega | contradiction))) | (refine And.intro (rng64 (by omega) (by omega)) ?_) | (refine And.intro ⟨by omega,by omega⟩ ?_) | (refine And.intro ⟨by omega,by omega,by omega⟩ ?_) | (intro _)))
          refine Exists.intro [] (Exists.intro (i + 1,n) (And.intro ⟨hi,by simp only; rw [hlc,hu]; exact hI,Nat.lt_of_lt_of_le hn (Nat.pow_le_pow_right (by omega) (by simp))⟩ (And.intro ?_ ?_)))
          · (repeat' (first | exact trivial | exact Or.inl rfl | exact Or.inr (Or.inl ⟨rfl,_,rfl⟩) | exact Or.inr (Or.inr (Or.inr ⟨_,_,_,rfl,rfl⟩)) | refine And.intro ?_ ?_))
          · (exact Nat.sub_lt_sub_left (by omega) (by omega))
      · rw [if_neg hu] at hI
        have hun:¬ (u.getD i 0).toNat = 95:=fun h=>hu (UInt8.toNat_inj.1 h)
        have hx:=s_hexOf (u.getD i 0)
        have hd100:=dgt_lt (u.getD i 0)
        generalize dgt (u.getD i 0) = d at hI hx hd100
        (repeat' (first | (refine And.intro (fun h=>?_) (fun h=>?_)<;>(try simp [-List.getD_eq_getElem?_getD,-Int.pred_toNat] at h)<;>(try (exfalso; first | omega | contradiction))) | (refine And.intro (rng64 (by omega) (by omega)) ?_) | (refine And.intro ⟨by omega,by omega⟩ ?_) | (refine And.intro ⟨by omega,by omega,by omega⟩ ?_) | (intro _)))
        refine Or.inl (Exists.intro _ (And.intro (hx) ?_))
        by_cases hd:b≤d
        · rw [if_pos hd] at hI
          rw [← hI]
          (repeat' (first | (refine And.intro (fun h=>?_) (fun h=>?_)<;>(try simp [-List.getD_eq_getElem?_getD,-Int.pred_toNat] at h)<;>(try (exfalso; first | omega | contradiction))) | (refine And.intro (rng64 (by omega) (by omega)) ?_) | (refine And.intro ⟨by omega,by omega⟩ ?_) | (refine And.intro ⟨by omega,by omega,by omega⟩ ?_) | (intro _)))
          (repeat' (first | exact trivial | exact Or.inl rfl | exact Or.inr ⟨rfl,_,rfl⟩ | refine And.intro ?_ ?_))
        · rw [if_neg hd] at hI
          have hwb:IntKind.u64.wrap (b:Int) = (b:Int):=by rw [IntKind.wrap_u64]; omega
          have hwd:IntKind.u64.wrap (d:Int) = (d:Int):=by rw [IntKind.wrap_u64]; omega
          have hn2:n * b + d < b ^ (i + 1):=by
            have:(n + 1) * b≤b ^ i * b:=Nat.mul_le_mul_right b hn
            rw [Nat.add_mul] at this
            rw [Nat.pow_succ]
            omega
          have hbig:b ^ (i + 1)≤16 ^ 80:=Nat.le_trans (Nat.pow_le_pow_left hb2 _) (Nat.pow_le_pow_right (by decide) (by omega))
          have hl1:(dg 10000 n).length≤100:=dg_len_le (by decide) 100 n (Nat.lt_of_lt_of_le (show n < 16 ^ 80 by have:n≤n * b:=Nat.le_mul_of_pos_right n (by omega); omega) (by decide))
          have hl2:(dg 10000 b).length≤100:=dg_len_le (by decide) 100 b (Nat.lt_of_lt_of_le (show b < 16 ^ 80 from Nat.lt_of_le_of_lt hb2 (by decide)) (by decide))
          have hl3:(dg 10000 (n * b)).length≤100:=dg_len_le (by decide) 100 _ (Nat.lt_of_lt_of_le (show n * b < 16 ^ 80 by omega) (by decide))
          have hl4:(dg 10000 d).length≤100:=dg_len_le (by decide) 100 d (Nat.lt_of_lt_of_le (show d < 16 ^ 80 from Nat.lt_trans hd100 (by decide)) (by decide))
          have hS:PSpec Tryd.prog 167 [.i .u64 (IntKind.u64.wrap (b:Int))] (.rd .int (dg 10000 b)):=by rw [hwb]; exact s_small b (by omega)
          have hBy:=s_By (dg 10000 n) (dg 10000 b) (dg_Dg (by decide) _) (dg_Dg (by decide) _) (by omega) (by omega)
          rw [vl_dg (by decide),vl_dg (by decide)] at hBy
          have hS2:PSpec Tryd.prog 167 [.i .u64 (IntKind.u64.wrap (d:Int))] (.rd .int (dg 10000 d)):=by rw [hwd]; exact s_small d (by omega)
          have hPl:=s_plus (dg 10000 (n * b)) (dg 10000 d) (dg_Dg (by decide) _) (dg_Dg (by decide) _) (by omega) (by omega)
          rw [vl_dg (by decide),vl_dg (by decide)] at hPl
          (repeat' (first | (refine And.intro (fun h=>?_) (fun h=>?_)<;>(try simp [-List.getD_eq_getElem?_getD,-Int.pred_toNat] at h)<;>(try (exfalso; first | omega | contradiction))) | (refine And.intro (rng64 (by omega) (by omega)) ?_) | (refine And.intro ⟨by omega,by omega⟩ ?_) | (refine And.intro ⟨by omega,by omega,by omega⟩ ?_) | (intro _)))
          refine Or.inl (Exists.intro _ (And.intro (hS) ?_))
          refine Or.inl (Exists.intro _ (And.intro (hBy) ?_))
          refine Or.inl (Exists.intro _ (And.intro (hS2) ?_))
          refine Or.inl (Exists.intro _ (And.intro (hPl) ?_))
          (repeat' (first | (refine And.intro (fun h=>?_) (fun h=>?_)<;>(try simp [-List.getD_eq_getElem?_getD,-Int.pred_toNat] at h)<;>(try (exfalso; first | omega | contradiction))) | (refine And.intro (rng64 (by omega) (by omega)) ?_) | (refine And.intro ⟨by omega,by omega⟩ ?_) | (refine And.intro ⟨by omega,by omega,by omega⟩ ?_) | (intro _)))
          refine Exists.intro [] (Exists.intro (i + 1,n * b + d) (And.intro ⟨hi,by simp only; rw [hlc]; exact hI,hn2⟩ (And.intro ?_ ?_)))
          · (repeat' (first | exact trivial | exact Or.inl rfl | exact Or.inr (Or.inl ⟨rfl,_,rfl⟩) | exact Or.inr (Or.inr (Or.inr ⟨_,_,_,rfl,rfl⟩)) | refine And.intro ?_ ?_))
          · (exact Nat.sub_lt_sub_left (by omega) (by omega))
    · have hi : i = u.length := by have : ¬ (i : Int) < (u.length : Int) := of_decide_eq_false hc
                                   omega
      subst hi
      rw [List.drop_length,numN,if_neg (by unfold lastC; rw [if_neg (by omega)]; exact h9)] at hI
      rw [← hI]
      (repeat' (first | (refine And.intro (fun h=>?_) (fun h=>?_)<;>(try simp [-List.getD_eq_getElem?_getD,-Int.pred_toNat] at h)<;>(try (exfalso; first | omega | contradiction))) | (refine And.intro (rng64 (by omega) (by omega)) ?_) | (refine And.intro ⟨by omega,by omega⟩ ?_) | (refine And.intro ⟨by omega,by omega,by omega⟩ ?_) | (intro _)))
      (repeat' (first | exact trivial | exact Or.inl rfl | exact Or.inr ⟨rfl,_,rfl⟩ | refine And.intro ?_ ?_))
theorem s_numeral (s:Str) (hs:s.length≤80):PSpec Tryd.prog 128 [.s s] (.tup [.b (minusS s),.rd .int (match bareV (restS s) with | none=>[] | some n=>dg 10000 n),.b (bareV (restS s)).isSome]) :=
  pspec_of_VCsL Γ_good Tryd.func128 rfl Tryd.call128 Tryd.results128 Tryd.ntmps128 (Nat.le_of_ble_eq_true rfl) (w_numeral s hs) Γ_good
end
end Go.Proofs.YtmfchbkdakmjhaaDoor
end
section
namespace Go.Proofs.YtmfchbkdakmjhaaDoor
set_option linter.unusedSectionVars false
set_option linter.unusedSimpArgs false
set_option linter.unusedVariables false
open Go Go.SX Go.Bg Go.Nm
set_option maxRecDepth 100000
set_option maxHeartbeats 1000000
theorem front_base (t:Str):2≤(frontB t).1∧(frontB t).1≤16∧(frontB t).2.length≤t.length:=by
  match t with
  | []=>exact ⟨by decide,by decide,Nat.le_refl _⟩
  | [c]=>exact ⟨by simp [frontB],by simp [frontB],by simp [frontB]⟩
  | c::d::r =>
    have e0:frontB (c::d::r) = if c = 48∧d = 120 then (16,r) else if c = 48∧d = 111 then (8,r) else if c = 48∧d = 98 then (2,r) else (10,c::d::r):=rfl
    rw [e0]
    have hr:r.length≤(c::d::r).length:=by simp; omega
    by_cases h1:c = 48∧d = 120
    · rw [if_pos h1]; exact ⟨by simp,by simp,hr⟩
    rw [if_neg h1]
    by_cases h2:c = 48∧d = 111
    · rw [if_pos h2]; exact ⟨by simp,by simp,hr⟩
    rw [if_neg h2]
    by_cases h3:c = 48∧d = 98
    · rw [if_pos h3]; exact ⟨by simp,by simp,hr⟩
    rw [if_neg h3]; exact ⟨by simp,by simp,Nat.le_refl _⟩
theorem rest_len (s:Str):(restS s).length≤s.length:=by
  unfold restS
  split
  · rw [List.length_drop]; omega
  · exact Nat.le_refl _
theorem bare_bound {s:Str} {n:Nat} (hs:s.length≤80) (h:bareV s = some n):n < 16 ^ 80:=by
  unfold bareV at h
  split at h
  · cases h
  · obtain ⟨h1,h2,h3⟩:=front_base s
    have:=numN_bound (by omega) _ _ _ _ h
    refine Nat.lt_of_lt_of_le this ?_
    rw [Nat.zero_add,Nat.one_mul]
    exact Nat.le_trans (Nat.pow_le_pow_left h2 _) (Nat.pow_le_pow_right (by decide) (by omega))
theorem dg_len_big {n:Nat} (h:n < 16 ^ 80):(dg 10000 n).length≤100:=dg_len_le (by decide) 100 n (Nat.lt_of_lt_of_le h (by decide))
theorem readV_long {s:Str} (h:80 < s.length):readV s = (0,2):=by unfold readV; rw [if_pos h]
theorem readV_none {s:Str} (h:¬ 80 < s.length) (hb:bareV (restS s) = none):readV s = (0,4):=by unfold readV; rw [if_neg h,hb]
theorem readV_some {s:Str} {n:Nat} (h:¬ 80 < s.length) (hb:bareV (restS s) = some n):readV s = if limN (minusS s) < n then (0,7) else (if minusS s = true then -(n:Int) else n,0):=by unfold readV; rw [if_neg h,hb]
theorem vl_drop_le (l:List Int) (k:Nat) (hk:k≤l.length):vl 10000 (l.drop k)≤vl 10000 l:=by
  rw [vl_split 10000 l k hk]
  have:=Nat.le_mul_of_pos_left (vl 10000 (l.drop k)) (Nat.pow_pos (n:=k) (show 0 < 10000 by decide))
  omega
section
variable [G:Globs]
theorem w_readNum (s:Str):vc Tryd.prog Γ 55 [0,2,3,4,5,6,7,8,9,10,13,21,35,40,51] (Tryd.f90.body.getD .skip) (postK Γ [.tmp 2,.tmp 3] (fun v=>v = .tup [.i .i64 (readV s).1,.i .i64 (readV s).2])) ⟨argSlots 0 [.s s],[]⟩:=by
  intro _
  refine And.intro (fun h=>?_) (fun h=>?_)
  · have h:80 < s.length:=by have:(s.length:Int) > 80:=of_decide_eq_true h; omega
    rw [readV_long h]
    rfl
  have h:¬ 80 < s.length:=by have:¬ (s.length:Int) > 80:=of_decide_eq_false h; omega
  have hN:=s_numeral s (by omega)
  cases hb:bareV (restS s) with
  | none =>
    rw [hb] at hN
    rw [readV_none h hb]
    have hN:PSpec Tryd.prog 128 [.s s] (.tup [.b (minusS s),.rd .int [],.b false]):=hN
    refine Or.inl (Exists.intro _ (And.intro (hN) ?_))
    (repeat' (first | (refine And.intro (fun h=>?_) (fun h=>?_)<;>(try simp [-List.getD_eq_getElem?_getD,-Int.pred_toNat] at h)<;>(try (exfalso; first | omega | contradiction))) | (refine And.intro (rng64 (by omega) (by omega)) ?_) | (refine And.intro ⟨by omega,by omega⟩ ?_) | (refine And.intro ⟨by omega,by omega,by omega⟩ ?_) | (intro _)))
    rfl
  | some n =>
    rw [hb] at hN
    rw [readV_some h hb]
    have hN:PSpec Tryd.prog 128 [.s s] (.tup [.b (minusS s),.rd .int (dg 10000 n),.b true]):=hN
    have hn:=bare_bound (by have:=rest_len s; omega) hb
    have hl:=dg_len_big hn
    generalize minusS s = m at hN
    refine Or.inl (Exists.intro _ (And.intro (hN) ?_))
    refine And.intro (fun h9=>by cases h9) (fun _=>?_)
    have hP:PSpec Tryd.prog 129 [.i .u64 2,.i .i64 63] (.rd .int (dg 10000 (2 ^ 63))):=s_power 2 63 (by decide) (by decide) (fun k hk=>Nat.le_trans (dg_len_le (B:=10000) (by decide) 16 _ (Nat.lt_of_le_of_lt (Nat.pow_le_pow_right (by decide) hk) (show 2 ^ 63 < 10000 ^ 16 by decide))) (by decide))
    refine Or.inl (Exists.intro _ (And.intro (hP) ?_))
    have hlp:=dg_len_le (B:=10000) (by decide) 16 (2 ^ 63) (by decide)
    have hA:=s_against (dg 10000 n) (dg 10000 (2 ^ 63)) (dg_Dg (by decide) _) (dg_Dg (by decide) _) (by omega) (by omega)
    rw [vl_dg (by decide),vl_dg (by decide)] at hA
    obtain ⟨c,hc⟩:∃ c,c = cmpN n (2 ^ 63):=⟨_,rfl⟩
    rw [← hc] at hA
    unfold cmpN at hc
    refine Or.inl (Exists.intro _ (And.intro (hA) ?_))
    have hll:=vl_dg (B:=10000) (by decide) n
    have hDg:=dg_Dg (B:=10000) (by decide) n
    generalize dg 10000 n = l at hl hll hDg
    by_cases hA:2 ^ 63 < n
    · have hc:c = 1:=by rw [hc,if_neg (by omega),if_pos hA]
      rw [if_pos (by unfold limN; split<;>omega)]
      (repeat' (first | (refine And.intro (fun h=>?_) (fun h=>?_)<;>(try simp [-List.getD_eq_getElem?_getD,-Int.pred_toNat] at h)<;>(try (exfalso; first | omega | contradiction))) | (refine And.intro (rng64 (by omega) (by omega)) ?_) | (refine And.intro ⟨by omega,by omega⟩ ?_) | (refine And.intro ⟨by omega,by omega,by omega⟩ ?_) | (intro _)))
      rfl
    by_cases hB:n = 2 ^ 63∧m = false
    · have hc:c = 0:=by rw [hc,if_neg (by omega),if_neg (by omega)]
      obtain ⟨hB,rfl⟩:=hB
      rw [if_pos (by unfold limN; rw [if_neg (by decide)]; omega)]
      (repeat' (first | (refine And.intro (fun h=>?_) (fun h=>?_)<;>(try simp [-List.getD_eq_getElem?_getD,-Int.pred_toNat] at h)<;>(try (exfalso; first | omega | contradiction))) | (refine And.intro (rng64 (by omega) (by omega)) ?_) | (refine And.intro ⟨by omega,by omega⟩ ?_) | (refine And.intro ⟨by omega,by omega,by omega⟩ ?_) | (intro _)))
      rfl
    have hlim:¬ limN m < n:=by
      unfold limN
      cases m with
      | true=>simp only [if_true]; omega
      | false =>
        have h2:¬ n = 2 ^ 63:=fun h=>hB ⟨h,rfl⟩
        simp only [Bool.false_eq_true,if_false]
        omega
    rw [if_neg hlim]
    have hgo:¬ 0 < c∧(c = 0→m = true):=by
      by_cases hlt:n < 2 ^ 63
      · rw [if_pos hlt] at hc; exact ⟨by omega,by omega⟩
      · have:n = 2 ^ 63:=by omega
        rw [if_neg hlt,if_neg hA] at hc
        refine ⟨by omega,fun _=>?_⟩
        cases m with
        | true=>rfl
        | false=>exact absurd ⟨this,rfl⟩ hB
    have hn63:n≤9223372036854775808:=by omega
    have hm63:m = false→n < 9223372036854775808:=fun h=>by
      unfold limN at hlim
      rw [h,if_neg (by decide)] at hlim
      omega
    clear hN hP hc hB hA hlim hb hn
    rcases Int.lt_trichotomy c 0 with hc | hc | hc
    · (repeat' (first | (refine And.intro (fun h=>?_) (fun h=>?_)<;>(try simp [-List.getD_eq_getElem?_getD,-Int.pred_toNat] at h)<;>(try (exfalso; first | omega | contradiction))) | (refine And.intro (rng64 (by omega) (by omega)) ?_) | (refine And.intro ⟨by omega,by omega⟩ ?_) | (refine And.intro ⟨by omega,by omega,by omega⟩ ?_) | (intro _)))
      refine Exists.intro [] (Exists.intro [] (Exists.intro [] (Exists.intro Nat (Exists.intro (fun k=>k≤l.length) (Exists.intro (fun k=>⟨[(4,.b m),(5,.rd .int l),(9,.i .i64 (-(vl 10000 (l.drop k):Int))),(10,.i .i64 ((k:Int) - 1))],[]⟩) (Exists.intro (fun k=>k) (Exists.intro l.length (And.intro (Nat.le_refl _) (And.intro ?_ ?_)))))))))
      · (repeat' (first | exact trivial | exact Or.inl rfl | exact Or.inl ((congrArg (AV.i .i64) (show (0:Int) = -((vl 10000 (l.drop l.length):Nat):Int) by rw [List.drop_length]; rfl))) | refine And.intro ?_ ?_))
      · rintro k hk
        refine And.intro (fun hc=>?_) (fun hc=>?_)
        · have hk0 : 0 < k := by have : (k : Int) - 1 ≥ 0 := of_decide_eq_true hc
                                 omega
          obtain ⟨j,rfl⟩:∃ j,k = j + 1:=⟨k - 1,by omega⟩
          have hv:=vl_drop 10000 l j
          have hle:=vl_drop_le l j (by omega)
          have hg:=hDg.getD (by decide) j
          have hij:Int.toNat (((j + 1:Nat):Int) - 1) = j:=by omega
          generalize vl 10000 (l.drop (j + 1)) = V at hv
          have hV:((vl 10000 (l.drop j):Nat):Int) = l.getD j 0 + 10000 * (V:Int):=by omega
          have hgl:l.getD (Int.toNat (((j + 1:Nat):Int) - 1)) (dflt .int) = l.getD j 0:=by rw [hij]
          (repeat' (first | (refine And.intro (fun h=>?_) (fun h=>?_)<;>(try simp [-List.getD_eq_getElem?_getD,-Int.pred_toNat] at h)<;>(try (exfalso; first | omega | contradiction))) | (refine And.intro (rng64 (by omega) (by omega)) ?_) | (refine And.intro ⟨by omega,by omega⟩ ?_) | (refine And.intro ⟨by omega,by omega,by omega⟩ ?_) | (intro _)))
          rw [hgl]
          refine Exists.intro [] (Exists.intro j (And.intro (by omega) (And.intro ?_ ?_)))
          · (repeat' (first | exact trivial | exact Or.inl rfl | exact Or.inl ((congrArg (AV.i .i64) (show -(V:Int) * 10000 - l.getD j 0 = -((vl 10000 (l.drop j):Nat):Int) by omega))) | exact Or.inl ((congrArg (AV.i .i64) (show ((j + 1:Nat):Int) - 1 - 1 = (j:Int) - 1 by omega))) | refine And.intro ?_ ?_))
          · exact Nat.lt_succ_self j
        · have hk0 : k = 0 := by have : ¬ (k : Int) - 1 ≥ 0 := of_decide_eq_false hc
                                 omega
          subst hk0
          have hv0:vl 10000 (l.drop 0) = n:=hll
          rw [hv0]
          cases m with
          | true =>
            (repeat' (first | (refine And.intro (fun h=>?_) (fun h=>?_)<;>(try simp [-List.getD_eq_getElem?_getD,-Int.pred_toNat] at h)<;>(try (exfalso; first | omega | contradiction))) | (refine And.intro (rng64 (by omega) (by omega)) ?_) | (refine And.intro ⟨by omega,by omega⟩ ?_) | (refine And.intro ⟨by omega,by omega,by omega⟩ ?_) | (intro _)))
            rfl
          | false =>
            have h63:=hm63 rfl
            (repeat' (first | (refine And.intro (fun h=>?_) (fun h=>?_)<;>(try simp [-List.getD_eq_getElem?_getD,-Int.pred_toNat] at h)<;>(try (exfalso; first | omega | contradiction))) | (refine And.intro (rng64 (by omega) (by omega)) ?_) | (refine And.intro ⟨by omega,by omega⟩ ?_) | (refine And.intro ⟨by omega,by omega,by omega⟩ ?_) | (intro _)))
            refine Or.inl (And.intro (rng64 (by omega) (by omega)) ?_)
            show AV.tup [.i .i64 (0 - -(n:Int)),.i .i64 0] = AV.tup [.i .i64 (n:Int),.i .i64 0]
            rw [show (0:Int) - -(n:Int) = n by omega]
    · have hm:=hgo.2 hc
      subst hm
      (repeat' (first | (refine And.intro (fun h=>?_) (fun h=>?_)<;>(try simp [-List.getD_eq_getElem?_getD,-Int.pred_toNat] at h)<;>(try (exfalso; first | omega | contradiction))) | (refine And.intro (rng64 (by omega) (by omega)) ?_) | (refine And.intro ⟨by omega,by omega⟩ ?_) | (refine And.intro ⟨by omega,by omega,by omega⟩ ?_) | (intro _)))
      refine Exists.intro [] (Exists.intro [] (Exists.intro [] (Exists.intro Nat (Exists.intro (fun k=>k≤l.length) (Exists.intro (fun k=>⟨[(4,.b true),(5,.rd .int l),(9,.i .i64 (-(vl 10000 (l.drop k):Int))),(10,.i .i64 ((k:Int) - 1))],[]⟩) (Exists.intro (fun k=>k) (Exists.intro l.length (And.intro (Nat.le_refl _) (And.intro ?_ ?_)))))))))
      · (repeat' (first | exact trivial | exact Or.inl rfl | exact Or.inl ((congrArg (AV.i .i64) (show (0:Int) = -((vl 10000 (l.drop l.length):Nat):Int) by rw [List.drop_length]; rfl))) | refine And.intro ?_ ?_))
      · rintro k hk
        refine And.intro (fun hc=>?_) (fun hc=>?_)
        · have hk0 : 0 < k := by have : (k : Int) - 1 ≥ 0 := of_decide_eq_true hc
                                 omega
          obtain ⟨j,rfl⟩:∃ j,k = j + 1:=⟨k - 1,by omega⟩
          have hv:=vl_drop 10000 l j
          have hle:=vl_drop_le l j (by omega)
          have hg:=hDg.getD (by decide) j
          have hij:Int.toNat (((j + 1:Nat):Int) - 1) = j:=by omega
          generalize vl 10000 (l.drop (j + 1)) = V at hv
          have hV:((vl 10000 (l.drop j):Nat):Int) = l.getD j 0 + 10000 * (V:Int):=by omega
          have hgl:l.getD (Int.toNat (((j + 1:Nat):Int) - 1)) (dflt .int) = l.getD j 0:=by rw [hij]
          (repeat' (first | (refine And.intro (fun h=>?_) (fun h=>?_)<;>(try simp [-List.getD_eq_getElem?_getD,-Int.pred_toNat] at h)<;>(try (exfalso; first | omega | contradiction))) | (refine And.intro (rng64 (by omega) (by omega)) ?_) | (refine And.intro ⟨by omega,by omega⟩ ?_) | (refine And.intro ⟨by omega,by omega,by omega⟩ ?_) | (intro _)))
          rw [hgl]
          refine Exists.intro [] (Exists.intro j (And.intro (by omega) (And.intro ?_ ?_)))
          · (repeat' (first | exact trivial | exact Or.inl rfl | exact Or.inl ((congrArg (AV.i .i64) (show -(V:Int) * 10000 - l.getD j 0 = -((vl 10000 (l.drop j):Nat):Int) by omega))) | exact Or.inl ((congrArg (AV.i .i64) (show ((j + 1:Nat):Int) - 1 - 1 = (j:Int) - 1 by omega))) | refine And.intro ?_ ?_))
          · exact Nat.lt_succ_self j
        · have hk0 : k = 0 := by have : ¬ (k : Int) - 1 ≥ 0 := of_decide_eq_false hc
                                 omega
          subst hk0
          have hv0:vl 10000 (l.drop 0) = n:=hll
          rw [hv0]
          (repeat' (first | (refine And.intro (fun h=>?_) (fun h=>?_)<;>(try simp [-List.getD_eq_getElem?_getD,-Int.pred_toNat] at h)<;>(try (exfalso; first | omega | contradiction))) | (refine And.intro (rng64 (by omega) (by omega)) ?_) | (refine And.intro ⟨by omega,by omega⟩ ?_) | (refine And.intro ⟨by omega,by omega,by omega⟩ ?_) | (intro _)))
          rfl
    · exact absurd hc hgo.1
theorem s_readNum (s:Str):PSpec Tryd.prog 90 [.s s] (.tup [.i .i64 (readV s).1,.i .i64 (readV s).2]) :=
  pspec_of_vc Γ_good Tryd.func90 rfl Tryd.call90 Tryd.results90 Tryd.ntmps90 (Nat.le_of_ble_eq_true rfl) (w_readNum s)
end
end Go.Proofs.YtmfchbkdakmjhaaDoor
end
section
namespace Go.Proofs.YtmfchbkdakmjhaaDoor
set_option linter.unusedSectionVars false
set_option linter.unusedSimpArgs false
set_option linter.unusedVariables false
open Go Go.SX Go.Bg Go.Nm
set_option maxRecDepth 100000
set_option maxHeartbeats 1000000
theorem pre_minus (s:Str):isPre [45] s = minusS s:=by
  unfold isPre minusS
  match s with
  | []=>rfl
  | c::r =>
    show decide (1≤(c::r).length∧[c] = [45]) = decide (c = 45)
    simp
theorem cut_minus (s:Str):cutP [45] s = restS s:=by
  unfold cutP restS
  rw [pre_minus]
  rfl
theorem pre_two (a b:UInt8) (s:Str):isPre [a,b] s = decide (1 < s.length∧s.getD 0 0 = a∧s.getD 1 0 = b):=by
  unfold isPre
  match s with
  | []=>rfl
  | [c]=>rfl
  | c::d::r =>
    show decide (2≤(c::d::r).length∧[c,d] = [a,b]) = decide (1 < (c::d::r).length∧c = a∧d = b)
    simp
theorem or_pos {a b : Int} (ha : 0 ≤ a ∧ a ≤ 18446744073709551615) (hb : 0 ≤ b ∧ b ≤ 18446744073709551615) :
    0≤bits .or .u64 a b∧bits .or .u64 a b≤18446744073709551615∧(0 < bits .or .u64 a b↔0 < a∨0 < b):=by
  obtain ⟨x,rfl⟩:=Int.eq_ofNat_of_zero_le ha.1
  obtain ⟨y,rfl⟩:=Int.eq_ofNat_of_zero_le hb.1
  have hx:x < 2 ^ 64:=by omega
  have hy:y < 2 ^ 64:=by omega
  have h1:(BitVec.ofInt 64 (x:Int)).toNat = x:=by
    rw [BitVec.ofInt_natCast,BitVec.toNat_ofNat]; exact Nat.mod_eq_of_lt hx
  have h2:(BitVec.ofInt 64 (y:Int)).toNat = y:=by
    rw [BitVec.ofInt_natCast,BitVec.toNat_ofNat]; exact Nat.mod_eq_of_lt hy
  have ho:x ||| y < 2 ^ 64:=Nat.or_lt_two_pow hx hy
  have e:bits .or .u64 (x:Int) (y:Int) = ((x ||| y:Nat):Int):=by
    show IntKind.u64.wrap ((BitVec.ofInt 64 (x:Int) ||| BitVec.ofInt 64 (y:Int)).toNat:Int) = _
    rw [BitVec.toNat_or,h1,h2,IntKind.wrap_u64]
    omega
  rw [e]
  have h0:(x ||| y) = 0↔x = 0∧y = 0:=Nat.or_eq_zero_iff
  omega
theorem front_eq (s:Str):frontB s = if isPre [48,120] s = true then (16,s.drop 2) else if isPre [48,111] s = true then (8,s.drop 2) else if isPre [48,98] s = true then (2,s.drop 2) else (10,s):=by
  rw [pre_two,pre_two,pre_two]
  match s with
  | []=>rfl
  | [c]=>rfl
  | c::d::r =>
    have e0:frontB (c::d::r) = if c = 48∧d = 120 then (16,r) else if c = 48∧d = 111 then (8,r) else if c = 48∧d = 98 then (2,r) else (10,c::d::r):=rfl
    have hp:∀ x:UInt8,(decide (1 < (c::d::r).length∧(c::d::r).getD 0 0 = 48∧(c::d::r).getD 1 0 = x) = true) = (c = 48∧d = x):=fun x=>by
      rw [decide_eq_true_eq]
      exact propext ⟨fun h=>h.2,fun h=>⟨by simp,h⟩⟩
    rw [e0]
    simp only [hp]
    rfl
theorem neg_wrap {N:Nat} (h:N≤9223372036854775808):IntKind.i64.wrap (0 - IntKind.i64.wrap (N:Int)) = -(N:Int):=by
  by_cases hN:N = 9223372036854775808
  · subst hN
    rw [IntKind.wrap_i64,IntKind.wrap_i64]
    decide
  · have h1:IntKind.i64.wrap (N:Int) = N:=by rw [IntKind.wrap_i64]; omega
    rw [h1,IntKind.wrap_i64]
    omega
section
variable [G:Globs]
def fronts:List (Str × Int):=[([48,120],16),([48,111],8),([48,98],2)]
theorem w_base (s:Str):vc Tryd.prog Γ 30 [0,2,3,5,6,7,11,12,13,14,24] (Tryd.f162.body.getD .skip) (postK Γ [.tmp 2,.tmp 3] (fun v=>v = .tup [.i .u64 ((frontB s).1:Int),.s (frontB s).2])) ⟨argSlots 0 [.s s],[]⟩:=by
  rw [front_eq]
  (repeat' (first | (refine And.intro (fun h=>?_) (fun h=>?_)<;>(try simp [-List.getD_eq_getElem?_getD,-Int.pred_toNat] at h)<;>(try (exfalso; first | omega | contradiction))) | (refine And.intro (rng64 (by omega) (by omega)) ?_) | (refine And.intro ⟨by omega,by omega⟩ ?_) | (refine And.intro ⟨by omega,by omega,by omega⟩ ?_) | (intro _)))
  refine Exists.intro [] (Exists.intro [] (Exists.intro [] (Exists.intro Nat (Exists.intro (fun i=>i≤3∧(1≤i→isPre [48,120] s = false)∧(2≤i→isPre [48,111] s = false)∧(3≤i→isPre [48,98] s = false)) (Exists.intro (fun i=>⟨[(0,.s s),(2,.i .u64 0),(3,.s []),(11,.vec 11 .frt fronts),(12,.i .i64 3),(13,.i .i64 (i:Int))],[]⟩) (Exists.intro (fun i=>3 - i) (Exists.intro 0 (And.intro ⟨by decide,fun h=>absurd h (by decide),fun h=>absurd h (by decide),fun h=>absurd h (by decide)⟩ (And.intro ?_ ?_)))))))))
  · (repeat' (first | exact trivial | exact Or.inl rfl | exact Or.inr (Or.inl ⟨rfl,_,rfl⟩) | exact Or.inr (Or.inr (Or.inr ⟨_,_,_,rfl,rfl⟩)) | refine And.intro ?_ ?_))
  · rintro i ⟨hi,h1,h2,h3⟩
    rcases (show i = 0∨i = 1∨i = 2∨i = 3 by omega) with rfl | rfl | rfl | rfl
    · (repeat' (first | (refine And.intro (fun h=>?_) (fun h=>?_)<;>(try simp [-List.getD_eq_getElem?_getD,-Int.pred_toNat] at h)<;>(try (exfalso; first | omega | contradiction))) | (refine And.intro (rng64 (by omega) (by omega)) ?_) | (refine And.intro ⟨by omega,by omega⟩ ?_) | (refine And.intro ⟨by omega,by omega,by omega⟩ ?_) | (intro _)))
      refine And.intro ⟨by decide,by decide⟩ ?_
      refine Or.inl (Exists.intro _ (And.intro (s_cutPre s [48,120]) ?_))
      cases hp:isPre [48,120] s with
      | true =>
        unfold cutP
        rw [hp]
        (repeat' (first | (refine And.intro (fun h=>?_) (fun h=>?_)<;>(try simp [-List.getD_eq_getElem?_getD,-Int.pred_toNat] at h)<;>(try (exfalso; first | omega | contradiction))) | (refine And.intro (rng64 (by omega) (by omega)) ?_) | (refine And.intro ⟨by omega,by omega⟩ ?_) | (refine And.intro ⟨by omega,by omega,by omega⟩ ?_) | (intro _)))
        rfl
      | false =>
        (repeat' (first | (refine And.intro (fun h=>?_) (fun h=>?_)<;>(try simp [-List.getD_eq_getElem?_getD,-Int.pred_toNat] at h)<;>(try (exfalso; first | omega | contradiction))) | (refine And.intro (rng64 (by omega) (by omega)) ?_) | (refine And.intro ⟨by omega,by omega⟩ ?_) | (refine And.intro ⟨by omega,by omega,by omega⟩ ?_) | (intro _)))
        refine Exists.intro [] (Exists.intro 1 (And.intro ⟨by decide,fun _=>rfl,fun h=>absurd h (by decide),fun h=>absurd h (by decide)⟩ (And.intro ?_ ?_)))
        · (repeat' (first | exact trivial | exact Or.inl rfl | exact Or.inr (Or.inl ⟨rfl,_,rfl⟩) | exact Or.inr (Or.inr (Or.inr ⟨_,_,_,rfl,rfl⟩)) | refine And.intro ?_ ?_))
        · show 3 - 1 < 3 - 0
          decide
    · (repeat' (first | (refine And.intro (fun h=>?_) (fun h=>?_)<;>(try simp [-List.getD_eq_getElem?_getD,-Int.pred_toNat] at h)<;>(try (exfalso; first | omega | contradiction))) | (refine And.intro (rng64 (by omega) (by omega)) ?_) | (refine And.intro ⟨by omega,by omega⟩ ?_) | (refine And.intro ⟨by omega,by omega,by omega⟩ ?_) | (intro _)))
      refine And.intro ⟨by decide,by decide⟩ ?_
      refine Or.inl (Exists.intro _ (And.intro (s_cutPre s [48,111]) ?_))
      cases hp:isPre [48,111] s with
      | true =>
        rw [h1 (by decide)]
        unfold cutP
        rw [hp]
        (repeat' (first | (refine And.intro (fun h=>?_) (fun h=>?_)<;>(try simp [-List.getD_eq_getElem?_getD,-Int.pred_toNat] at h)<;>(try (exfalso; first | omega | contradiction))) | (refine And.intro (rng64 (by omega) (by omega)) ?_) | (refine And.intro ⟨by omega,by omega⟩ ?_) | (refine And.intro ⟨by omega,by omega,by omega⟩ ?_) | (intro _)))
        rfl
      | false =>
        (repeat' (first | (refine And.intro (fun h=>?_) (fun h=>?_)<;>(try simp [-List.getD_eq_getElem?_getD,-Int.pred_toNat] at h)<;>(try (exfalso; first | omega | contradiction))) | (refine And.intro (rng64 (by omega) (by omega)) ?_) | (refine And.intro ⟨by omega,by omega⟩ ?_) | (refine And.intro ⟨by omega,by omega,by omega⟩ ?_) | (intro _)))
        refine Exists.intro [] (Exists.intro 2 (And.intro ⟨by decide,fun _=>h1 (by decide),fun _=>rfl,fun h=>absurd h (by decide)⟩ (And.intro ?_ ?_)))
        · (repeat' (first | exact trivial | exact Or.inl rfl | exact Or.inr (Or.inl ⟨rfl,_,rfl⟩) | exact Or.inr (Or.inr (Or.inr ⟨_,_,_,rfl,rfl⟩)) | refine And.intro ?_ ?_))
        · show 3 - 2 < 3 - 1
          decide
    · (repeat' (first | (refine And.intro (fun h=>?_) (fun h=>?_)<;>(try simp [-List.getD_eq_getElem?_getD,-Int.pred_toNat] at h)<;>(try (exfalso; first | omega | contradiction))) | (refine And.intro (rng64 (by omega) (by omega)) ?_) | (refine And.intro ⟨by omega,by omega⟩ ?_) | (refine And.intro ⟨by omega,by omega,by omega⟩ ?_) | (intro _)))
      refine And.intro ⟨by decide,by decide⟩ ?_
      refine Or.inl (Exists.intro _ (And.intro (s_cutPre s [48,98]) ?_))
      cases hp:isPre [48,98] s with
      | true =>
        rw [h1 (by decide),h2 (by decide)]
        unfold cutP
        rw [hp]
        (repeat' (first | (refine And.intro (fun h=>?_) (fun h=>?_)<;>(try simp [-List.getD_eq_getElem?_getD,-Int.pred_toNat] at h)<;>(try (exfalso; first | omega | contradiction))) | (refine And.intro (rng64 (by omega) (by omega)) ?_) | (refine And.intro ⟨by omega,by omega⟩ ?_) | (refine And.intro ⟨by omega,by omega,by omega⟩ ?_) | (intro _)))
        rfl
      | false =>
        (repeat' (first | (refine And.intro (fun h=>?_) (fun h=>?_)<;>(try simp [-List.getD_eq_getElem?_getD,-Int.pred_toNat] at h)<;>(try (exfalso; first | omega | contradiction))) | (refine And.intro (rng64 (by omega) (by omega)) ?_) | (refine And.intro ⟨by omega,by omega⟩ ?_) | (refine And.intro ⟨by omega,by omega,by omega⟩ ?_) | (intro _)))
        refine Exists.intro [] (Exists.intro 3 (And.intro ⟨by decide,fun _=>h1 (by decide),fun _=>h2 (by decide),fun _=>rfl⟩ (And.intro ?_ ?_)))
        · (repeat' (first | exact trivial | exact Or.inl rfl | exact Or.inr (Or.inl ⟨rfl,_,rfl⟩) | exact Or.inr (Or.inr (Or.inr ⟨_,_,_,rfl,rfl⟩)) | refine And.intro ?_ ?_))
        · show 3 - 3 < 3 - 2
          decide
    · rw [h1 (by decide),h2 (by decide),h3 (by decide)]
      (repeat' (first | (refine And.intro (fun h=>?_) (fun h=>?_)<;>(try simp [-List.getD_eq_getElem?_getD,-Int.pred_toNat] at h)<;>(try (exfalso; first | omega | contradiction))) | (refine And.intro (rng64 (by omega) (by omega)) ?_) | (refine And.intro ⟨by omega,by omega⟩ ?_) | (refine And.intro ⟨by omega,by omega,by omega⟩ ?_) | (intro _)))
      rfl
theorem s_base (s:Str):PSpec Tryd.prog 162 [.s s] (.tup [.i .u64 ((frontB s).1:Int),.s (frontB s).2]) :=
  pspec_of_vc Γ_good Tryd.func162 rfl Tryd.call162 Tryd.results162 Tryd.ntmps162 (Nat.le_of_ble_eq_true rfl) (w_base s)
theorem w_readP (s:Str):VCs Tryd.prog Γ 109 [0,2,3,4,5,6,7,8,9,11,12,13,14,15,16,19,41,43,44,45,46,64,67,88,91,94,102] (Tryd.f126.body.getD .skip) (postK Γ [.tmp 2,.tmp 3] (fun v=>v = .tup [.i .i64 (readV s).1,.i .i64 (readV s).2])) ⟨argSlots 0 [.s s],[]⟩:=by
  refine VCs.seq (by first | exact Γ_good | exact Ctx.good_kp Γ_good _) ?_
  refine VCs.cut (by first | exact Γ_good | exact Ctx.good_kp Γ_good _) Unit (fun _=>¬ 80 < s.length) (fun _=>⟨[(0,.s s),(2,.i .i64 0),(3,.i .i64 0)],[]⟩) ?_ ?_
  · intro _
    refine And.intro (fun h=>?_) (fun h=>?_)
    · have h:80 < s.length:=by have:(s.length:Int) > 80:=of_decide_eq_true h; omega
      rw [readV_long h]
      rfl
    · have h:¬ 80 < s.length:=by have:¬ (s.length:Int) > 80:=of_decide_eq_false h; omega
      refine Exists.intro () (And.intro h ?_)
      (repeat' (first | exact trivial | exact Or.inl rfl | exact Or.inr (Or.inl ⟨rfl,_,rfl⟩) | exact Or.inr (Or.inr (Or.inr ⟨_,_,_,rfl,rfl⟩)) | refine And.intro ?_ ?_))
  rintro ⟨⟩ h
  have h80:=h
  have hC:=s_cutPre s [45]
  rw [cut_minus,pre_minus] at hC
  have hB:=s_base (restS s)
  obtain ⟨f1,f2,f3⟩:=front_base (restS s)
  have hrl:=rest_len s
  obtain ⟨b,hb⟩:∃ b,b = (frontB (restS s)).1:=⟨_,rfl⟩
  obtain ⟨u,hu⟩:∃ u,u = (frontB (restS s)).2:=⟨_,rfl⟩
  rw [← hb] at f1 f2 hB
  rw [← hu] at f3 hB
  have hul:u.length≤80:=by omega
  refine VCs.seq (by first | exact Γ_good | exact Ctx.good_kp Γ_good _) ?_
  refine Or.inl (Exists.intro _ (And.intro (hC) ?_))
  refine VCs.seq (by first | exact Γ_good | exact Ctx.good_kp Γ_good _) ?_
  refine Or.inl (Exists.intro _ (And.intro (hB) ?_))
  have hbz:∀ z:Bool,((b:Int) == 10) = z→(b = 10↔z = true):=fun z hz=>by
    rw [← hz,beq_iff_eq]; omega
  refine VCs.cut (by first | exact Γ_good | exact Ctx.good_kp Γ_good _) Unit (fun _=>¬ (b = 10∧1 < u.length∧u.headD 0 = 48)) (fun _=>⟨[(2,.i .i64 0),(3,.i .i64 0),(4,.s u),(5,.b (minusS s)),(6,.i .u64 (b:Int))],[]⟩) ?_ ?_
  · by_cases hz:b = 10∧1 < u.length∧u.headD 0 = 48
    · have hV:bareV (restS s) = none:=by unfold bareV; rw [← hb,← hu,if_pos hz]
      rw [readV_none h hV]
      obtain ⟨z1,z2,z3⟩:=hz
      have hg:(u.getD 0 0).toNat = 48:=by
        cases u with
        | nil=>simp at z2
        | cons c r=>exact congrArg UInt8.toNat z3
      clear hbz
      (repeat' (first | (refine And.intro (fun h=>?_) (fun h=>?_)<;>(try simp [-List.getD_eq_getElem?_getD,-Int.pred_toNat] at h)<;>(try (exfalso; first | omega | contradiction))) | (refine And.intro (rng64 (by omega) (by omega)) ?_) | (refine And.intro ⟨by omega,by omega⟩ ?_) | (refine And.intro ⟨by omega,by omega,by omega⟩ ?_) | (intro _)))
      rfl
    · clear hbz
      by_cases z1:b = 10
      · by_cases z2:1 < u.length
        · have hg : ¬ (u.getD 0 0).toNat = 48 := fun h => hz ⟨z1, z2, by
            cases u with
            | nil=>simp at z2
            | cons c r=>exact UInt8.toNat_inj.1 h⟩
          (repeat' (first | (refine And.intro (fun h=>?_) (fun h=>?_)<;>(try simp [-List.getD_eq_getElem?_getD,-Int.pred_toNat] at h)<;>(try (exfalso; first | omega | contradiction))) | (refine And.intro (rng64 (by omega) (by omega)) ?_) | (refine And.intro ⟨by omega,by omega⟩ ?_) | (refine And.intro ⟨by omega,by omega,by omega⟩ ?_) | (intro _)))
          refine Exists.intro () (And.intro hz ?_)
          (repeat' (first | exact trivial | exact Or.inl rfl | exact Or.inr (Or.inl ⟨rfl,_,rfl⟩) | exact Or.inr (Or.inr (Or.inr ⟨_,_,_,rfl,rfl⟩)) | refine And.intro ?_ ?_))
        · (repeat' (first | (refine And.intro (fun h=>?_) (fun h=>?_)<;>(try simp [-List.getD_eq_getElem?_getD,-Int.pred_toNat] at h)<;>(try (exfalso; first | omega | contradiction))) | (refine And.intro (rng64 (by omega) (by omega)) ?_) | (refine And.intro ⟨by omega,by omega⟩ ?_) | (refine And.intro ⟨by omega,by omega,by omega⟩ ?_) | (intro _)))
          refine Exists.intro () (And.intro hz ?_)
          (repeat' (first | exact trivial | exact Or.inl rfl | exact Or.inr (Or.inl ⟨rfl,_,rfl⟩) | exact Or.inr (Or.inr (Or.inr ⟨_,_,_,rfl,rfl⟩)) | refine And.intro ?_ ?_))
      · (repeat' (first | (refine And.intro (fun h=>?_) (fun h=>?_)<;>(try simp [-List.getD_eq_getElem?_getD,-Int.pred_toNat] at h)<;>(try (exfalso; first | omega | contradiction))) | (refine And.intro (rng64 (by omega) (by omega)) ?_) | (refine And.intro ⟨by omega,by omega⟩ ?_) | (refine And.intro ⟨by omega,by omega,by omega⟩ ?_) | (intro _)))
        refine Exists.intro () (And.intro hz ?_)
        (repeat' (first | exact trivial | exact Or.inl rfl | exact Or.inr (Or.inl ⟨rfl,_,rfl⟩) | exact Or.inr (Or.inr (Or.inr ⟨_,_,_,rfl,rfl⟩)) | refine And.intro ?_ ?_))
  rintro ⟨⟩ hz
  have hV:bareV (restS s) = numN b 95 0 u:=by unfold bareV; rw [← hb,← hu,if_neg hz]
  clear hz hbz hB hC
  refine VCs.seq (by first | exact Γ_good | exact Ctx.good_kp Γ_good _) ?_
  refine VCs.seq (by first | exact Γ_good | exact Ctx.good_kp Γ_good _) ?_
  refine VCs.cut (by first | exact Γ_good | exact Ctx.good_kp Γ_good _) (UInt8 × Nat × Int) (fun q=>numN b q.1 q.2.1 [] = numN b 95 0 u∧0≤q.2.2∧q.2.2≤18446744073709551615∧(0 < q.2.2↔18446744073709551616≤q.2.1)) (fun ⟨l,N,o⟩=>⟨[(2,.i .i64 0),(3,.i .i64 0),(5,.b (minusS s)),(7,.i .u64 ((N % 18446744073709551616:Nat):Int)),(8,.i .u64 o),(9,.i .u8 (l.toNat:Int))],[]⟩) ?_ ?_
  · (repeat' (first | (refine And.intro (fun h=>?_) (fun h=>?_)<;>(try simp [-List.getD_eq_getElem?_getD,-Int.pred_toNat] at h)<;>(try (exfalso; first | omega | contradiction))) | (refine And.intro (rng64 (by omega) (by omega)) ?_) | (refine And.intro ⟨by omega,by omega⟩ ?_) | (refine And.intro ⟨by omega,by omega,by omega⟩ ?_) | (intro _)))
    refine Exists.intro [] (Exists.intro [] (Exists.intro [] (Exists.intro (Nat × UInt8 × Nat × Int) (Exists.intro (fun q=>q.1≤u.length∧numN b q.2.1 q.2.2.1 (u.drop q.1) = numN b 95 0 u∧0≤q.2.2.2∧q.2.2.2≤18446744073709551615∧(0 < q.2.2.2↔18446744073709551616≤q.2.2.1)) (Exists.intro (fun ⟨i,l,N,o⟩=>⟨[(2,.i .i64 0),(3,.i .i64 0),(5,.b (minusS s)),(6,.i .u64 (b:Int)),(7,.i .u64 ((N % 18446744073709551616:Nat):Int)),(8,.i .u64 o),(9,.i .u8 (l.toNat:Int)),(43,.rd .u8 (u.map fun b=>(b.toNat:Int))),(44,.i .i64 (((u.map fun b=>(b.toNat:Int)).length:Nat):Int)),(45,.i .i64 (i:Int))],[]⟩) (Exists.intro (fun q=>u.length - q.1) (Exists.intro (0,95,0,0) (And.intro ⟨Nat.zero_le _,rfl,by simp,by simp,by simp⟩ (And.intro ?_ ?_)))))))))
    · (repeat' (first | exact trivial | exact Or.inl rfl | exact Or.inr (Or.inl ⟨rfl,_,rfl⟩) | exact Or.inr (Or.inr (Or.inr ⟨_,_,_,rfl,rfl⟩)) | refine And.intro ?_ ?_))
    · rintro ⟨i,l,N,o⟩ ⟨hi,hI,ho0,ho1,ho⟩
      simp only at hi hI ho0 ho1 ho
      have hml:(u.map fun b:UInt8=>(b.toNat:Int)).length = u.length:=List.length_map ..
      refine And.intro (fun hc=>?_) (fun hc=>?_)
      · have hi : i < u.length := by
          have:(i:Int) < (((u.map fun b:UInt8=>(b.toNat:Int)).length:Nat):Int):=of_decide_eq_true hc
          omega
        have hdr:u.drop i = u.getD i 0::u.drop (i + 1):=by
          rw [List.drop_eq_getElem_cons hi,List.getD_eq_getElem?_getD,List.getElem?_eq_getElem hi]; rfl
        have hgi:(u.map fun b:UInt8=>(b.toNat:Int)).getD (Int.toNat (i:Int)) (dflt .u8) = ((u.getD i 0).toNat:Int):=by
          rw [Int.toNat_natCast,List.getD_eq_getElem?_getD,List.getElem?_map,List.getD_eq_getElem?_getD,List.getElem?_eq_getElem hi]; rfl
        rw [hdr,numN] at hI
        generalize u.getD i 0 = c at hI hgi
        have hcl:=u8_lt c
        refine And.intro ⟨by omega,by omega⟩ ?_
        rw [hgi]
        by_cases hu:c = 95
        · rw [if_pos hu] at hI
          have hcn:c.toNat = 95:=by rw [hu]; rfl
          by_cases hl:l = 95
          · rw [if_pos hl] at hI
            have hln:l.toNat = 95:=by rw [hl]; rfl
            rw [readV_none h80 (hV.trans hI.symm)]
            (repeat' (first | (refine And.intro (fun h=>?_) (fun h=>?_)<;>(try simp [-List.getD_eq_getElem?_getD,-Int.pred_toNat] at h)<;>(try (exfalso; first | omega | contradiction))) | (refine And.intro (rng64 (by omega) (by omega)) ?_) | (refine And.intro ⟨by omega,by omega⟩ ?_) | (refine And.intro ⟨by omega,by omega,by omega⟩ ?_) | (intro _)))
            rfl
          · rw [if_neg hl] at hI
            have hln:¬ l.toNat = 95:=fun h=>hl (UInt8.toNat_inj.1 h)
            (repeat' (first | (refine And.intro (fun h=>?_) (fun h=>?_)<;>(try simp [-List.getD_eq_getElem?_getD,-Int.pred_toNat] at h)<;>(try (exfalso; first | omega | contradiction))) | (refine And.intro (rng64 (by omega) (by omega)) ?_) | (refine And.intro ⟨by omega,by omega⟩ ?_) | (refine And.intro ⟨by omega,by omega,by omega⟩ ?_) | (intro _)))
            refine Exists.intro [] (Exists.intro (i + 1,c,N,o) (And.intro ⟨hi,by simp only; rw [hu]; exact hI,ho0,ho1,ho⟩ (And.intro ?_ ?_)))
            · (repeat' (first | exact trivial | exact Or.inl rfl | exact Or.inr (Or.inl ⟨rfl,_,rfl⟩) | exact Or.inr (Or.inr (Or.inr ⟨_,_,_,rfl,rfl⟩)) | refine And.intro ?_ ?_))
            · (exact Nat.sub_lt_sub_left (by omega) (by omega))
        · rw [if_neg hu] at hI
          have hcn:¬ c.toNat = 95:=fun h=>hu (UInt8.toNat_inj.1 h)
          have hD:=s_digit c
          have hd100:=dgt_lt c
          generalize dgt c = d at hI hD hd100
          (repeat' (first | (refine And.intro (fun h=>?_) (fun h=>?_)<;>(try simp [-List.getD_eq_getElem?_getD,-Int.pred_toNat] at h)<;>(try (exfalso; first | omega | contradiction))) | (refine And.intro (rng64 (by omega) (by omega)) ?_) | (refine And.intro ⟨by omega,by omega⟩ ?_) | (refine And.intro ⟨by omega,by omega,by omega⟩ ?_) | (intro _)))
          refine Or.inl (Exists.intro _ (And.intro (hD) ?_))
          by_cases hd:b≤d
          · rw [if_pos hd] at hI
            rw [readV_none h80 (hV.trans hI.symm)]
            (repeat' (first | (refine And.intro (fun h=>?_) (fun h=>?_)<;>(try simp [-List.getD_eq_getElem?_getD,-Int.pred_toNat] at h)<;>(try (exfalso; first | omega | contradiction))) | (refine And.intro (rng64 (by omega) (by omega)) ?_) | (refine And.intro ⟨by omega,by omega⟩ ?_) | (refine And.intro ⟨by omega,by omega,by omega⟩ ?_) | (intro _)))
            rfl
          · rw [if_neg hd] at hI
            have hM:=s_mul64 (N % 18446744073709551616) b (Nat.mod_lt _ (by decide)) (by omega)
            have hlim:N % 18446744073709551616 * b / 18446744073709551616 < 18446744073709551616:=by
              rw [Nat.div_lt_iff_lt_mul (by decide)]
              exact Nat.mul_lt_mul'' (Nat.mod_lt _ (by decide)) (by omega)
            obtain ⟨e1,e2⟩:=step64 (N:=N) (n:=N % 18446744073709551616) (b:=b) (d:=d) (o:=decide (0 < o)) f1 f2 (by omega) rfl (by rw [decide_eq_true_eq]; exact ho)
            rw [decide_eq_true_eq] at e2
            have hlo:N % 18446744073709551616 * b % 18446744073709551616 < 18446744073709551616:=Nat.mod_lt _ (by decide)
            generalize N % 18446744073709551616 * b / 18446744073709551616 = H at hM hlim e2
            generalize N % 18446744073709551616 * b % 18446744073709551616 = L at hM hlo e1 e2
            obtain ⟨g1,g2,g3⟩:=or_pos (a:=(H:Int)) (b:=((L:Int) + (d:Int) + 0) / 18446744073709551616) (by omega) (by omega)
            generalize hO1:bits .or .u64 (H:Int) (((L:Int) + (d:Int) + 0) / 18446744073709551616) = O1 at g1 g2 g3
            obtain ⟨k1,k2,k3⟩:=or_pos (a:=o) (b:=O1) ⟨ho0,ho1⟩ ⟨g1,g2⟩
            generalize hO2:bits .or .u64 o O1 = O2 at k1 k2 k3
            have hA:=e_add64 L d
            (repeat' (first | (refine And.intro (fun h=>?_) (fun h=>?_)<;>(try simp [-List.getD_eq_getElem?_getD,-Int.pred_toNat] at h)<;>(try (exfalso; first | omega | contradiction))) | (refine And.intro (rng64 (by omega) (by omega)) ?_) | (refine And.intro ⟨by omega,by omega⟩ ?_) | (refine And.intro ⟨by omega,by omega,by omega⟩ ?_) | (intro _)))
            refine Or.inl (Exists.intro _ (And.intro (hM) ?_))
            refine Or.inl (Exists.intro _ (And.intro (hD) ?_))
            refine Or.inr (Or.inr (Or.inr (Or.inr (Or.inl (Exists.intro _ (And.intro (hA) ?_))))))
            (repeat' (first | (refine And.intro (fun h=>?_) (fun h=>?_)<;>(try simp [-List.getD_eq_getElem?_getD,-Int.pred_toNat] at h)<;>(try (exfalso; first | omega | contradiction))) | (refine And.intro (rng64 (by omega) (by omega)) ?_) | (refine And.intro ⟨by omega,by omega⟩ ?_) | (refine And.intro ⟨by omega,by omega,by omega⟩ ?_) | (intro _)))
            refine Exists.intro [] (Exists.intro (i + 1,c,N * b + d,O2) (And.intro ⟨hi,by simp only; exact hI,k1,k2,by simp only; omega⟩ (And.intro ?_ ?_)))
            · (repeat' (first | exact trivial | exact Or.inl rfl | exact Or.inl ((congrArg (AV.i .u64) (show ((L:Int) + (d:Int) + 0) % 18446744073709551616 = (((N * b + d) % 18446744073709551616:Nat):Int) by omega))) | exact Or.inl ((congrArg (AV.i .u64) (show bits .or .u64 o (bits .or .u64 (H:Int) (((L:Int) + (d:Int) + 0) / 18446744073709551616)) = O2 by rw [hO1,hO2]))) | refine And.intro ?_ ?_))
            · (exact Nat.sub_lt_sub_left (by omega) (by omega))
      · have hi : i = u.length := by
          have:¬ (i:Int) < (((u.map fun b:UInt8=>(b.toNat:Int)).length:Nat):Int):=of_decide_eq_false hc
          omega
        subst hi
        rw [List.drop_length] at hI
        refine Exists.intro (l,N,o) (And.intro ⟨hI,ho0,ho1,ho⟩ ?_)
        (repeat' (first | exact trivial | exact Or.inl rfl | exact Or.inr (Or.inl ⟨rfl,_,rfl⟩) | exact Or.inr (Or.inr (Or.inr ⟨_,_,_,rfl,rfl⟩)) | refine And.intro ?_ ?_))
  rintro ⟨l,N,o⟩ ⟨hN,ho0,ho1,ho⟩
  simp only at hN ho0 ho1 ho
  rw [numN] at hN
  refine VCs.of_vc (by first | exact Γ_good | exact Ctx.good_kp Γ_good _) ?_
  have hML:N % 18446744073709551616 < 18446744073709551616:=Nat.mod_lt _ (by decide)
  by_cases hl:l = 95
  · rw [if_pos hl] at hN
    have hln:l.toNat = 95:=by rw [hl]; rfl
    rw [readV_none h80 (hV.trans hN.symm)]
    generalize minusS s = m
    cases m
    all_goals
      (repeat' (first | (refine And.intro (fun h=>?_) (fun h=>?_)<;>(try simp [-List.getD_eq_getElem?_getD,-Int.pred_toNat] at h)<;>(try (exfalso; first | omega | contradiction))) | (refine And.intro (rng64 (by omega) (by omega)) ?_) | (refine And.intro ⟨by omega,by omega⟩ ?_) | (refine And.intro ⟨by omega,by omega,by omega⟩ ?_) | (intro _)))
      rfl
  rw [if_neg hl] at hN
  have hln:¬ l.toNat = 95:=fun h=>hl (UInt8.toNat_inj.1 h)
  rw [readV_some h80 (hV.trans hN.symm)]
  clear hV hN
  generalize minusS s = m
  by_cases h64:18446744073709551616≤N
  · have hov:limN m < N:=by unfold limN; split<;>omega
    have hop:=ho.2 h64
    rw [if_pos hov]
    cases m
    all_goals
      (repeat' (first | (refine And.intro (fun h=>?_) (fun h=>?_)<;>(try simp [-List.getD_eq_getElem?_getD,-Int.pred_toNat] at h)<;>(try (exfalso; first | omega | contradiction))) | (refine And.intro (rng64 (by omega) (by omega)) ?_) | (refine And.intro ⟨by omega,by omega⟩ ?_) | (refine And.intro ⟨by omega,by omega,by omega⟩ ?_) | (intro _)))
      rfl
  have hop:o = 0:=by omega
  have hNM:N % 18446744073709551616 = N:=Nat.mod_eq_of_lt (by omega)
  dsimp only
  rw [hNM]
  have hwn:N≤9223372036854775807→IntKind.i64.wrap (N:Int) = N:=fun h=>by rw [IntKind.wrap_i64]; omega
  cases m with
  | false =>
    by_cases hov:limN false < N
    · have hov2:9223372036854775807 < N:=hov
      rw [if_pos hov]
      (repeat' (first | (refine And.intro (fun h=>?_) (fun h=>?_)<;>(try simp [-List.getD_eq_getElem?_getD,-Int.pred_toNat] at h)<;>(try (exfalso; first | omega | contradiction))) | (refine And.intro (rng64 (by omega) (by omega)) ?_) | (refine And.intro ⟨by omega,by omega⟩ ?_) | (refine And.intro ⟨by omega,by omega,by omega⟩ ?_) | (intro _)))
      rfl
    · have hov2:¬ 9223372036854775807 < N:=hov
      rw [if_neg hov]
      (repeat' (first | (refine And.intro (fun h=>?_) (fun h=>?_)<;>(try simp [-List.getD_eq_getElem?_getD,-Int.pred_toNat] at h)<;>(try (exfalso; first | omega | contradiction))) | (refine And.intro (rng64 (by omega) (by omega)) ?_) | (refine And.intro ⟨by omega,by omega⟩ ?_) | (refine And.intro ⟨by omega,by omega,by omega⟩ ?_) | (intro _)))
      show AV.tup [.i .i64 (IntKind.i64.wrap (N:Int)),.i .i64 0] = AV.tup [.i .i64 (N:Int),.i .i64 0]
      rw [hwn (by omega)]
  | true =>
    have hW:IntKind.u64.wrap ((9223372036854775807:Int) + 1) = 9223372036854775808:=by rw [IntKind.wrap_u64]; rfl
    have hW2:IntKind.u64.wrap (9223372036854775808:Int) = 9223372036854775808:=by rw [IntKind.wrap_u64]; rfl
    by_cases hov:limN true < N
    · have hov2:9223372036854775808 < N:=hov
      rw [if_pos hov]
      (repeat' (first | (refine And.intro (fun h=>?_) (fun h=>?_)<;>(try simp [-List.getD_eq_getElem?_getD,-Int.pred_toNat] at h)<;>(try (exfalso; first | omega | contradiction))) | (refine And.intro (rng64 (by omega) (by omega)) ?_) | (refine And.intro ⟨by omega,by omega⟩ ?_) | (refine And.intro ⟨by omega,by omega,by omega⟩ ?_) | (intro _)))
      rfl
    · have hov2:¬ 9223372036854775808 < N:=hov
      rw [if_neg hov]
      (repeat' (first | (refine And.intro (fun h=>?_) (fun h=>?_)<;>(try simp [-List.getD_eq_getElem?_getD,-Int.pred_toNat] at h)<;>(try (exfalso; first | omega | contradiction))) | (refine And.intro (rng64 (by omega) (by omega)) ?_) | (refine And.intro ⟨by omega,by omega⟩ ?_) | (refine And.intro ⟨by omega,by omega,by omega⟩ ?_) | (intro _)))
      refine Or.inr ?_
      have hwm:IntKind.i64.wrap (0 - IntKind.i64.wrap (N:Int)) = -(N:Int):=neg_wrap (by omega)
      show AV.tup [.i .i64 (IntKind.i64.wrap (0 - IntKind.i64.wrap (N:Int))),.i .i64 0] = AV.tup [.i .i64 (-(N:Int)),.i .i64 0]
      rw [hwm]
theorem s_readP (s:Str):PSpec Tryd.prog 126 [.s s] (.tup [.i .i64 (readV s).1,.i .i64 (readV s).2]) :=
  pspec_of_VCs Γ_good Tryd.func126 rfl Tryd.call126 Tryd.results126 Tryd.ntmps126 (Nat.le_of_ble_eq_true rfl) (w_readP s) Γ_good
end
end Go.Proofs.YtmfchbkdakmjhaaDoor
end
section
namespace Go.Proofs.YtmfchbkdakmjhaaDoor
set_option linter.unusedSectionVars false
set_option linter.unusedSimpArgs false
set_option linter.unusedVariables false
open Go Go.SX Go.Vl
set_option maxRecDepth 100000
set_option maxHeartbeats 0
section
variable [G:Globs]
end
end Go.Proofs.YtmfchbkdakmjhaaDoor
end
section
namespace Go.Proofs.YtmfchbkdakmjhaaDoor
set_option linter.unusedSectionVars false
set_option linter.unusedSimpArgs false
set_option linter.unusedVariables false
open Go Go.SX Go.Vl
set_option maxRecDepth 100000
set_option maxHeartbeats 0
def sg (t:Bool):Int:=if t = true then -1 else 1
theorem cmpI_ne {a b:Int} (h:a≠b):cmpI a b = sg (decide (a < b)):=by
  unfold cmpI sg
  rw [if_neg h]
  simp
theorem cmpS_ne {a b:Str} (h:a≠b):cmpS a b = sg (Op.bytesLess a b):=by
  unfold cmpS sg
  rw [if_neg h]
theorem bool_ne {a b:Bool} (h:(!(a == b)) = true):a≠b:=by simpa using h
theorem bool_eq {a b:Bool} (h:(!(a == b)) = false):a = b:=by simpa using h
theorem len_ne {m n:Nat} (h:(((m:Nat):Int) != ((n:Nat):Int)) = true):m≠n:=fun e=>by subst e; simp at h
theorem len_eq {m n:Nat} (h:(((m:Nat):Int) != ((n:Nat):Int)) = false):m = n:=by
  have:(m:Int) = (n:Int):=by simpa using h
  omega
theorem sg_nz (t:Bool):sg t≠0:=by cases t<;>decide
theorem shr63z {f:Int} (h0:0≤f) (h1:f≤18446744073709551615):(f.fdiv (2 ^ min (Int.toNat 63) IntKind.u64.bits) == 0) = decide (f < 9223372036854775808):=by
  rw [show (2:Int) ^ min (Int.toNat 63) IntKind.u64.bits = 9223372036854775808 from rfl,Int.fdiv_eq_ediv_of_nonneg _ (by decide)]
  rw [Bool.eq_iff_iff,beq_iff_eq,decide_eq_true_eq]
  omega
theorem rank_low {a b:Int} (ha:0≤a∧a≤18446744073709551615) (hb:0≤b∧b≤18446744073709551615) (h:decide (a < 9223372036854775808)≠decide (b < 9223372036854775808)):cmpI (rank a) (rank b) = sg (decide (b < 9223372036854775808)):=by
  by_cases h1:a < 9223372036854775808<;>by_cases h2:b < 9223372036854775808
  · simp [h1,h2] at h
  · rw [decide_eq_false h2,rank,rank,if_pos h1,if_neg h2,cmpI_ne (by omega),decide_eq_false (by omega)]
  · rw [decide_eq_true h2,rank,rank,if_neg h1,if_pos h2,cmpI_ne (by omega),decide_eq_true (by omega)]
  · simp [h1,h2] at h
theorem rank_high {a b:Int} (ha:0≤a∧a≤18446744073709551615) (hb:0≤b∧b≤18446744073709551615) (hne:a≠b) (h:decide (a < 9223372036854775808) = decide (b < 9223372036854775808)):cmpI (rank a) (rank b) = sg (decide (a < b) == decide (a < 9223372036854775808)):=by
  by_cases h1:a < 9223372036854775808<;>by_cases h2:b < 9223372036854775808
  · rw [rank,rank,if_pos h1,if_pos h2,cmpI_ne (by omega),decide_eq_true h1]
    congr 1
    by_cases h3:a < b
    · rw [decide_eq_true h3,decide_eq_true (by omega)]; rfl
    · rw [decide_eq_false h3,decide_eq_false (by omega)]; rfl
  · simp [h1,h2] at h
  · simp [h1,h2] at h
  · rw [rank,rank,if_neg h1,if_neg h2,cmpI_ne (by omega),decide_eq_false h1]
    congr 1
    by_cases h3:a < b
    · rw [decide_eq_true h3,decide_eq_false (by omega)]; rfl
    · rw [decide_eq_false h3,decide_eq_true (by omega)]; rfl
section
variable [G:Globs]
theorem w_sgn (t:Bool):vc Tryd.prog Γ 4 [0,2,3] (Tryd.f91.body.getD .skip) (postK Γ [.tmp 2] (fun v=>v = .i .i64 (sg t))) ⟨argSlots 0 [.b t],[]⟩:=by
  refine And.intro (fun h=>?_) (fun h=>?_)
  · have h:t = true:=h
    subst h
    rfl
  · have h:t = false:=h
    subst h
    rfl
theorem s_sgn (t:Bool):PSpec Tryd.prog 91 [.b t] (.i .i64 (sg t)) :=
  pspec_of_vc Γ_good Tryd.func91 rfl Tryd.call91 Tryd.results91 Tryd.ntmps91 (Nat.le_of_ble_eq_true rfl) (w_sgn t)
theorem w_besd (a b:Val) (h0:0≤a.f∧a.f≤18446744073709551615) (h1:0≤b.f∧b.f≤18446744073709551615) (hc:∀ x ∈ a.l,∀ y ∈ b.l,PSpec Tryd.prog 50 [.agg (encVal x),.agg (encVal y)] (.i .i64 (cmpV x y))) (hp:∀ x ∈ a.e,∀ y ∈ b.e,PSpec Tryd.prog 50 [.agg (encVal x.2),.agg (encVal y.2)] (.i .i64 (cmpV x.2 y.2))):VCs Tryd.prog Γ 185 [2,3,4,5,6,7,8,9,10,15,26,37,48,63,81,96,104,124,139,168,176] (Tryd.f50.body.getD .skip) (postK Γ [.tmp 4] (fun v=>v = .i .i64 (cmpV a b))) ⟨argSlots 0 [.agg (encVal a),.agg (encVal b)],[]⟩:=by
  refine VCs.seq (by first | exact Γ_good | exact Ctx.good_kp Γ_good _) ?_
  refine VCs.seq (by first | exact Γ_good | exact Ctx.good_kp Γ_good _) ?_
  refine And.intro (fun hk=>?_) (fun hk=>?_)
  · have hk:a.kind≠b.kind:=by simpa using hk
    refine Or.inl (Exists.intro _ (And.intro (s_sgn (decide (a.kind < b.kind))) ?_))
    refine congrArg (AV.i .i64) ?_
    rw [cmpV_eq,cmpI_ne hk,orI_ne (sg_nz _)]
  have hk:a.kind = b.kind:=by simpa using hk
  refine VCs.seq (by first | exact Γ_good | exact Ctx.good_kp Γ_good _) ?_
  refine And.intro (fun hn=>?_) (fun hn=>?_)
  · have hn:a.n≠b.n:=by simpa using hn
    refine Or.inl (Exists.intro _ (And.intro (s_sgn (decide (a.n < b.n))) ?_))
    refine congrArg (AV.i .i64) ?_
    rw [cmpV_eq,hk,cmpI_self,orI_zero,cmpI_ne hn,orI_ne (sg_nz _)]
  have hn:a.n = b.n:=by simpa using hn
  refine VCs.seq (by first | exact Γ_good | exact Ctx.good_kp Γ_good _) ?_
  refine And.intro (fun hf=>?_) (fun hf=>?_)
  · have hf:a.f≠b.f:=by simpa using hf
    refine Exists.intro [.blk [0,1,2,3,4,5,6,7,8,9]] (And.intro (by kernel_rfl) ?_)
    refine And.intro (by decide) ?_
    refine And.intro (by decide) ?_
    refine And.intro (fun hd=>?_) (fun hd=>?_)
    · have hd:=bool_ne hd
      rw [shr63z h0.1 h0.2,shr63z h1.1 h1.2] at hd
      refine Or.inl (Exists.intro _ (And.intro (s_sgn (b.f.fdiv (2 ^ min (Int.toNat 63) IntKind.u64.bits) == 0)) ?_))
      refine congrArg (AV.i .i64) ?_
      rw [shr63z h1.1 h1.2,cmpV_eq,hk,cmpI_self,orI_zero,hn,cmpI_self,orI_zero,rank_low h0 h1 hd,orI_ne (sg_nz _)]
    · have hd:=bool_eq hd
      rw [shr63z h0.1 h0.2,shr63z h1.1 h1.2] at hd
      refine Or.inl (Exists.intro _ (And.intro (s_sgn (decide (a.f < b.f) == (a.f.fdiv (2 ^ min (Int.toNat 63) IntKind.u64.bits) == 0))) ?_))
      refine congrArg (AV.i .i64) ?_
      rw [shr63z h0.1 h0.2,cmpV_eq,hk,cmpI_self,orI_zero,hn,cmpI_self,orI_zero,rank_high h0 h1 hf hd,orI_ne (sg_nz _)]
  have hf:a.f = b.f:=by simpa using hf
  refine VCs.seq (by first | exact Γ_good | exact Ctx.good_kp Γ_good _) ?_
  refine And.intro (fun hs=>?_) (fun hs=>?_)
  · have hs:a.s≠b.s:=by simpa using hs
    refine Or.inl (Exists.intro _ (And.intro (s_sgn (Op.bytesLess a.s b.s)) ?_))
    refine congrArg (AV.i .i64) ?_
    rw [cmpV_eq,hk,cmpI_self,orI_zero,hn,cmpI_self,orI_zero,hf,cmpI_self,orI_zero,cmpS_ne hs,orI_ne (sg_nz _)]
  have hs:a.s = b.s:=by simpa using hs
  have hr:cmpV a b = orI (cmpL a.l b.l) (cmpE a.e b.e):=by rw [cmpV_eq,hk,cmpI_self,orI_zero,hn,cmpI_self,orI_zero,hf,cmpI_self,orI_zero,hs,cmpS_self,orI_zero]
  refine VCs.cut (by first | exact Γ_good | exact Ctx.good_kp Γ_good _) Unit (fun _=>∃ k,cmpL a.l b.l = cmpL (a.l.drop k) (b.l.drop k)∧((k = a.l.length∧k≤b.l.length)∨(k = b.l.length∧k≤a.l.length))) (fun _=>⟨[(2,.pt 2 0),(3,.pt 3 0)],[(2,encVal a),(3,encVal b)]⟩) ?_ ?_
  · refine Exists.intro [] (Exists.intro [] (Exists.intro [] (Exists.intro Nat (Exists.intro (fun k=>k≤a.l.length∧k≤b.l.length∧cmpL a.l b.l = cmpL (a.l.drop k) (b.l.drop k)) (Exists.intro (fun k=>⟨[(2,.pt 2 0),(3,.pt 3 0),(7,.i .i64 k)],[(2,encVal a),(3,encVal b)]⟩) (Exists.intro (fun k=>a.l.length - k) (Exists.intro 0 (And.intro ⟨Nat.zero_le _,Nat.zero_le _,rfl⟩ (And.intro ?_ ?_)))))))))
    · (repeat' (first | exact trivial | exact Or.inl rfl | exact Or.inr (Or.inl ⟨rfl,_,rfl⟩) | exact Or.inr (Or.inr (Or.inr ⟨_,_,_,rfl,rfl⟩)) | refine And.intro ?_ ?_))
    · rintro k ⟨hka,hkb,he⟩
      intro hla
      refine And.intro (fun hc1=>?_) (fun hc1=>?_)
      · have hc1 : k < a.l.length := by have : (k : Int) < (a.l.length : Int) := of_decide_eq_true hc1
                                        omega
        intro _
        refine And.intro (fun hc2=>?_) (fun hc2=>?_)
        · have hc2 : k < b.l.length := by have : (k : Int) < (b.l.length : Int) := of_decide_eq_true hc2
                                          omega
          have hg:a.l.getD (Int.toNat (k:Int)) (dflt .val) = a.l[k]:=by rw [Int.toNat_natCast,List.getD_eq_getElem?_getD,List.getElem?_eq_getElem hc1]; rfl
          have hgb:b.l.getD (Int.toNat (k:Int)) (dflt .val) = b.l[k]:=by rw [Int.toNat_natCast,List.getD_eq_getElem?_getD,List.getElem?_eq_getElem hc2]; rfl
          have hcall:=hc a.l[k] (List.getElem_mem hc1) b.l[k] (List.getElem_mem hc2)
          rw [← hg,← hgb] at hcall
          refine Exists.intro [.blk [0,1,2,3,4,5,6,7,8,9,10,11]] (And.intro (by kernel_rfl) ?_)
          refine And.intro ⟨by omega,by omega⟩ ?_
          refine And.intro ⟨by omega,by omega⟩ ?_
          refine Exists.intro _ (And.intro (hcall) ?_)
          rw [hg,hgb]
          rw [cmpL_drop hc1 hc2] at he
          refine And.intro (fun hz=>?_) (fun hz=>?_)
          · have hz:cmpV a.l[k] b.l[k]≠0:=by simpa using hz
            rw [orI_ne hz] at he
            refine congrArg (AV.i .i64) ?_
            rw [hr,he,orI_ne hz]
          · have hz:cmpV a.l[k] b.l[k] = 0:=by simpa using hz
            rw [hz,orI_zero] at he
            have:=len_le hla
            (refine And.intro (rng64 (by omega) (by omega)) ?_)
            refine Exists.intro [] (Exists.intro (k + 1) (And.intro ⟨hc1,hc2,he⟩ (And.intro ?_ ?_)))
            · (repeat' (first | exact trivial | exact Or.inl rfl | exact Or.inr (Or.inl ⟨rfl,_,rfl⟩) | exact Or.inr (Or.inr (Or.inr ⟨_,_,_,rfl,rfl⟩)) | refine And.intro ?_ ?_))
            · show a.l.length - (k + 1) < a.l.length - k
              omega
        · have hc2 : k = b.l.length := by have : ¬ (k : Int) < (b.l.length : Int) := of_decide_eq_false hc2
                                          omega
          refine Exists.intro () (And.intro ⟨k,he,.inr ⟨hc2,hka⟩⟩ ?_)
          (repeat' (first | exact trivial | exact Or.inl rfl | exact Or.inr (Or.inl ⟨rfl,_,rfl⟩) | exact Or.inr (Or.inr (Or.inr ⟨_,_,_,rfl,rfl⟩)) | refine And.intro ?_ ?_))
      · have hc1 : k = a.l.length := by have : ¬ (k : Int) < (a.l.length : Int) := of_decide_eq_false hc1
                                        omega
        refine And.intro (fun h9=>Bool.noConfusion h9) (fun _=>?_)
        refine Exists.intro () (And.intro ⟨k,he,.inl ⟨hc1,hkb⟩⟩ ?_)
        (repeat' (first | exact trivial | exact Or.inl rfl | exact Or.inr (Or.inl ⟨rfl,_,rfl⟩) | exact Or.inr (Or.inr (Or.inr ⟨_,_,_,rfl,rfl⟩)) | refine And.intro ?_ ?_))
  rintro _ ⟨k,he,hk2⟩
  refine VCs.seq (by first | exact Γ_good | exact Ctx.good_kp Γ_good _) ?_
  intro hla
  intro hlb
  refine And.intro (fun hz=>?_) (fun hz=>?_)
  · have hz:a.l.length≠b.l.length:=len_ne hz
    intro _
    intro _
    refine Or.inl (Exists.intro _ (And.intro (s_sgn (decide ((a.l.length:Int) < (b.l.length:Int)))) ?_))
    refine congrArg (AV.i .i64) ?_
    rcases hk2 with ⟨h2,h3⟩ | ⟨h2,h3⟩
    · rw [cmpL_long (by omega) (by omega)] at he
      rw [hr,he,decide_eq_true (by omega)]
      rfl
    · rw [cmpL_short (by omega) (by omega)] at he
      rw [hr,he,decide_eq_false (by omega)]
      rfl
  have hz:a.l.length = b.l.length:=len_eq hz
  have hr:cmpV a b = cmpE a.e b.e:=by rw [hr,he,cmpL_end (by omega) (by omega),orI_zero]
  clear he hk2 k
  refine VCs.cut (by first | exact Γ_good | exact Ctx.good_kp Γ_good _) Unit (fun _=>∃ k,cmpE a.e b.e = cmpE (a.e.drop k) (b.e.drop k)∧((k = a.e.length∧k≤b.e.length)∨(k = b.e.length∧k≤a.e.length))) (fun _=>⟨[(2,.pt 2 0),(3,.pt 3 0)],[(2,encVal a),(3,encVal b)]⟩) ?_ ?_
  · refine Exists.intro [] (Exists.intro [] (Exists.intro [] (Exists.intro Nat (Exists.intro (fun k=>k≤a.e.length∧k≤b.e.length∧cmpE a.e b.e = cmpE (a.e.drop k) (b.e.drop k)) (Exists.intro (fun k=>⟨[(2,.pt 2 0),(3,.pt 3 0),(9,.i .i64 k)],[(2,encVal a),(3,encVal b)]⟩) (Exists.intro (fun k=>a.e.length - k) (Exists.intro 0 (And.intro ⟨Nat.zero_le _,Nat.zero_le _,rfl⟩ (And.intro ?_ ?_)))))))))
    · (repeat' (first | exact trivial | exact Or.inl rfl | exact Or.inr (Or.inl ⟨rfl,_,rfl⟩) | exact Or.inr (Or.inr (Or.inr ⟨_,_,_,rfl,rfl⟩)) | refine And.intro ?_ ?_))
    · rintro k ⟨hka,hkb,he⟩
      intro hla
      refine And.intro (fun hc1=>?_) (fun hc1=>?_)
      · have hc1 : k < a.e.length := by have : (k : Int) < (a.e.length : Int) := of_decide_eq_true hc1
                                        omega
        intro _
        refine And.intro (fun hc2=>?_) (fun hc2=>?_)
        · have hc2 : k < b.e.length := by have : (k : Int) < (b.e.length : Int) := of_decide_eq_true hc2
                                          omega
          have hg:a.e.getD (Int.toNat (k:Int)) (dflt .ent) = a.e[k]:=by rw [Int.toNat_natCast,List.getD_eq_getElem?_getD,List.getElem?_eq_getElem hc1]; rfl
          have hgb:b.e.getD (Int.toNat (k:Int)) (dflt .ent) = b.e[k]:=by rw [Int.toNat_natCast,List.getD_eq_getElem?_getD,List.getElem?_eq_getElem hc2]; rfl
          have hcall:=hp a.e[k] (List.getElem_mem hc1) b.e[k] (List.getElem_mem hc2)
          rw [← hg,← hgb] at hcall
          refine Exists.intro [.blk [0,1,2,3,4,5,6,7,8,9,10,11,12]] (And.intro (by kernel_rfl) ?_)
          refine And.intro ⟨by omega,by omega⟩ ?_
          refine And.intro ⟨by omega,by omega⟩ ?_
          rw [cmpE_drop hc1 hc2,cmpP_eq] at he
          refine And.intro (fun hq=>?_) (fun hq=>?_)
          · have hq:a.e[k].1≠b.e[k].1:=by rw [hg,hgb] at hq; simpa using hq
            refine Exists.intro [.blk [0,1,2,3,4,5,6,7,8,9,10,11,12,13,14]] (And.intro (by kernel_rfl) ?_)
            refine And.intro ⟨by omega,by omega⟩ ?_
            refine And.intro ⟨by omega,by omega⟩ ?_
            refine Exists.intro _ (And.intro (s_sgn (Op.bytesLess (a.e.getD (Int.toNat (k:Int)) (dflt .ent)).1 (b.e.getD (Int.toNat (k:Int)) (dflt .ent)).1)) ?_)
            refine congrArg (AV.i .i64) ?_
            rw [hg,hgb,hr,he,cmpS_ne hq,orI_ne (sg_nz _),orI_ne (sg_nz _)]
          · have hq:a.e[k].1 = b.e[k].1:=by rw [hg,hgb] at hq; simpa using hq
            rw [hq,cmpS_self,orI_zero] at he
            refine Exists.intro [.blk [0,1,2,3,4,5,6,7,8,9,10,11,12,13]] (And.intro (by kernel_rfl) ?_)
            refine And.intro ⟨by omega,by omega⟩ ?_
            refine And.intro ⟨by omega,by omega⟩ ?_
            refine Exists.intro _ (And.intro (hcall) ?_)
            rw [hg,hgb]
            refine And.intro (fun hz=>?_) (fun hz=>?_)
            · have hz:cmpV a.e[k].2 b.e[k].2≠0:=by simpa using hz
              rw [orI_ne hz] at he
              refine congrArg (AV.i .i64) ?_
              rw [hr,he]
            · have hz:cmpV a.e[k].2 b.e[k].2 = 0:=by simpa using hz
              rw [hz,orI_zero] at he
              have:=len_le hla
              (refine And.intro (rng64 (by omega) (by omega)) ?_)
              refine Exists.intro [] (Exists.intro (k + 1) (And.intro ⟨hc1,hc2,he⟩ (And.intro ?_ ?_)))
              · (repeat' (first | exact trivial | exact Or.inl rfl | exact Or.inr (Or.inl ⟨rfl,_,rfl⟩) | exact Or.inr (Or.inr (Or.inr ⟨_,_,_,rfl,rfl⟩)) | refine And.intro ?_ ?_))
              · show a.e.length - (k + 1) < a.e.length - k
                omega
        · have hc2 : k = b.e.length := by have : ¬ (k : Int) < (b.e.length : Int) := of_decide_eq_false hc2
                                          omega
          refine Exists.intro () (And.intro ⟨k,he,.inr ⟨hc2,hka⟩⟩ ?_)
          (repeat' (first | exact trivial | exact Or.inl rfl | exact Or.inr (Or.inl ⟨rfl,_,rfl⟩) | exact Or.inr (Or.inr (Or.inr ⟨_,_,_,rfl,rfl⟩)) | refine And.intro ?_ ?_))
      · have hc1 : k = a.e.length := by have : ¬ (k : Int) < (a.e.length : Int) := of_decide_eq_false hc1
                                        omega
        refine And.intro (fun h9=>Bool.noConfusion h9) (fun _=>?_)
        refine Exists.intro () (And.intro ⟨k,he,.inl ⟨hc1,hkb⟩⟩ ?_)
        (repeat' (first | exact trivial | exact Or.inl rfl | exact Or.inr (Or.inl ⟨rfl,_,rfl⟩) | exact Or.inr (Or.inr (Or.inr ⟨_,_,_,rfl,rfl⟩)) | refine And.intro ?_ ?_))
  rintro _ ⟨k,he,hk2⟩
  refine VCs.of_vc (by first | exact Γ_good | exact Ctx.good_kp Γ_good _) ?_
  intro hla
  intro hlb
  refine And.intro (fun hz=>?_) (fun hz=>?_)
  · have hz:a.e.length≠b.e.length:=len_ne hz
    intro _
    intro _
    refine Or.inl (Exists.intro _ (And.intro (s_sgn (decide ((a.e.length:Int) < (b.e.length:Int)))) ?_))
    refine congrArg (AV.i .i64) ?_
    rcases hk2 with ⟨h2,h3⟩ | ⟨h2,h3⟩
    · rw [cmpE_long (by omega) (by omega)] at he
      rw [hr,he,decide_eq_true (by omega)]
      rfl
    · rw [cmpE_short (by omega) (by omega)] at he
      rw [hr,he,decide_eq_false (by omega)]
      rfl
  · have hz:a.e.length = b.e.length:=len_eq hz
    refine congrArg (AV.i .i64) ?_
    rw [hr,he,cmpE_end (by omega) (by omega)]
theorem s_besd (a b:Val) (h0:0≤a.f∧a.f≤18446744073709551615) (h1:0≤b.f∧b.f≤18446744073709551615) (hc:∀ x ∈ a.l,∀ y ∈ b.l,PSpec Tryd.prog 50 [.agg (encVal x),.agg (encVal y)] (.i .i64 (cmpV x y))) (hp:∀ x ∈ a.e,∀ y ∈ b.e,PSpec Tryd.prog 50 [.agg (encVal x.2),.agg (encVal y.2)] (.i .i64 (cmpV x.2 y.2))):PSpec Tryd.prog 50 [.agg (encVal a),.agg (encVal b)] (.i .i64 (cmpV a b)) :=
  pspec_of_VCs Γ_good Tryd.func50 rfl Tryd.call50 Tryd.results50 Tryd.ntmps50 (Nat.le_of_ble_eq_true rfl) (w_besd a b h0 h1 hc hp) Γ_good
theorem beside_spec:∀ (n:Nat) (a b:Val),SizeOf.sizeOf a < n→VB a→VB b→PSpec Tryd.prog 50 [.agg (encVal a),.agg (encVal b)] (.i .i64 (cmpV a b)):=by
  intro n
  induction n with
  | zero=>intro a b h; exact absurd h (Nat.not_lt_zero _)
  | succ n ih =>
    intro a b hs ha hb
    cases ha with
    | mk _ a1 a2 a3 a4 a5 =>
    cases hb with
    | mk _ b1 b2 b3 b4 b5 =>
      refine s_besd a b a3 b3 (fun x hx y hy=>ih x y ?_ (a4 x hx) (b4 y hy)) (fun x hx y hy=>ih x.2 y.2 ?_ (a5 x hx) (b5 y hy))
      · have:=val_sz_l hx; omega
      · have:=val_sz_e hx; omega
theorem s_Beside (a b:Val) (ha:VB a) (hb:VB b):PSpec Tryd.prog 50 [.agg (encVal a),.agg (encVal b)] (.i .i64 (cmpV a b)) :=
  beside_spec _ a b (Nat.lt_succ_self _) ha hb
end
end Go.Proofs.YtmfchbkdakmjhaaDoor
end
section
namespace Go.Proofs.YtmfchbkdakmjhaaDoor
set_option linter.unusedSectionVars false
set_option linter.unusedSimpArgs false
set_option linter.unusedVariables false
open Go Go.SX Go.Vl
set_option maxRecDepth 100000
set_option maxHeartbeats 0
section
variable [G:Globs]
theorem w_same (a b:Val) (ha:VB a) (hb:VB b):vc Tryd.prog Γ 9 [2,3,4] (Tryd.f13.body.getD .skip) (postK Γ [.tmp 4] (fun v=>v = .b (decide (cmpV a b = 0)))) ⟨argSlots 0 [.agg (encVal a),.agg (encVal b)],[]⟩:=by
  refine Or.inl (Exists.intro _ (And.intro (s_Beside a b ha hb) ?_))
  rfl
theorem s_same (a b:Val) (ha:VB a) (hb:VB b):PSpec Tryd.prog 13 [.agg (encVal a),.agg (encVal b)] (.b (decide (cmpV a b = 0))) :=
  pspec_of_vc Γ_good Tryd.func13 rfl Tryd.call13 Tryd.results13 Tryd.ntmps13 (Nat.le_of_ble_eq_true rfl) (w_same a b ha hb)
theorem w_fnd1 (p:Ent) (k:Str):vc Tryd.prog Γ 8 [1,2,3] (Tryd.f122.body.getD .skip) (postK Γ [.tmp 3] (fun v=>v = .b (keyIs k p))) ⟨argSlots 0 [.agg (enc .ent p),.rp [.s k]],[]⟩:=by
  rfl
theorem s_fnd1 (p:Ent) (k:Str):PSpec Tryd.prog 122 [.agg (enc .ent p),.rp [.s k]] (.b (keyIs k p)) :=
  pspec_of_vc Γ_good Tryd.func122 rfl Tryd.call122 Tryd.results122 Tryd.ntmps122 (Nat.le_of_ble_eq_true rfl) (w_fnd1 p k)
theorem w_put1 (p:Ent) (k:Str):vc Tryd.prog Γ 8 [1,2,3] (Tryd.f123.body.getD .skip) (postK Γ [.tmp 3] (fun v=>v = .b (keyGt k p))) ⟨argSlots 0 [.agg (enc .ent p),.rp [.s k]],[]⟩:=by
  rfl
theorem s_put1 (p:Ent) (k:Str):PSpec Tryd.prog 123 [.agg (enc .ent p),.rp [.s k]] (.b (keyGt k p)) :=
  pspec_of_vc Γ_good Tryd.func123 rfl Tryd.call123 Tryd.results123 Tryd.ntmps123 (Nat.le_of_ble_eq_true rfl) (w_put1 p k)
theorem w_ixE (l:List Ent) (k:Str) (q:Ent→Bool) (f:Nat) (hq:∀ x ∈ l,PSpec Tryd.prog f [.agg (enc .ent x),.rp [.s k]] (.b (q x))):vc Tryd.prog Γ 19 [0,1,4,5,7,8,9,16] (Tryd.f121.body.getD .skip) (postK Γ [.tmp 4] (fun v=>v = .i .i64 (ixI l q))) ⟨argSlots 0 [.rd .ent l,.fn f [.rp [.s k]]],[]⟩:=by
  intro hl
  refine Exists.intro [] (Exists.intro [] (Exists.intro [] (Exists.intro Nat (Exists.intro (fun i=>i≤l.length∧i≤l.findIdx q) (Exists.intro (fun i=>⟨[(0,.rd .ent l),(1,.fn f [.rp [.s k]]),(7,.i .i64 l.length),(8,.i .i64 i)],[]⟩) (Exists.intro (fun i=>l.length - i) (Exists.intro 0 (And.intro ⟨Nat.zero_le _,Nat.zero_le _⟩ (And.intro ?_ ?_)))))))))
  · (repeat' (first | exact trivial | exact Or.inl rfl | exact Or.inr (Or.inl ⟨rfl,_,rfl⟩) | exact Or.inr (Or.inr (Or.inr ⟨_,_,_,rfl,rfl⟩)) | refine And.intro ?_ ?_))
  · rintro i ⟨hi,hf⟩
    refine And.intro (fun he=>?_) (fun he=>?_)
    · have hi : i < l.length := by have : (i : Int) < (l.length : Int) := of_decide_eq_true he
                                   omega
      have hg:l.getD (Int.toNat (i:Int)) (dflt .ent) = l[i]:=by rw [Int.toNat_natCast,List.getD_eq_getElem?_getD,List.getElem?_eq_getElem hi]; rfl
      refine And.intro ⟨by omega,by omega⟩ ?_
      have hs:=hq l[i] (List.getElem_mem hi)
      rw [← hg] at hs
      refine Or.inl (Exists.intro _ (And.intro (hs) ?_))
      rw [hg]
      refine And.intro (fun hz=>?_) (fun hz=>?_)
      · have hz:q l[i] = true:=hz
        rw [ix_hit hi hf hz]
        rfl
      · have hz:q l[i] = false:=hz
        have:=len_le hl
        (refine And.intro (rng64 (by omega) (by omega)) ?_)
        refine Exists.intro [] (Exists.intro (i + 1) (And.intro ⟨hi,ix_miss hi hf hz⟩ (And.intro ?_ ?_)))
        · (repeat' (first | exact trivial | exact Or.inl rfl | exact Or.inr (Or.inl ⟨rfl,_,rfl⟩) | exact Or.inr (Or.inr (Or.inr ⟨_,_,_,rfl,rfl⟩)) | refine And.intro ?_ ?_))
        · show l.length - (i + 1) < l.length - i
          omega
    · have hi : i = l.length := by have : ¬ (i : Int) < (l.length : Int) := of_decide_eq_false he
                                   omega
      rw [ix_none (by omega)]
      rfl
theorem s_ixE (l:List Ent) (k:Str) (q:Ent→Bool) (f:Nat) (hq:∀ x ∈ l,PSpec Tryd.prog f [.agg (enc .ent x),.rp [.s k]] (.b (q x))):PSpec Tryd.prog 121 [.rd .ent l,.fn f [.rp [.s k]]] (.i .i64 (ixI l q)) :=
  pspec_of_vc Γ_good Tryd.func121 rfl Tryd.call121 Tryd.results121 Tryd.ntmps121 (Nat.le_of_ble_eq_true rfl) (w_ixE l k q f hq)
theorem w_find (l:List Ent) (k:Str):vc Tryd.prog Γ 8 [0,3,4] (Tryd.f81.body.getD .skip) (postK Γ [.tmp 4] (fun v=>v = .i .i64 (ixI l (keyIs k)))) ⟨argSlots 0 [.rd .ent l,.s k],[]⟩:=by
  refine Or.inr (Or.inr (Or.inl (Exists.intro _ (And.intro (s_ixE l k (keyIs k) 122 (fun x _=>s_fnd1 x k)) ?_))))
  rfl
theorem s_find (l:List Ent) (k:Str):PSpec Tryd.prog 81 [.rd .ent l,.s k] (.i .i64 (ixI l (keyIs k))) :=
  pspec_of_vc Γ_good Tryd.func81 rfl Tryd.call81 Tryd.results81 Tryd.ntmps81 (Nat.le_of_ble_eq_true rfl) (w_find l k)
theorem w_entAt (l:List Ent) (k:Str):vc Tryd.prog Γ 20 [0,1,4,5,6,7,8,9,10,17] (Tryd.f75.body.getD .skip) (postK Γ [.tmp 4] (fun v=>v = .i .i64 (ixI l (keyIs k)))) ⟨argSlots 0 [.rd .ent l,.s k],[]⟩:=by
  intro hl
  refine Exists.intro [] (Exists.intro [] (Exists.intro [] (Exists.intro Nat (Exists.intro (fun i=>i≤l.length∧i≤l.findIdx (keyIs k)) (Exists.intro (fun i=>⟨[(1,.s k),(7,.rd .ent l),(8,.i .i64 l.length),(9,.i .i64 i)],[]⟩) (Exists.intro (fun i=>l.length - i) (Exists.intro 0 (And.intro ⟨Nat.zero_le _,Nat.zero_le _⟩ (And.intro ?_ ?_)))))))))
  · (repeat' (first | exact trivial | exact Or.inl rfl | exact Or.inr (Or.inl ⟨rfl,_,rfl⟩) | exact Or.inr (Or.inr (Or.inr ⟨_,_,_,rfl,rfl⟩)) | refine And.intro ?_ ?_))
  · rintro i ⟨hi,hf⟩
    refine And.intro (fun he=>?_) (fun he=>?_)
    · have hi : i < l.length := by have : (i : Int) < (l.length : Int) := of_decide_eq_true he
                                   omega
      have hg:l.getD (Int.toNat (i:Int)) (dflt .ent) = l[i]:=by rw [Int.toNat_natCast,List.getD_eq_getElem?_getD,List.getElem?_eq_getElem hi]; rfl
      refine And.intro ⟨by omega,by omega⟩ ?_
      refine And.intro (fun hz=>?_) (fun hz=>?_)
      · have hz:keyIs k l[i] = true:=by rw [← hg]; exact hz
        rw [ix_hit hi hf hz]
        rfl
      · have hz:keyIs k l[i] = false:=by rw [← hg]; exact hz
        have:=len_le hl
        (refine And.intro (rng64 (by omega) (by omega)) ?_)
        refine Exists.intro [] (Exists.intro (i + 1) (And.intro ⟨hi,ix_miss hi hf hz⟩ (And.intro ?_ ?_)))
        · (repeat' (first | exact trivial | exact Or.inl rfl | exact Or.inr (Or.inl ⟨rfl,_,rfl⟩) | exact Or.inr (Or.inr (Or.inr ⟨_,_,_,rfl,rfl⟩)) | refine And.intro ?_ ?_))
        · show l.length - (i + 1) < l.length - i
          omega
    · have hi : i = l.length := by have : ¬ (i : Int) < (l.length : Int) := of_decide_eq_false he
                                   omega
      rw [ix_none (by omega)]
      rfl
theorem s_entAt (l:List Ent) (k:Str):PSpec Tryd.prog 75 [.rd .ent l,.s k] (.i .i64 (ixI l (keyIs k))) :=
  pspec_of_vc Γ_good Tryd.func75 rfl Tryd.call75 Tryd.results75 Tryd.ntmps75 (Nat.le_of_ble_eq_true rfl) (w_entAt l k)
theorem w_wout (l:List Ent) (k:Str) (hl1:l.length≤100000000):vc Tryd.prog Γ 24 [0,1,4,5,7,8,9,10,11,17] (Tryd.f87.body.getD .skip) (postK Γ [.tmp 4] (fun v=>v = .rd .ent (withoutE l k))) ⟨argSlots 0 [.rd .ent l,.s k],[]⟩:=by
  intro hl
  refine Exists.intro [(5,5,.ent)] (Exists.intro [] (Exists.intro [] (Exists.intro Nat (Exists.intro (fun i=>i≤l.length) (Exists.intro (fun i=>⟨[(1,.s k),(5,.vec 5 .ent (withoutE (l.take i) k)),(8,.rd .ent l),(9,.i .i64 l.length),(10,.i .i64 i)],[]⟩) (Exists.intro (fun i=>l.length - i) (Exists.intro 0 (And.intro (Nat.zero_le _) (And.intro ?_ ?_)))))))))
  · (repeat' (first | exact trivial | exact Or.inl rfl | exact Or.inr (Or.inl ⟨rfl,_,rfl⟩) | exact Or.inr (Or.inr (Or.inr ⟨_,_,_,rfl,rfl⟩)) | refine And.intro ?_ ?_))
  · rintro i hi
    refine And.intro (fun he=>?_) (fun he=>?_)
    · have hi : i < l.length := by have : (i : Int) < (l.length : Int) := of_decide_eq_true he
                                   omega
      have hg:l.getD (Int.toNat (i:Int)) (dflt .ent) = l[i]:=by rw [Int.toNat_natCast,List.getD_eq_getElem?_getD,List.getElem?_eq_getElem hi]; rfl
      refine And.intro ⟨by omega,by omega⟩ ?_
      refine And.intro (fun hz=>?_) (fun hz=>?_)
      · have hz:keyIs k l[i] = false:=by rw [← hg]; simpa [keyIs] using hz
        rw [hg]
        have hfl:=filter_len (l:=l) (k:=k) (i:=i)
        refine And.intro (show ((withoutE (l.take i) k).length + 1) * 104≤140737488355328 by omega) ?_
        (refine And.intro (rng64 (by omega) (by omega)) ?_)
        refine Exists.intro [(21,5)] (Exists.intro (i + 1) (And.intro hi (And.intro ?_ ?_)))
        · have e:withoutE (l.take i) k++[(l[i].1,(⟨l[i].2.kind,l[i].2.n,l[i].2.f,l[i].2.s,l[i].2.l,l[i].2.e⟩:Val))] = withoutE (l.take (i + 1)) k:=by rw [val_eta]; exact (filter_next hi hz).symm
          (repeat' (first | exact trivial | exact Or.inl rfl | exact Or.inl ((congrArg (AV.vec 5 .ent) e)) | refine And.intro ?_ ?_))
        · show l.length - (i + 1) < l.length - i
          omega
      · have hz:keyIs k l[i] = true:=by rw [← hg]; simpa [keyIs] using hz
        (refine And.intro (rng64 (by omega) (by omega)) ?_)
        refine Exists.intro [] (Exists.intro (i + 1) (And.intro hi (And.intro ?_ ?_)))
        · (repeat' (first | exact trivial | exact Or.inl rfl | exact Or.inl ((congrArg (AV.vec 5 .ent) (filter_skip hi hz).symm)) | refine And.intro ?_ ?_))
        · show l.length - (i + 1) < l.length - i
          omega
    · have hi : i = l.length := by have : ¬ (i : Int) < (l.length : Int) := of_decide_eq_false he
                                   omega
      subst hi
      rw [List.take_length]
      rfl
theorem s_wout (l:List Ent) (k:Str) (hl1:l.length≤100000000):PSpec Tryd.prog 87 [.rd .ent l,.s k] (.rd .ent (withoutE l k)) :=
  pspec_of_vc Γ_good Tryd.func87 rfl Tryd.call87 Tryd.results87 Tryd.ntmps87 (Nat.le_of_ble_eq_true rfl) (w_wout l k hl1)
end
end Go.Proofs.YtmfchbkdakmjhaaDoor
end
section
namespace Go.SX
set_option linter.unusedSectionVars false
set_option linter.unusedVariables false
set_option linter.unusedSimpArgs false
variable [Globs]
open Go.RowKit Go.WideShapes Go.ChangeShapes Go.Deep
inductive VN (n:Nat):Val→Prop
  | mk (a:Val):a.l.length≤n→a.e.length≤n→(∀ x ∈ a.l,VN n x)→(∀ p ∈ a.e,VN n p.2)→VN n a
theorem VN.mono {n m:Nat} (h:n≤m) {a:Val} (ha:VN n a):VN m a:=by
  induction ha with
  | mk a h1 h2 _ _ i1 i2=>exact .mk a (Nat.le_trans h1 h) (Nat.le_trans h2 h) i1 i2
structure Bulk {H:Type} (bk:DataW H→Nat):Prop where
  len:∀ els rest,els.length≤bk (.slice els rest)
  el:∀ els rest,∀ d ∈ els,bk d≤bk (.slice els rest)
  part:∀ ds,∀ d ∈ ds,bk d≤bk (.agg ds)
section
variable {H:Type} {encH:TypeId × Value→H} {P:Program} {W:World} {sp:Nat→Bool} {hd:Bool} {O:Nat→Prop} {bk:DataW H→Nat}
end
end Go.SX
end
section
namespace Go.Proofs.YtmfchbkdakmjhaaDoor
set_option linter.unusedSectionVars false
set_option linter.unusedSimpArgs false
set_option linter.unusedVariables false
open Go Go.SX Go.Vl
set_option maxRecDepth 100000
set_option maxHeartbeats 0
section
variable [G:Globs]
theorem w_own (a:Val) (hl:a.l.length≤100000000) (he:a.e.length≤100000000) (hc:∀ x ∈ a.l,PSpec Tryd.prog 45 [.agg (encVal x)] (.agg (encVal x))) (hp:∀ x ∈ a.e,PSpec Tryd.prog 45 [.agg (encVal x.2)] (.agg (encVal x.2))):vc Tryd.prog Γ 48 [1,2,3,4,6,8,15,16,17,18,29,30,31,32] (Tryd.f45.body.getD .skip) (postK Γ [.cell 2 26] (fun v=>v = .agg (encVal a))) ⟨argSlots 0 [.agg (encVal a)],[]⟩:=by
  refine Exists.intro [.blk [0,1,2,3,4,5]] (And.intro (by kernel_rfl) ?_)
  intro hml
  refine Exists.intro [] (Exists.intro [(1,4,47,.val)] (Exists.intro [] (Exists.intro Nat (Exists.intro (fun i=>i≤a.l.length) (Exists.intro (fun i=>⟨[(1,.pt 1 0),(2,.pt 2 0),(4,.rd .ent a.e),(15,.rd .val a.l),(16,.i .i64 a.l.length),(17,.i .i64 i)],[(1,[.i .i64 a.kind,.i .i64 a.n,.i .u64 a.f,.s a.s,.vec 47 .val (a.l.take i),.nl]),(2,[.i .i64 0,.i .i64 0,.i .u64 0,.s [],.nl,.nl])]⟩) (Exists.intro (fun i=>a.l.length - i) (Exists.intro 0 (And.intro (Nat.zero_le _) (And.intro ?_ ?_)))))))))
  · (repeat' (first | exact trivial | exact Or.inl rfl | exact Or.inr (Or.inl ⟨rfl,_,rfl⟩) | exact Or.inr (Or.inr (Or.inr ⟨_,_,_,rfl,rfl⟩)) | refine And.intro ?_ ?_))
  · rintro i hi
    refine And.intro (fun hz=>?_) (fun hz=>?_)
    · have hi : i < a.l.length := by have : (i : Int) < (a.l.length : Int) := of_decide_eq_true hz
                                     omega
      have hg:a.l.getD (Int.toNat (i:Int)) (dflt .val) = a.l[i]:=by rw [Int.toNat_natCast,List.getD_eq_getElem?_getD,List.getElem?_eq_getElem hi]; rfl
      refine And.intro ⟨by omega,by omega⟩ ?_
      have hs:=hc a.l[i] (List.getElem_mem hi)
      rw [← hg] at hs
      refine Exists.intro [.blk [0,1,2,3,4] [25],.one 5,.take 6,.one 7] (And.intro (by kernel_rfl) ?_)
      refine Exists.intro _ (And.intro (hs) ?_)
      rw [hg]
      refine And.intro (show ((a.l.take i).length + 1) * 88≤140737488355328 by rw [List.length_take]; omega) ?_
      (refine And.intro (rng64 (by omega) (by omega)) ?_)
      have e:a.l.take i++[(⟨a.l[i].kind,a.l[i].n,a.l[i].f,a.l[i].s,a.l[i].l,a.l[i].e⟩:Val)] = a.l.take (i + 1):=by rw [val_eta,List.take_add_one,List.getElem?_eq_getElem hi]; rfl
      refine Exists.intro [(26,47)] (Exists.intro (i + 1) (And.intro hi (And.intro ?_ ?_)))
      · (repeat' (first | exact trivial | exact Or.inl rfl | exact Or.inl ((congrArg (AV.vec 47 .val) e)) | refine And.intro ?_ ?_))
      · show a.l.length - (i + 1) < a.l.length - i
        omega
    · have hi : i = a.l.length := by have : ¬ (i : Int) < (a.l.length : Int) := of_decide_eq_false hz
                                     omega
      subst hi
      rw [List.take_length]
      intro hme
      refine Exists.intro [] (Exists.intro [(1,5,46,.ent)] (Exists.intro [] (Exists.intro Nat (Exists.intro (fun i=>i≤a.e.length) (Exists.intro (fun i=>⟨[(1,.pt 1 0),(2,.pt 2 0),(29,.rd .ent a.e),(30,.i .i64 a.e.length),(31,.i .i64 i)],[(1,[.i .i64 a.kind,.i .i64 a.n,.i .u64 a.f,.s a.s,.vec 47 .val a.l,.vec 46 .ent (a.e.take i)]),(2,[.i .i64 0,.i .i64 0,.i .u64 0,.s [],.nl,.nl])]⟩) (Exists.intro (fun i=>a.e.length - i) (Exists.intro 0 (And.intro (Nat.zero_le _) (And.intro ?_ ?_)))))))))
      · (repeat' (first | exact trivial | exact Or.inl rfl | exact Or.inr (Or.inl ⟨rfl,_,rfl⟩) | exact Or.inr (Or.inr (Or.inr ⟨_,_,_,rfl,rfl⟩)) | refine And.intro ?_ ?_))
      · rintro i hi
        refine And.intro (fun hz=>?_) (fun hz=>?_)
        · have hi : i < a.e.length := by have : (i : Int) < (a.e.length : Int) := of_decide_eq_true hz
                                         omega
          have hg:a.e.getD (Int.toNat (i:Int)) (dflt .ent) = a.e[i]:=by rw [Int.toNat_natCast,List.getD_eq_getElem?_getD,List.getElem?_eq_getElem hi]; rfl
          refine And.intro ⟨by omega,by omega⟩ ?_
          have hs:=hp a.e[i] (List.getElem_mem hi)
          rw [← hg] at hs
          refine Exists.intro [.blk [0,1,2,3,4,5,6,7,8] [43],.one 9,.take 10,.one 11] (And.intro (by kernel_rfl) ?_)
          refine Exists.intro _ (And.intro (hs) ?_)
          rw [hg]
          refine And.intro (show ((a.e.take i).length + 1) * 104≤140737488355328 by rw [List.length_take]; omega) ?_
          (refine And.intro (rng64 (by omega) (by omega)) ?_)
          have e:a.e.take i++[(a.e[i].1,(⟨a.e[i].2.kind,a.e[i].2.n,a.e[i].2.f,a.e[i].2.s,a.e[i].2.l,a.e[i].2.e⟩:Val))] = a.e.take (i + 1):=by rw [val_eta,List.take_add_one,List.getElem?_eq_getElem hi]; rfl
          refine Exists.intro [(44,46)] (Exists.intro (i + 1) (And.intro hi (And.intro ?_ ?_)))
          · (repeat' (first | exact trivial | exact Or.inl rfl | exact Or.inl ((congrArg (AV.vec 46 .ent) e)) | refine And.intro ?_ ?_))
          · show a.e.length - (i + 1) < a.e.length - i
            omega
        · have hi : i = a.e.length := by have : ¬ (i : Int) < (a.e.length : Int) := of_decide_eq_false hz
                                         omega
          subst hi
          rw [List.take_length]
          rfl
theorem s_own (a:Val) (hl:a.l.length≤100000000) (he:a.e.length≤100000000) (hc:∀ x ∈ a.l,PSpec Tryd.prog 45 [.agg (encVal x)] (.agg (encVal x))) (hp:∀ x ∈ a.e,PSpec Tryd.prog 45 [.agg (encVal x.2)] (.agg (encVal x.2))):PSpec Tryd.prog 45 [.agg (encVal a)] (.agg (encVal a)) :=
  pspec_of_vc Γ_good Tryd.func45 rfl Tryd.call45 Tryd.results45 Tryd.ntmps45 (Nat.le_of_ble_eq_true rfl) (w_own a hl he hc hp)
theorem own_spec:∀ (m:Nat) (a:Val),SizeOf.sizeOf a < m→VN 100000000 a→PSpec Tryd.prog 45 [.agg (encVal a)] (.agg (encVal a)):=by
  intro m
  induction m with
  | zero=>intro a h; exact absurd h (Nat.not_lt_zero _)
  | succ m ih =>
    intro a hs ha
    cases ha with
    | mk _ a1 a2 a3 a4 =>
      refine s_own a a1 a2 (fun x hx=>ih x ?_ (a3 x hx)) (fun x hx=>ih x.2 ?_ (a4 x hx))
      · have:=val_sz_l hx; omega
      · have:=val_sz_e hx; omega
theorem s_Own (a:Val) (ha:VN 100000000 a):PSpec Tryd.prog 45 [.agg (encVal a)] (.agg (encVal a)):=own_spec _ a (Nat.lt_succ_self _) ha
theorem w_drop (l:List Ent) (k:Str) (hl1:l.length≤100000000) (hn:∀ p ∈ l,VN 100000000 p.2):vc Tryd.prog Γ 29 [0,1,4,5,7,8,9,10,11,17] (Tryd.f83.body.getD .skip) (postK Γ [.tmp 4] (fun v=>v = .rd .ent (withoutE l k))) ⟨argSlots 0 [.rd .ent l,.s k],[]⟩:=by
  intro hl
  refine Exists.intro [(5,5,.ent)] (Exists.intro [] (Exists.intro [] (Exists.intro Nat (Exists.intro (fun i=>i≤l.length) (Exists.intro (fun i=>⟨[(1,.s k),(5,.vec 5 .ent (withoutE (l.take i) k)),(8,.rd .ent l),(9,.i .i64 l.length),(10,.i .i64 i)],[]⟩) (Exists.intro (fun i=>l.length - i) (Exists.intro 0 (And.intro (Nat.zero_le _) (And.intro ?_ ?_)))))))))
  · (repeat' (first | exact trivial | exact Or.inl rfl | exact Or.inr (Or.inl ⟨rfl,_,rfl⟩) | exact Or.inr (Or.inr (Or.inr ⟨_,_,_,rfl,rfl⟩)) | refine And.intro ?_ ?_))
  · rintro i hi
    refine And.intro (fun he=>?_) (fun he=>?_)
    · have hi : i < l.length := by have : (i : Int) < (l.length : Int) := of_decide_eq_true he
                                   omega
      have hg:l.getD (Int.toNat (i:Int)) (dflt .ent) = l[i]:=by rw [Int.toNat_natCast,List.getD_eq_getElem?_getD,List.getElem?_eq_getElem hi]; rfl
      refine And.intro ⟨by omega,by omega⟩ ?_
      refine And.intro (fun hz=>?_) (fun hz=>?_)
      · have hz:keyIs k l[i] = false:=by rw [← hg]; simpa [keyIs] using hz
        have hs:=s_Own l[i].2 (hn _ (List.getElem_mem hi))
        rw [← hg] at hs
        refine Exists.intro [.blk [0,1,2,3,4,5,6,7] [25],.one 8,.take 9] (And.intro (by kernel_rfl) ?_)
        refine Exists.intro _ (And.intro (hs) ?_)
        rw [hg]
        have hfl:=filter_len (l:=l) (k:=k) (i:=i)
        refine And.intro (show ((withoutE (l.take i) k).length + 1) * 104≤140737488355328 by omega) ?_
        (refine And.intro (rng64 (by omega) (by omega)) ?_)
        refine Exists.intro [(26,5)] (Exists.intro (i + 1) (And.intro hi (And.intro ?_ ?_)))
        · have e:withoutE (l.take i) k++[(l[i].1,(⟨l[i].2.kind,l[i].2.n,l[i].2.f,l[i].2.s,l[i].2.l,l[i].2.e⟩:Val))] = withoutE (l.take (i + 1)) k:=by rw [val_eta]; exact (filter_next hi hz).symm
          (repeat' (first | exact trivial | exact Or.inl rfl | exact Or.inl ((congrArg (AV.vec 5 .ent) e)) | refine And.intro ?_ ?_))
        · show l.length - (i + 1) < l.length - i
          omega
      · have hz:keyIs k l[i] = true:=by rw [← hg]; simpa [keyIs] using hz
        (refine And.intro (rng64 (by omega) (by omega)) ?_)
        refine Exists.intro [] (Exists.intro (i + 1) (And.intro hi (And.intro ?_ ?_)))
        · (repeat' (first | exact trivial | exact Or.inl rfl | exact Or.inl ((congrArg (AV.vec 5 .ent) (filter_skip hi hz).symm)) | refine And.intro ?_ ?_))
        · show l.length - (i + 1) < l.length - i
          omega
    · have hi : i = l.length := by have : ¬ (i : Int) < (l.length : Int) := of_decide_eq_false he
                                   omega
      subst hi
      rw [List.take_length]
      rfl
theorem s_drop (l:List Ent) (k:Str) (hl1:l.length≤100000000) (hn:∀ p ∈ l,VN 100000000 p.2):PSpec Tryd.prog 83 [.rd .ent l,.s k] (.rd .ent (withoutE l k)) :=
  pspec_of_vc Γ_good Tryd.func83 rfl Tryd.call83 Tryd.results83 Tryd.ntmps83 (Nat.le_of_ble_eq_true rfl) (w_drop l k hl1 hn)
end
end Go.Proofs.YtmfchbkdakmjhaaDoor
end
section
namespace Go.Proofs.YtmfchbkdakmjhaaDoor
set_option linter.unusedSectionVars false
set_option linter.unusedSimpArgs false
set_option linter.unusedVariables false
open Go Go.SX Go.Vl
set_option maxRecDepth 100000
set_option maxHeartbeats 0
section
variable [G:Globs]
theorem w_with (l:List Ent) (k:Str) (a:Val) (hl1:l.length≤100000000):VCs Tryd.prog Γ 39 [0,1,5,6,7,23] (Tryd.f86.body.getD .skip) (postK Γ [.tmp 6] (fun v=>v = .rd .ent (putE l k a))) ⟨argSlots 0 [.rd .ent l,.s k,.agg (encVal a)],[]⟩:=by
  refine VCs.seq (by first | exact Γ_good | exact Ctx.good_kp Γ_good _) ?_
  refine VCs.seq (by first | exact Γ_good | exact Ctx.good_kp Γ_good _) ?_
  refine Or.inl (Exists.intro _ (And.intro (s_wout l k hl1) ?_))
  have hml:(withoutE l k).length≤l.length:=List.length_filter_le _ _
  unfold putE
  generalize withoutE l k = m at hml
  refine VCs.seq (by first | exact Γ_good | exact Ctx.good_kp Γ_good _) ?_
  refine VCs.cut (by first | exact Γ_good | exact Ctx.good_kp Γ_good _) Unit (fun _=>True) (fun _=>⟨[(0,.rd .ent m),(1,.s k),(5,.pt 5 0),(7,.i .i64 (m.findIdx (keyGt k):Nat))],[(5,encVal a)]⟩) ?_ ?_
  · refine Exists.intro [] (Exists.intro [] (Exists.intro [] (Exists.intro Nat (Exists.intro (fun i=>i≤m.length∧i≤m.findIdx (keyGt k)) (Exists.intro (fun i=>⟨[(0,.rd .ent m),(1,.s k),(5,.pt 5 0),(7,.i .i64 i)],[(5,encVal a)]⟩) (Exists.intro (fun i=>m.length - i) (Exists.intro 0 (And.intro ⟨Nat.zero_le _,Nat.zero_le _⟩ (And.intro ?_ ?_)))))))))
    · (repeat' (first | exact trivial | exact Or.inl rfl | exact Or.inr (Or.inl ⟨rfl,_,rfl⟩) | exact Or.inr (Or.inr (Or.inr ⟨_,_,_,rfl,rfl⟩)) | refine And.intro ?_ ?_))
    · rintro i ⟨hi,hf⟩
      intro _
      refine And.intro (fun hz=>?_) (fun hz=>?_)
      · have hi : i < m.length := by have : (i : Int) < (m.length : Int) := of_decide_eq_true hz
                                     omega
        have hg:m.getD (Int.toNat (i:Int)) (dflt .ent) = m[i]:=by rw [Int.toNat_natCast,List.getD_eq_getElem?_getD,List.getElem?_eq_getElem hi]; rfl
        refine And.intro ⟨by omega,by omega⟩ ?_
        refine And.intro (fun hq=>?_) (fun hq=>?_)
        · have hq : keyGt k m[i] = false := by
            rw [hg] at hq
            have hq:(Op.bytesLess m[i].1 k || m[i].1 == k) = true:=hq
            rw [keyGt,hq]; rfl
          (refine And.intro (rng64 (by omega) (by omega)) ?_)
          refine Exists.intro [] (Exists.intro (i + 1) (And.intro ⟨hi,ix_miss hi hf hq⟩ (And.intro ?_ ?_)))
          · (repeat' (first | exact trivial | exact Or.inl rfl | exact Or.inr (Or.inl ⟨rfl,_,rfl⟩) | exact Or.inr (Or.inr (Or.inr ⟨_,_,_,rfl,rfl⟩)) | refine And.intro ?_ ?_))
          · show m.length - (i + 1) < m.length - i
            omega
        · have hq : keyGt k m[i] = true := by
            rw [hg] at hq
            have hq:(Op.bytesLess m[i].1 k || m[i].1 == k) = false:=hq
            rw [keyGt,hq]; rfl
          have e:i = m.findIdx (keyGt k):=by
            have:=List.not_of_lt_findIdx (p:=keyGt k) (xs:=m) (i:=i)
            rcases Nat.lt_or_ge i (m.findIdx (keyGt k)) with h1 | h1
            · have:=this h1
              rw [hq] at this
              cases this
            · omega
          refine Exists.intro () (And.intro trivial ?_)
          (repeat' (first | exact trivial | exact Or.inl rfl | exact Or.inl ((congrArg (fun n:Nat=>AV.i .i64 n) e)) | refine And.intro ?_ ?_))
      · have hi : i = m.length := by have : ¬ (i : Int) < (m.length : Int) := of_decide_eq_false hz
                                     omega
        have e:i = m.findIdx (keyGt k):=by
          have:=List.findIdx_le_length (p:=keyGt k) (xs:=m)
          omega
        refine And.intro (fun h9=>Bool.noConfusion h9) (fun _=>?_)
        refine Exists.intro () (And.intro trivial ?_)
        (repeat' (first | exact trivial | exact Or.inl rfl | exact Or.inl ((congrArg (fun n:Nat=>AV.i .i64 n) e)) | refine And.intro ?_ ?_))
  rintro _ _
  have hle:=List.findIdx_le_length (p:=keyGt k) (xs:=m)
  generalize m.findIdx (keyGt k) = j at hle
  refine VCs.of_vc (by first | exact Γ_good | exact Ctx.good_kp Γ_good _) ?_
  refine Exists.intro [.take 0,.take 1,.take 2,.take 4,.take 9,.take 10,.take 11,.tree 4 [3,5,6,7] (.opt 3 (.opt 5 (.opt 6 (.opt 7 .fin .non) .non) .non) (.opt 5 (.opt 3 (.opt 6 (.opt 7 .fin .non) .non) (.opt 6 (.opt 3 (.opt 7 .fin .non) (.opt 7 (.opt 3 .fin .non) .non)) .non)) .non)),.one 8,.one 12,.take 13] (And.intro (by kernel_rfl) ?_)
  refine And.intro ⟨by omega,by omega,by omega⟩ ?_
  refine And.intro ⟨by omega,by omega⟩ ?_
  have hob:(List.drop (Int.toNat 0) (m.take (Int.toNat (j:Int)))).length * 104≤140737488355328:=by
    rw [List.length_drop,List.length_take]
    omega
  refine Exists.intro ⟨[(29,.vec 29 .ent (m.take j)),(33,.vec 33 .ent [(k,⟨a.kind,a.n,a.f,a.s,a.l,a.e⟩)]),(37,.rd .ent ((m.take m.length).drop j))],[]⟩ (And.intro ?_ ?_)
  · repeat' (first | exact trivial | exact hob | exact Or.inl rfl | refine And.intro ?_ ?_)
  rw [List.take_length]
  refine And.intro (show ((m.take j).length + 1) * 104≤140737488355328 by rw [List.length_take]; omega) ?_
  refine And.intro (show ((m.take j++[(k,(⟨a.kind,a.n,a.f,a.s,a.l,a.e⟩:Val))]).length + (m.drop j).length) * 104≤140737488355328 by rw [List.length_append,List.length_take,List.length_drop,List.length_singleton]; omega) ?_
  have e:m.take j++[(k,(⟨a.kind,a.n,a.f,a.s,a.l,a.e⟩:Val))]++m.drop j = m.take j++(k,a)::m.drop j:=by rw [val_eta,List.append_assoc]; rfl
  exact congrArg (AV.rd .ent) e
theorem s_with (l:List Ent) (k:Str) (a:Val) (hl1:l.length≤100000000):PSpec Tryd.prog 86 [.rd .ent l,.s k,.agg (encVal a)] (.rd .ent (putE l k a)) :=
  pspec_of_VCs Γ_good Tryd.func86 rfl Tryd.call86 Tryd.results86 Tryd.ntmps86 (Nat.le_of_ble_eq_true rfl) (w_with l k a hl1) Γ_good
end
end Go.Proofs.YtmfchbkdakmjhaaDoor
end
section
namespace Go.Proofs.YtmfchbkdakmjhaaDoor
set_option linter.unusedSectionVars false
set_option linter.unusedSimpArgs false
set_option linter.unusedVariables false
open Go Go.SX Go.Vl
set_option maxRecDepth 100000
set_option maxHeartbeats 0
section
variable [G:Globs]
end
end Go.Proofs.YtmfchbkdakmjhaaDoor
end
section
namespace Go.SX
set_option linter.unusedSectionVars false
set_option linter.unusedSimpArgs false
set_option linter.unusedVariables false
variable {P:Program}
def spl (cur:Array Value) (o:Nat) (cs:List Value):Array Value:=(cur.toList.take o++cs++cur.toList.drop (o + cs.length)).toArray
theorem spl_size {cur:Array Value} {o:Nat} {cs:List Value} (h:o + cs.length≤cur.size):(spl cur o cs).size = cur.size:=by
  have:cur.toList.length = cur.size:=Array.length_toList
  simp only [spl,List.size_toArray,List.length_append,List.length_take,List.length_drop,this]
  omega
theorem spl_at {cur:Array Value} {o:Nat} {cs:List Value} (h:o + cs.length≤cur.size) (k:Nat):(spl cur o cs)[k]? = if k < o then cur[k]? else if k < o + cs.length then cs[k - o]? else cur[k]?:=by
  have hl:cur.toList.length = cur.size:=Array.length_toList
  rw [spl,List.getElem?_toArray,List.append_assoc]
  have ht:(cur.toList.take o).length = o:=by rw [List.length_take,hl]; omega
  by_cases h1:k < o
  · rw [if_pos h1,List.getElem?_append_left (by omega),List.getElem?_take,if_pos h1,Array.getElem?_toList]
  · rw [if_neg h1,List.getElem?_append_right (by omega),ht]
    by_cases h2:k < o + cs.length
    · rw [if_pos h2,List.getElem?_append_left (by omega)]
    · rw [if_neg h2,List.getElem?_append_right (by omega),List.getElem?_drop,Array.getElem?_toList]
      congr 1
      omega
theorem run_copyR (w : World) (dT sT ty elem : TypeId) (z g o dLen dCap : Nat) (a : Addr) (sLen sCap : Nat) (cs : List Value) (cur : Array Value) (e : TypeId)
    (hu:P.underlying dT = some (.slice elem)) (hs:∀ w,(Go.sizeOf elem).run P w = .ok z w) (hn:cs.length = Nat.min sLen dLen * z)
    (hsrc:∀ j v,cs[j]? = some v→w.cell? (a.add j) = some v) (hh:w.heap[g]? = some (.cells cur e (0,0))) (hfit:o + cs.length≤cur.size) (h1:∀ v ∈ cs,v.oneCell' = true) :
    (Builtin.copy_ #[dT,sT] ty #[.slice (some ⟨g,o,none⟩) dLen dCap,.slice (some a) sLen sCap]).run P w = .ok (goInt (Nat.min sLen dLen)) (w.setRow g (spl cur o cs)):=by
  have hl:=run_loadCells_list (P:=P) w a cs hsrc
  have hst:=run_storeCells_at P g o e cs 0 cur w hh (by simpa using hfit) h1
  simp only [Nat.add_zero] at hst
  simp [Builtin.copy_,run_underlying hu,Builtin.lenOf,Builtin.firstCells,hs,← hn,hl,hst,spl]
section
variable [Globs]
theorem All2.take {α γ:Type} {R:α→γ→Prop} {a:List α} {b:List γ} (h:All2 R a b) (n:Nat):All2 R (a.take n) (b.take n):=by
  refine ⟨by rw [List.length_take,List.length_take,h.1],fun j x y hx hy=>?_⟩
  rw [List.getElem?_take] at hx hy
  split at hx
  · rename_i hj
    rw [if_pos hj] at hy
    exact h.2 j x y hx hy
  · cases hx
theorem All2.drop {α γ:Type} {R:α→γ→Prop} {a:List α} {b:List γ} (h:All2 R a b) (n:Nat):All2 R (a.drop n) (b.drop n):=by
  refine ⟨by rw [List.length_drop,List.length_drop,h.1],fun j x y hx hy=>?_⟩
  rw [List.getElem?_drop] at hx hy
  exact h.2 _ x y hx hy
theorem flat_take (τ:Ty) (l:List (den τ)) (i:Nat) (hi:i≤l.length):flat τ (l.take i) = (flat τ l).take (i * esz τ):=by
  have h:=flat_append τ (l.take i) (l.drop i)
  rw [List.take_append_drop] at h
  rw [h,List.take_left' (by rw [flat_length,List.length_take,Nat.min_eq_left hi])]
theorem flat_drop (τ:Ty) (l:List (den τ)) (i:Nat) (hi:i≤l.length):flat τ (l.drop i) = (flat τ l).drop (i * esz τ):=by
  have h:=flat_append τ (l.take i) (l.drop i)
  rw [List.take_append_drop] at h
  rw [h,List.drop_left' (by rw [flat_length,List.length_take,Nat.min_eq_left hi])]
theorem ins_cells {O : Nat → Prop} {w : World} {τ : Ty} {l : List (den τ)} {x : den τ} {us vs : List Value} (h : All2 (Im O w) (flat τ l) us) (h2 : All2 (Im O w) (flat τ [x]) vs) (i : Nat) (hi : i ≤ l.length) :
    All2 (Im O w) (flat τ (l.take i++x::l.drop i)) (us.take (i * esz τ)++(vs++us.drop (i * esz τ))):=by
  rw [flat_append,show x::l.drop i = [x]++l.drop i from rfl,flat_append,flat_take τ l i hi,flat_drop τ l i hi]
  exact (h.take _).append (h2.append (h.drop _))
theorem row_pre {row : Array Value} {A B C : List Value} (h1 : ∀ j, j < A.length → row[j]? = A[j]?) (h2 : ∀ j, j < B.length → row[A.length + j]? = B[j]?) (h3 : ∀ j, j < C.length → row[A.length + B.length + j]? = C[j]?) :
    ∀ (j:Nat) u,(A++(B++C))[j]? = some u→row[j]? = some u:=by
  intro j u hj
  by_cases c1:j < A.length
  · rw [List.getElem?_append_left c1] at hj
    rw [h1 j c1,hj]
  · rw [List.getElem?_append_right (by omega)] at hj
    by_cases c2:j - A.length < B.length
    · rw [List.getElem?_append_left c2] at hj
      have:=h2 _ c2
      rw [show A.length + (j - A.length) = j by omega] at this
      rw [this,hj]
    · rw [List.getElem?_append_right (by omega)] at hj
      have c3:j - A.length - B.length < C.length:=(List.getElem?_eq_some_iff.1 hj).1
      have:=h3 _ c3
      rw [show A.length + B.length + (j - A.length - B.length) = j by omega] at this
      rw [this,hj]
theorem vec_end {F : Fr} {X : Nat → Prop} {N : Nat} {s : St} {β : Nat → Option Nat} {a : Act} {w w' : World} (hN : 1 ≤ N) (hI : InvB w F X N s β a w) {id g c : Nat} {τ : Ty} {L : List (den τ)} {cur : Array Value} {e : TypeId} {us : List Value}
    (hstp:Stp (fun k=>k = g) w w') (hg:(Nm s id∧β id = some g)∨w.heap.size≤g) (hh:w'.heap[g]? = some (.cells cur e (0,0))) (hlc:L.length≤c) (hc:c≤maxLen) (hsz:cur.size = c * esz τ)
    (hus:All2 (Im (Own X s β) w) (flat τ L) us) (hpre:∀ (j:Nat) u,us[j]? = some u→cur[j]? = some u) (ha:a.defers = []:=by rfl) :
    InvB w F X 1 ⟨[(0,.vec id τ L)],[]⟩ (fun n=>if n = id then some g else none) ⟨#[.slice (some ⟨g,0,none⟩) L.length c],[]⟩ w':=by
  have hNm:∀ n,Nm ⟨[(0,.vec id τ L)],[]⟩ n→n = id:=by
    rintro n (⟨cs,h⟩ | ⟨m,h⟩ | ⟨b,cs,h,_⟩)
    · cases h
    · simp only [look] at h
      cases hb:Nat.beq 0 m with
      | true=>rw [hb] at h; simpa [ids,ids0] using h
      | false=>rw [hb] at h; simp [ids,ids0] at h
    · cases h
  have hO:∀ k,Own X ⟨[(0,.vec id τ L)],[]⟩ (fun n=>if n = id then some g else none) k→X k∨k = g:=by
    rintro k (h | ⟨n,h1,h2⟩)
    · exact .inl h
    · have:=hNm n h1
      subst this
      simp only [if_true] at h2
      injection h2 with h2
      exact .inr h2.symm
  have hgo:∀ k,k < w.heap.size→k = g→Own X s β k:=by
    rintro k hk rfl
    rcases hg with ⟨h1,h2⟩ | h1
    · exact .inr ⟨id,h1,h2⟩
    · omega
  have hlt:g < w'.heap.size:=(Array.getElem?_eq_some_iff.1 hh).1
  have hown:w.heap.size≤g∨F.own g:=by
    rcases hg with ⟨h1,h2⟩ | h1
    · exact (hI.own id g h1 h2).2
    · exact .inl h1
  refine ⟨hstp.mono (fun k hk e=>?_),fun n=>?_,rfl,fun n cs h=>(by cases h),fun n m k hn hm _ _=>(hNm n hn).trans (hNm m hm).symm,fun n k hn hk=>?_,ha.symm.trans hI.defers,hI.ext2,fun n cs k h=>(by cases h),fun n hn=>hI.pinN n (by omega),hI.gl⟩
  · rcases hown with h | h
    · omega
    · rw [e]; exact h
  · show Rel _ _ _ (look [(0,.vec id τ L)] n) _
    simp only [look]
    cases hb:Nat.beq 0 n with
    | true =>
      have:=Nat.eq_of_beq_eq_true hb
      subst this
      refine vec_of (β:=fun n=>if n = id then some g else none) (d:=id) (g:=g) (if_pos rfl) hh hlc hc hsz (hus.mono fun _ _ _ _ him=>him.step hstp hgo fun k hk ho=>?_) hpre
      rcases hO k ho with h | h
      · exact .inl h
      · exact hgo k hk h
    | false=>exact Rel.x
  · have:=hNm n hn
    subst this
    simp only [if_true] at hk
    injection hk with hk
    subst hk
    exact ⟨hlt,hown⟩
theorem vec_one {O:Nat→Prop} {w:World} {τ:Ty} {l:List (den τ)} {cur:Array Value} (h:All2 (Im O w) (flat τ l) (cur.toList.take (l.length * esz τ))):∀ v ∈ cur.toList.take (l.length * esz τ),v.oneCell' = true:=by
  intro v hv
  obtain ⟨j,hj,rfl⟩:=List.getElem_of_mem hv
  have hj':j < (flat τ l).length:=by rw [h.1]; exact hj
  exact plain_one (h.2 j _ _ (List.getElem?_eq_getElem hj') (List.getElem?_eq_getElem hj)) (flat_plain (List.getElem_mem hj'))
end
end Go.SX
end
section
namespace Go.Proofs.YtmfchbkdakmjhaaDoor
set_option linter.unusedSectionVars false
set_option linter.unusedSimpArgs false
set_option linter.unusedVariables false
open Go Go.SX Go.RowKit Go.Lib
set_option maxRecDepth 100000
set_option maxHeartbeats 4000000
theorem ins_szE (w:World):(Go.sizeOf 113).run Tryd.prog w = .ok 7 w:=letI:Globs:=⟨[]⟩; elem_sz ti113_ok (τ:=.ent) rfl w
theorem ins_ovE (w : World) (g vb o m vc lb cb : Nat) (cur cur2 : Array Value) (e e2 : TypeId) (hvb : vb ≠ g) (hg : w.heap[g]? = some (.cells cur e (0, 0))) (hv : w.heap[vb]? = some (.cells cur2 e2 (0, 0))) (hk : cur.size ≠ 0) :
    (callFunc 160 #[.slice (some ⟨vb,0,none⟩) m vc,.slice (some ⟨g,o,none⟩) lb cb]).run Tryd.prog w = .ok (.value (.bool false)) w:=by
  rw [run_callFunc_extern Tryd.func160 (by kernel_rfl) (by kernel_rfl) (by kernel_rfl) (e := Extern.SlicesOverlaps.overlaps #[24, 24] #[4]) (by kernel_rfl),
      Lib.run_overlaps_apart w 24 4 113 Tryd.underlying24 7 ins_szE ⟨vb,0,none⟩ ⟨g,o,none⟩ m vc lb cb hvb e2 e cur2.size cur.size (by simp [World.shape?,hv]) (by simp [World.shape?,hg]) hk (by simp [World.frozen?,hv]) (by simp [World.frozen?,hv])]
  rfl
theorem ins_shiftE (g n c i vb m vc : Nat) (cur cur2 : Array Value) (e e2 : TypeId) (w : World) (hi : i < n) (hm : 0 < m) (hroom : n + m ≤ c) (hc63 : c ≤ 9223372036854775807) (hvb : vb ≠ g)
    (hg:w.heap[g]? = some (.cells cur e (0,0))) (hcs:cur.size = c * 7) (hv:w.heap[vb]? = some (.cells cur2 e2 (0,0))) (hcs2:cur2.size = vc * 7) (hvc:m≤vc)
    (h1c:∀ v ∈ cur.toList.take (n * 7),v.oneCell' = true) (h1v:∀ v ∈ cur2.toList.take (m * 7),v.oneCell' = true) :
    Calls Tryd.prog 124 #[.slice (some ⟨g,0,none⟩) n c,.int .i64 i,.slice (some ⟨vb,0,none⟩) m vc] w fun e w' =>
      e = .returned (.slice (some ⟨g,0,none⟩) (n + m) c)∧w' = (w.drew.setRow g (spl cur ((i + m) * 7) ((cur.toList.take (n * 7)).drop (i * 7)))).setRow g (spl (spl cur ((i + m) * 7) ((cur.toList.take (n * 7)).drop (i * 7))) (i * 7) (cur2.toList.take (m * 7))):=by
  have mixed:Tryd.prog.follows .mixedOrders = true:=by kernel_rfl
  have hz1:¬ ((m:Int) = 0):=by omega
  have hz2:¬ ((i:Int) = (n:Int)):=by omega
  have hw1:IntKind.i64.wrap ((i:Int) + (m:Int)) = (i:Int) + (m:Int):=by rw [IntKind.wrap_i64]; omega
  have hb1:(0:Int)≤(i:Int) + (m:Int):=by omega
  have hin:i≤n:=by omega
  have htn:((i:Int) + (m:Int)).toNat = i + m:=by omega
  have hb2:¬ (c = i + m):=by omega
  have hb3:(i:Int)≤(n:Int) + (m:Int):=by omega
  have hb4:¬ (c = i):=by omega
  have hov:∀ lb cb,(callFunc 160 #[.slice (some ⟨vb,0,none⟩) m vc,.slice (some ⟨g,(i + m) * 7,none⟩) lb cb]).run Tryd.prog w = .ok (.value (.bool false)) w:=fun lb cb =>
    ins_ovE w g vb _ m vc lb cb cur cur2 e e2 hvb hg hv (by omega)
  have hl:cur.toList.length = cur.size:=Array.length_toList
  have hl2:cur2.toList.length = cur2.size:=Array.length_toList
  have hdl:((cur.toList.take (n * 7)).drop (i * 7)).length = (n - i) * 7:=by rw [List.length_drop,List.length_take,hl]; omega
  have htl:(cur2.toList.take (m * 7)).length = m * 7:=by rw [List.length_take,hl2]; omega
  obtain ⟨r1,hr1⟩:∃ r1,r1 = spl cur ((i + m) * 7) ((cur.toList.take (n * 7)).drop (i * 7)):=⟨_,rfl⟩
  have hfit:(i + m) * 7 + ((cur.toList.take (n * 7)).drop (i * 7)).length≤cur.size:=by rw [hdl]; omega
  have hr1s:r1.size = cur.size:=by rw [hr1]; exact spl_size hfit
  have hcp1:∀ ty dc sc,(Builtin.copy_ #[24,24] ty #[.slice (some ⟨g,(i + m) * 7,none⟩) (n + m - (i + m)) dc,.slice (some ⟨g,i * 7,none⟩) (n + m - i) sc]).run Tryd.prog w.drew = .ok (goInt ((n - i:Nat):Int)) (w.drew.setRow g r1):=fun ty dc sc=>by
    have hmin:Nat.min (n + m - i) (n + m - (i + m)) = n - i:=by show min _ _ = _; omega
    have:=run_copyR w.drew 24 24 ty 113 7 g ((i + m) * 7) (n + m - (i + m)) dc ⟨g,i * 7,none⟩ (n + m - i) sc ((cur.toList.take (n * 7)).drop (i * 7)) cur e Tryd.underlying24 ins_szE (by rw [hdl,hmin])
      (fun j v hj=>by
        rw [Addr.add_lit,cell_of_row w.drew g _ cur e (0,0) hg]
        rw [List.getElem?_drop,List.getElem?_take] at hj
        split at hj
        · simpa using hj
        · cases hj) hg hfit (fun v hv=>h1c v (List.mem_of_mem_drop hv))
    rw [hmin,← hr1] at this
    exact this
  have hcp2:∀ (W:World),(∀ k:Nat,W.heap[k]? = (w.drew.setRow g r1).heap[k]?)→∀ ty dc,(Builtin.copy_ #[24,24] ty #[.slice (some ⟨g,i * 7,none⟩) (n + m - i) dc,.slice (some ⟨vb,0,none⟩) m vc]).run Tryd.prog W = .ok (goInt ((m:Nat):Int)) (W.setRow g (spl r1 (i * 7) (cur2.toList.take (m * 7)))):=fun W hW ty dc=>by
    have hmin:Nat.min m (n + m - i) = m:=by show min _ _ = _; omega
    have hvW:W.heap[vb]? = some (.cells cur2 e2 (0,0)):=by rw [hW,setRow_other _ _ _ _ hvb]; exact hv
    have hgW:W.heap[g]? = some (.cells r1 e (0,0)):=by rw [hW]; exact setRow_heap w.drew g cur r1 e (0,0) hg
    have:=run_copyR W 24 24 ty 113 7 g (i * 7) (n + m - i) dc ⟨vb,0,none⟩ m vc (cur2.toList.take (m * 7)) r1 e Tryd.underlying24 ins_szE (by rw [htl,hmin])
      (fun j v hj=>by
        rw [Addr.add_lit,cell_of_row W vb _ cur2 e2 (0,0) hvW,Nat.zero_add]
        rw [List.getElem?_take] at hj
        split at hj
        · simpa using hj
        · cases hj) hgW (by rw [htl,hr1s]; omega) h1v
    rw [hmin] at this
    exact this
  rw [← hr1]
  clear hr1 hr1s h1c h1v hcs hcs2 hg hv hfit hl hl2 hdl htl
  go_enter Tryd.func124,Tryd.ntmps124
  go_wp2_with (simp only [hov])
  go_region_law_o (refine step_copy_runI rfl _ _ 24 24 rfl _ _ (by simp [Act.eval,Act.put]) (by simp [Act.eval,Act.put]) (hcp1 _ _ _) ?_)
  go_wp2_with (at_builtin; refine wpList_copy_runI _ rfl _ _ 24 24 rfl _ _ rfl rfl (hcp2 _ (fun _=>rfl) _ _) ?_)
  go_ret
  first | exact ⟨rfl,rfl⟩ | exact ⟨trivial,rfl⟩
theorem ins_end_roomE (g n c vb m vc : Nat) (cur cur2 : Array Value) (e e2 : TypeId) (w : World) (hm : 0 < m) (hroom : n + m ≤ c) (hc63 : c ≤ 9223372036854775807) (hvb : vb ≠ g)
    (hg:w.heap[g]? = some (.cells cur e (0,0))) (hcs:cur.size = c * 7) (hv:w.heap[vb]? = some (.cells cur2 e2 (0,0))) (hcs2:cur2.size = vc * 7) (hvc:m≤vc)
    (h1c:∀ v ∈ cur.toList.take (n * 7),v.oneCell' = true) (h1v:∀ v ∈ cur2.toList.take (m * 7),v.oneCell' = true) (hbig:(n + m) * 104≤140737488355328) :
    Calls Tryd.prog 124 #[.slice (some ⟨g,0,none⟩) n c,.int .i64 n,.slice (some ⟨vb,0,none⟩) m vc] w fun e w' =>
      e = .returned (.slice (some ⟨g,0,none⟩) (n + m) c)∧w' = w.setRow g (spl cur (n * 7) (cur2.toList.take (m * 7))):=by
  letI:Globs:=⟨[]⟩
  have mixed:Tryd.prog.follows .mixedOrders = true:=by kernel_rfl
  have hz1:¬ ((m:Int) = 0):=by omega
  have hl:cur.toList.length = cur.size:=Array.length_toList
  have hl2:cur2.toList.length = cur2.size:=Array.length_toList
  have htl:(cur2.toList.take (m * 7)).length = m * 7:=by rw [List.length_take,hl2]; omega
  have hrun:∀ ty,(Builtin.append_ #[24,24] ty #[.slice (some ⟨g,0,none⟩) n c,.slice (some ⟨vb,0,none⟩) m vc]).run Tryd.prog w = .ok (.slice (some ⟨g,0,none⟩) (n + m) c) (w.setRow g (spl cur (n * 7) (cur2.toList.take (m * 7)))):=fun ty=>by
    have hst:=run_storeCells_at Tryd.prog g (n * 7) e (cur2.toList.take (m * 7)) 0 cur w hg (by rw [htl]; omega) h1v
    simp only [Nat.add_zero] at hst
    refine (run_append_gen (w:=w) Tryd.underlying24 Tryd.underlying24 ti113_ok (τ:=.ent) rfl ty (A:=some ⟨g,0,none⟩) (A2:=some ⟨vb,0,none⟩) (n:=n) (cap:=c) (m:=m) (c:=vc) (olds:=cur.toList.take (n * 7)) (news:=cur2.toList.take (m * 7)) (fun w' hw=>?_) (fun w' hw=>?_) hbig (by unfold maxLen; omega)).1 hroom _ ?_
    · exact run_firstCells_some w' 7 n ⟨g, 0, none⟩ n c _ (by rw [List.length_take, hl]; omega) (fun j v hj => by
        rw [Addr.add_lit,cell_of_row w' g _ cur e (0,0) (by rw [hw]; exact hg),Nat.zero_add]
        rw [List.getElem?_take] at hj
        split at hj
        · simpa using hj
        · cases hj)
    · exact run_firstCells_some w' 7 m ⟨vb, 0, none⟩ m vc _ htl (fun j v hj => by
        rw [Addr.add_lit,cell_of_row w' vb _ cur2 e2 (0,0) (by rw [hw]; exact hv),Nat.zero_add]
        rw [List.getElem?_take] at hj
        split at hj
        · simpa using hj
        · cases hj)
    · show (storeCells ((⟨g,0,none⟩:Addr).add (n * 7)) _).run _ _ = _
      rw [Addr.add_lit,Nat.zero_add]
      exact hst
  clear h1c h1v hg hv hcs hcs2 hl hl2 htl
  go_enter Tryd.func124,Tryd.ntmps124
  go_wp2_with (at_builtin; refine Lib.wpList_append_run _ rfl _ _ _ _ rfl _ _ rfl rfl _ _ (hrun _) ?_)
  go_ret
  exact ⟨rfl,rfl⟩
theorem ins_end_growE (base : Option Addr) (n c vb m vc : Nat) (cs : List Value) (cur2 : Array Value) (e2 : TypeId) (w : World) (hm : 0 < m) (hnc : n ≤ c) (hroom : c < n + m)
    (hcl:cs.length = n * 7) (hcs:∀ w':World,w'.heap = w.heap→(Builtin.firstCells 7 n (.slice base n c)).run Tryd.prog w' = .ok cs.toArray w') (hv:w.heap[vb]? = some (.cells cur2 e2 (0,0))) (hcs2:cur2.size = vc * 7) (hvc:m≤vc)
    (h1v:∀ v ∈ cur2.toList.take (m * 7),v.oneCell' = true) (hnil:base = none→n = 0∧c = 0) (hbig:(n + m) * 104≤140737488355328) :
    Calls Tryd.prog 124 #[.slice base n c,.int .i64 n,.slice (some ⟨vb,0,none⟩) m vc] w fun e w' =>
      ∃ z:Value,z.cells = ti113.zero.toArray∧e = .returned (.slice (some ⟨w.heap.size,0,none⟩) (n + m) (grownCap w (n + m) c 113)) ∧
      w' = w.drew.alloc (.cells (cs.toArray++(cur2.toList.take (m * 7)).toArray++Builtin.zeroCells z.cells (grownCap w (n + m) c 113 - (n + m))) 113):=by
  letI:Globs:=⟨[]⟩
  have mixed:Tryd.prog.follows .mixedOrders = true:=by kernel_rfl
  have hz1:¬ ((m:Int) = 0):=by omega
  have hl2:cur2.toList.length = cur2.size:=Array.length_toList
  have htl:(cur2.toList.take (m * 7)).length = m * 7:=by rw [List.length_take,hl2]; omega
  have hrun : ∃ z : Value, z.cells = ti113.zero.toArray ∧ ∀ ty, (Builtin.append_ #[24, 24] ty #[.slice base n c, .slice (some ⟨vb, 0, none⟩) m vc]).run Tryd.prog w =
      .ok (.slice (some ⟨w.heap.size,0,none⟩) (n + m) (grownCap w (n + m) c 113)) (w.drew.alloc (.cells (cs.toArray++(cur2.toList.take (m * 7)).toArray++Builtin.zeroCells z.cells (grownCap w (n + m) c 113 - (n + m))) 113)):=by
    have h := fun ty => (run_append_gen (w := w) Tryd.underlying24 Tryd.underlying24 ti113_ok (τ := .ent) rfl ty (A := base) (A2 := some ⟨vb, 0, none⟩) (n := n) (cap := c) (m := m) (c := vc) (olds := cs) (news := cur2.toList.take (m * 7)) (fun w' hw => hcs w' hw) (fun w' hw => run_firstCells_some w' 7 m ⟨vb, 0, none⟩ m vc _ htl (fun j v hj => by
        rw [Addr.add_lit,cell_of_row w' vb _ cur2 e2 (0,0) (by rw [hw]; exact hv),Nat.zero_add]
        rw [List.getElem?_take] at hj
        split at hj
        · simpa using hj
        · cases hj)) hbig (by unfold maxLen; omega)).2 hroom
    obtain ⟨z,hz,_⟩:=h 24
    refine ⟨z,hz,fun ty=>?_⟩
    obtain ⟨z',hz',h'⟩:=h ty
    rw [hz,← hz']
    exact h'
  obtain ⟨z,hz,hrun⟩:=hrun
  obtain ⟨G,hG⟩:∃ G,G = grownCap w (n + m) c 113:=⟨_,rfl⟩
  rw [← hG] at hrun ⊢
  obtain ⟨W1,hW1⟩:∃ W1,W1 = w.drew.alloc (.cells (cs.toArray++(cur2.toList.take (m * 7)).toArray++Builtin.zeroCells z.cells (G - (n + m))) 113):=⟨_,rfl⟩
  rw [← hW1] at hrun
  refine Calls.mono (R:=fun e w'=>e = .returned (.slice (some ⟨w.heap.size,0,none⟩) (n + m) G)∧w' = W1) ?_ (fun e w' h=>⟨z,hz,h.1,h.2.trans hW1⟩)
  clear h1v hv hcs2 hl2 htl hcs hW1 hG hz
  cases base with
  | none =>
    obtain ⟨h0,h0'⟩:=hnil rfl
    subst h0 h0'
    go_enter Tryd.func124,Tryd.ntmps124
    go_wp2_with (at_builtin; refine Lib.wpList_append_run _ rfl _ _ _ _ rfl _ _ rfl rfl _ _ (hrun _) ?_)
    go_ret
    exact ⟨rfl,rfl⟩
  | some a =>
    obtain ⟨ab,ao,asp⟩:=a
    go_enter Tryd.func124,Tryd.ntmps124
    go_wp2_with (at_builtin; refine Lib.wpList_append_run _ rfl _ _ _ _ rfl _ _ rfl rfl _ _ (hrun _) ?_)
    all_goals (go_ret; exact ⟨rfl,rfl⟩)
theorem ins_growE (g n c i vb m vc : Nat) (cur cur2 : Array Value) (e e2 : TypeId) (w : World) (hi : i < n) (hm : 0 < m) (hnc : n ≤ c) (hroom : c < n + m)
    (hg:w.heap[g]? = some (.cells cur e (0,0))) (hcs:cur.size = c * 7) (hv:w.heap[vb]? = some (.cells cur2 e2 (0,0))) (hcs2:cur2.size = vc * 7) (hvc:m≤vc)
    (h1c:∀ v ∈ cur.toList.take (n * 7),v.oneCell' = true) (h1v:∀ v ∈ cur2.toList.take (m * 7),v.oneCell' = true) (hbig:(n + m) * 104≤140737488355328) :
    Calls Tryd.prog 124 #[.slice (some ⟨g,0,none⟩) n c,.int .i64 i,.slice (some ⟨vb,0,none⟩) m vc] w fun e' w' =>
      ∃ (row:Array Value) (W:World),row.size = grownCap w (n + m) c 113 * 7∧(∀ j,j < i * 7→row[j]? = cur[j]?) ∧
      e' = .returned (.slice (some ⟨w.heap.size,0,none⟩) (n + m) (grownCap w (n + m) c 113))∧W.heap = (w.drew.alloc (.cells row 113)).heap∧W.os = w.os∧W.tape = w.tape∧W.output = w.output ∧
      w' = (W.setRow w.heap.size (spl row (i * 7) (cur2.toList.take (m * 7)))).drew.setRow w.heap.size (spl (spl row (i * 7) (cur2.toList.take (m * 7))) ((i + m) * 7) ((cur.toList.take (n * 7)).drop (i * 7))):=by
  letI:Globs:=⟨[]⟩
  have mixed:Tryd.prog.follows .mixedOrders = true:=by kernel_rfl
  have hz1:¬ ((m:Int) = 0):=by omega
  have hz2:¬ ((i:Int) = (n:Int)):=by omega
  have hz3:(c:Int) < (n:Int) + (m:Int):=by omega
  have hbw:g < w.heap.size:=(Array.getElem?_eq_some_iff.1 hg).1
  have hvw:vb < w.heap.size:=(Array.getElem?_eq_some_iff.1 hv).1
  have hkk:(n:Int) + (m:Int) - (i:Int) = ((n + m - i:Nat):Int):=by omega
  have hik:i + (n + m - i) = n + m:=by omega
  have hl:cur.toList.length = cur.size:=Array.length_toList
  have hl2:cur2.toList.length = cur2.size:=Array.length_toList
  have hdl:((cur.toList.take (n * 7)).drop (i * 7)).length = (n - i) * 7:=by rw [List.length_drop,List.length_take,hl]; omega
  have htl:(cur2.toList.take (m * 7)).length = m * 7:=by rw [List.length_take,hl2]; omega
  obtain ⟨i0,z,hi0,hi1,hi2,hi3,hi4⟩:=ti113_ok.info
  have hzl:z.cells.size = 7:=by rw [hi4]; rfl
  have hold:(Builtin.firstCells i0.size i (.slice (some ⟨g,0,none⟩) i c)).run Tryd.prog w.drew = .ok (cur.toList.take (i * 7)).toArray w.drew:=by
    rw [hi1]
    exact run_firstCells_some w.drew 7 i ⟨g, 0, none⟩ i c _ (by rw [List.length_take, hl]; omega) (fun j v hj => by
        rw [Addr.add_lit,cell_of_row w.drew g _ cur e (0,0) hg,Nat.zero_add]
        rw [List.getElem?_take] at hj
        split at hj
        · simpa using hj
        · cases hj)
  have hib:i0.bytes = 104:=hi2
  have his:i0.size = 7:=hi1
  have hrz : ∀ ty, (Builtin.append_ #[24, 3] ty #[.slice (some ⟨g, 0, none⟩) i c, .int .i64 ((n : Int) + (m : Int) - (i : Int))]).run Tryd.prog w =
      .ok (.slice (some ⟨w.heap.size,0,none⟩) (n + m) (grownCap w (n + m) c 113)) (w.drew.alloc (.cells ((cur.toList.take (i * 7)).toArray++Builtin.zeroCells z.cells (n + m - i)++Builtin.zeroCells z.cells (grownCap w (n + m) c 113 - (n + m))) 113)):=fun ty=>by
    have h:=Lib.run_append_grow_zeros w 24 3 ty 113 i0 z .i64 .i64 Tryd.underlying24 Tryd.underlying3 hi0 hi3 (some ⟨g,0,none⟩) i c _ hold (n + m - i) (by omega) (by omega) (by omega) (by omega) (by rw [hib]; omega) (by rw [hib,hik]; exact growslice_fits hroom hbig)
    rw [hik] at h
    rw [hkk]
    exact h
  obtain ⟨G,hG⟩:∃ G,G = grownCap w (n + m) c 113:=⟨_,rfl⟩
  obtain ⟨ROW,hROW⟩:∃ ROW:Array Value,ROW = (cur.toList.take (i * 7)).toArray++Builtin.zeroCells z.cells (n + m - i)++Builtin.zeroCells z.cells (G - (n + m)):=⟨_,rfl⟩
  rw [← hG] at hrz ⊢
  rw [← hROW] at hrz
  have hGn:n + m≤G:=by rw [hG]; exact grownCap_ge w _ _ _
  have hG63:G≤9223372036854775807:=by
    have:=grownCap_le_maxLen w (n + m) c 113 (by unfold maxLen; omega)
    rw [← hG] at this
    unfold maxLen at this
    omega
  have hRs:ROW.size = G * 7:=by
    rw [hROW]
    simp only [Array.size_append,List.size_toArray,size_zeroCells,hzl,List.length_take,hl]
    omega
  have hRa:∀ j,j < i * 7→ROW[j]? = cur[j]?:=fun j hj=>by
    rw [hROW,Array.append_assoc,Array.getElem?_append_left (by simp only [List.size_toArray,List.length_take,hl]; omega),List.getElem?_toArray,List.getElem?_take,if_pos hj,Array.getElem?_toList]
  obtain ⟨W1,hW1⟩:∃ W1,W1 = w.drew.alloc (.cells ROW 113):=⟨_,rfl⟩
  have hWN:W1.heap[w.heap.size]? = some (.cells ROW 113 (0,0)):=by rw [hW1]; exact heap_alloc_new w.drew _
  have hWo:∀ k,k < w.heap.size→W1.heap[k]? = w.heap[k]?:=fun k hk=>by rw [hW1]; exact (Stp.alloc w.drew _).block k hk (fun h=>h)
  rw [← hW1] at hrz
  have hcpA:∀ (W:World),(∀ k:Nat,W.heap[k]? = W1.heap[k]?)→∀ ty dc,(Builtin.copy_ #[24,24] ty #[.slice (some ⟨w.heap.size,i * 7,none⟩) (n + m - i) dc,.slice (some ⟨vb,0,none⟩) m vc]).run Tryd.prog W = .ok (goInt ((m:Nat):Int)) (W.setRow w.heap.size (spl ROW (i * 7) (cur2.toList.take (m * 7)))):=fun W hW ty dc=>by
    have hmin:Nat.min m (n + m - i) = m:=by show min _ _ = _; omega
    have hvW:W.heap[vb]? = some (.cells cur2 e2 (0,0)):=by rw [hW,hWo _ hvw]; exact hv
    have:=run_copyR W 24 24 ty 113 7 w.heap.size (i * 7) (n + m - i) dc ⟨vb,0,none⟩ m vc (cur2.toList.take (m * 7)) ROW 113 Tryd.underlying24 ins_szE (by rw [htl,hmin])
      (fun j v hj=>by
        rw [Addr.add_lit,cell_of_row W vb _ cur2 e2 (0,0) hvW,Nat.zero_add]
        rw [List.getElem?_take] at hj
        split at hj
        · simpa using hj
        · cases hj) (by rw [hW]; exact hWN) (by rw [htl,hRs]; omega) h1v
    rw [hmin] at this
    exact this
  have hRs2:(spl ROW (i * 7) (cur2.toList.take (m * 7))).size = G * 7:=by rw [spl_size (by rw [htl,hRs]; omega),hRs]
  have hcpB:∀ (W:World),(∀ k:Nat,W.heap[k]? = (W1.setRow w.heap.size (spl ROW (i * 7) (cur2.toList.take (m * 7)))).heap[k]?)→∀ ty dc sc,(Builtin.copy_ #[24,24] ty #[.slice (some ⟨w.heap.size,(i + m) * 7,none⟩) (n + m - (i + m)) dc,.slice (some ⟨g,i * 7,none⟩) (n - i) sc]).run Tryd.prog W = .ok (goInt ((n - i:Nat):Int)) (W.setRow w.heap.size (spl (spl ROW (i * 7) (cur2.toList.take (m * 7))) ((i + m) * 7) ((cur.toList.take (n * 7)).drop (i * 7)))):=fun W hW ty dc sc=>by
    have hmin:Nat.min (n - i) (n + m - (i + m)) = n - i:=by show min _ _ = _; omega
    have hgW:W.heap[g]? = some (.cells cur e (0,0)):=by rw [hW,setRow_other _ _ _ _ (by omega),hWo _ hbw]; exact hg
    have:=run_copyR W 24 24 ty 113 7 w.heap.size ((i + m) * 7) (n + m - (i + m)) dc ⟨g,i * 7,none⟩ (n - i) sc ((cur.toList.take (n * 7)).drop (i * 7)) _ 113 Tryd.underlying24 ins_szE (by rw [hdl,hmin])
      (fun j v hj=>by
        rw [Addr.add_lit,cell_of_row W g _ cur e (0,0) hgW]
        rw [List.getElem?_drop,List.getElem?_take] at hj
        split at hj
        · simpa using hj
        · cases hj) (by rw [hW]; exact setRow_heap W1 _ ROW _ 113 (0,0) hWN) (by rw [hdl,hRs2]; omega) (fun v hv=>h1c v (List.mem_of_mem_drop hv))
    rw [hmin] at this
    exact this
  have hGi:¬ (G = i):=by omega
  have hGim:¬ (G = i + m):=by omega
  have hci:¬ (c = i):=by omega
  refine Calls.mono (R:=fun e' w'=>e' = .returned (.slice (some ⟨w.heap.size,0,none⟩) (n + m) G)∧w' = ((w.drew.alloc (.cells ROW 113)).setRow w.heap.size (spl ROW (i * 7) (cur2.toList.take (m * 7)))).drew.setRow w.heap.size (spl (spl ROW (i * 7) (cur2.toList.take (m * 7))) ((i + m) * 7) ((cur.toList.take (n * 7)).drop (i * 7)))) ?_ (fun e' w' h=>⟨ROW,w.drew.alloc (.cells ROW 113),hRs,hRa,h.1,rfl,rfl,rfl,rfl,h.2⟩)
  subst hW1
  have hE:∀ k:Nat,((w.alloc (.cells ROW 113)).drew).heap[k]? = (w.drew.alloc (.cells ROW 113)).heap[k]?:=fun k=>rfl
  have hF:∀ k:Nat,(((w.alloc (.cells ROW 113)).drew.setRow w.heap.size (spl ROW (i * 7) (cur2.toList.take (m * 7)))).drew).heap[k]? = ((w.drew.alloc (.cells ROW 113)).setRow w.heap.size (spl ROW (i * 7) (cur2.toList.take (m * 7)))).heap[k]?:=fun k=>rfl
  have hw1:IntKind.i64.wrap ((i:Int) + (m:Int)) = (i:Int) + (m:Int):=by rw [IntKind.wrap_i64]; omega
  have hb1:(0:Int)≤(i:Int) + (m:Int):=by omega
  have hin:i≤n:=by omega
  have htn:((i:Int) + (m:Int)).toNat = i + m:=by omega
  have hb3:(i:Int)≤(n:Int):=by omega
  clear hkk hik hold hROW hG hRs hRs2 hRa hg hv hcs hcs2 hi0 hi1 hi2 hi3 hi4 hib his hzl h1c h1v hWN hWo hl hl2 hdl htl
  go_enter Tryd.func124,Tryd.ntmps124
  go_wp2_with (first
    | (at_builtin; refine Lib.wpList_append_run _ rfl _ _ _ _ rfl _ _ rfl rfl _ _ (hrz _) ?_)
    | (at_builtin; refine wpList_copy_runI _ rfl _ _ 24 24 rfl _ _ rfl rfl (hcpA _ hE _ _) ?_)
    | (at_builtin; refine wpList_copy_runI _ rfl _ _ 24 24 rfl _ _ rfl rfl (hcpB _ (fun _=>rfl) _ _ _) ?_))
  go_region_law_o (refine step_copy_runI rfl _ _ 24 24 rfl (.slice (some ⟨w.heap.size,(i + m) * 7,none⟩) (n + m - (i + m)) (G - (i + m))) (.slice (some ⟨g,i * 7,none⟩) (n - i) (c - i)) (by simp [Act.eval,Act.put]) (by simp [Act.eval,Act.put]) (hcpB _ hF 3 (G - (i + m)) (c - i)) ?_)
  go_wp2
  go_ret
  exact ⟨rfl,rfl⟩
theorem s_insE [Globs] (l : List (den .ent)) (x : den .ent) (i : Nat) (hi : i ≤ l.length) (hbig : (l.length + 1) * 104 ≤ 140737488355328) :
    CSpec Tryd.prog 124 [.vec 1000 .ent l,.i .i64 i,.vec 1001 .ent [x]] [] (.vec 1000 .ent (l.take i++x::l.drop i)) []:=by
  refine ⟨fun vs w=>Tryd.call124 vs w,fun F X β w vs hvs hpin hI=>?_⟩
  match vs,hvs with
  | [v0,v1,v2],_ =>
    have h0:VecAt β (SX.Own X ⟨argSlots 0 [.vec 1000 .ent l,.i .i64 i,.vec 1001 .ent [x]],[]⟩ β) w 1000 .ent l v0:=hI.slots 0
    have h1:SX.Im (SX.Own X ⟨argSlots 0 [.vec 1000 .ent l,.i .i64 i,.vec 1001 .ent [x]],[]⟩ β) w (.i .i64 i) v1:=hI.slots 1
    have h2:VecAt β (SX.Own X ⟨argSlots 0 [.vec 1000 .ent l,.i .i64 i,.vec 1001 .ent [x]],[]⟩ β) w 1001 .ent [x] v2:=hI.slots 2
    have N0:Nm ⟨argSlots 0 [.vec 1000 .ent l,.i .i64 i,.vec 1001 .ent [x]],[]⟩ 1000:=.inr (.inl ⟨0,List.mem_singleton.2 rfl⟩)
    have N1:Nm ⟨argSlots 0 [.vec 1000 .ent l,.i .i64 i,.vec 1001 .ent [x]],[]⟩ 1001:=.inr (.inl ⟨2,List.mem_singleton.2 rfl⟩)
    cases h1
    have hL:(l.take i++x::l.drop i).length = l.length + 1:=by rw [List.length_append,List.length_cons,List.length_take,List.length_drop]; omega
    rcases h2 with ⟨h2,_⟩ | ⟨vb,vc,cur2,e2,b1,rfl,b3,b4,b5,b6,b7⟩
    · cases h2
    have hx:All2 (SX.Im (SX.Own X ⟨argSlots 0 [.vec 1000 .ent l,.i .i64 i,.vec 1001 .ent [x]],[]⟩ β) w) (flat .ent [x]) (cur2.toList.take (1 * 7)):=vec_cells b6 b4 b7
    have h1v:=vec_one (l:=[x]) hx
    have hb4:1≤vc:=b4
    have hb6:cur2.size = vc * 7:=b6
    have hxl:(cur2.toList.take (1 * 7)).length = 7:=by rw [← hx.1]; rfl
    have hmx:l.length + 1≤maxLen:=by unfold maxLen; omega
    have hge:=fun c=>grownCap_ge w (l.length + 1) c 113
    have hcm:=fun c=>grownCap_le_maxLen w (l.length + 1) c 113 hmx
    rcases h0 with ⟨rfl,rfl,h0⟩ | ⟨g,c,cur,e,p1,rfl,p3,p4,p5,p6,p7⟩
    · have hi0:i = 0:=by simpa using hi
      subst hi0
      refine (ins_end_growE none 0 0 vb 1 vc [] cur2 e2 w (by omega) (by omega) (by omega) rfl (fun w' _=>run_firstCells_none w' 7 0 0 0) b3 hb6 hb4 h1v (fun _=>⟨rfl,rfl⟩) (by omega)).mono ?_
      rintro e' w' ⟨z,hz,rfl,rfl⟩
      have hzl:z.cells.size = 7:=by rw [hz]; rfl
      refine ⟨_,_,rfl,vec_end (us:=cur2.toList.take (1 * 7)) (show 1≤3 by omega) hI (((Stp.drew w).trans (Stp.alloc w.drew _) (fun _ _ h=>h)).mono (fun _ _ h=>h.elim)) (.inr (Nat.le_refl _)) (heap_alloc_new w.drew _) (hge 0) (hcm 0) ?_ hx ?_⟩
      · simp only [Array.size_append,List.size_toArray,size_zeroCells,hzl,hxl,List.length_nil]
        have:=hge 0
        simp only [List.length_nil] at this
        show _ = _ * 7
        omega
      · intro j u hj
        have hj':j < (cur2.toList.take (1 * 7)).length:=(List.getElem?_eq_some_iff.1 hj).1
        rw [Array.getElem?_append_left (by simpa using hj')]
        simpa using hj
    have hne:vb≠g:=fun h=>by have:=hI.inj 1001 1000 g N1 N0 (h ▸ b1) p1; omega
    have hc:=vec_cells p6 p4 p7
    have h1c:=vec_one hc
    have hp6:cur.size = c * 7:=p6
    have hcl:cur.toList.length = cur.size:=Array.length_toList
    have hall:All2 (SX.Im (SX.Own X ⟨argSlots 0 [.vec 1000 .ent l,.i .i64 i,.vec 1001 .ent [x]],[]⟩ β) w) (flat .ent (l.take i++x::l.drop i)) ((cur.toList.take (l.length * 7)).take (i * 7)++(cur2.toList.take (1 * 7)++(cur.toList.take (l.length * 7)).drop (i * 7))):=ins_cells hc hx i hi
    have h5:c≤9223372036854775807:=by unfold maxLen at p5; omega
    have hA:((cur.toList.take (l.length * 7)).take (i * 7)).length = i * 7:=by rw [List.length_take,List.length_take,hcl]; omega
    have hC:((cur.toList.take (l.length * 7)).drop (i * 7)).length = (l.length - i) * 7:=by rw [List.length_drop,List.length_take,hcl]; omega
    have hAt:∀ j,j < i * 7→((cur.toList.take (l.length * 7)).take (i * 7))[j]? = cur[j]?:=fun j hj=>by rw [List.getElem?_take,if_pos hj,List.getElem?_take,if_pos (by omega),Array.getElem?_toList]
    by_cases hin:i = l.length
    · subst hin
      have hd:(cur.toList.take (l.length * 7)).drop (l.length * 7) = []:=List.drop_eq_nil_of_le (by rw [List.length_take]; omega)
      have hu:(cur.toList.take (l.length * 7)).take (l.length * 7)++(cur2.toList.take (1 * 7)++(cur.toList.take (l.length * 7)).drop (l.length * 7)) = cur.toList.take (l.length * 7)++cur2.toList.take (1 * 7):=by
        rw [hd,List.append_nil,List.take_of_length_le (by rw [List.length_take]; omega)]
      have hTl:(cur.toList.take (l.length * 7)).length = l.length * 7:=by rw [List.length_take,hcl]; omega
      have hall:All2 (SX.Im (SX.Own X ⟨argSlots 0 [.vec 1000 .ent l,.i .i64 l.length,.vec 1001 .ent [x]],[]⟩ β) w) (flat .ent (l.take l.length++x::l.drop l.length)) (cur.toList.take (l.length * 7)++cur2.toList.take (1 * 7)):=hu ▸ hall
      by_cases hroom:l.length + 1≤c
      · have hfit:l.length * 7 + (cur2.toList.take (1 * 7)).length≤cur.size:=by rw [hxl]; omega
        refine (ins_end_roomE g l.length c vb 1 vc cur cur2 e e2 w (by omega) hroom h5 hne p3 hp6 b3 hb6 hb4 h1c h1v hbig).mono ?_
        rintro e' w' ⟨rfl,rfl⟩
        rw [← hL]
        refine ⟨_,_,rfl,vec_end (show 1≤3 by omega) hI (Stp.setRow w g _) (.inl ⟨N0,p1⟩) (setRow_heap w g cur _ e _ p3) (by rw [hL]; exact hroom) p5 (by rw [spl_size hfit]; exact p6) hall ?_⟩
        intro j u hj
        rw [spl_at hfit,hxl]
        by_cases c1:j < l.length * 7
        · rw [List.getElem?_append_left (by omega),List.getElem?_take,if_pos c1] at hj
          rw [if_pos (by omega)]
          simpa using hj
        · rw [List.getElem?_append_right (by omega),hTl] at hj
          have:=(List.getElem?_eq_some_iff.1 hj).1
          rw [if_neg (by omega),if_pos (by omega)]
          exact hj
      · refine (ins_end_growE (some ⟨g, 0, none⟩) l.length c vb 1 vc (cur.toList.take (l.length * 7)) cur2 e2 w (by omega) p4 (by omega) hTl (fun w' hw => run_firstCells_some w' 7 _ ⟨g, 0, none⟩ _ c _ hTl (fun j v hj => by
          rw [Addr.add_lit,cell_of_row w' g _ cur e (0,0) (by rw [hw]; exact p3),Nat.zero_add]
          rw [List.getElem?_take] at hj
          split at hj
          · simpa using hj
          · cases hj)) b3 hb6 hb4 h1v (fun h=>by cases h) hbig).mono ?_
        rintro e' w' ⟨z,hz,rfl,rfl⟩
        have hzl:z.cells.size = 7:=by rw [hz]; rfl
        have hgc:=hge c
        have hcc:=hcm c
        generalize grownCap w (l.length + 1) c 113 = G at hgc hcc
        rw [← hL]
        refine ⟨_,_,rfl,vec_end (show 1≤3 by omega) hI (((Stp.drew w).trans (Stp.alloc w.drew _) (fun _ _ h=>h)).mono (fun _ _ h=>h.elim)) (.inr (Nat.le_refl _)) (heap_alloc_new w.drew _) (by rw [hL]; exact hgc) hcc ?_ hall ?_⟩
        · simp only [Array.size_append,List.size_toArray,size_zeroCells,hzl,hxl,hTl,hL]
          show _ = _ * 7
          omega
        · intro j u hj
          have hj':j < (cur.toList.take (l.length * 7)++cur2.toList.take (1 * 7)).length:=(List.getElem?_eq_some_iff.1 hj).1
          rw [Array.getElem?_append_left (by simpa using hj')]
          simpa using hj
    · by_cases hroom:l.length + 1≤c
      · refine (ins_shiftE g l.length c i vb 1 vc cur cur2 e e2 w (by omega) (by omega) hroom h5 hne p3 hp6 b3 hb6 hb4 h1c h1v).mono ?_
        rintro e' w' ⟨rfl,rfl⟩
        have hf1:(i + 1) * 7 + ((cur.toList.take (l.length * 7)).drop (i * 7)).length≤cur.size:=by rw [hC]; omega
        have hs1:=spl_size hf1
        have hf2:i * 7 + (cur2.toList.take (1 * 7)).length≤(spl cur ((i + 1) * 7) ((cur.toList.take (l.length * 7)).drop (i * 7))).size:=by rw [hs1,hxl]; omega
        rw [← hL]
        refine ⟨_,_,rfl,vec_end (show 1≤3 by omega) hI (((Stp.drew w).mono (fun _ _ h=>h.elim)).trans ((Stp.setRow _ g _).trans (Stp.setRow _ g _) (fun _ _ h=>h)) (fun _ _ h=>h)) (.inl ⟨N0,p1⟩) (setRow_heap _ g _ _ e _ (setRow_heap w.drew g cur _ e _ p3)) (by rw [hL]; exact hroom) p5 (by rw [spl_size hf2,hs1]; exact p6) hall (row_pre (fun j hj=>?_) (fun j hj=>?_) (fun j hj=>?_))⟩
        · rw [hA] at hj
          rw [hAt j hj,spl_at hf2,if_pos hj,spl_at hf1,if_pos (by omega)]
        · rw [hA,spl_at hf2,if_neg (by omega),if_pos (by omega)]
          congr 1
          omega
        · rw [hA,hxl,spl_at hf2,hxl,if_neg (by omega),if_neg (by omega),spl_at hf1,if_neg (by omega),if_pos (by omega)]
          congr 1
          omega
      · refine (ins_growE g l.length c i vb 1 vc cur cur2 e e2 w (by omega) (by omega) p4 (by omega) p3 hp6 b3 hb6 hb4 h1c h1v hbig).mono ?_
        rintro e' w' ⟨row,W,hrs,hra,rfl,hWh,hWo,hWt,hWp,rfl⟩
        have hgc:=hge c
        have hcc:=hcm c
        generalize grownCap w (l.length + 1) c 113 = G at hrs hgc hcc
        have hf1:i * 7 + (cur2.toList.take (1 * 7)).length≤row.size:=by rw [hxl]; omega
        have hs1:=spl_size hf1
        have hf2:(i + 1) * 7 + ((cur.toList.take (l.length * 7)).drop (i * 7)).length≤(spl row (i * 7) (cur2.toList.take (1 * 7))).size:=by rw [hs1,hC]; omega
        have hst:Stp (fun _=>False) w W:=⟨hWo,hWt,hWp,by rw [hWh]; simp,fun k hk _=>by rw [hWh]; exact (Stp.alloc w.drew _).block k hk (fun h=>h)⟩
        rw [← hL]
        refine ⟨_,_,rfl,vec_end (show 1≤3 by omega) hI ((hst.mono (fun _ _ h=>h.elim)).trans ((Stp.setRow _ w.heap.size _).trans (((Stp.drew _).mono (fun _ _ h=>h.elim)).trans (Stp.setRow _ w.heap.size _) (fun _ _ h=>h)) (fun _ _ h=>h)) (fun _ _ h=>h)) (.inr (Nat.le_refl _)) (setRow_heap _ _ _ _ 113 _ (setRow_heap W _ row _ 113 _ (by rw [hWh]; exact heap_alloc_new w.drew _))) (by rw [hL]; exact hgc) hcc (by rw [spl_size hf2,hs1]; exact hrs) hall (row_pre (fun j hj=>?_) (fun j hj=>?_) (fun j hj=>?_))⟩
        · rw [hA] at hj
          rw [hAt j hj,spl_at hf2,if_pos (by omega),spl_at hf1,if_pos hj,hra j hj]
        · rw [hA,spl_at hf2,if_pos (by omega),spl_at hf1,if_neg (by omega),if_pos (by omega)]
          congr 1
          omega
        · rw [hA,hxl,spl_at hf2,if_neg (by omega),if_pos (by omega)]
          congr 1
          omega
end Go.Proofs.YtmfchbkdakmjhaaDoor
end
section
namespace Go.Proofs.YtmfchbkdakmjhaaDoor
set_option linter.unusedSectionVars false
set_option linter.unusedSimpArgs false
set_option linter.unusedVariables false
open Go Go.SX Go.Vl
set_option maxRecDepth 100000
set_option maxHeartbeats 0
section
variable [G:Globs]
theorem w_dropV (l:List Ent) (k:Str) (hl1:l.length≤100000000) (hn:∀ p ∈ l,VN 100000000 p.2):vc Tryd.prog Γ 29 [0,1,4,5,7,8,9,10,11,17,1000] (Tryd.f83.body.getD .skip) (postBK Γ [.tmp 4] (.vec 1000 .ent (withoutE l k)) []) ⟨argSlots 0 [.rd .ent l,.s k],[]⟩:=by
  intro hl
  refine Exists.intro [(5,5,.ent)] (Exists.intro [] (Exists.intro [] (Exists.intro Nat (Exists.intro (fun i=>i≤l.length) (Exists.intro (fun i=>⟨[(1,.s k),(5,.vec 5 .ent (withoutE (l.take i) k)),(8,.rd .ent l),(9,.i .i64 l.length),(10,.i .i64 i)],[]⟩) (Exists.intro (fun i=>l.length - i) (Exists.intro 0 (And.intro (Nat.zero_le _) (And.intro ?_ ?_)))))))))
  · (repeat' (first | exact trivial | exact Or.inl rfl | exact Or.inr (Or.inl ⟨rfl,_,rfl⟩) | exact Or.inr (Or.inr (Or.inr ⟨_,_,_,rfl,rfl⟩)) | refine And.intro ?_ ?_))
  · rintro i hi
    refine And.intro (fun he=>?_) (fun he=>?_)
    · have hi : i < l.length := by have : (i : Int) < (l.length : Int) := of_decide_eq_true he
                                   omega
      have hg:l.getD (Int.toNat (i:Int)) (dflt .ent) = l[i]:=by rw [Int.toNat_natCast,List.getD_eq_getElem?_getD,List.getElem?_eq_getElem hi]; rfl
      refine And.intro ⟨by omega,by omega⟩ ?_
      refine And.intro (fun hz=>?_) (fun hz=>?_)
      · have hz:keyIs k l[i] = false:=by rw [← hg]; simpa [keyIs] using hz
        have hs:=s_Own l[i].2 (hn _ (List.getElem_mem hi))
        rw [← hg] at hs
        refine Exists.intro [.blk [0,1,2,3,4,5,6,7] [25],.one 8,.take 9] (And.intro (by kernel_rfl) ?_)
        refine Exists.intro _ (And.intro (hs) ?_)
        rw [hg]
        have hfl:=filter_len (l:=l) (k:=k) (i:=i)
        refine And.intro (show ((withoutE (l.take i) k).length + 1) * 104≤140737488355328 by omega) ?_
        (refine And.intro (rng64 (by omega) (by omega)) ?_)
        refine Exists.intro [(26,5)] (Exists.intro (i + 1) (And.intro hi (And.intro ?_ ?_)))
        · have e:withoutE (l.take i) k++[(l[i].1,(⟨l[i].2.kind,l[i].2.n,l[i].2.f,l[i].2.s,l[i].2.l,l[i].2.e⟩:Val))] = withoutE (l.take (i + 1)) k:=by rw [val_eta]; exact (filter_next hi hz).symm
          (repeat' (first | exact trivial | exact Or.inl rfl | exact Or.inl ((congrArg (AV.vec 5 .ent) e)) | refine And.intro ?_ ?_))
        · show l.length - (i + 1) < l.length - i
          omega
      · have hz:keyIs k l[i] = true:=by rw [← hg]; simpa [keyIs] using hz
        (refine And.intro (rng64 (by omega) (by omega)) ?_)
        refine Exists.intro [] (Exists.intro (i + 1) (And.intro hi (And.intro ?_ ?_)))
        · (repeat' (first | exact trivial | exact Or.inl rfl | exact Or.inl ((congrArg (AV.vec 5 .ent) (filter_skip hi hz).symm)) | refine And.intro ?_ ?_))
        · show l.length - (i + 1) < l.length - i
          omega
    · have hi : i = l.length := by have : ¬ (i : Int) < (l.length : Int) := of_decide_eq_false he
                                   omega
      subst hi
      rw [List.take_length]
      refine Exists.intro [(5,1000)] (And.intro rfl (by (repeat' (first | exact trivial | exact Or.inl rfl | exact Or.inr (Or.inl ⟨rfl,_,rfl⟩) | exact Or.inr (Or.inr (Or.inr ⟨_,_,_,rfl,rfl⟩)) | refine And.intro ?_ ?_))))
theorem s_dropV (l:List Ent) (k:Str) (hl1:l.length≤100000000) (hn:∀ p ∈ l,VN 100000000 p.2):CSpec Tryd.prog 83 [.rd .ent l,.s k] [] (.vec 1000 .ent (withoutE l k)) [] :=
  cspec_of_vc Γ_good Tryd.func83 rfl Tryd.call83 Tryd.results83 Tryd.ntmps83 (Nat.le_of_ble_eq_true rfl) (Nat.le_of_ble_eq_true rfl) (by rfl) (w_dropV l k hl1 hn)
theorem w_put (l:List Ent) (k:Str) (a:Val) (hl1:l.length≤100000000) (hn:∀ p ∈ l,VN 100000000 p.2) (ha:VN 100000000 a):VCs Tryd.prog Γ 27 [0,4,5,6,7,8,16] (Tryd.f82.body.getD .skip) (postK Γ [.tmp 6] (fun v=>v = .rd .ent (putE l k a))) ⟨argSlots 0 [.rd .ent l,.s k,.agg (encVal a)],[]⟩:=by
  refine VCs.seq (by first | exact Γ_good | exact Ctx.good_kp Γ_good _) ?_
  refine VCs.seq (by first | exact Γ_good | exact Ctx.good_kp Γ_good _) ?_
  refine Or.inr (Or.inl (Exists.intro [] (Exists.intro _ (Exists.intro _ (Exists.intro _ (Exists.intro _ (Exists.intro _ (Exists.intro [(1000,7)] (And.intro (s_dropV l k hl1 hn) ?_)))))))))
  refine (And.intro rfl (And.intro rfl (And.intro rfl (And.intro rfl ?_))))
  have hml:(withoutE l k).length≤l.length:=List.length_filter_le _ _
  unfold putE
  generalize withoutE l k = m at hml
  refine VCs.seq (by first | exact Γ_good | exact Ctx.good_kp Γ_good _) ?_
  refine Or.inr (Or.inr (Or.inl (Exists.intro _ (And.intro (s_ixE m k (keyGt k) 123 (fun x _=>s_put1 x k)) ?_))))
  refine VCs.cut (by first | exact Γ_good | exact Ctx.good_kp Γ_good _) Unit (fun _=>True) (fun _=>⟨[(7,.vec 7 .ent m),(4,.pt 4 0),(5,.pt 5 0),(8,.i .i64 (m.findIdx (keyGt k):Nat))],[(4,[.s k]),(5,encVal a)]⟩) ?_ ?_
  · have hle:=List.findIdx_le_length (p:=keyGt k) (xs:=m)
    refine And.intro (fun hz=>?_) (fun hz=>?_)
    · have hz:ixI m (keyGt k) < 0:=of_decide_eq_true hz
      have e:m.length = m.findIdx (keyGt k):=by
        unfold ixI at hz
        split at hz
        · omega
        · omega
      intro _
      refine Exists.intro () (And.intro trivial ?_)
      (repeat' (first | exact trivial | exact Or.inl rfl | exact Or.inl ((congrArg (fun n:Nat=>AV.i .i64 n) e)) | refine And.intro ?_ ?_))
    · have hz:¬ ixI m (keyGt k) < 0:=of_decide_eq_false hz
      have e:ixI m (keyGt k) = (m.findIdx (keyGt k):Nat):=by
        unfold ixI at hz ⊢
        split at hz
        · rename_i h; rw [if_pos h]
        · omega
      refine Exists.intro () (And.intro trivial ?_)
      (repeat' (first | exact trivial | exact Or.inl rfl | exact Or.inl ((congrArg (fun n:Int=>AV.i .i64 n) e)) | refine And.intro ?_ ?_))
  rintro _ _
  have hle:=List.findIdx_le_length (p:=keyGt k) (xs:=m)
  generalize m.findIdx (keyGt k) = j at hle
  refine VCs.of_vc (by first | exact Γ_good | exact Ctx.good_kp Γ_good _) ?_
  refine Exists.intro [.take 0,.take 1,.blk [2,3,4,5],.one 6,.one 7,.take 8] (And.intro (by kernel_rfl) ?_)
  refine Exists.intro _ (And.intro (s_Own a ha) ?_)
  refine Or.inr (Or.inl (Exists.intro [] (Exists.intro _ (Exists.intro _ (Exists.intro _ (Exists.intro _ (Exists.intro _ (Exists.intro [(1000,7),(1001,25)] (And.intro (s_insE m (k,(⟨a.kind,a.n,a.f,a.s,a.l,a.e⟩:Val)) j hle (by omega)) ?_)))))))))
  refine (And.intro rfl (And.intro rfl (And.intro rfl (And.intro rfl ?_))))
  have e:m.take j++(k,(⟨a.kind,a.n,a.f,a.s,a.l,a.e⟩:Val))::m.drop j = m.take j++(k,a)::m.drop j:=by rw [val_eta]
  exact congrArg (AV.rd .ent) e
theorem s_put (l:List Ent) (k:Str) (a:Val) (hl1:l.length≤100000000) (hn:∀ p ∈ l,VN 100000000 p.2) (ha:VN 100000000 a):PSpec Tryd.prog 82 [.rd .ent l,.s k,.agg (encVal a)] (.rd .ent (putE l k a)) :=
  pspec_of_VCs Γ_good Tryd.func82 rfl Tryd.call82 Tryd.results82 Tryd.ntmps82 (Nat.le_of_ble_eq_true rfl) (w_put l k a hl1 hn ha) Γ_good
end
end Go.Proofs.YtmfchbkdakmjhaaDoor
end
section
namespace Go.Proofs.YtmfchbkdakmjhaaDoor
set_option linter.unusedSectionVars false
set_option linter.unusedSimpArgs false
set_option linter.unusedVariables false
open Go Go.SX Go.Ck Go.Vl Go.Ut Go.Up
set_option maxRecDepth 100000
set_option maxHeartbeats 1000000
theorem stepF1 {p:PStep} (h:p.i < -1∨(0≤p.i∧p.key≠[])):stepF p = 1:=if_pos h
theorem stepF2 {p:PStep} (h:¬ (p.i < -1∨(0≤p.i∧p.key≠[]))) (h2:100 < p.key.length):stepF p = 2:=by unfold stepF; rw [if_neg h,if_pos h2]
theorem stepF3 {p:PStep} (h:¬ (p.i < -1∨(0≤p.i∧p.key≠[]))) (h2:¬ 100 < p.key.length) (h3:0≤bad p.key):stepF p = 3:=by unfold stepF; rw [if_neg h,if_neg h2,if_pos h3]
theorem stepF0 {p:PStep} (h:¬ (p.i < -1∨(0≤p.i∧p.key≠[]))) (h2:¬ 100 < p.key.length) (h3:¬ 0≤bad p.key):stepF p = 0:=by unfold stepF; rw [if_neg h,if_neg h2,if_neg h3]
theorem stepsF_stop {l:List PStep} {i:Nat} {e:Int} (h:i < l.length) (he:stepF l[i] = e) (h0:e≠0):stepsF (l.drop i) = e:=by rw [stepsF_drop h,he,orI_ne h0]
theorem stepsF_go {l:List PStep} {i:Nat} (h:i < l.length) (he:stepF l[i] = 0):stepsF (l.drop i) = stepsF (l.drop (i + 1)):=by rw [stepsF_drop h,he,orI_zero]
section
variable [G:Globs]
theorem w_pathC (hu:HasU8) (l:List PStep):vc Tryd.prog Γ 39 [0,2,4,7,8,9,10,11,14,28,33] (Tryd.f33.body.getD .skip) (postK Γ [.tmp 2] (fun v=>v = .i .i64 (pathF l))) ⟨argSlots 0 [.rd .pstep l],[]⟩:=by
  intro hl
  refine And.intro (fun hq=>?_) (fun hq=>?_)
  · refine congrArg (AV.i .i64) ?_
    rw [pathF,if_pos (by have:=of_decide_eq_true hq; omega)]
  rw [pathF,if_neg (by have:=of_decide_eq_false hq; omega)]
  intro _
  refine Exists.intro [] (Exists.intro [] (Exists.intro [] (Exists.intro Nat (Exists.intro (fun i=>i≤(l).length∧(stepsF l = stepsF (l.drop i))) (Exists.intro (fun i=>⟨[(8,.rd .pstep l),(9,.i .i64 l.length),(10,.i .i64 i)],[]⟩) (Exists.intro (fun i=>(l).length - i) (Exists.intro 0 (And.intro ⟨Nat.zero_le _,rfl⟩ (And.intro ?_ ?_)))))))))
  · (repeat' (first | exact trivial | exact Or.inl rfl | exact Or.inr (Or.inl ⟨rfl,_,rfl⟩) | exact Or.inr (Or.inr (Or.inr ⟨_,_,_,rfl,rfl⟩)) | refine And.intro ?_ ?_))
  rintro i ⟨hi,hI⟩
  refine And.intro (fun hz=>?_) (fun hz=>?_)
  · have hi:=ltD hz
    have hg:=getI (τ:=.pstep) hi
    refine And.intro ⟨by omega,by omega⟩ ?_
    rw [hg]
    by_cases c:l[i].i < -1∨(0≤l[i].i∧l[i].key≠[])
    · rw [stepsF_stop hi (stepF1 c) (by decide)] at hI
      rcases c with c | ⟨c,c3⟩
      all_goals (repeat' (first | (refine And.intro (fun h=>?_) (fun h=>?_)<;>(try simp [-List.getD_eq_getElem?_getD,-Int.pred_toNat] at h)<;>(try (exfalso; first | omega | contradiction))) | (refine And.intro (rng64 (by omega) (by omega)) ?_) | (refine And.intro ⟨by omega,by omega⟩ ?_) | (refine And.intro ⟨by omega,by omega,by omega⟩ ?_) | (intro _)))
      all_goals exact congrArg (AV.i .i64) hI.symm
    · have c1 : -1≤l[i].i:=by omega
      have c2:l[i].i < 0∨(0≤l[i].i∧l[i].key = []):=by grind
      by_cases d:100 < l[i].key.length
      · rw [stepsF_stop hi (stepF2 c d) (by decide)] at hI
        rcases c2 with c2 | ⟨c2,c3⟩
        all_goals (repeat' (first | (refine And.intro (fun h=>?_) (fun h=>?_)<;>(try simp [-List.getD_eq_getElem?_getD,-Int.pred_toNat] at h)<;>(try (exfalso; first | omega | contradiction))) | (refine And.intro (rng64 (by omega) (by omega)) ?_) | (refine And.intro ⟨by omega,by omega⟩ ?_) | (refine And.intro ⟨by omega,by omega,by omega⟩ ?_) | (intro _)))
        all_goals exact congrArg (AV.i .i64) hI.symm
      · by_cases e:0≤bad l[i].key
        · rw [stepsF_stop hi (stepF3 c d e) (by decide)] at hI
          rcases c2 with c2 | ⟨c2,c3⟩
          all_goals (repeat' (first | (refine And.intro (fun h=>?_) (fun h=>?_)<;>(try simp [-List.getD_eq_getElem?_getD,-Int.pred_toNat] at h)<;>(try (exfalso; first | omega | contradiction))) | (refine And.intro (rng64 (by omega) (by omega)) ?_) | (refine And.intro ⟨by omega,by omega⟩ ?_) | (refine And.intro ⟨by omega,by omega,by omega⟩ ?_) | (intro _)))
          all_goals refine Or.inl (Exists.intro _ (And.intro (s_Bad hu l[i].key) ?_))
          all_goals (repeat' (first | (refine And.intro (fun h=>?_) (fun h=>?_)<;>(try simp [-List.getD_eq_getElem?_getD,-Int.pred_toNat] at h)<;>(try (exfalso; first | omega | contradiction))) | (refine And.intro (rng64 (by omega) (by omega)) ?_) | (refine And.intro ⟨by omega,by omega⟩ ?_) | (refine And.intro ⟨by omega,by omega,by omega⟩ ?_) | (intro _)))
          all_goals exact congrArg (AV.i .i64) hI.symm
        · rw [stepsF_go hi (stepF0 c d e)] at hI
          have:=len_le hl
          rcases c2 with c2 | ⟨c2,c3⟩
          all_goals (repeat' (first | (refine And.intro (fun h=>?_) (fun h=>?_)<;>(try simp [-List.getD_eq_getElem?_getD,-Int.pred_toNat] at h)<;>(try (exfalso; first | omega | contradiction))) | (refine And.intro (rng64 (by omega) (by omega)) ?_) | (refine And.intro ⟨by omega,by omega⟩ ?_) | (refine And.intro ⟨by omega,by omega,by omega⟩ ?_) | (intro _)))
          all_goals refine Or.inl (Exists.intro _ (And.intro (s_Bad hu l[i].key) ?_))
          all_goals (repeat' (first | (refine And.intro (fun h=>?_) (fun h=>?_)<;>(try simp [-List.getD_eq_getElem?_getD,-Int.pred_toNat] at h)<;>(try (exfalso; first | omega | contradiction))) | (refine And.intro (rng64 (by omega) (by omega)) ?_) | (refine And.intro ⟨by omega,by omega⟩ ?_) | (refine And.intro ⟨by omega,by omega,by omega⟩ ?_) | (intro _)))
          all_goals refine Exists.intro [] (Exists.intro (i + 1) (And.intro ⟨hi,hI⟩ (And.intro ?_ ?_)))
          all_goals first | (exact Nat.sub_lt_sub_left (by omega) (by omega)) | (repeat' (first | exact trivial | exact Or.inl rfl | exact Or.inr (Or.inl ⟨rfl,_,rfl⟩) | exact Or.inr (Or.inr (Or.inr ⟨_,_,_,rfl,rfl⟩)) | refine And.intro ?_ ?_))
  · (have hi:=geD hi hz)
    rw [hI,List.drop_eq_nil_of_le (by omega)]
    rfl
theorem s_pathC (hu:HasU8) (l:List PStep):PSpec Tryd.prog 33 [.rd .pstep l] (.i .i64 (pathF l)) :=
  pspec_of_vc Γ_good Tryd.func33 rfl Tryd.call33 Tryd.results33 Tryd.ntmps33 (Nat.le_of_ble_eq_true rfl) (w_pathC hu l)
def partA (a:Val) (p:PStep):AV:=.tup [.agg (encVal (partV a p).1),.i .i64 (partV a p).2]
theorem partA_eq {a:Val} {p:PStep} {w:Val} {e:Int} (h:partV a p = (w,e)):partA a p = .tup [.agg (encVal w),.i .i64 e]:=by unfold partA; rw [h]
theorem partV_tk {a:Val} {p:PStep} (h:p.i < 0) (h2:a.kind≠6):partV a p = (zeroV,10):=by unfold partV; rw [if_pos h,if_pos h2]
theorem partV_tn {a:Val} {p:PStep} (h:p.i < 0) (h2:¬ a.kind≠6) (h3:ixI a.e (keyIs p.key) < 0):partV a p = (zeroV,8):=by unfold partV; rw [if_pos h,if_neg h2,if_pos h3]
theorem partV_t {a:Val} {p:PStep} (h:p.i < 0) (h2:¬ a.kind≠6) (h3:¬ ixI a.e (keyIs p.key) < 0):partV a p = ((a.e.getD (ixI a.e (keyIs p.key)).toNat (dflt .ent)).2,0):=by unfold partV; rw [if_pos h,if_neg h2,if_neg h3]
theorem partV_lk {a:Val} {p:PStep} (h:¬ p.i < 0) (h2:a.kind≠5):partV a p = (zeroV,10):=by unfold partV; rw [if_neg h,if_pos h2]
theorem partV_ln {a:Val} {p:PStep} (h:¬ p.i < 0) (h2:¬ a.kind≠5) (h3:(a.l.length:Int)≤p.i):partV a p = (zeroV,8):=by unfold partV; rw [if_neg h,if_neg h2,if_pos h3]
theorem partV_l {a:Val} {p:PStep} (h:¬ p.i < 0) (h2:¬ a.kind≠5) (h3:¬ (a.l.length:Int)≤p.i):partV a p = (a.l.getD p.i.toNat (dflt .val),0):=by unfold partV; rw [if_neg h,if_neg h2,if_neg h3]
theorem w_partOf (a:Val) (p:PStep) (h : -1≤p.i):vc Tryd.prog Γ 46 [2,3,4,5,6,7,10,13,21,31,38] (Tryd.f93.body.getD .skip) (postK Γ [.cell 4 26,.tmp 5] (fun v=>RL v (partA a p))) ⟨argSlots 0 [.agg (encVal a),.agg (enc .pstep p)],[]⟩:=by
  refine And.intro (fun hq=>?_) (fun hq=>?_)
  · have hq:p.i < 0:=by have:=eq_of_beq hq; omega
    refine And.intro (fun hk=>?_) (fun hk=>?_)
    · have hk:a.kind≠6:=by simpa using hk
      rw [partA_eq (partV_tk hq hk)]
      (repeat' (first | exact trivial | exact Or.inl rfl | exact Or.inr ⟨rfl,_,rfl⟩ | refine And.intro ?_ ?_))
    have hk:¬ a.kind≠6:=by simpa using hk
    refine Or.inl (Exists.intro _ (And.intro (s_entAt a.e p.key) ?_))
    refine And.intro (fun hx=>?_) (fun hx=>?_)
    · have hx:ixI a.e (keyIs p.key) < 0:=of_decide_eq_true hx
      rw [partA_eq (partV_tn hq hk hx)]
      (repeat' (first | exact trivial | exact Or.inl rfl | exact Or.inr ⟨rfl,_,rfl⟩ | refine And.intro ?_ ?_))
    have hx:¬ ixI a.e (keyIs p.key) < 0:=of_decide_eq_false hx
    have hb:=ix_bound hx
    rw [partA_eq (partV_t hq hk hx)]
    refine And.intro ⟨by omega,by omega⟩ ?_
    (repeat' (first | exact trivial | exact Or.inl rfl | exact Or.inr ⟨rfl,_,rfl⟩ | refine And.intro ?_ ?_))
  · have hq:¬ p.i < 0:=by have:=ne_of_beq_false hq; omega
    refine And.intro (fun hk=>?_) (fun hk=>?_)
    · have hk:a.kind≠5:=by simpa using hk
      rw [partA_eq (partV_lk hq hk)]
      (repeat' (first | exact trivial | exact Or.inl rfl | exact Or.inr ⟨rfl,_,rfl⟩ | refine And.intro ?_ ?_))
    have hk:¬ a.kind≠5:=by simpa using hk
    intro _
    refine And.intro (fun hx=>?_) (fun hx=>?_)
    · rw [partA_eq (partV_ln hq hk (of_decide_eq_true hx))]
      (repeat' (first | exact trivial | exact Or.inl rfl | exact Or.inr ⟨rfl,_,rfl⟩ | refine And.intro ?_ ?_))
    have hx:¬ (a.l.length:Int)≤p.i:=of_decide_eq_false hx
    rw [partA_eq (partV_l hq hk hx)]
    refine And.intro ⟨by omega,by omega⟩ ?_
    (repeat' (first | exact trivial | exact Or.inl rfl | exact Or.inr ⟨rfl,_,rfl⟩ | refine And.intro ?_ ?_))
theorem s_partOf (a:Val) (p:PStep) (h : -1≤p.i):PSpec Tryd.prog 93 [.agg (encVal a),.agg (enc .pstep p)] (partA a p) :=
  pspec_of_vcL Γ_good Tryd.func93 rfl Tryd.call93 Tryd.results93 Tryd.ntmps93 (Nat.le_of_ble_eq_true rfl) (w_partOf a p h)
theorem w_part (a:Val) (p:PStep):vc Tryd.prog Γ 49 [2,3,4,5,6,9,15,20,30,35] (Tryd.f92.body.getD .skip) (postK Γ [.cell 4 26,.tmp 5] (fun v=>RL v (partA a p))) ⟨argSlots 0 [.agg (encVal a),.agg (enc .pstep p)],[]⟩:=by
  refine And.intro (fun hq=>?_) (fun hq=>?_)
  · have hq:p.i < 0:=of_decide_eq_true hq
    refine Or.inl (Exists.intro _ (And.intro (s_find a.e p.key) ?_))
    refine And.intro (fun hk=>?_) (fun hk=>?_)
    · have hk:a.kind≠6:=by simpa using hk
      rw [partA_eq (partV_tk hq hk)]
      (repeat' (first | exact trivial | exact Or.inl rfl | exact Or.inr ⟨rfl,_,rfl⟩ | refine And.intro ?_ ?_))
    have hk:¬ a.kind≠6:=by simpa using hk
    refine And.intro (fun hx=>?_) (fun hx=>?_)
    · have hx:ixI a.e (keyIs p.key) < 0:=of_decide_eq_true hx
      rw [partA_eq (partV_tn hq hk hx)]
      (repeat' (first | exact trivial | exact Or.inl rfl | exact Or.inr ⟨rfl,_,rfl⟩ | refine And.intro ?_ ?_))
    have hx:¬ ixI a.e (keyIs p.key) < 0:=of_decide_eq_false hx
    have hb:=ix_bound hx
    rw [partA_eq (partV_t hq hk hx)]
    refine And.intro ⟨by omega,by omega⟩ ?_
    (repeat' (first | exact trivial | exact Or.inl rfl | exact Or.inr ⟨rfl,_,rfl⟩ | refine And.intro ?_ ?_))
  · have hq:¬ p.i < 0:=of_decide_eq_false hq
    refine And.intro (fun hk=>?_) (fun hk=>?_)
    · have hk:a.kind≠5:=by simpa using hk
      rw [partA_eq (partV_lk hq hk)]
      (repeat' (first | exact trivial | exact Or.inl rfl | exact Or.inr ⟨rfl,_,rfl⟩ | refine And.intro ?_ ?_))
    have hk:¬ a.kind≠5:=by simpa using hk
    intro _
    refine And.intro (fun hx=>?_) (fun hx=>?_)
    · rw [partA_eq (partV_ln hq hk (of_decide_eq_true hx))]
      (repeat' (first | exact trivial | exact Or.inl rfl | exact Or.inr ⟨rfl,_,rfl⟩ | refine And.intro ?_ ?_))
    have hx:¬ (a.l.length:Int)≤p.i:=of_decide_eq_false hx
    rw [partA_eq (partV_l hq hk hx)]
    refine And.intro ⟨by omega,by omega⟩ ?_
    (repeat' (first | exact trivial | exact Or.inl rfl | exact Or.inr ⟨rfl,_,rfl⟩ | refine And.intro ?_ ?_))
theorem s_part (a:Val) (p:PStep):PSpec Tryd.prog 92 [.agg (encVal a),.agg (enc .pstep p)] (partA a p) :=
  pspec_of_vcL Γ_good Tryd.func92 rfl Tryd.call92 Tryd.results92 Tryd.ntmps92 (Nat.le_of_ble_eq_true rfl) (w_part a p)
def ledA (a:Val) (l:List PStep):AV:=.tup [.agg (encVal (ledV a l).1),.i .i64 (ledV a l).2]
theorem ledA_eq {a w:Val} {l:List PStep} {e:Int} (h:ledV a l = (w,e)):ledA a l = .tup [.agg (encVal w),.i .i64 e]:=by unfold ledA; rw [h]
theorem tail_eq (p:PStep) (r:List PStep):((p::r).take (Int.toNat ((p::r).length:Int))).drop (Int.toNat 1) = r:=by
  rw [Int.toNat_natCast,List.take_length]; rfl
theorem w_led0 (a:Val):vc Tryd.prog Γ 30 [1,2,4,5,6,7,10,21] (Tryd.f52.body.getD .skip) (postK Γ [.cell 4 26,.tmp 5] (fun v=>RL v (ledA a []))) ⟨argSlots 0 [.agg (encVal a),.rd .pstep []],[]⟩:=by
  intro _
  refine And.intro (fun _=>?_) (fun hq=>Bool.noConfusion hq)
  (repeat' (first | exact trivial | exact Or.inl rfl | exact Or.inr ⟨rfl,_,rfl⟩ | refine And.intro ?_ ?_))
theorem s_led0 (a:Val):PSpec Tryd.prog 52 [.agg (encVal a),.rd .pstep []] (ledA a []) :=
  pspec_of_vcL Γ_good Tryd.func52 rfl Tryd.call52 Tryd.results52 Tryd.ntmps52 (Nat.le_of_ble_eq_true rfl) (w_led0 a)
theorem w_led1 (a:Val) (p:PStep) (r:List PStep) (h : -1≤p.i) (ih:∀ w,PSpec Tryd.prog 52 [.agg (encVal w),.rd .pstep r] (ledA w r)):vc Tryd.prog Γ 30 [1,2,4,5,6,7,10,21] (Tryd.f52.body.getD .skip) (postK Γ [.cell 4 26,.tmp 5] (fun v=>RL v (ledA a (p::r)))) ⟨argSlots 0 [.agg (encVal a),.rd .pstep (p::r)],[]⟩:=by
  intro _
  refine And.intro (fun hq=>?_) (fun _=>?_)
  · have:=eq_of_beq hq
    simp only [List.length_cons] at this
    omega
  have hs:=s_partOf a p h
  refine Exists.intro [.take 1,.take 2,.tree 8 [0,3,4,5,6,7,8,9] (.opt 0 (.opt 3 (.opt 4 (.opt 5 (.opt 6 (.opt 7 (.opt 8 (.opt 9 .fin .non) .non) (.opt 8 (.opt 7 (.opt 9 .fin .non) (.opt 9 (.opt 7 .fin .non) .non)) .non)) (.opt 7 (.opt 6 (.opt 8 (.opt 9 .fin .non) .non) (.opt 8 (.opt 6 (.opt 9 .fin .non) .non) .non)) (.opt 8 (.opt 6 (.opt 7 (.opt 9 .fin .non) (.opt 9 (.opt 7 .fin .non) .non)) (.opt 7 (.opt 6 (.opt 9 .fin .non) .non) .non)) .non))) (.opt 8 (.opt 5 (.opt 6 (.opt 7 (.opt 9 .fin .non) (.opt 9 (.opt 7 .fin .non) .non)) (.opt 7 (.opt 6 (.opt 9 .fin .non) .non) .non)) .non) .non)) (.opt 8 (.opt 4 (.opt 5 (.opt 6 (.opt 7 (.opt 9 .fin .non) (.opt 9 (.opt 7 .fin .non) .non)) (.opt 7 (.opt 6 (.opt 9 .fin .non) .non) .non)) .non) .non) .non)) (.opt 8 (.opt 3 (.opt 4 (.opt 5 (.opt 6 (.opt 7 (.opt 9 .fin .non) (.opt 9 (.opt 7 .fin .non) .non)) (.opt 7 (.opt 6 (.opt 9 .fin .non) .non) .non)) .non) .non) .non) .non)) (.opt 3 (.opt 0 (.opt 4 (.opt 5 (.opt 6 (.opt 7 (.opt 8 (.opt 9 .fin .non) .non) (.opt 8 (.opt 7 (.opt 9 .fin .non) (.opt 9 (.opt 7 .fin .non) .non)) .non)) (.opt 7 (.opt 6 (.opt 8 (.opt 9 .fin .non) .non) (.opt 8 (.opt 6 (.opt 9 .fin .non) .non) .non)) (.opt 8 (.opt 6 (.opt 7 (.opt 9 .fin .non) (.opt 9 (.opt 7 .fin .non) .non)) (.opt 7 (.opt 6 (.opt 9 .fin .non) .non) .non)) .non))) (.opt 8 (.opt 5 (.opt 6 (.opt 7 (.opt 9 .fin .non) (.opt 9 (.opt 7 .fin .non) .non)) (.opt 7 (.opt 6 (.opt 9 .fin .non) .non) .non)) .non) .non)) (.opt 8 (.opt 4 (.opt 5 (.opt 6 (.opt 7 (.opt 9 .fin .non) (.opt 9 (.opt 7 .fin .non) .non)) (.opt 7 (.opt 6 (.opt 9 .fin .non) .non) .non)) .non) .non) .non)) (.opt 8 (.opt 0 (.opt 4 (.opt 5 (.opt 6 (.opt 7 (.opt 9 .fin .non) (.opt 9 (.opt 7 .fin .non) .non)) (.opt 7 (.opt 6 (.opt 9 .fin .non) .non) .non)) .non) .non) .non) .non)) (.opt 8 (.opt 0 (.opt 3 (.opt 4 (.opt 5 (.opt 6 (.opt 7 (.opt 9 .fin .non) (.opt 9 (.opt 7 .fin .non) .non)) (.opt 7 (.opt 6 (.opt 9 .fin .non) .non) .non)) .non) .non) .non) (.opt 3 (.opt 0 (.opt 4 (.opt 5 (.opt 6 (.opt 7 (.opt 9 .fin .non) (.opt 9 (.opt 7 .fin .non) .non)) (.opt 7 (.opt 6 (.opt 9 .fin .non) .non) .non)) .non) .non) .non) .non)) .non))),.take 10] (And.intro (by kernel_rfl) ?_)
  refine And.intro ⟨by omega,by simp only [List.length_cons]; omega⟩ ?_
  refine Exists.intro ⟨[(1,.rd .pstep (p::r)),(2,.pt 2 0),(4,.pt 4 0),(5,.i .i64 0),(6,.pt 6 0),(19,.i .i64 (partV a p).2)],[(2,encVal a),(4,[.i .i64 0,.i .i64 0,.i .u64 0,.s [],.nl,.nl]),(6,encVal (partV a p).1)]⟩ (And.intro ?_ ?_)
  · repeat' (first | exact trivial | exact Or.inl rfl | refine And.intro ?_ ?_ | refine Or.inl (Exists.intro _ (And.intro hs ?_)))
  have hr:PSpec Tryd.prog 52 [.agg (encVal (partV a p).1),.rd .pstep (((p::r).take (Int.toNat ((p::r).length:Int))).drop (Int.toNat 1))] (ledA (partV a p).1 r):=by
    rw [tail_eq]; exact ih _
  refine And.intro (fun hq=>?_) (fun hq=>?_)
  · have hq:(partV a p).2≠0:=by simpa using hq
    rw [ledA_eq (show ledV a (p::r) = (zeroV,(partV a p).2) from by rw [ledV,if_pos hq])]
    (repeat' (first | exact trivial | exact Or.inl rfl | exact Or.inr ⟨rfl,_,rfl⟩ | refine And.intro ?_ ?_))
  · have hq:¬ (partV a p).2≠0:=by simpa using hq
    rw [show ledA a (p::r) = ledA (partV a p).1 r from by unfold ledA; rw [ledV,if_neg hq]]
    refine Exists.intro [.blk [0,1,2,3,4,5],.one 6,.take 7] (And.intro (by kernel_rfl) ?_)
    refine And.intro ⟨by omega,by simp only [List.length_cons]; omega,by simp only [List.length_cons]; omega⟩ ?_
    refine Exists.intro _ (And.intro (hr) ?_)
    (repeat' (first | exact trivial | exact Or.inl rfl | exact Or.inr ⟨rfl,_,rfl⟩ | refine And.intro ?_ ?_))
theorem s_led1 (a:Val) (p:PStep) (r:List PStep) (h : -1≤p.i) (ih:∀ w,PSpec Tryd.prog 52 [.agg (encVal w),.rd .pstep r] (ledA w r)):PSpec Tryd.prog 52 [.agg (encVal a),.rd .pstep (p::r)] (ledA a (p::r)) :=
  pspec_of_vcL Γ_good Tryd.func52 rfl Tryd.call52 Tryd.results52 Tryd.ntmps52 (Nat.le_of_ble_eq_true rfl) (w_led1 a p r h ih)
theorem s_Led:∀ (l:List PStep) (a:Val),(∀ p ∈ l,-1≤p.i)→PSpec Tryd.prog 52 [.agg (encVal a),.rd .pstep l] (ledA a l)
  | [],a,_=>s_led0 a
  | p::r,a,h=>s_led1 a p r (h p (.head _)) fun w=>s_Led r w fun q hq=>h q (.tail _ hq)
def getV (a:Val) (l:List PStep):Val × Int:=if pathF l≠0 then (zeroV,pathF l) else ledV a l
def getA (a:Val) (l:List PStep):AV:=.tup [.agg (encVal (getV a l).1),.i .i64 (getV a l).2]
theorem getA_eq {a w:Val} {l:List PStep} {e:Int} (h:getV a l = (w,e)):getA a l = .tup [.agg (encVal w),.i .i64 e]:=by unfold getA; rw [h]
theorem vn_zero (n:Nat):VN n zeroV:=.mk _ (Nat.zero_le _) (Nat.zero_le _) (fun _ h=>nomatch h) (fun _ h=>nomatch h)
theorem vn_part {n:Nat} {v x:Val} (hv:VN n v) (hx:x ∈ partsOf v):VN n x:=by
  cases hv with
  | mk _ _ _ h4 h5 =>
    rcases List.mem_append.1 hx with hx | hx
    · exact h4 x hx
    · obtain ⟨z,hz,rfl⟩:=List.mem_map.1 hx
      exact h5 z hz
theorem w_get (hu:HasU8) (a:Val) (l:List PStep) (ha:VN 100000000 a):vc Tryd.prog Γ 35 [1,2,4,5,6,8,9,13,16,17,18,19,29] (Tryd.f51.body.getD .skip) (postK Γ [.cell 4 26,.tmp 5] (fun v=>RL v (getA a l))) ⟨argSlots 0 [.agg (encVal a),.rd .pstep l],[]⟩:=by
  refine Or.inl (Exists.intro _ (And.intro (s_pathC hu l) ?_))
  refine And.intro (fun hq=>?_) (fun hq=>?_)
  · have hq:pathF l≠0:=by simpa using hq
    rw [getA_eq (show getV a l = (zeroV,pathF l) from if_pos hq)]
    (repeat' (first | exact trivial | exact Or.inl rfl | exact Or.inr ⟨rfl,_,rfl⟩ | refine And.intro ?_ ?_))
  have hq:¬ pathF l≠0:=by simpa using hq
  have hg:getV a l = ledV a l:=if_neg hq
  rw [show getA a l = ledA a l from by unfold getA ledA; rw [hg]]
  intro hl
  refine Exists.intro [] (Exists.intro [] (Exists.intro [] (Exists.intro Nat (Exists.intro (fun i=>i≤(l).length∧((ledV a (l.take i)).2 = 0)) (Exists.intro (fun i=>⟨[(2,.pt 2 0),(4,.pt 4 0),(5,.i .i64 0),(16,.rd .pstep l),(17,.i .i64 l.length),(18,.i .i64 i)],[(2,encVal (ledV a (l.take i)).1),(4,[.i .i64 0,.i .i64 0,.i .u64 0,.s [],.nl,.nl])]⟩) (Exists.intro (fun i=>(l).length - i) (Exists.intro 0 (And.intro ⟨Nat.zero_le _,rfl⟩ (And.intro ?_ ?_)))))))))
  · (repeat' (first | exact trivial | exact Or.inl rfl | exact Or.inr (Or.inl ⟨rfl,_,rfl⟩) | exact Or.inr (Or.inr (Or.inr ⟨_,_,_,rfl,rfl⟩)) | refine And.intro ?_ ?_))
  rintro i ⟨hi,hI⟩
  refine And.intro (fun hz=>?_) (fun hz=>?_)
  · have hi:=ltD hz
    have hg:=getI (τ:=.pstep) hi
    refine And.intro ⟨by omega,by omega⟩ ?_
    rw [hg]
    have hs:=s_part (ledV a (l.take i)).1 l[i]
    have hap:=ledV_append (l.take i) [l[i]] a hI
    rw [← take_snoc hi,ledV_one] at hap
    have hap2:=ledV_append (l.take i) (l.drop i) a hI
    rw [List.take_append_drop,List.drop_eq_getElem_cons hi,ledV] at hap2
    have:=len_le hl
    refine Or.inl (Exists.intro _ (And.intro (hs) ?_))
    refine And.intro (fun hq=>?_) (fun hq=>?_)
    · have hq:(partV (ledV a (l.take i)).1 l[i]).2≠0:=by simpa using hq
      rw [if_pos hq] at hap2
      rw [ledA_eq hap2]
      (repeat' (first | exact trivial | exact Or.inl rfl | exact Or.inr ⟨rfl,_,rfl⟩ | refine And.intro ?_ ?_))
    · have hq:¬ (partV (ledV a (l.take i)).1 l[i]).2≠0:=by simpa using hq
      rw [if_neg hq] at hap
      have e1:(ledV a (l.take (i + 1))).1 = (partV (ledV a (l.take i)).1 l[i]).1:=by rw [hap]
      (refine And.intro (rng64 (by omega) (by omega)) ?_)
      refine Exists.intro [] (Exists.intro (_ + 1) (And.intro ⟨hi,(by rw [hap])⟩ (And.intro ?_ ?_)))
      · (repeat' (first | exact trivial | exact Or.inl rfl | exact Or.inl ((congrArg (fun v:Val=>AV.i .i64 v.kind) e1.symm)) | exact Or.inl ((congrArg (fun v:Val=>AV.i .i64 v.n) e1.symm)) | exact Or.inl ((congrArg (fun v:Val=>AV.i .u64 v.f) e1.symm)) | exact Or.inl ((congrArg (fun v:Val=>AV.s v.s) e1.symm)) | exact Or.inl ((congrArg (fun v:Val=>AV.rd .val v.l) e1.symm)) | exact Or.inl ((congrArg (fun v:Val=>AV.rd .ent v.e) e1.symm)) | refine And.intro ?_ ?_))
      · (exact Nat.sub_lt_sub_left (by omega) (by omega))
  · (have hi:=geD hi hz)
    subst hi
    rw [List.take_length] at hI ⊢
    refine Or.inl (Exists.intro _ (And.intro (s_Own (ledV a l).1 (ledV_keep (R:=VN 100000000) (vn_zero _) (fun _ h _ hx=>vn_part h hx) l a ha)) ?_))
    rw [show ledA a l = .tup [.agg (encVal (ledV a l).1),.i .i64 0] from by unfold ledA; rw [hI]]
    (repeat' (first | exact trivial | exact Or.inl rfl | exact Or.inr ⟨rfl,_,rfl⟩ | refine And.intro ?_ ?_))
theorem s_get (hu:HasU8) (a:Val) (l:List PStep) (ha:VN 100000000 a):PSpec Tryd.prog 51 [.agg (encVal a),.rd .pstep l] (getA a l) :=
  pspec_of_vcL Γ_good Tryd.func51 rfl Tryd.call51 Tryd.results51 Tryd.ntmps51 (Nat.le_of_ble_eq_true rfl) (w_get hu a l ha)
end
end Go.Proofs.YtmfchbkdakmjhaaDoor
end
section
namespace Go.Proofs.YtmfchbkdakmjhaaDoor
set_option linter.unusedSectionVars false
set_option linter.unusedSimpArgs false
set_option linter.unusedVariables false
open Go Go.SX Go.Ck Go.Vl Go.Ut Go.Up
set_option maxRecDepth 100000
set_option maxHeartbeats 1000000
section
variable [G:Globs]
end
end Go.Proofs.YtmfchbkdakmjhaaDoor
end
section
namespace Go.Proofs.YtmfchbkdakmjhaaDoor
set_option linter.unusedSectionVars false
set_option linter.unusedSimpArgs false
set_option linter.unusedVariables false
open Go Go.SX Go.Ck Go.Vl Go.Ut Go.Up
set_option maxRecDepth 100000
set_option maxHeartbeats 1000000
section
variable [G:Globs]
end
end Go.Proofs.YtmfchbkdakmjhaaDoor
end
section
namespace Go.Ck
set_option linter.unusedSectionVars false
set_option linter.unusedSimpArgs false
set_option linter.unusedVariables false
open Go.SX Go.Vl
theorem sum_bulk:∀ l:List Val,(∀ x ∈ l,(sizV x).2≤(bkV x:Int))→sumT (l.map fun v=>(⟨v,0⟩:VPlace))≤((l.map bkV).sum:Nat)
  | [],_=>by simp [sumT]
  | x::r,h=>by
    have h1:=h x (.head _)
    have h2:=sum_bulk r fun y hy=>h y (.tail _ hy)
    rw [List.map_cons,sumT,List.map_cons,List.sum_cons]
    show (sizV x).2 + _≤_
    omega
theorem siz_bulk_n:∀ (n:Nat) (v:Val),SizeOf.sizeOf v < n→(sizV v).2≤(bkV v:Int):=by
  intro n
  induction n with
  | zero=>intro v h; exact absurd h (Nat.not_lt_zero _)
  | succ n ih =>
    intro v h
    have h1:=sum_bulk (partsOf v) fun x hx=>ih x (by have:=parts_sz hx; omega)
    have h2:=fold_sum (partsOf v) (0,1) 0
    have h3:((partsOf v).map bkV).sum≤(v.l.map bkV).sum + (v.e.map bkP).sum:=by
      unfold partsOf
      rw [List.map_append,List.sum_append,List.map_map]
      have:(v.e.map (bkV ∘ (·.2))).sum≤(v.e.map bkP).sum:=by
        generalize v.e = e
        induction e with
        | nil=>exact Nat.le_refl _
        | cons p r ih =>
          rw [List.map_cons,List.sum_cons,List.map_cons,List.sum_cons,bkP_eq]
          simp only [Function.comp]
          omega
      omega
    rw [sizV_eq,bkV_eq]
    simp only at h2 ⊢
    omega
theorem siz_bulk (v:Val):(sizV v).2≤(bkV v:Int):=siz_bulk_n _ v (Nat.lt_succ_self _)
end Go.Ck
end
section
namespace Go.Proofs.YtmfchbkdakmjhaaDoor
set_option linter.unusedSectionVars false
set_option linter.unusedSimpArgs false
set_option linter.unusedVariables false
open Go Go.SX Go.Ck Go.Vl Go.Ut Go.Up
set_option maxRecDepth 100000
set_option maxHeartbeats 1000000
theorem vn_of_vw {n m:Nat} (h:n≤m) {v:Val} (hv:VW n v):VN m v:=by
  induction hv with
  | mk v _ _ _ h1 h2 _ _ i1 i2=>exact .mk v (Nat.le_trans h1 h) (Nat.le_trans h2 h) i1 i2
structure Mod (v:Val):Prop where
  vb:VB v
  bk:bkV v≤10000000
theorem Mod.siz {v:Val} (h:Mod v):(sizV v).2≤1000000000:=by have:=siz_bulk v; have:=h.bk; omega
theorem Mod.vw {v:Val} (h:Mod v):VW 10000000 v:=(vw_of_vb h.vb).mono h.bk
theorem Mod.vn {v:Val} (h:Mod v):VN 100000000 v:=vn_of_vw (by decide) h.vw
section
variable [G:Globs]
theorem w_samePath (l k:List PStep):vc Tryd.prog Γ 26 [0,1,4,5,10,12,13,14,24] (Tryd.f34.body.getD .skip) (postK Γ [.tmp 4] (fun v=>v = .b (decide (l = k)))) ⟨argSlots 0 [.rd .pstep l,.rd .pstep k],[]⟩:=by
  intro hl
  intro hk
  refine And.intro (fun hq=>?_) (fun hq=>?_)
  · have hq:l.length≠k.length:=by have:=hq; simp only [bne_iff_ne,ne_eq] at this; omega
    refine congrArg AV.b ?_
    rw [eq_comm,decide_eq_false_iff_not]
    exact fun e=>hq (by rw [e])
  have hq:l.length = k.length:=by have:((l.length:Int) != (k.length:Int)) = false:=hq; simp only [bne_eq_false_iff_eq] at this; omega
  intro _
  refine Exists.intro [] (Exists.intro [] (Exists.intro [] (Exists.intro Nat (Exists.intro (fun i=>i≤(l).length∧(l.take i = k.take i)) (Exists.intro (fun i=>⟨[(0,.rd .pstep l),(1,.rd .pstep k),(12,.i .i64 l.length),(13,.i .i64 i)],[]⟩) (Exists.intro (fun i=>(l).length - i) (Exists.intro 0 (And.intro ⟨Nat.zero_le _,rfl⟩ (And.intro ?_ ?_)))))))))
  · (repeat' (first | exact trivial | exact Or.inl rfl | exact Or.inr (Or.inl ⟨rfl,_,rfl⟩) | exact Or.inr (Or.inr (Or.inr ⟨_,_,_,rfl,rfl⟩)) | refine And.intro ?_ ?_))
  rintro i ⟨hi,hI⟩
  refine And.intro (fun hz=>?_) (fun hz=>?_)
  · have hi:=ltD hz
    have hg:=getI (τ:=.pstep) hi
    have hg2:=getI (τ:=.pstep) (l:=k) (show i < k.length by omega)
    refine Exists.intro [.blk [0,1,2,3,4,5,6,7,8]] (And.intro (by kernel_rfl) ?_)
    refine And.intro ⟨by omega,by omega⟩ ?_
    refine And.intro ⟨by omega,by omega⟩ ?_
    rw [hg,hg2]
    have hik:i < k.length:=by omega
    have hll:=len_le hl
    have hst:(l[i].key == k[i].key && (decide (l[i].i = k[i].i) && true)) = decide (l[i] = k[i]):=by
      rw [Bool.eq_iff_iff]
      simp only [Bool.and_true,Bool.and_eq_true,beq_iff_eq,decide_eq_true_eq]
      constructor
      · rintro ⟨h1,h2⟩
        cases hl1:l[i]; cases hk1:k[i]
        rw [hl1,hk1] at h1 h2
        simp only at h1 h2
        rw [h1,h2]
      · intro h; rw [h]; exact ⟨rfl,rfl⟩
    refine And.intro (fun hc=>?_) (fun hc=>?_)
    · have hc:(!(l[i].key == k[i].key && (decide (l[i].i = k[i].i) && true))) = true:=hc
      rw [hst] at hc
      have hne:l[i]≠k[i]:=by simpa using hc
      refine congrArg AV.b ?_
      rw [eq_comm,decide_eq_false_iff_not]
      intro e
      exact hne (by subst e; rfl)
    · have hc:(!(l[i].key == k[i].key && (decide (l[i].i = k[i].i) && true))) = false:=hc
      rw [hst] at hc
      have heq:l[i] = k[i]:=by simpa using hc
      (refine And.intro (rng64 (by omega) (by omega)) ?_)
      refine Exists.intro [] (Exists.intro (_ + 1) (And.intro ⟨hi,(by rw [take_snoc hi,take_snoc hik,hI,heq])⟩ (And.intro ?_ ?_)))
      · (repeat' (first | exact trivial | exact Or.inl rfl | exact Or.inr (Or.inl ⟨rfl,_,rfl⟩) | exact Or.inr (Or.inr (Or.inr ⟨_,_,_,rfl,rfl⟩)) | refine And.intro ?_ ?_))
      · (exact Nat.sub_lt_sub_left (by omega) (by omega))
  · (have hi:=geD hi hz)
    subst hi
    rw [List.take_length,hq,List.take_length] at hI
    exact congrArg AV.b (by rw [eq_comm,decide_eq_true_eq]; exact hI)
theorem s_samePath (l k:List PStep):PSpec Tryd.prog 34 [.rd .pstep l,.rd .pstep k] (.b (decide (l = k))) :=
  pspec_of_vc Γ_good Tryd.func34 rfl Tryd.call34 Tryd.results34 Tryd.ntmps34 (Nat.le_of_ble_eq_true rfl) (w_samePath l k)
theorem vb_zero:VB zeroV:=.mk zeroV ⟨by decide,by decide⟩ ⟨by decide,by decide⟩ ⟨by decide,by decide⟩ (fun _ h=>nomatch h) (fun _ h=>nomatch h)
theorem w_sameOp (a:OpR) (hv:VB a.v):vc Tryd.prog Γ 31 [2,3,4] (Tryd.f17.body.getD .skip) (postK Γ [.tmp 4] (fun v=>v = .b true)) ⟨argSlots 0 [.agg (enc .op a),.agg (enc .op a)],[]⟩:=by
  refine And.intro (fun _=>?_) (fun h=>absurd ((beq_self_eq_true a.kind).symm.trans h) (by decide))
  refine And.intro (fun _=>?_) (fun h=>absurd ((beq_self_eq_true a.key).symm.trans h) (by decide))
  refine Or.inl (Exists.intro _ (And.intro (s_samePath a.p a.p) ?_))
  refine And.intro (fun _=>?_) (fun h=>absurd ((decide_eq_true (rfl:a.p = a.p)).symm.trans h) (by decide))
  refine Or.inl (Exists.intro _ (And.intro (s_same a.v a.v hv hv) ?_))
  exact congrArg AV.b (decide_eq_true (cmpV_self a.v))
theorem s_sameOp (a:OpR) (hv:VB a.v):PSpec Tryd.prog 17 [.agg (enc .op a),.agg (enc .op a)] (.b true) :=
  pspec_of_vc Γ_good Tryd.func17 rfl Tryd.call17 Tryd.results17 Tryd.ntmps17 (Nat.le_of_ble_eq_true rfl) (w_sameOp a hv)
end
end Go.Proofs.YtmfchbkdakmjhaaDoor
end
section
namespace Go.Proofs.YtmfchbkdakmjhaaDoor
set_option linter.unusedSectionVars false
set_option linter.unusedSimpArgs false
set_option linter.unusedVariables false
open Go Go.SX Go.Ck Go.Vl Go.Ut Go.Up Go.Sp Go.Nm
set_option maxRecDepth 100000
set_option maxHeartbeats 1000000
def prA (p:Val × Int):AV:=.tup [.agg (encVal p.1),.i .i64 p.2]
theorem prA_eq {p:Val × Int} {w:Val} {e:Int} (h:p = (w,e)):prA p = .tup [.agg (encVal w),.i .i64 e]:=by rw [h]; rfl
theorem bec4 {x:Val} {k:Int} (h:k = 4):becV x k = if x.kind≠2 then (x,10) else (⟨4,0,0,numT x.n 10,[],[]⟩,0):=by unfold becV; rw [if_pos h]
theorem bec5 {x:Val} {k:Int} (h:k = 5):becV x k = if x.kind≠4 then (x,10) else (⟨2,(readV x.s).1,0,[],[],[]⟩,(readV x.s).2):=by unfold becV; rw [if_neg (by omega),if_pos h]
theorem bec6 {x:Val} {k:Int} (h:k = 6):becV x k = (⟨5,0,0,[],[x],[]⟩,0):=by unfold becV; rw [if_neg (by omega),if_neg (by omega),if_pos h]
theorem bec7 {x:Val} {k:Int} (h:k≠4∧k≠5∧k≠6):becV x k = if x.kind≠5 then (x,10) else if x.l.length≠1 then (x,8) else (x.l.getD 0 default,0):=by unfold becV; rw [if_neg h.1,if_neg h.2.1,if_neg h.2.2]
theorem ve_len {n:Nat} {a:Val} (h:VW n a):a.e.length≤n:=by cases h with | mk _ _ _ _ _ h=>exact h
theorem vw_entn {n:Nat} {a:Val} (h:VW n a) (hn:n≤100000000):∀ p ∈ a.e,VN 100000000 p.2:=fun p hp=>vn_of_vw hn (h.part (List.mem_append_right _ (List.mem_map.2 ⟨p,hp,rfl⟩)))
section
variable [G:Globs]
theorem w_bec (hp:HasPow) (x:Val) (k:Int) (h0 : -9223372036854775808≤x.n∧x.n≤9223372036854775807):vc Tryd.prog Γ 54 [1,2,4,5,6,7,8,9,13,19,23,34,39,44] (Tryd.f84.body.getD .skip) (postK Γ [.cell 4 26,.tmp 5] (fun v=>RL v (prA (becV x k)))) ⟨argSlots 0 [.agg (encVal x),.i .i64 k],[]⟩:=by
  by_cases h4:k = 4
  · have hb:=bec4 (x:=x) h4
    by_cases hk:x.kind≠2
    · rw [if_pos hk] at hb
      rw [prA_eq hb]
      (repeat' (first | (refine And.intro (fun h=>?_) (fun h=>?_)<;>(try simp [-List.getD_eq_getElem?_getD,-Int.pred_toNat] at h)<;>(try (exfalso; first | omega | contradiction))) | (refine And.intro (rng64 (by omega) (by omega)) ?_) | (refine And.intro ⟨by omega,by omega⟩ ?_) | (refine And.intro ⟨by omega,by omega,by omega⟩ ?_) | (intro _)))
      (repeat' (first | exact trivial | exact Or.inl rfl | exact Or.inr ⟨rfl,_,rfl⟩ | refine And.intro ?_ ?_))
    · rw [if_neg hk] at hb
      rw [prA_eq hb]
      have hk:x.kind = 2:=Decidable.not_not.1 hk
      (repeat' (first | (refine And.intro (fun h=>?_) (fun h=>?_)<;>(try simp [-List.getD_eq_getElem?_getD,-Int.pred_toNat] at h)<;>(try (exfalso; first | omega | contradiction))) | (refine And.intro (rng64 (by omega) (by omega)) ?_) | (refine And.intro ⟨by omega,by omega⟩ ?_) | (refine And.intro ⟨by omega,by omega,by omega⟩ ?_) | (intro _)))
      refine Or.inl (Exists.intro _ (And.intro (s_textP hp x.n h0.1 h0.2) ?_))
      (repeat' (first | exact trivial | exact Or.inl rfl | exact Or.inr ⟨rfl,_,rfl⟩ | refine And.intro ?_ ?_))
  · by_cases h5:k = 5
    · have hb:=bec5 (x:=x) h5
      by_cases hk:x.kind≠4
      · rw [if_pos hk] at hb
        rw [prA_eq hb]
        (repeat' (first | (refine And.intro (fun h=>?_) (fun h=>?_)<;>(try simp [-List.getD_eq_getElem?_getD,-Int.pred_toNat] at h)<;>(try (exfalso; first | omega | contradiction))) | (refine And.intro (rng64 (by omega) (by omega)) ?_) | (refine And.intro ⟨by omega,by omega⟩ ?_) | (refine And.intro ⟨by omega,by omega,by omega⟩ ?_) | (intro _)))
        (repeat' (first | exact trivial | exact Or.inl rfl | exact Or.inr ⟨rfl,_,rfl⟩ | refine And.intro ?_ ?_))
      · rw [if_neg hk] at hb
        rw [prA_eq hb]
        have hk:x.kind = 4:=Decidable.not_not.1 hk
        (repeat' (first | (refine And.intro (fun h=>?_) (fun h=>?_)<;>(try simp [-List.getD_eq_getElem?_getD,-Int.pred_toNat] at h)<;>(try (exfalso; first | omega | contradiction))) | (refine And.intro (rng64 (by omega) (by omega)) ?_) | (refine And.intro ⟨by omega,by omega⟩ ?_) | (refine And.intro ⟨by omega,by omega,by omega⟩ ?_) | (intro _)))
        refine Or.inl (Exists.intro _ (And.intro (s_readP x.s) ?_))
        (repeat' (first | exact trivial | exact Or.inl rfl | exact Or.inr ⟨rfl,_,rfl⟩ | refine And.intro ?_ ?_))
    · by_cases h6:k = 6
      · have hb:=bec6 (x:=x) h6
        rw [prA_eq hb]
        (repeat' (first | (refine And.intro (fun h=>?_) (fun h=>?_)<;>(try simp [-List.getD_eq_getElem?_getD,-Int.pred_toNat] at h)<;>(try (exfalso; first | omega | contradiction))) | (refine And.intro (rng64 (by omega) (by omega)) ?_) | (refine And.intro ⟨by omega,by omega⟩ ?_) | (refine And.intro ⟨by omega,by omega,by omega⟩ ?_) | (intro _)))
        (repeat' (first | exact trivial | exact Or.inl rfl | exact Or.inl (congrArg (fun w=>AV.rd .val [w]) (val_eta _)) | exact Or.inr ⟨rfl,_,rfl⟩ | refine And.intro ?_ ?_))
      · have hb:=bec7 (x:=x) ⟨h4,h5,h6⟩
        by_cases hk:x.kind≠5
        · rw [if_pos hk] at hb
          rw [prA_eq hb]
          (repeat' (first | (refine And.intro (fun h=>?_) (fun h=>?_)<;>(try simp [-List.getD_eq_getElem?_getD,-Int.pred_toNat] at h)<;>(try (exfalso; first | omega | contradiction))) | (refine And.intro (rng64 (by omega) (by omega)) ?_) | (refine And.intro ⟨by omega,by omega⟩ ?_) | (refine And.intro ⟨by omega,by omega,by omega⟩ ?_) | (intro _)))
          (repeat' (first | exact trivial | exact Or.inl rfl | exact Or.inr ⟨rfl,_,rfl⟩ | refine And.intro ?_ ?_))
        · rw [if_neg hk] at hb
          have hk:x.kind = 5:=Decidable.not_not.1 hk
          by_cases hl:x.l.length≠1
          · rw [if_pos hl] at hb
            rw [prA_eq hb]
            (repeat' (first | (refine And.intro (fun h=>?_) (fun h=>?_)<;>(try simp [-List.getD_eq_getElem?_getD,-Int.pred_toNat] at h)<;>(try (exfalso; first | omega | contradiction))) | (refine And.intro (rng64 (by omega) (by omega)) ?_) | (refine And.intro ⟨by omega,by omega⟩ ?_) | (refine And.intro ⟨by omega,by omega,by omega⟩ ?_) | (intro _)))
            (repeat' (first | exact trivial | exact Or.inl rfl | exact Or.inr ⟨rfl,_,rfl⟩ | refine And.intro ?_ ?_))
          · rw [if_neg hl] at hb
            rw [prA_eq hb]
            have hl:x.l.length = 1:=Decidable.not_not.1 hl
            (repeat' (first | (refine And.intro (fun h=>?_) (fun h=>?_)<;>(try simp [-List.getD_eq_getElem?_getD,-Int.pred_toNat] at h)<;>(try (exfalso; first | omega | contradiction))) | (refine And.intro (rng64 (by omega) (by omega)) ?_) | (refine And.intro ⟨by omega,by omega⟩ ?_) | (refine And.intro ⟨by omega,by omega,by omega⟩ ?_) | (intro _)))
            (repeat' (first | exact trivial | exact Or.inl rfl | exact Or.inr ⟨rfl,_,rfl⟩ | refine And.intro ?_ ?_))
theorem s_bec (hp:HasPow) (x:Val) (k:Int) (h0 : -9223372036854775808≤x.n∧x.n≤9223372036854775807):PSpec Tryd.prog 84 [.agg (encVal x),.i .i64 k] (prA (becV x k)) :=
  pspec_of_vcL Γ_good Tryd.func84 rfl Tryd.call84 Tryd.results84 Tryd.ntmps84 (Nat.le_of_ble_eq_true rfl) (w_bec hp x k h0)
theorem w_tab (hp:HasPow) (a:Val) (m:SX.Move) (ha:VW 10000000 a) (hm:VW 10000000 m.v):vc Tryd.prog Γ 102 [2,3,4,5,6,7,8,14,23,36,47,48,62,75,92] (Tryd.f44.body.getD .skip) (postK Γ [.cell 4 26,.tmp 5] (fun v=>RL v (prA (tabV a m)))) ⟨argSlots 0 [.agg (encVal a),.agg (enc .move m)],[]⟩:=by
  have he:=ve_len ha
  have hen:=vw_entn ha (by decide)
  have hmn:=vn_of_vw (show 10000000≤100000000 by decide) hm
  refine Or.inl (Exists.intro _ (And.intro (s_find a.e m.key) ?_))
  by_cases h3:m.kind = 3
  · by_cases hi:0≤ixI a.e (keyIs m.key)
    · have hr:tabV a m = (a,9):=by unfold tabV; rw [if_pos h3,if_pos hi]
      rw [prA_eq hr]
      (repeat' (first | (refine And.intro (fun h=>?_) (fun h=>?_)<;>(try simp [-List.getD_eq_getElem?_getD,-Int.pred_toNat] at h)<;>(try (exfalso; first | omega | contradiction))) | (refine And.intro (rng64 (by omega) (by omega)) ?_) | (refine And.intro ⟨by omega,by omega⟩ ?_) | (refine And.intro ⟨by omega,by omega,by omega⟩ ?_) | (intro _)))
      (repeat' (first | exact trivial | exact Or.inl rfl | exact Or.inr ⟨rfl,_,rfl⟩ | refine And.intro ?_ ?_))
    · have hr:tabV a m = ({ a with e:=putE a.e m.key m.v },0):=by unfold tabV; rw [if_pos h3,if_neg hi]
      rw [prA_eq hr]
      (repeat' (first | (refine And.intro (fun h=>?_) (fun h=>?_)<;>(try simp [-List.getD_eq_getElem?_getD,-Int.pred_toNat] at h)<;>(try (exfalso; first | omega | contradiction))) | (refine And.intro (rng64 (by omega) (by omega)) ?_) | (refine And.intro ⟨by omega,by omega⟩ ?_) | (refine And.intro ⟨by omega,by omega,by omega⟩ ?_) | (intro _)))
      refine Or.inl (Exists.intro _ (And.intro (s_put a.e m.key m.v (by omega) hen hmn) ?_))
      (repeat' (first | exact trivial | exact Or.inl rfl | exact Or.inr ⟨rfl,_,rfl⟩ | refine And.intro ?_ ?_))
  · by_cases hi:ixI a.e (keyIs m.key) < 0
    · have hr:tabV a m = (a,8):=by unfold tabV; rw [if_neg h3,if_pos hi]
      rw [prA_eq hr]
      (repeat' (first | (refine And.intro (fun h=>?_) (fun h=>?_)<;>(try simp [-List.getD_eq_getElem?_getD,-Int.pred_toNat] at h)<;>(try (exfalso; first | omega | contradiction))) | (refine And.intro (rng64 (by omega) (by omega)) ?_) | (refine And.intro ⟨by omega,by omega⟩ ?_) | (refine And.intro ⟨by omega,by omega,by omega⟩ ?_) | (intro _)))
      (repeat' (first | exact trivial | exact Or.inl rfl | exact Or.inr ⟨rfl,_,rfl⟩ | refine And.intro ?_ ?_))
    · obtain ⟨i0,i1,i2⟩:=ix_bound hi
      have hxn:VW 10000000 (atK a m.key):=ha.part (atK_in hi)
      by_cases h1:m.kind = 1
      · by_cases ht:m.to≠m.key∧0≤ixI a.e (keyIs m.to)
        · have hr:tabV a m = (a,9):=by unfold tabV; rw [if_neg h3,if_neg hi,if_pos h1,if_pos ht]
          rw [prA_eq hr]
          obtain ⟨t1,t2⟩:=ht
          (repeat' (first | (refine And.intro (fun h=>?_) (fun h=>?_)<;>(try simp [-List.getD_eq_getElem?_getD,-Int.pred_toNat] at h)<;>(try (exfalso; first | omega | contradiction))) | (refine And.intro (rng64 (by omega) (by omega)) ?_) | (refine And.intro ⟨by omega,by omega⟩ ?_) | (refine And.intro ⟨by omega,by omega,by omega⟩ ?_) | (intro _)))
          refine Or.inl (Exists.intro _ (And.intro (s_find a.e m.to) ?_))
          (repeat' (first | (refine And.intro (fun h=>?_) (fun h=>?_)<;>(try simp [-List.getD_eq_getElem?_getD,-Int.pred_toNat] at h)<;>(try (exfalso; first | omega | contradiction))) | (refine And.intro (rng64 (by omega) (by omega)) ?_) | (refine And.intro ⟨by omega,by omega⟩ ?_) | (refine And.intro ⟨by omega,by omega,by omega⟩ ?_) | (intro _)))
          (repeat' (first | exact trivial | exact Or.inl rfl | exact Or.inr ⟨rfl,_,rfl⟩ | refine And.intro ?_ ?_))
        · have hr:tabV a m = ({ a with e:=putE (withoutE a.e m.key) m.to (atK a m.key) },0):=by unfold tabV; rw [if_neg h3,if_neg hi,if_pos h1,if_neg ht]
          rw [prA_eq hr]
          have hp1:((a.e.getD (ixI a.e (keyIs m.key)).toNat (dflt .ent)).2) = atK a m.key:=rfl
          have hwl:(withoutE a.e m.key).length≤a.e.length:=List.length_filter_le _ _
          have hwn:∀ p ∈ withoutE a.e m.key,VN 100000000 p.2:=fun p hp=>hen p (List.mem_filter.1 hp).1
          have hxn2:=vn_of_vw (show 10000000≤100000000 by decide) hxn
          by_cases ht1:m.to = m.key
          · (repeat' (first | (refine And.intro (fun h=>?_) (fun h=>?_)<;>(try simp [-List.getD_eq_getElem?_getD,-Int.pred_toNat] at h)<;>(try (exfalso; first | omega | contradiction))) | (refine And.intro (rng64 (by omega) (by omega)) ?_) | (refine And.intro ⟨by omega,by omega⟩ ?_) | (refine And.intro ⟨by omega,by omega,by omega⟩ ?_) | (intro _)))
            refine Exists.intro [.blk [0,1,2,3,4,5,6,7,8,9],.one 10] (And.intro (by kernel_rfl) ?_)
            refine Exists.intro _ (And.intro (s_drop a.e m.key (by omega) hen) ?_)
            refine Exists.intro _ (And.intro (s_put (withoutE a.e m.key) m.to (atK a m.key) (by omega) hwn hxn2) ?_)
            (repeat' (first | exact trivial | exact Or.inl rfl | exact Or.inr ⟨rfl,_,rfl⟩ | refine And.intro ?_ ?_))
          · have ht2 : ixI a.e (keyIs m.to) < 0 := by
              rcases Int.lt_or_le (ixI a.e (keyIs m.to)) 0 with h | h
              · exact h
              · exact absurd ⟨ht1,h⟩ ht
            (repeat' (first | (refine And.intro (fun h=>?_) (fun h=>?_)<;>(try simp [-List.getD_eq_getElem?_getD,-Int.pred_toNat] at h)<;>(try (exfalso; first | omega | contradiction))) | (refine And.intro (rng64 (by omega) (by omega)) ?_) | (refine And.intro ⟨by omega,by omega⟩ ?_) | (refine And.intro ⟨by omega,by omega,by omega⟩ ?_) | (intro _)))
            refine Or.inl (Exists.intro _ (And.intro (s_find a.e m.to) ?_))
            (repeat' (first | (refine And.intro (fun h=>?_) (fun h=>?_)<;>(try simp [-List.getD_eq_getElem?_getD,-Int.pred_toNat] at h)<;>(try (exfalso; first | omega | contradiction))) | (refine And.intro (rng64 (by omega) (by omega)) ?_) | (refine And.intro ⟨by omega,by omega⟩ ?_) | (refine And.intro ⟨by omega,by omega,by omega⟩ ?_) | (intro _)))
            refine Exists.intro [.blk [0,1,2,3,4,5,6,7,8,9],.one 10] (And.intro (by kernel_rfl) ?_)
            refine Exists.intro _ (And.intro (s_drop a.e m.key (by omega) hen) ?_)
            refine Exists.intro _ (And.intro (s_put (withoutE a.e m.key) m.to (atK a m.key) (by omega) hwn hxn2) ?_)
            (repeat' (first | exact trivial | exact Or.inl rfl | exact Or.inr ⟨rfl,_,rfl⟩ | refine And.intro ?_ ?_))
      · by_cases h2:m.kind = 2
        · have hr:tabV a m = ({ a with e:=withoutE a.e m.key },0):=by unfold tabV; rw [if_neg h3,if_neg hi,if_neg h1,if_pos h2]
          rw [prA_eq hr]
          (repeat' (first | (refine And.intro (fun h=>?_) (fun h=>?_)<;>(try simp [-List.getD_eq_getElem?_getD,-Int.pred_toNat] at h)<;>(try (exfalso; first | omega | contradiction))) | (refine And.intro (rng64 (by omega) (by omega)) ?_) | (refine And.intro ⟨by omega,by omega⟩ ?_) | (refine And.intro ⟨by omega,by omega,by omega⟩ ?_) | (intro _)))
          refine Or.inl (Exists.intro _ (And.intro (s_drop a.e m.key (by omega) hen) ?_))
          (repeat' (first | exact trivial | exact Or.inl rfl | exact Or.inr ⟨rfl,_,rfl⟩ | refine And.intro ?_ ?_))
        · have hr:tabV a m = if (becV (atK a m.key) m.kind).2≠0 then (a,(becV (atK a m.key) m.kind).2) else ({ a with e:=putE a.e m.key (becV (atK a m.key) m.kind).1 },0):=by unfold tabV; rw [if_neg h3,if_neg hi,if_neg h1,if_neg h2]
          have hxv:VB (atK a m.key):=hxn.vb
          have hx0 : -9223372036854775808≤(atK a m.key).n∧(atK a m.key).n≤9223372036854775807:=by cases hxv with | mk _ _ b _ _ _=>exact b
          have hB:=s_bec hp (atK a m.key) m.kind hx0
          have hbn:VN 100000000 (becV (atK a m.key) m.kind).1:=vn_of_vw (by decide) (vw_bec hxn (by decide) m.kind)
          (repeat' (first | (refine And.intro (fun h=>?_) (fun h=>?_)<;>(try simp [-List.getD_eq_getElem?_getD,-Int.pred_toNat] at h)<;>(try (exfalso; first | omega | contradiction))) | (refine And.intro (rng64 (by omega) (by omega)) ?_) | (refine And.intro ⟨by omega,by omega⟩ ?_) | (refine And.intro ⟨by omega,by omega,by omega⟩ ?_) | (intro _)))
          refine Or.inl (Exists.intro _ (And.intro (hB) ?_))
          by_cases hb:(becV (atK a m.key) m.kind).2≠0
          · rw [if_pos hb] at hr
            rw [prA_eq hr]
            (repeat' (first | (refine And.intro (fun h=>?_) (fun h=>?_)<;>(try simp [-List.getD_eq_getElem?_getD,-Int.pred_toNat] at h)<;>(try (exfalso; first | omega | contradiction))) | (refine And.intro (rng64 (by omega) (by omega)) ?_) | (refine And.intro ⟨by omega,by omega⟩ ?_) | (refine And.intro ⟨by omega,by omega,by omega⟩ ?_) | (intro _)))
            (repeat' (first | exact trivial | exact Or.inl rfl | exact Or.inr ⟨rfl,_,rfl⟩ | refine And.intro ?_ ?_))
          · rw [if_neg hb] at hr
            rw [prA_eq hr]
            have hb:(becV (atK a m.key) m.kind).2 = 0:=Decidable.not_not.1 hb
            (repeat' (first | (refine And.intro (fun h=>?_) (fun h=>?_)<;>(try simp [-List.getD_eq_getElem?_getD,-Int.pred_toNat] at h)<;>(try (exfalso; first | omega | contradiction))) | (refine And.intro (rng64 (by omega) (by omega)) ?_) | (refine And.intro ⟨by omega,by omega⟩ ?_) | (refine And.intro ⟨by omega,by omega,by omega⟩ ?_) | (intro _)))
            refine Or.inl (Exists.intro _ (And.intro (s_put a.e m.key (becV (atK a m.key) m.kind).1 (by omega) hen hbn) ?_))
            rw [hb]
            (repeat' (first | exact trivial | exact Or.inl rfl | exact Or.inr ⟨rfl,_,rfl⟩ | refine And.intro ?_ ?_))
theorem s_tab (hp:HasPow) (a:Val) (m:SX.Move) (ha:VW 10000000 a) (hm:VW 10000000 m.v):PSpec Tryd.prog 44 [.agg (encVal a),.agg (enc .move m)] (prA (tabV a m)) :=
  pspec_of_vcL Γ_good Tryd.func44 rfl Tryd.call44 Tryd.results44 Tryd.ntmps44 (Nat.le_of_ble_eq_true rfl) (w_tab hp a m ha hm)
theorem w_app1S (hp:HasPow) (b:Val) (m:SX.Move) (hb:VW 10000000 b) (hm:VW 10000000 m.v):vc Tryd.prog Γ 10 [1,2,3,4] (Tryd.f43.body.getD .skip) (postK Γ [.cell 3 26,.tmp 4] (fun v=>RL v (prA (tabV b m)))) ⟨argSlots 0 [.agg (encVal b),.rp (enc .move m)],[]⟩:=by
  refine Or.inl (Exists.intro _ (And.intro (s_tab hp b m hb hm) ?_))
  (repeat' (first | exact trivial | exact Or.inl rfl | exact Or.inr ⟨rfl,_,rfl⟩ | refine And.intro ?_ ?_))
theorem s_app1S (hp:HasPow) (b:Val) (m:SX.Move) (hb:VW 10000000 b) (hm:VW 10000000 m.v):PSpec Tryd.prog 43 [.agg (encVal b),.rp (enc .move m)] (prA (tabV b m)) :=
  pspec_of_vcL Γ_good Tryd.func43 rfl Tryd.call43 Tryd.results43 Tryd.ntmps43 (Nat.le_of_ble_eq_true rfl) (w_app1S hp b m hb hm)
theorem tail_str (k:Str) (r:List Str):((k::r).take (Int.toNat ((k::r).length:Int))).drop (Int.toNat 1) = r:=by rw [Int.toNat_natCast,List.take_length]; rfl
theorem w_along0 (a:Val) (m:SX.Move) (g:Nat) (cs:List AV) (hc:PSpec Tryd.prog g [.agg (encVal a),.rp cs] (prA (tabV a m))):vc Tryd.prog Γ 57 [1,2,3,6,7,8,9,10,13,17,30,46] (Tryd.f42.body.getD .skip) (postK Γ [.cell 6 26,.tmp 7] (fun v=>RL v (prA (alongV a [] m)))) ⟨argSlots 0 [.agg (encVal a),.rd .str [],.fn g [.rp cs]],[]⟩:=by
  by_cases h:a.kind≠6
  · have hr:alongV a [] m = (a,10):=by rw [alongV,if_pos h]
    rw [prA_eq hr]
    (repeat' (first | (refine And.intro (fun h=>?_) (fun h=>?_)<;>(try simp [-List.getD_eq_getElem?_getD,-Int.pred_toNat] at h)<;>(try (exfalso; first | omega | contradiction))) | (refine And.intro (rng64 (by omega) (by omega)) ?_) | (refine And.intro ⟨by omega,by omega⟩ ?_) | (refine And.intro ⟨by omega,by omega,by omega⟩ ?_) | (intro _)))
    (repeat' (first | exact trivial | exact Or.inl rfl | exact Or.inr ⟨rfl,_,rfl⟩ | refine And.intro ?_ ?_))
  · have hr:alongV a [] m = tabV a m:=by rw [alongV,if_neg h]
    have h:a.kind = 6:=Decidable.not_not.1 h
    rw [hr]
    (repeat' (first | (refine And.intro (fun h=>?_) (fun h=>?_)<;>(try simp [-List.getD_eq_getElem?_getD,-Int.pred_toNat] at h)<;>(try (exfalso; first | omega | contradiction))) | (refine And.intro (rng64 (by omega) (by omega)) ?_) | (refine And.intro ⟨by omega,by omega⟩ ?_) | (refine And.intro ⟨by omega,by omega,by omega⟩ ?_) | (intro _)))
    refine Or.inl (Exists.intro _ (And.intro (hc) ?_))
    (repeat' (first | exact trivial | exact Or.inl rfl | exact Or.inr ⟨rfl,_,rfl⟩ | refine And.intro ?_ ?_))
theorem s_along0 (a:Val) (m:SX.Move) (g:Nat) (cs:List AV) (hc:PSpec Tryd.prog g [.agg (encVal a),.rp cs] (prA (tabV a m))):PSpec Tryd.prog 42 [.agg (encVal a),.rd .str [],.fn g [.rp cs]] (prA (alongV a [] m)) :=
  pspec_of_vcL Γ_good Tryd.func42 rfl Tryd.call42 Tryd.results42 Tryd.ntmps42 (Nat.le_of_ble_eq_true rfl) (w_along0 a m g cs hc)
theorem w_along1 (a:Val) (k:Str) (r:List Str) (m:SX.Move) (g:Nat) (cs:List AV) (ha:VW 10000000 a) (hm:VW 10000000 m.v) (ih:∀ w,VW 10000000 w→PSpec Tryd.prog 42 [.agg (encVal w),.rd .str r,.fn g [.rp cs]] (prA (alongV w r m))):vc Tryd.prog Γ 57 [1,2,3,6,7,8,9,10,13,17,30,46] (Tryd.f42.body.getD .skip) (postK Γ [.cell 6 26,.tmp 7] (fun v=>RL v (prA (alongV a (k::r) m)))) ⟨argSlots 0 [.agg (encVal a),.rd .str (k::r),.fn g [.rp cs]],[]⟩:=by
  have he:=ve_len ha
  have hen:=vw_entn ha (by decide)
  by_cases h:a.kind≠6
  · have hr:alongV a (k::r) m = (a,10):=by rw [alongV,if_pos h]
    rw [prA_eq hr]
    (repeat' (first | (refine And.intro (fun h=>?_) (fun h=>?_)<;>(try simp [-List.getD_eq_getElem?_getD,-Int.pred_toNat] at h)<;>(try (exfalso; first | omega | contradiction))) | (refine And.intro (rng64 (by omega) (by omega)) ?_) | (refine And.intro ⟨by omega,by omega⟩ ?_) | (refine And.intro ⟨by omega,by omega,by omega⟩ ?_) | (intro _)))
    (repeat' (first | exact trivial | exact Or.inl rfl | exact Or.inr ⟨rfl,_,rfl⟩ | refine And.intro ?_ ?_))
  · have hr:alongV a (k::r) m = if ixI a.e (keyIs k) < 0 then (a,8) else if (alongV (atK a k) r m).2≠0 then (a,(alongV (atK a k) r m).2) else ({ a with e:=putE a.e k (alongV (atK a k) r m).1 },0):=by rw [alongV,if_neg h]
    have h:a.kind = 6:=Decidable.not_not.1 h
    (repeat' (first | (refine And.intro (fun h=>?_) (fun h=>?_)<;>(try simp [-List.getD_eq_getElem?_getD,-Int.pred_toNat] at h)<;>(try (exfalso; first | omega | contradiction))) | (refine And.intro (rng64 (by omega) (by omega)) ?_) | (refine And.intro ⟨by omega,by omega⟩ ?_) | (refine And.intro ⟨by omega,by omega,by omega⟩ ?_) | (intro _)))
    refine Exists.intro [.blk [0,1,2,3,4,5,6]] (And.intro (by kernel_rfl) ?_)
    refine And.intro ⟨by omega,by simp only [List.length_cons]; omega⟩ ?_
    refine Exists.intro _ (And.intro (s_find a.e k) ?_)
    by_cases hi:ixI a.e (keyIs k) < 0
    · rw [if_pos hi] at hr
      rw [prA_eq hr]
      (repeat' (first | (refine And.intro (fun h=>?_) (fun h=>?_)<;>(try simp [-List.getD_eq_getElem?_getD,-Int.pred_toNat] at h)<;>(try (exfalso; first | omega | contradiction))) | (refine And.intro (rng64 (by omega) (by omega)) ?_) | (refine And.intro ⟨by omega,by omega⟩ ?_) | (refine And.intro ⟨by omega,by omega,by omega⟩ ?_) | (intro _)))
      (repeat' (first | exact trivial | exact Or.inl rfl | exact Or.inr ⟨rfl,_,rfl⟩ | refine And.intro ?_ ?_))
    · rw [if_neg hi] at hr
      obtain ⟨i0,i1,i2⟩:=ix_bound hi
      have hxn:VW 10000000 (atK a k):=ha.part (atK_in hi)
      have hrec:PSpec Tryd.prog 42 [.agg (encVal (atK a k)),.rd .str (((k::r).take (Int.toNat ((k::r).length:Int))).drop (Int.toNat 1)),.fn g [.rp cs]] (prA (alongV (atK a k) r m)):=by
        rw [tail_str]
        exact ih _ hxn
      have hwn:=vn_of_vw (show 10000001≤100000000 by decide) (vw_along (hm.mono (show 10000000≤10000000 + 1 by decide)) r (atK a k) hxn)
      (repeat' (first | (refine And.intro (fun h=>?_) (fun h=>?_)<;>(try simp [-List.getD_eq_getElem?_getD,-Int.pred_toNat] at h)<;>(try (exfalso; first | omega | contradiction))) | (refine And.intro (rng64 (by omega) (by omega)) ?_) | (refine And.intro ⟨by omega,by omega⟩ ?_) | (refine And.intro ⟨by omega,by omega,by omega⟩ ?_) | (intro _)))
      refine Exists.intro [.take 0,.take 2,.take 6,.take 7,.take 8,.tree 10 [1,3,4,5,9,10,11,12,13,14] (.opt 1 (.opt 3 (.opt 4 (.opt 5 (.opt 9 (.opt 10 (.opt 11 (.opt 12 (.opt 13 (.opt 14 .fin .non) .non) (.opt 13 (.opt 12 (.opt 14 .fin .non) (.opt 14 (.opt 12 .fin .non) .non)) .non)) (.opt 12 (.opt 11 (.opt 13 (.opt 14 .fin .non) .non) (.opt 13 (.opt 11 (.opt 14 .fin .non) .non) .non)) (.opt 13 (.opt 11 (.opt 12 (.opt 14 .fin .non) (.opt 14 (.opt 12 .fin .non) .non)) (.opt 12 (.opt 11 (.opt 14 .fin .non) .non) .non)) .non))) (.opt 13 (.opt 10 (.opt 11 (.opt 12 (.opt 14 .fin .non) (.opt 14 (.opt 12 .fin .non) .non)) (.opt 12 (.opt 11 (.opt 14 .fin .non) .non) .non)) .non) .non)) (.opt 13 (.opt 9 (.opt 10 (.opt 11 (.opt 12 (.opt 14 .fin .non) (.opt 14 (.opt 12 .fin .non) .non)) (.opt 12 (.opt 11 (.opt 14 .fin .non) .non) .non)) .non) .non) .non)) (.opt 13 (.opt 5 (.opt 9 (.opt 10 (.opt 11 (.opt 12 (.opt 14 .fin .non) (.opt 14 (.opt 12 .fin .non) .non)) (.opt 12 (.opt 11 (.opt 14 .fin .non) .non) .non)) .non) .non) .non) .non)) (.opt 13 (.opt 4 (.opt 5 (.opt 9 (.opt 10 (.opt 11 (.opt 12 (.opt 14 .fin .non) (.opt 14 (.opt 12 .fin .non) .non)) (.opt 12 (.opt 11 (.opt 14 .fin .non) .non) .non)) .non) .non) .non) .non) .non)) (.opt 13 (.opt 3 (.opt 4 (.opt 5 (.opt 9 (.opt 10 (.opt 11 (.opt 12 (.opt 14 .fin .non) (.opt 14 (.opt 12 .fin .non) .non)) (.opt 12 (.opt 11 (.opt 14 .fin .non) .non) .non)) .non) .non) .non) .non) .non) .non)) (.opt 13 (.opt 1 (.opt 3 (.opt 4 (.opt 5 (.opt 9 (.opt 10 (.opt 11 (.opt 12 (.opt 14 .fin .non) (.opt 14 (.opt 12 .fin .non) .non)) (.opt 12 (.opt 11 (.opt 14 .fin .non) .non) .non)) .non) .non) .non) .non) .non) .non) .non)),.take 15] (And.intro (by kernel_rfl) ?_)
      refine And.intro ⟨by omega,by simp only [List.length_cons]; omega,by simp only [List.length_cons]; omega⟩ ?_
      have hbd:(0:Int)≤ixI a.e (keyIs k)∧ixI a.e (keyIs k) < (a.e.length:Int):=⟨i0,by omega⟩
      refine Exists.intro ⟨[(1,.rd .str (k::r)),(2,.fn g [.rp cs]),(3,.pt 3 0),(6,.pt 6 0),(7,.i .i64 0),(8,.i .i64 (ixI a.e (keyIs k))),(9,.pt 9 0),(44,.i .i64 (alongV (atK a k) r m).2)],[(3,encVal a),(6,[.i .i64 0,.i .i64 0,.i .u64 0,.s [],.nl,.nl]),(9,encVal (alongV (atK a k) r m).1)]⟩ (And.intro ?_ ?_)
      · (repeat' (first | exact trivial | exact Or.inl rfl | exact hbd | refine Or.inl (Exists.intro _ (And.intro hrec ?_)) | refine And.intro ?_ ?_))
      by_cases hb:(alongV (atK a k) r m).2≠0
      · rw [if_pos hb] at hr
        rw [prA_eq hr]
        (repeat' (first | (refine And.intro (fun h=>?_) (fun h=>?_)<;>(try simp [-List.getD_eq_getElem?_getD,-Int.pred_toNat] at h)<;>(try (exfalso; first | omega | contradiction))) | (refine And.intro (rng64 (by omega) (by omega)) ?_) | (refine And.intro ⟨by omega,by omega⟩ ?_) | (refine And.intro ⟨by omega,by omega,by omega⟩ ?_) | (intro _)))
        (repeat' (first | exact trivial | exact Or.inl rfl | exact Or.inr ⟨rfl,_,rfl⟩ | refine And.intro ?_ ?_))
      · rw [if_neg hb] at hr
        rw [prA_eq hr]
        have hb:(alongV (atK a k) r m).2 = 0:=Decidable.not_not.1 hb
        (repeat' (first | (refine And.intro (fun h=>?_) (fun h=>?_)<;>(try simp [-List.getD_eq_getElem?_getD,-Int.pred_toNat] at h)<;>(try (exfalso; first | omega | contradiction))) | (refine And.intro (rng64 (by omega) (by omega)) ?_) | (refine And.intro ⟨by omega,by omega⟩ ?_) | (refine And.intro ⟨by omega,by omega,by omega⟩ ?_) | (intro _)))
        refine Exists.intro [.blk [0,1,2,3,4,5,6,7],.one 8] (And.intro (by kernel_rfl) ?_)
        refine And.intro ⟨by omega,by simp only [List.length_cons]; omega⟩ ?_
        refine Exists.intro _ (And.intro (s_put a.e k (alongV (atK a k) r m).1 (by omega) hen hwn) ?_)
        rw [hb]
        (repeat' (first | exact trivial | exact Or.inl rfl | exact Or.inr ⟨rfl,_,rfl⟩ | refine And.intro ?_ ?_))
theorem s_along1 (a:Val) (k:Str) (r:List Str) (m:SX.Move) (g:Nat) (cs:List AV) (ha:VW 10000000 a) (hm:VW 10000000 m.v) (ih:∀ w,VW 10000000 w→PSpec Tryd.prog 42 [.agg (encVal w),.rd .str r,.fn g [.rp cs]] (prA (alongV w r m))):PSpec Tryd.prog 42 [.agg (encVal a),.rd .str (k::r),.fn g [.rp cs]] (prA (alongV a (k::r) m)) :=
  pspec_of_vcL Γ_good Tryd.func42 rfl Tryd.call42 Tryd.results42 Tryd.ntmps42 (Nat.le_of_ble_eq_true rfl) (w_along1 a k r m g cs ha hm ih)
theorem s_along (hp:HasPow) (m:SX.Move) (hm:VW 10000000 m.v):∀ (r:List Str) (a:Val),VW 10000000 a→PSpec Tryd.prog 42 [.agg (encVal a),.rd .str r,.fn 43 [.rp (enc .move m)]] (prA (alongV a r m))
  | [],a,ha=>s_along0 a m 43 (enc .move m) (s_app1S hp a m ha hm)
  | k::r,a,ha=>s_along1 a k r m 43 (enc .move m) ha hm (fun w hw=>s_along hp m hm r w hw)
end
end Go.Proofs.YtmfchbkdakmjhaaDoor
end
