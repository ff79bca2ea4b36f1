/-
  A part of a proof: plain laws and walks, one after the other. No conditions.
-/
import Derived.Test.YtfeniggadfkakaaDoorDf3
import Derived.Test.YtfeniggadfkakaaDoorRows
import Derived.Deep.Slices
import Derived.Carry
import Derived.DataReads
import Derived.Laws.Bits64
import Derived.Laws.Bits64b
import Derived.Shelf.Small.Wraps
import Derived.Shelf.Unicode.Decode
import Derived.Shelf.Unicode.DecodeSlow
import Derived.Shelf.Unicode.DecodeAny
import Derived.Ground.Names2Prog
import Derived.Shelf.Slices.SearchI
import Derived.Test.YtfeniggadfkakaaDoorProg
import Derived.IntWalk
import Derived.Lib.RuneBytes
set_option linter.constructorNameAsVariable false
set_option linter.unusedVariables false
set_option linter.unusedSimpArgs false
set_option linter.unusedSectionVars false
section
namespace Go.SX
variable [Globs]
section
variable {P:Program} {N:Nat} {Γ:Ctx} {W0:World} {F:Fr} {X:Nat→Prop} {s:St} {β:Nat→Option Nat} {a:Act} {w:World} {n:Nat}
theorem op_frame {o:Oper} {next:Act→World→Prop} {Q:Exit→Act→World→Prop} (h:o.wp P a w next Q):o.wp P a w (fun a' w'=>next a' w'∧∃ v,a'.tmps = (a.put o.dst v).tmps) Q:=by
 unfold Oper.wp at h ⊢
 revert h
 generalize (execOp a.eval o).run P w = r
 intro h
 cases r with
 | ok q w' =>
  cases q with
  | value v=>exact ⟨h,v,rfl⟩
  | skip=>exact ⟨h,undef,rfl⟩
  | defer d=>exact ⟨h,undef,by cases o.dst<;>rfl⟩
  | enter f args=>exact Calls.mono h fun e w'' hr=>(by cases e<;>first | exact ⟨hr,_,rfl⟩ | exact hr)
  | row r args=>exact Rows.mono h fun v w'' hr=>⟨hr,v,rfl⟩
  | _=>exact h
 | halt q w'=>cases q<;>exact h
theorem put_getD (a:Act) (d:Option Nat) (v:Value) (m:Nat) (h:d≠some m):(a.put d v).tmps.getD m undef = a.tmps.getD m undef:=by
 cases d with
 | none=>rfl
 | some d =>
  have hne:d≠m:=fun e=>h (by rw [e])
  simp only [Act.put,Array.getD_eq_getD_getElem?,Array.getElem?_setIfInBounds,hne,if_false]
theorem list_frame {ops : Array Oper} {Q : Exit → Act → World → Prop} {K : List Nat} {a0 : Act} : ∀ (l : List Oper), l.all (fun o => K.all fun n => o.dst != some n) = true → ∀ (a : Act) (w : World), (∀ n ∈ K, a.tmps.getD n undef = a0.tmps.getD n undef) → wpList P ops Q l a w →
  wpList P ops (fun e a' w'=>Q e a' w'∧(e = .normal→∀ n ∈ K,a'.tmps.getD n undef = a0.tmps.getD n undef)) l a w:=by
 intro l
 induction l with
 | nil=>intro _ a w hk h; exact ⟨h,fun _=>hk⟩
 | cons o r ih =>
  intro hl a w hk h
  simp only [List.all_cons,Bool.and_eq_true] at hl
  have hput:∀ v,∀ n ∈ K,(a.put o.dst v).tmps.getD n undef = a0.tmps.getD n undef:=fun v n hn=>by
   have:=List.all_eq_true.1 hl.1 n hn
   rw [put_getD a o.dst v n (by simpa using this)]
   exact hk n hn
  simp only [wpList] at h ⊢
  split at h
  ·rename_i hw
   rw [if_pos hw]
   rcases h with h | ⟨h1,a1,w1,h2⟩
   ·left
    have h:=op_frame h
    -- the post is strengthened
    have hQ:∀ {next next':Act→World→Prop},(∀ a w,next a w→next' a w)→o.wp P a w next Q→o.wp P a w next' (fun e a' w'=>Q e a' w'∧(e = .normal→∀ n ∈ K,a'.tmps.getD n undef = a0.tmps.getD n undef)):=fun {next next'} hn hh=>by
     unfold Oper.wp at hh ⊢
     revert hh
     generalize (execOp a.eval o).run P w = q
     intro hh
     cases q with
     | ok q w' =>
      cases q with
      | value v=>exact hn _ _ hh
      | skip=>exact hn _ _ hh
      | defer d=>exact hn _ _ hh
      | enter f args=>exact Calls.mono hh fun e w'' hr=>(by cases e<;>first | exact hn _ _ hr | exact ⟨hr,fun e=>nomatch e⟩ | (obtain ⟨a2,w2,h2⟩:=hr; exact ⟨a2,w2,h2,fun e=>nomatch e⟩))
      | row r args=>exact Rows.mono hh fun v w'' hr=>hn _ _ hr
      | _=>exact hh
     | halt q w' =>
      cases q with
      | panic v=>exact ⟨hh,fun e=>nomatch e⟩
      | _=>exact hh
    refine hQ (fun a' w' ⟨h3,v,h4⟩=>ih hl.2 a' w' (fun n hn=>?_) h3) h
    rw [h4]
    exact hput v n hn
   ·exact .inr ⟨h1,a1,w1,h2,fun e=>nomatch e⟩
  ·rename_i hw
   rw [if_neg hw]
   exact ih hl.2 _ _ (hput undef) h
theorem piece (hΓ : Γ.good P) {id : Nat} {ops : Array Oper} {L : List Nat} {Qs : St → Prop} (K : List Nat) (h : vc P Γ N L (.region id ops false) (fun e s' => match e with
  | .normal=>Qs s'
  | _=>False) s) (hI:InvB W0 F X N s β a w) (hK:ops.toList.all (fun o=>K.all fun n=>o.dst != some n) = true)
  {Q:Exit→Act→World→Prop} (hQ:∀ s' β' a' w',Qs s'→InvB W0 F X N s' β' a' w'→(∀ n ∈ K,a'.tmps.getD n undef = a.tmps.getD n undef)→Q .normal a' w'):(Code.region id ops false).wpIn Fence.wide n P Q a w:=by
 refine (wpIn_wide).2 ?_
 have h1:=vcOps_ok (W0:=W0) (F:=F) (X:=X) hΓ (Q':=fun e a' w'=>e = .normal∧∃ s' β',Qs s'∧InvB W0 F X N s' β' a' w') (fun s a w hk ⟨β,hI⟩=>by
  obtain ⟨s',h1,h2⟩:=keep_ok hI hk
  exact ⟨rfl,s',β,h1,h2⟩) ops.toList [] s a w h ⟨β,hI⟩
 rw [Array.toArray_toList] at h1
 refine wp_mono (wp_region_list (list_frame ops.toList hK a w (fun _ _=>rfl) h1)) ?_
 rintro e a' w' ⟨⟨rfl,s',β',h2,h3⟩,h4⟩
 exact hQ s' β' a' w' h2 h3 (h4 rfl)
theorem oper_w {o:Oper} {next:Act→World→Prop} {Q:Exit→Act→World→Prop} (h:o.wp P a w next Q):o.wpIn Fence.wide n P a w next Q:=by
 refine ⟨fun _ _=>trivial,?_⟩
 rw [show Fence.wide.round = none from rfl,Oper.semAt_none]
 unfold Oper.wp at h
 revert h
 generalize (execOp a.eval o).run P w = r
 intro h
 cases r with
 | ok q w' =>
  cases q with
  | enter f args=>exact ⟨fun h9=>(nomatch h9),callsIn_wide.2 (Calls.mono h fun e w'' hr=>by cases e<;>exact hr)⟩
  | row r args=>exact ⟨fun h9=>(nomatch h9),fun c cs _=>let ⟨v,w',r,s⟩:=h c cs; ⟨v,w',r,stepsIn_wide.2 s⟩⟩
  | round _ _ _ _ _=>exact h.elim
  | _=>exact h
 | halt q w'=>cases q<;>exact h
theorem step_w {o : Oper} {ops : Array Oper} {rest : List Oper} {Q : Exit → Act → World → Prop} {u : Value} (hg : o.guard = none) (hrun : (execOp a.eval o).run P w = .ok (.value u) w) (h : wpListIn Fence.wide n P ops Q rest (a.put o.dst u) w) :
  wpListIn Fence.wide n P ops Q (o::rest) a w :=
 wpListIn_plain hg fun K hK=>oper_w (by unfold Oper.wp; rw [hrun]; exact hK _ _ h)
theorem step_yield {o : Oper} {ops : Array Oper} {rest : List Oper} {Q : Exit → Act → World → Prop} {f x : Operand} {ts : Array TypeId} {l : Nat} {u : Value} {R : Ending → World → Prop} (hg : o.guard = none)
  (ho:o.op = .call { callee:=.value f,args:=#[x],argTypes:=ts }) (hf:a.eval f = .func (.yield l) #[] #[]) (hx:a.eval x = u) (hy:YieldAt Fence.wide (n - 1) P l #[u] w R)
  (hR:∀ e w',R e w'→∃ v,e = .returned v∧wpListIn Fence.wide n P ops Q rest (a.put o.dst v) w'):wpListIn Fence.wide n P ops Q (o::rest) a w:=by
 obtain ⟨fn,tmps,assign,body,h1,h2⟩:=hy
 refine wpListIn_plain hg fun K hK=>⟨fun _ _=>trivial,?_⟩
 have hrun:(execOp a.eval o).run P w = .ok (.round l fn tmps assign body) w:=by
  simp [execOp,ho,resolve,hf,hx,Deferred.ofValue,invoke,h1]
 rw [show Fence.wide.round = none from rfl,Oper.semAt_none,hrun]
 refine ⟨fun h9=>(nomatch h9),h2.mono fun e w' hr=>?_⟩
 obtain ⟨v,rfl,h3⟩:=hR e w' hr
 exact hK _ _ h3
theorem run_faddr {o : Oper} {t f : Nat} {x : Operand} (ho : o.op = .fieldAddr t x f) {ti : TI} (hti : ti.ok P t) {fl : List (Nat × Nat)} (hd : ti.desc = .struct fl) {d : Nat × Nat} (hf : fl[f]? = some d) {g off : Nat} (hx : a.eval x = .pointer (some ⟨g, off, none⟩)) :
  (execOp a.eval o).run P w = .ok (.value (.pointer (some ⟨g,off + d.1,none⟩))) w:=by
 obtain ⟨fl',fs,rfl,h1,h2,h3⟩:=struct_ok hti (K:=fun l=>l = fl) (by rw [hd]; exact rfl)
 simp [execOp,ho,hx,fieldAt_run h1 h2 h3 hf]
theorem run_load1 {o : Oper} {t : Nat} {x : Operand} (ho : o.op = .load t x) {ti : TI} (hti : ti.ok P t) (hs : isStruct ti.desc = false) (hc1 : ti.cells = 1) {g off : Nat} (hx : a.eval x = .pointer (some ⟨g, off, none⟩)) {u : Value} (hc : w.cell? ⟨g, off, none⟩ = some u) :
  (execOp a.eval o).run P w = .ok (.value u) w:=by
 have h2:=(loadVar_run (w:=w) hti g off [u] (by rw [hc1]; rfl) (fun j v hj=>by
  cases j with
  | zero=>simp at hj; subst hj; exact hc
  | succ j=>simp at hj)).2 hs u rfl
 simp [execOp,ho,hx,Instr.loadAt,Instr.sureAddr,h2]
theorem run_lenS {o : Oper} {t e : Nat} {x : Operand} (ho : o.op = .call { callee := .builtin .len, args := #[x], argTypes := #[t] }) (hu : P.underlying t = some (.slice e)) {A : Option Addr} {m c : Nat} (hx : a.eval x = .slice A m c) :
  (execOp a.eval o).run P w = .ok (.value (.int .i64 m)) w:=by
 simp [execOp,ho,resolve,invoke,builtin,hx,Builtin.len_,run_underlying hu,Builtin.lenOf,goInt]
theorem run_move {o:Oper} {x:Operand} (ho:o.op = .move x):(execOp a.eval o).run P w = .ok (.value (a.eval x)) w:=by
 simp [execOp,ho]
theorem run_not {o:Oper} {t:Nat} {x:Operand} (ho:o.op = .unOp .not t x) {b:Bool} (hx:a.eval x = .bool b):(execOp a.eval o).run P w = .ok (.value (.bool !b)) w:=by
 simp [execOp,ho,hx,Op.unary]
theorem run_lss {o : Oper} {t t' : Nat} {x y : Operand} (ho : o.op = .binOp .lss t x y t') {k : IntKind} {m n : Int} (hx : a.eval x = .int k m) (hy : a.eval y = .int k n) :
  (execOp a.eval o).run P w = .ok (.value (.bool (decide (m < n)))) w:=by
 simp [execOp,ho,hx,hy,eqGuard,binOp,Op.intCmp]
theorem run_add {o : Oper} {t t' : Nat} {x y : Operand} (ho : o.op = .binOp .add t x y t') {m n : Int} (hx : a.eval x = .int .i64 m) (hy : a.eval y = .int .i64 n) (h : Rng .i64 (m + n)) :
  (execOp a.eval o).run P w = .ok (.value (.int .i64 (m + n))) w:=by
 simp [execOp,ho,hx,hy,eqGuard,binOp,Op.intArith,rng_wrap h]
def Holds (N:Nat) (a:Act) (l:List (Nat × Value)):Prop:=a.tmps.size = N∧a.defers = []∧∀ p ∈ l,a.tmps.getD p.1 undef = p.2
theorem Holds.put {l:List (Nat × Value)} (h:Holds N a l) {d:Nat} {u:Value} (hd:d < N):Holds N (a.put (some d) u) ((d,u)::l.filter fun p=>p.1 != d):=by
 refine ⟨by rw [size_put]; exact h.1,by rw [defers_put]; exact h.2.1,fun p hp=>?_⟩
 rw [getD_put a d u (by rw [h.1]; exact hd)]
 rcases List.mem_cons.1 hp with rfl | hp
 ·exact if_pos rfl
 ·obtain ⟨h1,h2⟩:=List.mem_filter.1 hp
  rw [if_neg (fun e=>by simp [e] at h2)]
  exact h.2.2 p h1
theorem Holds.ev {l:List (Nat × Value)} (h:Holds N a l) {d:Nat} {u:Value} (hm:(d,u) ∈ l):a.eval (.tmp d) = u:=h.2.2 (d,u) hm
theorem Holds.sub {l k:List (Nat × Value)} (h:Holds N a l) (hs:∀ p ∈ k,p ∈ l):Holds N a k:=⟨h.1,h.2.1,fun p hp=>h.2.2 p (hs p hp)⟩
theorem step_h {o : Oper} {ops : Array Oper} {rest : List Oper} {Q : Exit → Act → World → Prop} {l : List (Nat × Value)} (hH : Holds N a l) (d : Nat) (u : Value) (hg : o.guard = none) (hdst : o.dst = some d) (hd : d < N) (hrun : (execOp a.eval o).run P w = .ok (.value u) w)
  (h:∀ a',Holds N a' ((d,u)::l.filter fun p=>p.1 != d)→wpListIn Fence.wide n P ops Q rest a' w):wpListIn Fence.wide n P ops Q (o::rest) a w :=
 step_w hg hrun (by rw [hdst]; exact h _ (hH.put hd))
theorem inv_kept {O : Nat → Prop} {w0 : World} {st : List (Nat × AV)} (hO : ∀ k, O k → k < w0.heap.size) (hG : GlobOK O w0) (hk : Keep O w0 w) (hsz : a.tmps.size = N) (hd : a.defers = []) (him : ∀ n, Im O w0 (look st n) (a.tmps.getD n undef)) :
  InvB w Fr.none (fun k=>(O k∨w0.heap.size≤k)∧k < w.heap.size) N ⟨st,[]⟩ (fun _=>none) a w:=by
 have hNm:∀ n,¬ Nm ⟨st,[]⟩ n:=by
  rintro n (⟨cs,h⟩ | ⟨m,h⟩ | ⟨b,cs,h,_⟩)
  ·cases h
  ·have:=(him m).ids_nil
   rw [show look (St.mk st []).slots m = look st m from rfl,this] at h
   cases h
  ·cases h
 have hOO:∀ k,k < w0.heap.size→Own (fun k=>(O k∨w0.heap.size≤k)∧k < w.heap.size) ⟨st,[]⟩ (fun _=>none) k→O k:=by
  rintro k hk (⟨h1 | h1,_⟩ | ⟨n,hn,_⟩)
  ·exact h1
  ·omega
  ·exact absurd hn (hNm n)
 refine ⟨Stp.refl _ _,fun n=>Rel.im ((him n).step hk (fun _ _ h=>h) hOO),hsz,fun n cs h=>(by cases h),fun n m g hn=>absurd hn (hNm n),fun n g hn=>absurd hn (hNm n),hd,fun k hk=>⟨hk.2,fun h=>h⟩,fun n cs g h=>(by cases h),fun _ _=>rfl,hG.step hk (fun _ _ h=>h) fun k hk ho=>?_⟩
 rcases ho with ⟨h1 | h1,_⟩ | h1
 ·exact h1
 ·omega
 ·exact h1.elim
def ptCap (b:List (Nat × List AV)):AV→Option AV
 | .pt n 0=>match lookB b n with
  | some cs=>if imAll cs = true∧fnArgs cs = true then some (.rp cs) else none
  | none=>none
 | v=>if imB v = true∧fnArgs [v] = true then some v else none
def ptCaps (b:List (Nat × List AV)):List AV→Option (List AV)
 | []=>some []
 | v::r=>match ptCap b v,ptCaps b r with
  | some x,some l=>some (x::l)
  | _,_=>none
theorem ptCap_im (hI:InvB W0 F X N s β a w) {c c':AV} {v:Value} (h:Rel0 β (Own X s β) w c v) (he:ptCap s.boxes c = some c'):Im X w c' v:=by
 have gen:(if imB c = true∧fnArgs [c] = true then some c else none) = some c'→Im X w c' v:=fun he=>by
  split at he
  ·rename_i hh
   cases he
   exact (im_of_rel (Rel.rel0 h) hh.1 hh.2).mono fun _ h=>.inl h
  ·cases he
 cases c with
 | pt n o =>
  cases o with
  | succ o=>exact gen he
  | zero =>
   obtain ⟨g,hg,rfl⟩:=h
   simp only [ptCap] at he
   cases hl:lookB s.boxes n with
   | none=>rw [hl] at he; cases he
   | some cs =>
    rw [hl] at he
    simp only at he
    split at he
    ·rename_i hc
     cases he
     obtain ⟨g',us,e',h1,h2,h3⟩:=hI.boxes n cs hl
     rw [hg] at h1
     injection h1 with h1
     subst h1
     refine Im.mk_rp fun j av hj=>⟨hI.disj n g (.inl ⟨cs,hl⟩) hg,?_⟩
     have hlt:j < us.toList.length:=by rw [← h3.1]; exact (List.getElem?_eq_some_iff.1 hj).1
     have hr:=h3.2 j av _ hj (List.getElem?_eq_getElem hlt)
     refine ⟨us.toList[j],?_,(im_of_rel hr.1 (imAll_mem hc.1 (List.mem_of_getElem? hj)) (fnArgs_mem hc.2 (List.mem_of_getElem? hj))).mono fun _ h=>.inl h,hr.2⟩
     rw [cell_of_row w g _ us e' (0,0) h2,Nat.zero_add,← Array.getElem?_toList,List.getElem?_eq_getElem hlt]
    ·cases he
 | _=>exact gen he
theorem ptCap_np {b:List (Nat × List AV)} {c x:AV} (h:ptCap b c = some x):headNp [x] = headNp [c]:=by
 have gen:∀ v:AV,(if imB v = true∧fnArgs [v] = true then some v else none) = some x→headNp [x] = headNp [v]:=fun v h=>by
  split at h
  ·cases h; rfl
  ·cases h
 cases c with
 | pt n o =>
  cases o with
  | zero =>
   simp only [ptCap] at h
   split at h
   ·split at h
    ·cases h; rfl
    ·cases h
   ·cases h
  | succ o=>exact gen _ h
 | _=>exact gen _ h
theorem ptCaps_np {b:List (Nat × List AV)} {caps caps':List AV} (h:ptCaps b caps = some caps'):headNp caps' = headNp caps:=by
 cases caps with
 | nil=>cases h; rfl
 | cons c r =>
  simp only [ptCaps] at h
  split at h
  ·rename_i x l hx hl
   cases h
   rw [headNp_cons,headNp_cons c]
   exact ptCap_np hx
  ·cases h
theorem ptCaps_im (hI:InvB W0 F X N s β a w) {g:Nat} {caps caps':List AV} {v:Value} (h:Rel β (Own X s β) w (.fn g caps) v) (he:ptCaps s.boxes caps = some caps'):Im X w (.fn g caps') v:=by
 obtain ⟨vs,rfl,h1⟩:=h
 suffices hh:∀ (caps caps':List AV) (vs:List Value),All2 (Rel0 β (Own X s β) w) caps vs→ptCaps s.boxes caps = some caps'→All2 (Im X w) caps' vs by
  have:=hh _ _ _ h1 he
  rw [← fnV_of (ptCaps_np he) g vs]
  exact .fn g caps' vs this.1 this.2
 clear h1 he
 intro caps
 induction caps with
 | nil =>
  intro caps' vs h he
  obtain rfl:=h.nil_inv
  cases he
  exact All2.nil _
 | cons c r ih =>
  intro caps' vs h he
  obtain ⟨u,us,rfl,hu,hr⟩:=h.cons_inv
  simp only [ptCaps] at he
  split at he
  ·rename_i x l hx hl
   cases he
   exact All2.cons (ptCap_im hI hu hx) (ih _ _ hr hl)
  ·cases he
def postFn (t g:Nat) (caps':List AV) (e:Exit) (s:St):Prop :=
 match e with
 | .normal=>∃ caps,look s.slots t = .fn g caps∧ptCaps s.boxes caps = some caps'
 | .ret=>∃ caps,look s.slots t = .fn g caps∧ptCaps s.boxes caps = some caps'
 | _=>False
theorem pspec_of_vcFn (hΓ : Γ.good P) {f : FuncId} {fn : Func} {c : Code} (hf : P.funcs[f]? = some fn) (hb : fn.body = some c) (hcall : ∀ (vs : Array Value) (w : World), (callFunc f vs).run P w = .ok (.enter f vs) w)
  {t:Nat} (hrs:fn.results = #[.tmp t]) (hN:fn.ntmps = N) {args:List AV} {g:Nat} {caps':List AV} {L:List Nat} (hlen:args.length≤N)
  (hvc:vc P Γ N L c (postFn t g caps') ⟨argSlots 0 args,[]⟩):PSpec P f args (.fn g caps'):=by
 refine ⟨hcall,fun O w vs hO hG hargs=>?_⟩
 refine calls_of_wp hf hb ?_
 have hsz:vs.length = args.length:=hargs.1.symm
 have hI:InvB w Fr.none O N ⟨argSlots 0 args,[]⟩ (fun _=>none) { tmps:=vs.toArray++Array.replicate (fn.ntmps - vs.toArray.size) undef,defers:=[] } w:=by
  have hNm:∀ n,¬ Nm ⟨argSlots 0 args,[]⟩ n:=by
   rintro n (⟨cs,h⟩ | ⟨m,h⟩ | ⟨b,cs,h,_⟩)
   ·cases h
   ·have:=look_args args 0 m
    rw [Nat.zero_add] at this
    simp only [this] at h
    by_cases hm:m < args.length
    ·rw [List.getD_eq_getElem?_getD,List.getElem?_eq_getElem hm] at h
     have:=(hargs.2 m _ _ (List.getElem?_eq_getElem hm) (List.getElem?_eq_getElem (by rw [hsz]; exact hm))).ids_nil
     rw [show (some args[m]).getD AV.x = args[m] from rfl,this] at h
     cases h
    ·rw [List.getD_eq_getElem?_getD,List.getElem?_eq_none (by omega)] at h
     simp [ids,ids0] at h
   ·cases h
  refine ⟨Stp.refl _ _,fun n=>?_,?_,fun n cs h=>(by cases h),fun n m g hn=>absurd hn (hNm n),fun n g hn=>absurd hn (hNm n),rfl,fun k hk=>⟨hO k hk,id⟩,fun n cs g h=>(by cases h),fun _ _=>rfl,hG.step (Stp.refl (fun _=>False) w) (fun _ _ h=>h.elim) fun k _ hk=>hk.elim id fun h=>h.elim⟩
  ·have h1:=look_args args 0 n
   rw [Nat.zero_add] at h1
   show Rel _ _ _ (look (argSlots 0 args) n) _
   rw [h1]
   by_cases hm:n < args.length
   ·have hmv:n < vs.length:=by rw [hsz]; exact hm
    have h2:=hargs.2 n _ _ (List.getElem?_eq_getElem hm) (List.getElem?_eq_getElem hmv)
    rw [List.getD_eq_getElem?_getD,List.getElem?_eq_getElem hm]
    have h3:(vs.toArray++Array.replicate (fn.ntmps - vs.toArray.size) undef).getD n undef = vs[n]:=by
     rw [Array.getD_eq_getD_getElem?,Array.getElem?_append_left (by simpa using hmv)]
     simp [hmv]
    rw [h3]
    refine Rel.im (h2.mono fun k hk=>?_)
    rcases hk with hk | ⟨m,hm',_⟩
    ·exact hk
    ·exact absurd hm' (hNm m)
   ·rw [List.getD_eq_getElem?_getD,List.getElem?_eq_none (by omega)]
    exact Rel.x
  ·show (vs.toArray++Array.replicate (fn.ntmps - vs.toArray.size) undef).size = N
   simp only [Array.size_append,List.size_toArray,Array.size_replicate,hN,hsz]
   omega
 refine vc_ok (W0:=w) (F:=Fr.none) (X:=O) hΓ c _ _ _ _ _ (fun e s a w' hq ⟨β,hI'⟩=>?_) hvc ⟨_,hI⟩
 have key:(∃ caps,look s.slots t = .fn g caps∧ptCaps s.boxes caps = some caps')→a.defers = []∧∃ v,(results fn a.tmps).run P w' = .ok v w'∧∃ v',Ending.returned v = .returned v'∧Stp (fun _=>False) w w'∧Im O w' (.fn g caps') v':=by
  rintro ⟨caps,h1,h2⟩
  have hr:=hI'.slots t
  rw [h1] at hr
  refine ⟨hI'.defers,_,?_,_,rfl,hI'.ext,ptCaps_im hI' hr h2⟩
  rw [results_eq,hrs,Array.mapM_eq_mapM_toList]
  simp [resOf]
 cases e with
 | normal=>exact key hq
 | ret=>exact key hq
 | _=>exact hq.elim
end
end Go.SX
end
section
namespace Go.Proofs.YtfeniggadfkakaaDoor
open Go.SX
set_option maxRecDepth 100000
def ti1:TI:=⟨1,8,[.nilFunc],.other,none,[],none,false⟩
theorem ti1_ok:ti1.ok Tryd.prog 1:=⟨⟨Tryd.t1,.nilFunc,by kernel_rfl,rfl,rfl,rfl,rfl⟩,⟨_,Tryd.underlying1,⟨fun _ h=>(nomatch h),fun _ _ h=>(nomatch h),fun _ h=>(nomatch h)⟩⟩,rfl,fun _=>⟨Tryd.t1,by kernel_rfl,rfl⟩,(fun h=>nomatch h)⟩
def ti2:TI:=⟨1,8,[.int .i64 0],.int .i64,some .i64,[],none,false⟩
theorem ti2_ok:ti2.ok Tryd.prog 2:=⟨⟨Tryd.t2,.int .i64 0,by kernel_rfl,rfl,rfl,rfl,rfl⟩,⟨_,Tryd.underlying2,rfl⟩,rfl,fun _=>⟨Tryd.t2,by kernel_rfl,rfl⟩,(fun h=>nomatch h)⟩
def ti3:TI:=⟨1,8,[.int .i64 0],.int .i64,some .int,[],none,false⟩
theorem ti3_ok:ti3.ok Tryd.prog 3:=⟨⟨Tryd.t3,.int .i64 0,by kernel_rfl,rfl,rfl,rfl,rfl⟩,⟨_,Tryd.underlying3,rfl⟩,rfl,fun _=>⟨Tryd.t3,by kernel_rfl,rfl⟩,(fun h=>nomatch h)⟩
def ti4:TI:=⟨1,1,[.bool false],.bool,some .bool,[],none,false⟩
theorem ti4_ok:ti4.ok Tryd.prog 4:=⟨⟨Tryd.t4,.bool false,by kernel_rfl,rfl,rfl,rfl,rfl⟩,⟨_,Tryd.underlying4,rfl⟩,rfl,fun _=>⟨Tryd.t4,by kernel_rfl,rfl⟩,(fun h=>nomatch h)⟩
def ti5:TI:=⟨1,1,[.int .u8 0],.int .u8,some .u8,[],none,false⟩
theorem ti5_ok:ti5.ok Tryd.prog 5:=⟨⟨Tryd.t5,.int .u8 0,by kernel_rfl,rfl,rfl,rfl,rfl⟩,⟨_,Tryd.underlying5,rfl⟩,rfl,fun _=>⟨Tryd.t5,by kernel_rfl,rfl⟩,(fun h=>nomatch h)⟩
def ti6:TI:=⟨1,1,[.int .u8 0],.int .u8,none,[],none,true⟩
theorem ti6_ok:ti6.ok Tryd.prog 6:=⟨⟨Tryd.t6,.int .u8 0,by kernel_rfl,rfl,rfl,rfl,rfl⟩,⟨_,Tryd.underlying6,rfl⟩,rfl,fun _=>⟨Tryd.t6,by kernel_rfl,rfl⟩,fun _=>⟨Tryd.t6,by kernel_rfl,rfl⟩⟩
def ti9:TI:=⟨1,16,[.string ⟨#[]⟩],.str,some .str,[],none,false⟩
theorem ti9_ok:ti9.ok Tryd.prog 9:=⟨⟨Tryd.t9,.string ⟨#[]⟩,by kernel_rfl,rfl,rfl,rfl,rfl⟩,⟨_,Tryd.underlying9,rfl⟩,rfl,fun _=>⟨Tryd.t9,by kernel_rfl,rfl⟩,(fun h=>nomatch h)⟩
def ti21:TI:=⟨1,4,[.int .i32 0],.int .i32,some .rune,[],none,false⟩
theorem ti21_ok:ti21.ok Tryd.prog 21:=⟨⟨Tryd.t21,.int .i32 0,by kernel_rfl,rfl,rfl,rfl,rfl⟩,⟨_,Tryd.underlying21,rfl⟩,rfl,fun _=>⟨Tryd.t21,by kernel_rfl,rfl⟩,(fun h=>nomatch h)⟩
def ti22:TI:=⟨1,8,[.int .u64 0],.int .u64,some .u64,[],none,false⟩
theorem ti22_ok:ti22.ok Tryd.prog 22:=⟨⟨Tryd.t22,.int .u64 0,by kernel_rfl,rfl,rfl,rfl,rfl⟩,⟨_,Tryd.underlying22,rfl⟩,rfl,fun _=>⟨Tryd.t22,by kernel_rfl,rfl⟩,(fun h=>nomatch h)⟩
def ti23:TI:=⟨1,24,[.slice none 0 0],.slice 26,none,[],none,false⟩
theorem ti23_ok:ti23.ok Tryd.prog 23:=⟨⟨Tryd.t23,.slice none 0 0,by kernel_rfl,rfl,rfl,rfl,rfl⟩,⟨_,Tryd.underlying23,rfl⟩,rfl,fun _=>⟨Tryd.t23,by kernel_rfl,rfl⟩,(fun h=>nomatch h)⟩
def ti24:TI:=⟨1,24,[.slice none 0 0],.slice 55,none,[],none,false⟩
theorem ti24_ok:ti24.ok Tryd.prog 24:=⟨⟨Tryd.t24,.slice none 0 0,by kernel_rfl,rfl,rfl,rfl,rfl⟩,⟨_,Tryd.underlying24,rfl⟩,rfl,fun _=>⟨Tryd.t24,by kernel_rfl,rfl⟩,(fun h=>nomatch h)⟩
def ti26:TI:=⟨6,88,[.int .i64 0,.int .i64 0,.int .u64 0,.string ⟨#[]⟩,.slice none 0 0,.slice none 0 0],.struct [(0,1),(1,1),(2,1),(3,1),(4,1),(5,1)],some .val,[],none,false⟩
theorem ti26_ok:ti26.ok Tryd.prog 26:=⟨⟨Tryd.t26,.agg #[.int .i64 0,.int .i64 0,.int .u64 0,.string ⟨#[]⟩,.slice none 0 0,.slice none 0 0],by kernel_rfl,rfl,rfl,rfl,rfl⟩,⟨_,Tryd.underlying26,⟨_,rfl,by kernel_rfl,by kernel_rfl⟩⟩,rfl,(fun h=>nomatch h),(fun h=>nomatch h)⟩
def ti27:TI:=⟨1,24,[.slice none 0 0],.slice 50,none,[],none,false⟩
theorem ti27_ok:ti27.ok Tryd.prog 27:=⟨⟨Tryd.t27,.slice none 0 0,by kernel_rfl,rfl,rfl,rfl,rfl⟩,⟨_,Tryd.underlying27,rfl⟩,rfl,fun _=>⟨Tryd.t27,by kernel_rfl,rfl⟩,(fun h=>nomatch h)⟩
def ti28:TI:=⟨1,8,[.int .i64 0],.int .i64,some .errno,[],none,true⟩
theorem ti28_ok:ti28.ok Tryd.prog 28:=⟨⟨Tryd.t28,.int .i64 0,by kernel_rfl,rfl,rfl,rfl,rfl⟩,⟨_,Tryd.underlying28,rfl⟩,rfl,fun _=>⟨Tryd.t28,by kernel_rfl,rfl⟩,fun _=>⟨Tryd.t28,by kernel_rfl,rfl⟩⟩
def ti37:TI:=⟨1,8,[.nilFunc],.other,none,[],none,false⟩
theorem ti37_ok:ti37.ok Tryd.prog 37:=⟨⟨Tryd.t37,.nilFunc,by kernel_rfl,rfl,rfl,rfl,rfl⟩,⟨_,Tryd.underlying37,⟨fun _ h=>(nomatch h),fun _ _ h=>(nomatch h),fun _ h=>(nomatch h)⟩⟩,rfl,fun _=>⟨Tryd.t37,by kernel_rfl,rfl⟩,(fun h=>nomatch h)⟩
def ti48:TI:=⟨1,24,[.slice none 0 0],.slice 70,some .psteps,[],none,false⟩
theorem ti48_ok:ti48.ok Tryd.prog 48:=⟨⟨Tryd.t48,.slice none 0 0,by kernel_rfl,rfl,rfl,rfl,rfl⟩,⟨_,Tryd.underlying48,rfl⟩,rfl,fun _=>⟨Tryd.t48,by kernel_rfl,rfl⟩,(fun h=>nomatch h)⟩
def ti50:TI:=⟨9,136,[.int .i64 0,.slice none 0 0,.int .i64 0,.int .i64 0,.int .u64 0,.string ⟨#[]⟩,.slice none 0 0,.slice none 0 0,.string ⟨#[]⟩],.struct [(0,1),(1,1),(2,6),(8,1)],some .op,[],none,false⟩
theorem ti50_ok:ti50.ok Tryd.prog 50:=⟨⟨Tryd.t50,.agg #[.int .i64 0,.slice none 0 0,.int .i64 0,.int .i64 0,.int .u64 0,.string ⟨#[]⟩,.slice none 0 0,.slice none 0 0,.string ⟨#[]⟩],by kernel_rfl,rfl,rfl,rfl,rfl⟩,⟨_,Tryd.underlying50,⟨_,rfl,by kernel_rfl,by kernel_rfl⟩⟩,rfl,(fun h=>nomatch h),(fun h=>nomatch h)⟩
def ti55:TI:=⟨7,104,[.string ⟨#[]⟩,.int .i64 0,.int .i64 0,.int .u64 0,.string ⟨#[]⟩,.slice none 0 0,.slice none 0 0],.struct [(0,1),(1,6)],some .ent,[],none,false⟩
theorem ti55_ok:ti55.ok Tryd.prog 55:=⟨⟨Tryd.t55,.agg #[.string ⟨#[]⟩,.int .i64 0,.int .i64 0,.int .u64 0,.string ⟨#[]⟩,.slice none 0 0,.slice none 0 0],by kernel_rfl,rfl,rfl,rfl,rfl⟩,⟨_,Tryd.underlying55,⟨_,rfl,by kernel_rfl,by kernel_rfl⟩⟩,rfl,(fun h=>nomatch h),(fun h=>nomatch h)⟩
def ti57:TI:=⟨1,24,[.slice none 0 0],.slice 3,some .ints,[],none,false⟩
theorem ti57_ok:ti57.ok Tryd.prog 57:=⟨⟨Tryd.t57,.slice none 0 0,by kernel_rfl,rfl,rfl,rfl,rfl⟩,⟨_,Tryd.underlying57,rfl⟩,rfl,fun _=>⟨Tryd.t57,by kernel_rfl,rfl⟩,(fun h=>nomatch h)⟩
def ti64:TI:=⟨7,96,[.int .i64 0,.int .i64 0,.int .u64 0,.string ⟨#[]⟩,.slice none 0 0,.slice none 0 0,.int .i64 0],.struct [(0,6),(6,1)],some .vplace,[],none,false⟩
theorem ti64_ok:ti64.ok Tryd.prog 64:=⟨⟨Tryd.t64,.agg #[.int .i64 0,.int .i64 0,.int .u64 0,.string ⟨#[]⟩,.slice none 0 0,.slice none 0 0,.int .i64 0],by kernel_rfl,rfl,rfl,rfl,rfl⟩,⟨_,Tryd.underlying64,⟨_,rfl,by kernel_rfl,by kernel_rfl⟩⟩,rfl,(fun h=>nomatch h),(fun h=>nomatch h)⟩
def ti65:TI:=⟨1,24,[.slice none 0 0],.slice 64,none,[],none,false⟩
theorem ti65_ok:ti65.ok Tryd.prog 65:=⟨⟨Tryd.t65,.slice none 0 0,by kernel_rfl,rfl,rfl,rfl,rfl⟩,⟨_,Tryd.underlying65,rfl⟩,rfl,fun _=>⟨Tryd.t65,by kernel_rfl,rfl⟩,(fun h=>nomatch h)⟩
def ti70:TI:=⟨2,24,[.string ⟨#[]⟩,.int .i64 0],.struct [(0,1),(1,1)],some .pstep,[.str,.int],none,false⟩
theorem ti70_ok:ti70.ok Tryd.prog 70:=⟨⟨Tryd.t70,.agg #[.string ⟨#[]⟩,.int .i64 0],by kernel_rfl,rfl,rfl,rfl,rfl⟩,⟨_,Tryd.underlying70,⟨_,rfl,by kernel_rfl,by kernel_rfl⟩⟩,by kernel_rfl,(fun h=>nomatch h),(fun h=>nomatch h)⟩
def ti73:TI:=⟨1,24,[.slice none 0 0],.slice 57,none,[],none,false⟩
theorem ti73_ok:ti73.ok Tryd.prog 73:=⟨⟨Tryd.t73,.slice none 0 0,by kernel_rfl,rfl,rfl,rfl,rfl⟩,⟨_,Tryd.underlying73,rfl⟩,rfl,fun _=>⟨Tryd.t73,by kernel_rfl,rfl⟩,(fun h=>nomatch h)⟩
def ti75:TI:=⟨1,8,[.nilFunc],.other,none,[],none,false⟩
theorem ti75_ok:ti75.ok Tryd.prog 75:=⟨⟨Tryd.t75,.nilFunc,by kernel_rfl,rfl,rfl,rfl,rfl⟩,⟨_,Tryd.underlying75,⟨fun _ h=>(nomatch h),fun _ _ h=>(nomatch h),fun _ h=>(nomatch h)⟩⟩,rfl,fun _=>⟨Tryd.t75,by kernel_rfl,rfl⟩,(fun h=>nomatch h)⟩
def ti77:TI:=⟨1,8,[.nilFunc],.other,none,[],none,false⟩
theorem ti77_ok:ti77.ok Tryd.prog 77:=⟨⟨Tryd.t77,.nilFunc,by kernel_rfl,rfl,rfl,rfl,rfl⟩,⟨_,Tryd.underlying77,⟨fun _ h=>(nomatch h),fun _ _ h=>(nomatch h),fun _ h=>(nomatch h)⟩⟩,rfl,fun _=>⟨Tryd.t77,by kernel_rfl,rfl⟩,(fun h=>nomatch h)⟩
def ti83:TI:=⟨1,8,[.pointer none],.other,none,[],none,false⟩
theorem ti83_ok:ti83.ok Tryd.prog 83:=⟨⟨Tryd.t83,.pointer none,by kernel_rfl,rfl,rfl,rfl,rfl⟩,⟨_,Tryd.underlying83,⟨fun _ h=>(nomatch h),fun _ _ h=>(nomatch h),fun _ h=>(nomatch h)⟩⟩,rfl,fun _=>⟨Tryd.t83,by kernel_rfl,rfl⟩,(fun h=>nomatch h)⟩
def ti92:TI:=⟨1,8,[.nilFunc],.other,none,[],none,false⟩
theorem ti92_ok:ti92.ok Tryd.prog 92:=⟨⟨Tryd.t92,.nilFunc,by kernel_rfl,rfl,rfl,rfl,rfl⟩,⟨_,Tryd.underlying92,⟨fun _ h=>(nomatch h),fun _ _ h=>(nomatch h),fun _ h=>(nomatch h)⟩⟩,rfl,fun _=>⟨Tryd.t92,by kernel_rfl,rfl⟩,(fun h=>nomatch h)⟩
def ti100:TI:=⟨1,8,[.nilFunc],.other,none,[],none,false⟩
theorem ti100_ok:ti100.ok Tryd.prog 100:=⟨⟨Tryd.t100,.nilFunc,by kernel_rfl,rfl,rfl,rfl,rfl⟩,⟨_,Tryd.underlying100,⟨fun _ h=>(nomatch h),fun _ _ h=>(nomatch h),fun _ h=>(nomatch h)⟩⟩,rfl,fun _=>⟨Tryd.t100,by kernel_rfl,rfl⟩,(fun h=>nomatch h)⟩
def ti101:TI:=⟨1,8,[.nilFunc],.other,none,[],none,false⟩
theorem ti101_ok:ti101.ok Tryd.prog 101:=⟨⟨Tryd.t101,.nilFunc,by kernel_rfl,rfl,rfl,rfl,rfl⟩,⟨_,Tryd.underlying101,⟨fun _ h=>(nomatch h),fun _ _ h=>(nomatch h),fun _ h=>(nomatch h)⟩⟩,rfl,fun _=>⟨Tryd.t101,by kernel_rfl,rfl⟩,(fun h=>nomatch h)⟩
def Γ:Ctx:=[(1,ti1),(2,ti2),(3,ti3),(4,ti4),(5,ti5),(6,ti6),(9,ti9),(21,ti21),(22,ti22),(23,ti23),(24,ti24),(26,ti26),(27,ti27),(28,ti28),(37,ti37),(48,ti48),(50,ti50),(55,ti55),(57,ti57),(64,ti64),(65,ti65),(70,ti70),(73,ti73),(75,ti75),(77,ti77),(83,ti83),(92,ti92),(100,ti100),(101,ti101)]
theorem Γ_ok:Γ.ok Tryd.prog:=by
 unfold Ctx.ok Γ
 simp only [List.forall_mem_cons]
 exact ⟨ti1_ok,ti2_ok,ti3_ok,ti4_ok,ti5_ok,ti6_ok,ti9_ok,ti21_ok,ti22_ok,ti23_ok,ti24_ok,ti26_ok,ti27_ok,ti28_ok,ti37_ok,ti48_ok,ti50_ok,ti55_ok,ti57_ok,ti64_ok,ti65_ok,ti70_ok,ti73_ok,ti75_ok,ti77_ok,ti83_ok,ti92_ok,ti100_ok,ti101_ok,fun _ h=>nomatch h⟩
theorem Γ_one:∀ p ∈ Γ,(∀ v ∈ p.2.zero,v.oneCell' = true)∧p.2.zero.length = p.2.cells:=by
 unfold Γ
 simp only [List.forall_mem_cons]
 exact ⟨by simp [ti1,Value.oneCell'],by simp [ti2,Value.oneCell'],by simp [ti3,Value.oneCell'],by simp [ti4,Value.oneCell'],by simp [ti5,Value.oneCell'],by simp [ti6,Value.oneCell'],by simp [ti9,Value.oneCell'],by simp [ti21,Value.oneCell'],by simp [ti22,Value.oneCell'],by simp [ti23,Value.oneCell'],by simp [ti24,Value.oneCell'],by simp [ti26,Value.oneCell'],by simp [ti27,Value.oneCell'],by simp [ti28,Value.oneCell'],by simp [ti37,Value.oneCell'],by simp [ti48,Value.oneCell'],by simp [ti50,Value.oneCell'],by simp [ti55,Value.oneCell'],by simp [ti57,Value.oneCell'],by simp [ti64,Value.oneCell'],by simp [ti65,Value.oneCell'],by simp [ti70,Value.oneCell'],by simp [ti73,Value.oneCell'],by simp [ti75,Value.oneCell'],by simp [ti77,Value.oneCell'],by simp [ti83,Value.oneCell'],by simp [ti92,Value.oneCell'],by simp [ti100,Value.oneCell'],by simp [ti101,Value.oneCell'],fun _ h=>nomatch h⟩
theorem Γ_good:Γ.good Tryd.prog:=⟨Γ_ok,Γ_one,by kernel_rfl⟩
end Go.Proofs.YtfeniggadfkakaaDoor
end
section
namespace Go.Proofs.YtfeniggadfkakaaDoor
open Go Go.SX Go.Ck
set_option maxRecDepth 100000
set_option maxHeartbeats 400000
section
variable [G:Globs]
theorem s_parts (y:Val):PSpec Tryd.prog 41 [.agg (encVal y)] (.fn 67 [.rp (encVal y)]) :=
 pspec_of_vcFn Γ_good (L:=[1,2]) (N:=Tryd.f41.ntmps) Tryd.func41 rfl Tryd.call41 rfl rfl (Nat.le_of_ble_eq_true rfl) (show vc Tryd.prog Γ _ _ (Tryd.f41.body.getD .skip) (postFn 2 67 [.rp (encVal y)]) ⟨argSlots 0 [.agg (encVal y)],[]⟩ from ⟨_,rfl,rfl⟩)
theorem take_map {l:List (Str × Val)} {i:Nat} (h:i < l.length):(l.take (i + 1)).map (·.2) = (l.take i).map (·.2)++[l[i].2]:=by
 rw [List.take_add_one,List.getElem?_eq_getElem h,List.map_append]; rfl
theorem take_one {l:List Val} {i:Nat} (h:i < l.length):l.take (i + 1) = l.take i++[l[i]]:=by
 rw [List.take_add_one,List.getElem?_eq_getElem h]; rfl
theorem look2 {i j n:Nat} {x y:AV} (h1:¬ n = i) (h2:¬ n = j):SX.look [(i,x),(j,y)] n = AV.x:=by
 have e1:Nat.beq i n = false:=by
  cases h:Nat.beq i n with
  | false=>rfl
  | true=>exact absurd (Nat.eq_of_beq_eq_true h).symm h1
 have e2:Nat.beq j n = false:=by
  cases h:Nat.beq j n with
  | false=>rfl
  | true=>exact absurd (Nat.eq_of_beq_eq_true h).symm h2
 simp only [SX.look,e1,e2,cond_false]
theorem parts_it (v:Val) (hl:v.l.length≤1000000000) (he:v.e.length≤1000000000):ISpec Tryd.prog 67 [.rp (encVal v)] (fun x:Val=>.agg (encVal x)) (partsOf v):=by
 refine ⟨fun vs w=>Tryd.call67 vs w,fun O w0 vs hO hG hims m l J Jx W hk hJ hJx hround h0=>?_⟩
 obtain ⟨ptr,rest,rfl,hptr,hnil⟩:=hims.cons_inv
 obtain rfl:=hnil.nil_inv
 obtain ⟨g,o,rfl,hcells⟩:=Im.inv_rp hptr
 obtain ⟨hg4,u4,hc4,hi4,_⟩:=hcells 4 (.rd .val v.l) rfl
 obtain ⟨_,u5,hc5,hi5,_⟩:=hcells 5 (.rd .ent v.e) rfl
 obtain ⟨A4,c4,_,e4,_⟩:=src_cells (P:=Tryd.prog) hi4
 obtain ⟨A5,c5,_,e5,_⟩:=src_cells (P:=Tryd.prog) hi5
 obtain ⟨tV,htV,hdV⟩:=tiK_ok Γ_good.ok (show tiK Γ 26 (fun ti=>ti.desc = .struct [(0,1),(1,1),(2,1),(3,1),(4,1),(5,1)]) from rfl)
 obtain ⟨tL,htL,hdL⟩:=tiK_ok Γ_good.ok (show tiK Γ 23 (fun ti=>isStruct ti.desc = false∧ti.cells = 1) from ⟨rfl,rfl⟩)
 obtain ⟨tE,htE,hdE⟩:=tiK_ok Γ_good.ok (show tiK Γ 24 (fun ti=>isStruct ti.desc = false∧ti.cells = 1) from ⟨rfl,rfl⟩)
 obtain ⟨tN,htN,hdN⟩:=tiK_ok Γ_good.ok (show tiK Γ 55 (fun ti=>ti.desc = .struct [(0,1),(1,6)]) from rfl)
 have hcell:∀ (k:Nat) u {W:World},Keep O w0 W→w0.cell? ⟨g,o + k,none⟩ = some u→W.cell? ⟨g,o + k,none⟩ = some u:=fun k u {W} hk hc=>hk.cell hg4 hc
 refine callsIn_of_wp Tryd.func67 rfl trivial ?_
 obtain ⟨a0,ha0⟩:∃ a0:Act,a0 = { tmps:=(#[Value.func (.yield l) #[] #[]]++#[Value.pointer (some ⟨g,o,none⟩)])++Array.replicate (Tryd.f67.ntmps - (#[Value.func (.yield l) #[] #[]]++#[Value.pointer (some ⟨g,o,none⟩)]).size) undef,defers:=[] }:=⟨_,rfl⟩
 have hA0:Holds 32 a0 [(0,.func (.yield l) #[] #[]),(1,.pointer (some ⟨g,o,none⟩))]:=by
  rw [ha0,Tryd.ntmps67]
  refine ⟨by simp,rfl,fun p hp=>?_⟩
  rcases List.mem_cons.1 hp with rfl | hp
  ·simp [Array.getD_eq_getD_getElem?]
  ·rw [List.mem_singleton.1 hp]; simp [Array.getD_eq_getD_getElem?]
 show Code.wpIn _ _ _ _ _ { tmps:=(#[Value.func (.yield l) #[] #[]]++#[Value.pointer (some ⟨g,o,none⟩)])++Array.replicate (Tryd.f67.ntmps - (#[Value.func (.yield l) #[] #[]]++#[Value.pointer (some ⟨g,o,none⟩)]).size) undef,defers:=[] } _
 rw [← ha0]
 clear ha0
 have hfin:∀ (e:Exit) (a:Act) (W:World),(e = .normal∨e = .ret)→a.defers = []→(J (partsOf v) W∨Jx W)→bodyPost Tryd.prog Tryd.f67 (fun e W'=>(∃ v,e = .returned v)∧(J (partsOf v) W'∨Jx W')) e a W:=fun e a W he hd hj=>by
  rcases he with rfl | rfl
  ·exact ⟨hd,_,results_none rfl _ _ _,⟨_,rfl⟩,hj⟩
  ·exact ⟨hd,_,results_none rfl _ _ _,⟨_,rfl⟩,hj⟩
 -- the values' list
 refine wpIn_seq (wpIn_seq (wpIn_region_list ?_))
 refine step_h hA0 7 (.pointer (some ⟨g,o + 4,none⟩)) rfl rfl (by decide) (run_faddr (d:=(4,1)) (g:=g) (off:=o) rfl htV hdV rfl (hA0.ev (d:=1) (by simp))) fun a h1=>?_
 refine step_h h1 8 u4 rfl rfl (by decide) (run_load1 (g:=g) (off:=o + 4) rfl htL hdL.1 hdL.2 (h1.ev (d:=7) (by simp)) (hcell 4 u4 hk hc4)) fun a h2=>?_
 refine step_h h2 9 (.int .i64 v.l.length) rfl rfl (by decide) (run_lenS (e:=26) (A:=A4) (m:=v.l.length) (c:=c4) rfl (by kernel_rfl) (by rw [← e4]; exact h2.ev (d:=8) (by simp))) fun a h3=>?_
 refine step_h h3 10 (.int .i64 0) rfl rfl (by decide) (run_move (x:=.const (.int .i64 0)) rfl) fun a h4=>?_
 have h4:=h4.sub (k:=[(0,.func (.yield l) #[] #[]),(1,.pointer (some ⟨g,o,none⟩)),(8,u4),(9,.int .i64 v.l.length),(10,.int .i64 0)]) (by simp)
 refine wpIn_block (wpIn_loop' (fun (i:Nat) a W=>i≤v.l.length∧Holds 32 a [(0,.func (.yield l) #[] #[]),(1,.pointer (some ⟨g,o,none⟩)),(8,u4),(9,.int .i64 v.l.length),(10,.int .i64 i)]∧Keep O w0 W∧J (v.l.take i) W) (fun i=>v.l.length - i) ?_ (x:=0) ⟨Nat.zero_le _,h4,hk,by simpa using h0⟩)
 rintro i a W ⟨hi,hA,hk,hj⟩
 refine wpIn_seq (wpIn_region_list ?_)
 refine step_h hA 11 (.bool (decide ((i:Int) < (v.l.length:Int)))) rfl rfl (by decide) (run_lss (k:=.i64) (m:=i) (n:=v.l.length) rfl (hA.ev (d:=10) (by simp)) (hA.ev (d:=9) (by simp))) fun a h1=>?_
 refine wpIn_seq (wpIn_cond_split (h1.ev (d:=11) (u:=.bool (decide ((i:Int) < (v.l.length:Int)))) (by simp)) (fun hc=>?_) (fun hc=>?_))
 ·have hc:i < v.l.length:=by have:=of_decide_eq_true hc; omega
  refine wpIn_skip ?_
  refine wpIn_seq (wpIn_block (wpIn_seq ?_))
  have hA:=h1.sub (k:=[(0,.func (.yield l) #[] #[]),(1,.pointer (some ⟨g,o,none⟩)),(8,u4),(9,.int .i64 v.l.length),(10,.int .i64 i)]) (by simp)
  have hg:v.l.getD (Int.toNat (i:Int)) (dflt .val) = v.l[i]:=by rw [Int.toNat_natCast,List.getD_eq_getElem?_getD,List.getElem?_eq_getElem hc]; rfl
  refine piece (L:=[4]) (Qs:=fun s'=>s' = ⟨[(4,.pt 4 0)],[(4,encVal v.l[i])]⟩) Γ_good [0,1,8,9,10] ?_ (inv_kept (st:=[(8,.rd .val v.l),(10,.i .i64 i)]) hO hG hk hA.1 hA.2.1 fun n=>?_) rfl ?_
  ·refine bN2 ?_
   rw [hg]
   rfl
  ·by_cases e8:n = 8
   ·subst e8
    rw [hA.2.2 (8,u4) (by simp)]
    exact hi4
   ·by_cases e10:n = 10
    ·subst e10
     rw [hA.2.2 (10,.int .i64 i) (by simp)]
     exact .i _ _
    ·rw [look2 e8 e10]
     exact .x _
  rintro s' β' a' w' rfl hI hK
  have hA':Holds 32 a' [(0,.func (.yield l) #[] #[]),(1,.pointer (some ⟨g,o,none⟩)),(8,u4),(9,.int .i64 v.l.length),(10,.int .i64 i)]:=⟨hI.size,hI.defers,fun p hp=>(hK p.1 (by simp at hp; rcases hp with rfl | rfl | rfl | rfl | rfl<;>simp)).trans (hA.2.2 p hp)⟩
  have hk':Keep O w0 w':=hk.trans hI.ext fun _ _ h=>h.elim
  have hj':=hJ _ _ _ hj hI.ext
  refine wpIn_seq (wpIn_region_list ?_)
  refine step_w rfl (run_move (x:=.tmp 0) rfl) ?_
  have hI2:=hI.put (d:=14) (by decide) (v:=.x) (u:=a'.eval (.tmp 0)) Rel.x (fun _ h=>nomatch h)
  have hA2:=hA'.put (d:=14) (u:=a'.eval (.tmp 0)) (by decide)
  obtain ⟨x, u, hx, hr, _, hrun⟩ := load_ok (K := fun x => x = .agg (encVal v.l[i])) Γ_good.ok hI2 (o := { dst := some 15, op := .load 26 (.tmp 4), type := 26, pos := "", after := #[], guard := none }) rfl (hI2.slots 4) (fun n hn => .inr (.inl ⟨4, hn⟩)) rfl
  subst hx
  refine step_w rfl (u:=u) hrun ?_
  have hA3:=hA2.put (d:=15) (u:=u) (by decide)
  have him:Im (fun k=>O k∨(w0.heap.size≤k∧k < W.heap.size)) w' (.agg (encVal v.l[i])) u:=(im_of_rel hr rfl rfl).mono fun k hk9=>.inl (by
   rcases hk9 with h | h
   ·exact ⟨.inl h,Nat.lt_of_lt_of_le (hO k h) hk.size⟩
   ·exact ⟨.inr h.1,h.2⟩)
  have hsplit:partsOf v = v.l.take i++v.l[i]::(v.l.drop (i + 1)++v.e.map (·.2)):=by
   unfold partsOf
   rw [← List.cons_append,← List.append_assoc,← List.drop_eq_getElem_cons hc,List.take_append_drop]
  have hy:=hround _ _ _ W w' u (m - 1) hsplit hj hI.ext hk' him
  generalize (a'.put _ _).put _ _ = a3 at hA3 ⊢
  refine step_yield rfl rfl (hA3.ev (d:=14) ?_) (hA3.ev (d:=15) (u:=u) ?_) hy fun e W' hR=>?_
  ·rw [hA'.ev (d:=0) (u:=.func (.yield l) #[] #[]) (by simp)]; simp
  ·simp
  have hB:=hA3.sub (k:=[(0,.func (.yield l) #[] #[]),(1,.pointer (some ⟨g,o,none⟩)),(8,u4),(9,.int .i64 v.l.length),(10,.int .i64 i)]) (by simp)
  rcases hR with ⟨rfl,hj1,hk1⟩ | ⟨rfl,hx1⟩
  ·refine ⟨_,rfl,?_⟩
   have hB:=hB.put (d:=16) (u:=.bool true) (by decide)
   refine step_h hB 17 (.bool false) rfl rfl (by decide) (run_not (b:=true) rfl (hB.ev (d:=16) (by simp))) fun a hB=>?_
   refine wpIn_cond_split (hB.ev (d:=17) (u:=.bool false) (by simp)) (fun h=>nomatch h) (fun _=>wpIn_skip ?_)
   refine wpIn_region_list ?_
   refine step_h hB 18 (.int .i64 ((i:Int) + 1)) rfl rfl (by decide) (run_add (m:=i) (n:=1) rfl (hB.ev (d:=10) (by simp)) rfl (show Rng .i64 _ from ⟨by omega,by omega⟩)) fun a hB=>?_
   refine step_h hB 10 (.int .i64 ((i + 1:Nat):Int)) rfl rfl (by decide) (by rw [show (((i + 1:Nat):Int)) = (i:Int) + 1 from by omega,← hB.ev (d:=18) (u:=.int .i64 ((i:Int) + 1)) (by simp)]; exact run_move (x:=.tmp 18) rfl) fun a hB=>?_
   exact ⟨i + 1,⟨hc,hB.sub (by simp),hk1,by rw [take_one hc]; exact hj1⟩,by omega⟩
  ·refine ⟨_,rfl,?_⟩
   have hB:=hB.put (d:=16) (u:=.bool false) (by decide)
   refine step_h hB 17 (.bool true) rfl rfl (by decide) (run_not (b:=false) rfl (hB.ev (d:=16) (by simp))) fun a hB=>?_
   refine wpIn_cond_split (hB.ev (d:=17) (u:=.bool true) (by simp)) (fun _=>wpIn_ret ?_) (fun h=>nomatch h)
   exact hfin .ret _ _ (.inr rfl) hB.2.1 (.inr hx1)
 ·have hc:i = v.l.length:=by have:=of_decide_eq_false hc; omega
  subst hc
  rw [List.take_length] at hj
  refine wpIn_exit ?_
  have hA:=h1.sub (k:=[(0,.func (.yield l) #[] #[]),(1,.pointer (some ⟨g,o,none⟩))]) (by simp)
  refine wpIn_seq (wpIn_region_list ?_)
  refine step_h hA 19 (.pointer (some ⟨g,o + 5,none⟩)) rfl rfl (by decide) (run_faddr (d:=(5,1)) (g:=g) (off:=o) rfl htV hdV rfl (hA.ev (d:=1) (by simp))) fun a h1=>?_
  refine step_h h1 20 u5 rfl rfl (by decide) (run_load1 (g:=g) (off:=o + 5) rfl htE hdE.1 hdE.2 (h1.ev (d:=19) (by simp)) (hcell 5 u5 hk hc5)) fun a h2=>?_
  refine step_h h2 21 (.int .i64 v.e.length) rfl rfl (by decide) (run_lenS (e:=55) (A:=A5) (m:=v.e.length) (c:=c5) rfl (by kernel_rfl) (by rw [← e5]; exact h2.ev (d:=20) (by simp))) fun a h3=>?_
  refine step_h h3 22 (.int .i64 0) rfl rfl (by decide) (run_move (x:=.const (.int .i64 0)) rfl) fun a h4=>?_
  have h4:=h4.sub (k:=[(0,.func (.yield l) #[] #[]),(1,.pointer (some ⟨g,o,none⟩)),(20,u5),(21,.int .i64 v.e.length),(22,.int .i64 0)]) (by simp)
  refine wpIn_block (wpIn_loop' (fun (i:Nat) a W=>i≤v.e.length∧Holds 32 a [(0,.func (.yield l) #[] #[]),(1,.pointer (some ⟨g,o,none⟩)),(20,u5),(21,.int .i64 v.e.length),(22,.int .i64 i)]∧Keep O w0 W∧J (v.l++(v.e.take i).map (·.2)) W) (fun i=>v.e.length - i) ?_ (x:=0) ⟨Nat.zero_le _,h4,hk,by simpa using hj⟩)
  clear hA h1 h2 h3 h4 hk hj
  rintro i a W ⟨hi,hA,hk,hj⟩
  refine wpIn_seq (wpIn_region_list ?_)
  refine step_h hA 23 (.bool (decide ((i:Int) < (v.e.length:Int)))) rfl rfl (by decide) (run_lss (k:=.i64) (m:=i) (n:=v.e.length) rfl (hA.ev (d:=22) (by simp)) (hA.ev (d:=21) (by simp))) fun a h1=>?_
  refine wpIn_seq (wpIn_cond_split (h1.ev (d:=23) (u:=.bool (decide ((i:Int) < (v.e.length:Int)))) (by simp)) (fun hc=>?_) (fun hc=>?_))
  ·have hc:i < v.e.length:=by have:=of_decide_eq_true hc; omega
   refine wpIn_skip ?_
   refine wpIn_seq (wpIn_block (wpIn_seq ?_))
   have hA:=h1.sub (k:=[(0,.func (.yield l) #[] #[]),(1,.pointer (some ⟨g,o,none⟩)),(20,u5),(21,.int .i64 v.e.length),(22,.int .i64 i)]) (by simp)
   have hg:v.e.getD (Int.toNat (i:Int)) (dflt .ent) = v.e[i]:=by rw [Int.toNat_natCast,List.getD_eq_getElem?_getD,List.getElem?_eq_getElem hc]; rfl
   refine piece (L:=[6]) (Qs:=fun s'=>s' = ⟨[(6,.pt 6 0)],[(6,enc .ent v.e[i])]⟩) Γ_good [0,1,20,21,22] ?_ (inv_kept (st:=[(20,.rd .ent v.e),(22,.i .i64 i)]) hO hG hk hA.1 hA.2.1 fun n=>?_) rfl ?_
   ·refine bN2 ?_
    rw [hg]
    rfl
   ·by_cases e8:n = 20
    ·subst e8
     rw [hA.2.2 (20,u5) (by simp)]
     exact hi5
    ·by_cases e10:n = 22
     ·subst e10
      rw [hA.2.2 (22,.int .i64 i) (by simp)]
      exact .i _ _
     ·rw [look2 e8 e10]
      exact .x _
   rintro s' β' a' w' rfl hI hK
   have hA':Holds 32 a' [(0,.func (.yield l) #[] #[]),(1,.pointer (some ⟨g,o,none⟩)),(20,u5),(21,.int .i64 v.e.length),(22,.int .i64 i)]:=⟨hI.size,hI.defers,fun p hp=>(hK p.1 (by simp at hp; rcases hp with rfl | rfl | rfl | rfl | rfl<;>simp)).trans (hA.2.2 p hp)⟩
   have hk':Keep O w0 w':=hk.trans hI.ext fun _ _ h=>h.elim
   obtain ⟨g6,hb6,hp6⟩:=show ∃ g,β' 6 = some g∧a'.tmps.getD 6 undef = .pointer (some ⟨g,0,none⟩) from hI.slots 6
   refine wpIn_seq (wpIn_region_list ?_)
   refine step_w rfl (run_move (x:=.tmp 0) rfl) ?_
   have hI2:=hI.put (d:=26) (by decide) (v:=.x) (u:=a'.eval (.tmp 0)) Rel.x (fun _ h=>nomatch h)
   have hA2:=hA'.put (d:=26) (u:=a'.eval (.tmp 0)) (by decide)
   have hp6':(a'.put (some 26) (a'.eval (.tmp 0))).eval (.tmp 6) = .pointer (some ⟨g6,0,none⟩):=(getD_put a' 26 _ (by rw [hI.size]; decide) 6).trans hp6
   refine step_w rfl (u:=.pointer (some ⟨g6,0 + 1,none⟩)) (run_faddr (d:=(1,6)) rfl htN hdN rfl hp6') ?_
   have hI3:=hI2.put (d:=27) (by decide) (v:=.pt 6 1) (u:=.pointer (some ⟨g6,0 + 1,none⟩)) ⟨g6,hb6,rfl⟩ (fun n hn=>by
    obtain rfl:=List.mem_singleton.1 (show n ∈ [6] from hn)
    exact .inl ⟨_,rfl⟩)
   have hA3:=hA2.put (d:=27) (u:=.pointer (some ⟨g6,0 + 1,none⟩)) (by decide)
   obtain ⟨x, u, hx, hr, _, hrun⟩ := load_ok (K := fun x => x = .agg (encVal v.e[i].2)) Γ_good.ok hI3 (o := { dst := some 28, op := .load 26 (.tmp 27), type := 26, pos := "", after := #[], guard := none }) rfl (hI3.slots 27) (fun n hn => .inr (.inl ⟨27, hn⟩)) rfl
   subst hx
   refine step_w rfl (u:=u) hrun ?_
   have hA3:=hA3.put (d:=28) (u:=u) (by decide)
   have him:Im (fun k=>O k∨(w0.heap.size≤k∧k < W.heap.size)) w' (.agg (encVal v.e[i].2)) u:=(im_of_rel hr rfl rfl).mono fun k hk9=>.inl (by
    rcases hk9 with h | h
    ·exact ⟨.inl h,Nat.lt_of_lt_of_le (hO k h) hk.size⟩
    ·exact ⟨.inr h.1,h.2⟩)
   have hsplit:partsOf v = (v.l++(v.e.take i).map (·.2))++v.e[i].2::((v.e.drop (i + 1)).map (·.2)):=by
    unfold partsOf
    rw [List.append_assoc,← List.map_cons,← List.map_append,← List.drop_eq_getElem_cons hc,List.take_append_drop]
   have hy:=hround _ _ _ W w' u (m - 1) hsplit hj hI.ext hk' him
   generalize ((a'.put _ _).put _ _).put _ _ = a3 at hA3 ⊢
   refine step_yield rfl rfl (hA3.ev (d:=26) ?_) (hA3.ev (d:=28) (u:=u) ?_) hy fun e W' hR=>?_
   ·rw [hA'.ev (d:=0) (u:=.func (.yield l) #[] #[]) (by simp)]; simp
   ·simp
   have hB:=hA3.sub (k:=[(0,.func (.yield l) #[] #[]),(1,.pointer (some ⟨g,o,none⟩)),(20,u5),(21,.int .i64 v.e.length),(22,.int .i64 i)]) (by simp)
   rcases hR with ⟨rfl,hj1,hk1⟩ | ⟨rfl,hx1⟩
   ·refine ⟨_,rfl,?_⟩
    have hB:=hB.put (d:=29) (u:=.bool true) (by decide)
    refine step_h hB 30 (.bool false) rfl rfl (by decide) (run_not (b:=true) rfl (hB.ev (d:=29) (by simp))) fun a hB=>?_
    refine wpIn_cond_split (hB.ev (d:=30) (u:=.bool false) (by simp)) (fun h=>nomatch h) (fun _=>wpIn_skip ?_)
    refine wpIn_region_list ?_
    refine step_h hB 31 (.int .i64 ((i:Int) + 1)) rfl rfl (by decide) (run_add (m:=i) (n:=1) rfl (hB.ev (d:=22) (by simp)) rfl (show Rng .i64 _ from ⟨by omega,by omega⟩)) fun a hB=>?_
    refine step_h hB 22 (.int .i64 ((i + 1:Nat):Int)) rfl rfl (by decide) (by rw [show (((i + 1:Nat):Int)) = (i:Int) + 1 from by omega,← hB.ev (d:=31) (u:=.int .i64 ((i:Int) + 1)) (by simp)]; exact run_move (x:=.tmp 31) rfl) fun a hB=>?_
    exact ⟨i + 1,⟨hc,hB.sub (by simp),hk1,by rw [take_map hc,← List.append_assoc]; exact hj1⟩,by omega⟩
   ·refine ⟨_,rfl,?_⟩
    have hB:=hB.put (d:=29) (u:=.bool false) (by decide)
    refine step_h hB 30 (.bool true) rfl rfl (by decide) (run_not (b:=false) rfl (hB.ev (d:=29) (by simp))) fun a hB=>?_
    refine wpIn_cond_split (hB.ev (d:=30) (u:=.bool true) (by simp)) (fun _=>wpIn_ret ?_) (fun h=>nomatch h)
    exact hfin .ret _ _ (.inr rfl) hB.2.1 (.inr hx1)
  ·have hc:i = v.e.length:=by have:=of_decide_eq_false hc; omega
   subst hc
   rw [List.take_length] at hj
   refine wpIn_exit ?_
   exact hfin .normal _ _ (.inl rfl) h1.2.1 (.inl hj)
end
end Go.Proofs.YtfeniggadfkakaaDoor
end
section
namespace Go.Proofs.YtfeniggadfkakaaDoor
open Go Go.SX
theorem rng64 {n:Int} (h1 : -9223372036854775808≤n) (h2:n≤9223372036854775807):Rng .i64 n:=⟨h1,h2⟩
theorem rNG {n:Int} {c:Prop} (y:c) (h1 : -9223372036854775808≤n:=by omega) (h2:n≤9223372036854775807:=by omega):Rng .i64 n∧c:=⟨rng64 h1 h2,y⟩
theorem len_le {n:Nat} (h:n≤maxLen):n≤9223372036854775807:=by unfold maxLen at h; omega
theorem ltD {i n:Nat} (h:decide ((i:Int) < (n:Int)) = true):i < n:=by have:=of_decide_eq_true h; omega
theorem geD {i n:Nat} (hi:i≤n) (h:decide ((i:Int) < (n:Int)) = false):i = n:=by have:=of_decide_eq_false h; omega
theorem getI {τ:Ty} {l:List (den τ)} {i:Nat} (h:i < l.length):l.getD (Int.toNat (i:Int)) (dflt τ) = l[i]:=by rw [Int.toNat_natCast,List.getD_eq_getElem?_getD,List.getElem?_eq_getElem h]; rfl
theorem take_snoc {α:Type} {l:List α} {i:Nat} (h:i < l.length):l.take (i + 1) = l.take i++[l[i]]:=by rw [List.take_add_one,List.getElem?_eq_getElem h]; rfl
section
variable [G:Globs]
end
end Go.Proofs.YtfeniggadfkakaaDoor
end
section
namespace Go.Proofs.YtfeniggadfkakaaDoor
open Go Go.SX Go.Ck
set_option maxRecDepth 100000
set_option maxHeartbeats 1000000
section
variable [G:Globs]
theorem nodes_step (y:Val) (hn:(sizV y).2≤1000000000) (hc:∀ x ∈ partsOf y,PSpec Tryd.prog 24 [.agg (encVal x)] (.i .i64 (sizV x).2)):PSpec Tryd.prog 24 [.agg (encVal y)] (.i .i64 (sizV y).2):=by
 have hlen:=siz_len y
 refine pspec_of_cspec (cspec_of_VCf (L:=[1,2,3,4,5,6,7,1001,1003]) (N:=13) Γ_good Tryd.func24 rfl Tryd.call24 Tryd.ntmps24 (Nat.le_of_ble_eq_true rfl) rfl ?_) rfl rfl
 refine VCf.seq Γ_good (by decide) ?_
 refine VCf.seq Γ_good (by decide) ?_
 refine VCf.renB 1 1001 rfl rfl ?_
 refine VCf.renB 3 1003 rfl rfl ?_
 refine VCf.range (σ:=Empty) Γ_good (by decide) [(1,.pt 1001 0),(3,.pt 1003 0),(6,.fn 67 [.rp (encVal y)])] (fun pre=>[(1001,encVal y),(1003,[.i .i64 (foldS pre (0,1)).2])]) (fun _=>False) (fun _=>[(1001,encVal y),(1003,[.i .i64 0])]) [1001,1003] (parts_it y (by omega) (by omega)) ?_ rfl rfl rfl rfl (fun _=>rfl) (fun _=>rfl) rfl rfl rfl (fun _=>True) trivial ?_ (fun y=>nomatch y) ?_
 ·refine Or.inl (eX _ (aN (s_parts y) ?_))
  refine eX [] ?_
  exact wK
 ·intro pre x post hx _
  have hm:x ∈ partsOf y:=by rw [hx]; simp
  have h1:=siz_pre (v:=y) (l:=pre) (k:=x::post) hx
  have h2:=siz_pre (v:=y) (l:=pre++[x]) (k:=post) (by rw [hx]; simp)
  have h3:(foldS (pre++[x]) (0,1)).2 = (foldS pre (0,1)).2 + (sizV x).2:=by rw [foldS_snoc]; rfl
  refine eX [.blk [0,1,2,3],.one 4] (aN (by kernel_rfl) ?_)
  refine eX _ (aN (hc x hm) ?_)
  refine aN (rng64 (by omega) (by omega)) ?_
  refine aN trivial (eX [] ?_)
  (repeat' (first | exact wA | exact Or.inl ((congrArg (AV.i .i64) h3.symm)) | refine aN ?_ ?_))
 ·intro _
  refine eX [] (aN ?_ ?_)
  ·rw [sizV_eq]; rfl
  ·exact trivial
theorem s_Nodes:∀ (n:Nat) (y:Val),SizeOf.sizeOf y < n→(sizV y).2≤1000000000→PSpec Tryd.prog 24 [.agg (encVal y)] (.i .i64 (sizV y).2):=by
 intro n
 induction n with
 | zero=>intro y h; exact absurd h (Nat.not_lt_zero _)
 | succ n ih=>intro y h hn; exact nodes_step y hn fun x hx=>ih x (by have:=parts_sz hx; omega) (by have:=(siz_parts y).2 x hx; omega)
end
end Go.Proofs.YtfeniggadfkakaaDoor
end
section
namespace Go.Proofs.YtfeniggadfkakaaDoor
open Go Go.SX Go.Vl Go.Ck Go.Up Go.Df
set_option maxRecDepth 100000
set_option maxHeartbeats 4000000
def rowsTo (d:Val→Val→Int) (a b:List Val) (i:Nat):List (List Int):=(gridP d a b).take i++List.replicate (a.length + 1 - i) []
def cellsTo (d:Val→Val→Int) (a b:List Val) (i j:Nat):List Int:=(rowP d a b i).take j++List.replicate (b.length + 1 - j) 0
theorem set_mid {α:Type} (l:List α) (z y:α) (k:Nat) {i n:Nat} (hl:l.length = i) (hk:k = n + 1):(l++List.replicate k z).set i y = (l++[y])++List.replicate n z:=by
 subst hl hk
 rw [List.set_append_right _ _ (Nat.le_refl _),Nat.sub_self,List.replicate_succ,List.set_cons_zero,List.append_assoc]
 rfl
theorem grid_len (d:Val→Val→Int) (a b:List Val):(gridP d a b).length = a.length + 1:=by unfold gridP; simp
theorem row_len (d:Val→Val→Int) (a b:List Val) (i:Nat):(rowP d a b i).length = b.length + 1:=by unfold rowP; simp
theorem grid_at (d:Val→Val→Int) (a b:List Val) {i:Nat} (h:i < a.length + 1):(gridP d a b)[i]? = some (rowP d a b i):=by unfold gridP; simp [h]
theorem row_at (d:Val→Val→Int) (a b:List Val) (i:Nat) {j:Nat} (h:j < b.length + 1):(rowP d a b i)[j]? = some (gP d a b i j):=by unfold rowP; simp [h]
theorem rowsTo_len (d:Val→Val→Int) (a b:List Val) {i:Nat} (h:i≤a.length + 1):(rowsTo d a b i).length = a.length + 1:=by
 unfold rowsTo; rw [List.length_append,List.length_take,grid_len,List.length_replicate]; omega
theorem cellsTo_len (d:Val→Val→Int) (a b:List Val) (i:Nat) {j:Nat} (h:j≤b.length + 1):(cellsTo d a b i j).length = b.length + 1:=by
 unfold cellsTo; rw [List.length_append,List.length_take,row_len,List.length_replicate]; omega
theorem rowsTo_set (d:Val→Val→Int) (a b:List Val) {i:Nat} (h:i < a.length + 1):(rowsTo d a b i).set i (cellsTo d a b i (b.length + 1)) = rowsTo d a b (i + 1):=by
 have e1:cellsTo d a b i (b.length + 1) = rowP d a b i:=by
  unfold cellsTo; rw [List.take_of_length_le (by rw [row_len]; omega),Nat.sub_self]; simp
 rw [e1]
 unfold rowsTo
 rw [set_mid _ _ _ _ (n:=a.length + 1 - (i + 1)) (by rw [List.length_take,grid_len]; omega) (by omega),List.take_add_one,grid_at d a b h]
 rfl
theorem cellsTo_set (d:Val→Val→Int) (a b:List Val) (i:Nat) {j:Nat} (h:j < b.length + 1):(cellsTo d a b i j).set j (gP d a b i j) = cellsTo d a b i (j + 1):=by
 unfold cellsTo
 rw [set_mid _ _ _ _ (n:=b.length + 1 - (j + 1)) (by rw [List.length_take,row_len]; omega) (by omega),List.take_add_one,row_at d a b i h]
 rfl
theorem cellsTo_get (d:Val→Val→Int) (a b:List Val) (i:Nat) {j k:Nat} (h:k < j) (hj:j≤b.length + 1):(cellsTo d a b i j).getD k (dflt .int) = gP d a b i k:=by
 unfold cellsTo
 rw [List.getD_eq_getElem?_getD,List.getElem?_append_left (by rw [List.length_take,row_len]; omega),List.getElem?_take,if_pos h,row_at d a b i (by omega)]
 rfl
theorem rowsTo_get (d:Val→Val→Int) (a b:List Val) {i k:Nat} (h:k < i) (hi:i≤a.length + 1):(rowsTo d a b i).getD k [] = rowP d a b k:=by
 unfold rowsTo
 rw [List.getD_eq_getElem?_getD,List.getElem?_append_left (by rw [List.length_take,grid_len]; omega),List.getElem?_take,if_pos h,grid_at d a b (by omega)]
 rfl
theorem row_get (d:Val→Val→Int) (a b:List Val) (i:Nat) {j:Nat} (h:j < b.length + 1):(rowP d a b i).getD j (dflt .int) = gP d a b i j:=by
 rw [List.getD_eq_getElem?_getD,row_at d a b i h]; rfl
theorem nd_mem (l:List Val) {x:Val} (h:x ∈ l):nd x≤sumN l:=by
 obtain ⟨i,hi,rfl⟩:=List.getElem_of_mem h
 have h1:=sumN_app (l.take i) (l.drop i)
 rw [List.take_append_drop,List.drop_eq_getElem_cons hi,sumN_cons] at h1
 have h2:=sumN_nn (l.take i)
 have h3:=sumN_nn (l.drop (i + 1))
 omega
section
variable [G:Globs]
theorem w_grid (d:Val→Val→Int) (a b:List Val) (hd0:∀ x y,0≤d x y) (hd1:∀ x ∈ a,∀ y ∈ b,d x y≤2000000) (ha:sumN a≤1000) (hb:sumN b≤1000) (hs:∀ x ∈ a,∀ y ∈ b,PSpec Tryd.prog 21 [.agg (encVal x),.agg (encVal y)] (.i .i64 (d x y))):vc Tryd.prog Γ 148 [0,1,4,5,6,7,13,14,15,28,29,30,90,97,121] (Tryd.f37.body.getD .skip) (postK Γ [.tmp 4] (fun v=>v = .rd .ints (gridP d a b))) ⟨argSlots 0 [.rd .val a,.rd .val b],[]⟩:=by
 have hla:=sumN_nn a
 have hlb:=sumN_nn b
 intro _
 (refine rNG ?_)
 have tn:∀ n:Nat,((n:Int) + 1).toNat = n + 1:=fun n=>by omega
 refine aN ⟨by omega,by omega,by omega,show ((a.length:Int) + 1).toNat * 24≤140737488355328 by omega⟩ ?_
 intro _
 refine eX [] (eX [] (eX [(11,5)] (eX Nat (eX (fun i=>i≤a.length + 1) (eX (fun i=>⟨[(0,.rd .val a),(1,.rd .val b),(5,.vec 5 .ints (rowsTo d a b i)),(13,.i .i64 ((a.length + 1:Nat):Int)),(14,.i .i64 i)],[]⟩) (eX (fun i=>a.length + 1 - i) (eX 0 (aN (Nat.zero_le _) (aN ?_ ?_)))))))))
 ·(repeat' (first | exact wA | exact Or.inl ((congrArg (AV.vec 5 .ints) (show List.replicate ((a.length:Int) + 1).toNat [] = rowsTo d a b 0 by rw [tn]; rfl))) | exact Or.inl ((congrArg (AV.i .i64) (show ((List.replicate ((a.length:Int) + 1).toNat ([]:List Int)).length:Int) = ((a.length + 1:Nat):Int) by rw [List.length_replicate]; omega))) | refine aN ?_ ?_))
 ·rintro i hi
  refine aN (fun hz=>?_) (fun hz=>?_)
  ·have hi:i < a.length + 1:=by have:=of_decide_eq_true hz; omega
   have hlr:=rowsTo_len d a b (Nat.le_of_lt hi)
   (repeat' (first | (refine aN (fun h=>?_) (fun h=>?_)<;>(try simp [-List.getD_eq_getElem?_getD,-Int.pred_toNat] at h)<;>(try (exfalso; first | omega | contradiction))) | refine bX ?_ | intro _))
   refine aN ⟨by omega,by omega,by omega,show ((b.length:Int) + 1).toNat * 8≤140737488355328 by omega⟩ ?_
   rw [tn b.length]
   refine bN2 ?_
   refine bN2 ?_
   refine Or.inl (aN (Int.toNat_natCast i) ?_)
   rw [Int.toNat_natCast]
   (repeat' (first | (refine aN (fun h=>?_) (fun h=>?_)<;>(try simp [-List.getD_eq_getElem?_getD,-Int.pred_toNat] at h)<;>(try (exfalso; first | omega | contradiction))) | refine bX ?_ | intro _))
   refine eX [] (eX [] (eX [] (eX Nat (eX (fun j=>j≤b.length + 1) (eX (fun j=>⟨[(0,.rd .val a),(1,.rd .val b),(5,.ob 5 22 (.gr (rowsTo d a b i) i (cellsTo d a b i j))),(13,.i .i64 ((a.length + 1:Nat):Int)),(14,.i .i64 i),(6,.i .i64 i),(28,.i .i64 ((b.length + 1:Nat):Int)),(29,.i .i64 j)],[]⟩) (eX (fun j=>b.length + 1 - j) (eX 0 (aN (Nat.zero_le _) (aN ?_ ?_)))))))))
   ·(repeat' (first | exact wA | exact Or.inl ((congrArg (AV.i .i64) (show ((List.replicate (b.length + 1) (0:Int)).length:Int) = ((b.length + 1:Nat):Int) by rw [List.length_replicate]))) | refine aN ?_ ?_))
   ·rintro j hj
    refine aN (fun hz=>?_) (fun hz=>?_)
    ·have hj:j < b.length + 1:=by have:=of_decide_eq_true hz; omega
     have hlc:=cellsTo_len d a b i (Nat.le_of_lt hj)
     have hset:=cellsTo_set d a b i hj
     by_cases i0:i = 0
     ·by_cases j0:j = 0
      ·subst i0 j0
       (repeat' (first | (refine aN (fun h=>?_) (fun h=>?_)<;>(try simp [-List.getD_eq_getElem?_getD,-Int.pred_toNat] at h)<;>(try (exfalso; first | omega | contradiction))) | refine bX ?_ | intro _))
       refine eX [] (eX 1 (aN hj (aN ?_ ?_)))
       ·(repeat' (first | exact wA | exact Or.inl ((congrArg (fun z=>AV.ob 5 22 (.gr (rowsTo d a b 0) 0 z)) (show cellsTo d a b 0 0 = cellsTo d a b 0 1 by rw [← hset,gP_00]; unfold cellsTo; simp [List.replicate_succ]))) | refine aN ?_ ?_))
       ·(exact Nat.sub_lt_sub_left (by omega) (by omega))
      ·obtain ⟨m,rfl⟩:∃ m,j = m + 1:=⟨j - 1,by omega⟩
       subst i0
       have tm:(((m + 1:Nat):Int) - 1).toNat = m:=by omega
       have hm:m < b.length:=by omega
       have hnm:=nd_mem b (List.getElem_mem hm)
       have hpm:=nd_pos b[m]
       have hN:=s_Nodes _ b[m] (Nat.lt_succ_self _) (show nd b[m]≤1000000000 by omega)
       have gb:=gP_b hd0 a b 0 m
       have hg:b.getD (((m + 1:Nat):Int) - 1).toNat (dflt .val) = b[m]:=by rw [tm,List.getD_eq_getElem?_getD,List.getElem?_eq_getElem hm]; rfl
       have hc:(cellsTo d a b 0 (m + 1)).getD (((m + 1:Nat):Int) - 1).toNat (dflt .int) = gP d a b 0 m:=by rw [tm]; exact cellsTo_get d a b 0 (Nat.lt_succ_self m) (by omega)
       rw [gP_0s d a hm] at hset
       have hnm:(sizV b[m]).2≤sumN b:=hnm
       have hpm:1≤(sizV b[m]).2:=hpm
       (repeat' (first | (refine aN (fun h=>?_) (fun h=>?_)<;>(try simp [-List.getD_eq_getElem?_getD,-Int.pred_toNat] at h)<;>(try (exfalso; first | omega | contradiction))) | refine bX ?_ | intro _))
       refine eX [.blk [0,1,2,3,4,5,6,7,8,9,10,11,12,13,14,15,16,17,18,19,20],.one 21] (aN (by kernel_rfl) ?_)
       refine bN2 ?_
       refine Or.inl (aN rfl ?_)
       refine bN2 ?_
       refine Or.inl (aN rfl ?_)
       (refine rNG ?_)
       refine bN2 ?_
       (refine rNG ?_)
       refine bN2 ?_
       rw [hg,hc]
       refine eX _ (aN (hN) ?_)
       (refine rNG ?_)
       refine bN2 ?_
       (refine rNG ?_)
       refine eX [] (eX (m + 1 + 1) (aN hj (aN ?_ ?_)))
       ·(repeat' (first | exact wA | exact Or.inl ((congrArg (fun z=>AV.ob 5 22 (.gr (rowsTo d a b 0) 0 z)) hset)) | refine aN ?_ ?_))
       ·(exact Nat.sub_lt_sub_left (by omega) (by omega))
     ·by_cases j0:j = 0
      ·obtain ⟨m,rfl⟩:∃ m,i = m + 1:=⟨i - 1,by omega⟩
       subst j0
       have tm:(((m + 1:Nat):Int) - 1).toNat = m:=by omega
       have hm:m < a.length:=by omega
       have hnm:=nd_mem a (List.getElem_mem hm)
       have hpm:=nd_pos a[m]
       have hN:=s_Nodes _ a[m] (Nat.lt_succ_self _) (show nd a[m]≤1000000000 by omega)
       have gb:=gP_b hd0 a b m 0
       have hg:a.getD (((m + 1:Nat):Int) - 1).toNat (dflt .val) = a[m]:=by rw [tm,List.getD_eq_getElem?_getD,List.getElem?_eq_getElem hm]; rfl
       have hr:(rowsTo d a b (m + 1)).getD (((m + 1:Nat):Int) - 1).toNat [] = rowP d a b m:=by rw [tm]; exact rowsTo_get d a b (Nat.lt_succ_self m) (by omega)
       have hc:(rowP d a b m).getD ((0:Nat):Int).toNat (dflt .int) = gP d a b m 0:=row_get d a b m (Nat.succ_pos b.length)
       have hrl:=row_len d a b m
       rw [gP_s0 d b hm] at hset
       have hnm:(sizV a[m]).2≤sumN a:=hnm
       have hpm:1≤(sizV a[m]).2:=hpm
       (repeat' (first | (refine aN (fun h=>?_) (fun h=>?_)<;>(try simp [-List.getD_eq_getElem?_getD,-Int.pred_toNat] at h)<;>(try (exfalso; first | omega | contradiction))) | refine bX ?_ | intro _))
       refine eX [.blk [0,1,2,3,4,5,6,7,8,9,10,11,12,13,14,15,16,17,18,19,20],.one 21] (aN (by kernel_rfl) ?_)
       refine bN2 ?_
       refine Or.inl (aN rfl ?_)
       (refine rNG ?_)
       refine bN2 ?_
       refine Or.inr (aN (by omega) ?_)
       rw [hr]
       refine bN2 ?_
       (refine rNG ?_)
       refine bN2 ?_
       rw [hg,hc]
       refine eX _ (aN (hN) ?_)
       (refine rNG ?_)
       refine bN2 ?_
       (refine rNG ?_)
       refine eX [] (eX (0 + 1) (aN hj (aN ?_ ?_)))
       ·(repeat' (first | exact wA | exact Or.inl ((congrArg (fun z=>AV.ob 5 22 (.gr (rowsTo d a b (m + 1)) (m + 1) z)) hset)) | refine aN ?_ ?_))
       ·(exact Nat.sub_lt_sub_left (by omega) (by omega))
      ·obtain ⟨m,rfl⟩:∃ m,i = m + 1:=⟨i - 1,by omega⟩
       obtain ⟨k,rfl⟩:∃ k,j = k + 1:=⟨j - 1,by omega⟩
       have tm:(((m + 1:Nat):Int) - 1).toNat = m:=by omega
       have tk:(((k + 1:Nat):Int) - 1).toNat = k:=by omega
       have hm:m < a.length:=by omega
       have hk:k < b.length:=by omega
       have hna:=nd_mem a (List.getElem_mem hm)
       have hpa:=nd_pos a[m]
       have hnb:=nd_mem b (List.getElem_mem hk)
       have hpb:=nd_pos b[k]
       have hNa:=s_Nodes _ a[m] (Nat.lt_succ_self _) (show nd a[m]≤1000000000 by omega)
       have hNb:=s_Nodes _ b[k] (Nat.lt_succ_self _) (show nd b[k]≤1000000000 by omega)
       have hF:=hs a[m] (List.getElem_mem hm) b[k] (List.getElem_mem hk)
       have hF1:=hd1 a[m] (List.getElem_mem hm) b[k] (List.getElem_mem hk)
       have hF0:=hd0 a[m] b[k]
       have g1:=gP_b hd0 a b m (k + 1)
       have g2:=gP_b hd0 a b (m + 1) k
       have g3:=gP_b hd0 a b m k
       have hga:a.getD (((m + 1:Nat):Int) - 1).toNat (dflt .val) = a[m]:=by rw [tm,List.getD_eq_getElem?_getD,List.getElem?_eq_getElem hm]; rfl
       have hgb:b.getD (((k + 1:Nat):Int) - 1).toNat (dflt .val) = b[k]:=by rw [tk,List.getD_eq_getElem?_getD,List.getElem?_eq_getElem hk]; rfl
       have hr:(rowsTo d a b (m + 1)).getD (((m + 1:Nat):Int) - 1).toNat [] = rowP d a b m:=by rw [tm]; exact rowsTo_get d a b (Nat.lt_succ_self m) (by omega)
       have hrl:=row_len d a b m
       rw [gP_ss d hm hk] at hset
       have hna:(sizV a[m]).2≤sumN a:=hna
       have hpa:1≤(sizV a[m]).2:=hpa
       have hnb:(sizV b[k]).2≤sumN b:=hnb
       have hpb:1≤(sizV b[k]).2:=hpb
       have c1:(rowP d a b m).getD ((k + 1:Nat):Int).toNat (dflt .int) = gP d a b m (k + 1):=row_get d a b m (by omega)
       have c2:(cellsTo d a b (m + 1) (k + 1)).getD (((k + 1:Nat):Int) - 1).toNat (dflt .int) = gP d a b (m + 1) k:=by rw [tk]; exact cellsTo_get d a b (m + 1) (Nat.lt_succ_self k) (by omega)
       have c3:(rowP d a b m).getD (((k + 1:Nat):Int) - 1).toNat (dflt .int) = gP d a b m k:=by rw [tk]; exact row_get d a b m (by omega)
       (repeat' (first | (refine aN (fun h=>?_) (fun h=>?_)<;>(try simp [-List.getD_eq_getElem?_getD,-Int.pred_toNat] at h)<;>(try (exfalso; first | omega | contradiction))) | refine bX ?_ | intro _))
       refine eX [.blk [0,1,2,3,4,5,6,7,8,9,10,11,12,13,14,15,16,17,18,19,20,21,22,23,24,25,26,27,28,29,30,31,32,33,34,35,36,37,38,39,40,41,42,43,44,45,46,47,48,49,50,51,52,53,54,55,56,57],.one 58] (aN (by kernel_rfl) ?_)
       refine bN2 ?_
       refine Or.inl (aN rfl ?_)
       (refine rNG ?_)
       refine bN2 ?_
       refine Or.inr (aN (by omega) ?_)
       rw [hr]
       refine bN2 ?_
       (refine rNG ?_)
       refine bN2 ?_
       rw [hga,c1]
       refine eX _ (aN (hNa) ?_)
       (refine rNG ?_)
       refine bN2 ?_
       refine Or.inl (aN rfl ?_)
       (refine rNG ?_)
       refine bN2 ?_
       (refine rNG ?_)
       refine bN2 ?_
       rw [hgb,c2]
       refine eX _ (aN (hNb) ?_)
       (refine rNG ?_)
       (refine rNG ?_)
       refine bN2 ?_
       refine Or.inr (aN (by omega) ?_)
       rw [hr]
       (refine rNG ?_)
       refine bN2 ?_
       (refine rNG ?_)
       refine bN2 ?_
       (refine rNG ?_)
       refine bN2 ?_
       rw [hga,hgb,c3]
       refine eX _ (aN (hF) ?_)
       (refine rNG ?_)
       refine bN2 ?_
       (refine rNG ?_)
       refine eX [] (eX (k + 1 + 1) (aN hj (aN ?_ ?_)))
       ·(repeat' (first | exact wA | exact Or.inl ((congrArg (fun z=>AV.ob 5 22 (.gr (rowsTo d a b (m + 1)) (m + 1) z)) hset)) | refine aN ?_ ?_))
       ·(exact Nat.sub_lt_sub_left (by omega) (by omega))
    ·have hj:j = b.length + 1:=by have:=of_decide_eq_false hz; omega
     (refine rNG ?_)
     refine eX [(999,22)] (eX (i + 1) (aN hi (aN ?_ ?_)))
     ·(repeat' (first | exact wA | exact Or.inl ((congrArg (AV.vec 5 .ints) (by rw [hj]; exact rowsTo_set d a b hi))) | refine aN ?_ ?_))
     ·(exact Nat.sub_lt_sub_left (by omega) (by omega))
  ·have hi:i = a.length + 1:=by have:=of_decide_eq_false hz; omega
   have he:rowsTo d a b i = gridP d a b:=by unfold rowsTo; rw [hi,Nat.sub_self,List.take_of_length_le (by rw [grid_len]; omega)]; simp
   rw [he]
   exact rfl
theorem s_grid (d:Val→Val→Int) (a b:List Val) (hd0:∀ x y,0≤d x y) (hd1:∀ x ∈ a,∀ y ∈ b,d x y≤2000000) (ha:sumN a≤1000) (hb:sumN b≤1000) (hs:∀ x ∈ a,∀ y ∈ b,PSpec Tryd.prog 21 [.agg (encVal x),.agg (encVal y)] (.i .i64 (d x y))):PSpec Tryd.prog 37 [.rd .val a,.rd .val b] (.rd .ints (gridP d a b)) :=
 pspec_of_vc Γ_good Tryd.func37 rfl Tryd.call37 Tryd.results37 Tryd.ntmps37 (Nat.le_of_ble_eq_true rfl) (w_grid d a b hd0 hd1 ha hb hs)
end
end Go.Proofs.YtfeniggadfkakaaDoor
end
section
namespace Go.SX
variable [Globs]
open Go.RowKit Go.WideShapes Go.ChangeShapes Go.Deep
theorem mapM_at {α β:Type} {f:α→Option β}:∀ {l:List α} {r:List β},l.mapM f = some r→r.length = l.length∧∀ (j:Nat) x,l[j]? = some x→f x = r[j]?:=by
 intro l
 induction l with
 | nil=>intro r h; simp at h; subst h; exact ⟨rfl,fun j x h=>by simp at h⟩
 | cons a l ih =>
  intro r h
  simp only [List.mapM_cons,Option.bind_eq_bind,Option.bind_eq_some_iff] at h
  obtain ⟨b,hb,bs,hbs,h⟩:=h
  have h:b::bs = r:=by injection h
  subst h
  obtain ⟨h1,h2⟩:=ih hbs
  refine ⟨by simp [h1],fun j x hx=>?_⟩
  cases j with
  | zero=>simp at hx; subst hx; simpa using hb
  | succ j=>simpa using h2 j x (by simpa using hx)
section
variable {H:Type} {encH:TypeId × Value→H} {P:Program} {W:World} {sp:Nat→Bool} {hd:Bool} {O:Nat→Prop}

theorem cells_get {w:World} {base:Nat} {a:Addr} {n:Nat} {cs:List Value} (h:w.cells? base a n = some cs):cs.length = n∧∀ (j:Nat) v,cs[j]? = some v→w.cell? (a.add j) = some v:=by
 unfold World.cells? at h
 split at h
 ·obtain ⟨h1,h2⟩:=mapM_at h
  rw [List.length_range] at h1
  refine ⟨h1,fun j v hv=>?_⟩
  have hj:j < n:=by rw [← h1]; exact (List.getElem?_eq_some_iff.1 hv).1
  rw [h2 j j (by simp [hj]),hv]
 ·cases h
theorem add_of {a:Addr} {n:Nat} (h:(a.add n).spot = none):a.add n = ⟨a.block,a.off + n,none⟩:=by
 unfold Addr.add at h ⊢
 split
 ·rename_i h0
  rw [if_pos h0] at h
  obtain ⟨b,o,s⟩:=a
  simp only at h
  subst h h0
  rfl
 ·rfl
theorem arg_int {t:TypeId} {k:IntKind} {fuel:Nat} {cs:List Value} {x:DataW H × List MemPlace} (ht:P.underlying t = some (.int k)) (h:DataW.trod encH P W 0 sp hd fuel t cs = some x):∃ n,cs = [.int k n]∧Im O W (.i k n) (.int k n)∧(Lit.int k n).wf = true:=by
 obtain ⟨n,h1,_,h2⟩:=DataW.trod_int ht h
 exact ⟨n,h1,.i k n,h2⟩
end
theorem wf_i64 {n:Int} (h:(Lit.int .i64 n).wf = true):(-9223372036854775808:Int)≤n∧n≤(9223372036854775807:Int):=by
 simp only [Lit.wf,Bool.and_eq_true,decide_eq_true_eq] at h; exact h
theorem wf_u64 {n:Int} (h:(Lit.int .u64 n).wf = true):(0:Int)≤n∧n≤(18446744073709551615:Int):=by
 simp only [Lit.wf,Bool.and_eq_true,decide_eq_true_eq] at h; exact h
end Go.SX
end
section
namespace Go.SX
variable [Globs]
open Go.RowKit Go.WideShapes Go.ChangeShapes Go.Deep
section
variable {H:Type} {encH:TypeId × Value→H} {P:Program} {W:World} {sp:Nat→Bool} {hd:Bool} {O:Nat→Prop}
end
end Go.SX
end
section
namespace Go.SX
variable [Globs]
open Go.RowKit Go.WideShapes Go.ChangeShapes Go.Deep
inductive VB:Val→Prop
 | mk (v:Val):(-9223372036854775808≤v.kind∧v.kind≤9223372036854775807)→(-9223372036854775808≤v.n∧v.n≤9223372036854775807)→(0≤v.f∧v.f≤18446744073709551615)→(∀ x ∈ v.l,VB x)→(∀ p ∈ v.e,VB p.2)→VB v
section
variable {H:Type} {encH:TypeId × Value→H} {P:Program} {W:World} {sp:Nat→Bool} {hd:Bool} {O:Nat→Prop}
def HasF (fs:Array Field) (i off:Nat) (t:TypeId):Prop:=∃ f,fs[i]? = some f∧f.offset = off∧f.type = t
structure VTy (P:Program) (V:TypeId) where
 (fs gs:Array Field) (K N U S L E En:TypeId)
 hV:P.underlying V = some (.struct fs)
 cV:P.cellsOf V = 6
 h0:HasF fs 0 0 K
 h1:HasF fs 1 1 N
 h2:HasF fs 2 2 U
 h3:HasF fs 3 3 S
 h4:HasF fs 4 4 L
 h5:HasF fs 5 5 E
 uK:P.underlying K = some (.int .i64)
 uN:P.underlying N = some (.int .i64)
 uU:P.underlying U = some (.int .u64)
 uS:P.underlying S = some .string
 uL:P.underlying L = some (.slice V)
 uE:P.underlying E = some (.slice En)
 c:P.cellsOf K = 1∧P.cellsOf N = 1∧P.cellsOf U = 1∧P.cellsOf S = 1∧P.cellsOf L = 1∧P.cellsOf E = 1
 hE:P.underlying En = some (.struct gs)
 cE:P.cellsOf En = 7
 g0:HasF gs 0 0 S
 g1:HasF gs 1 1 V
structure MTy (P:Program) (M:TypeId) where
 (fs:Array Field) (K Q S V:TypeId) (T:VTy P V)
 hM:P.underlying M = some (.struct fs)
 cM:P.cellsOf M = 10
 h0:HasF fs 0 0 K
 h1:HasF fs 1 1 Q
 h2:HasF fs 2 2 S
 h3:HasF fs 3 3 S
 h4:HasF fs 4 4 V
 uK:P.underlying K = some (.int .i64)
 uQ:P.underlying Q = some (.slice S)
 uS:P.underlying S = some .string
 c:P.cellsOf K = 1∧P.cellsOf Q = 1∧P.cellsOf S = 1
structure KTy (P:Program) (L:TypeId) where
 (fs:Array Field) (K Q M:TypeId) (T:MTy P M)
 hL:P.underlying L = some (.struct fs)
 cL:P.cellsOf L = 3
 h0:HasF fs 0 0 K
 h1:HasF fs 1 1 K
 h2:HasF fs 2 2 Q
 uK:P.underlying K = some (.int .i64)
 uQ:P.underlying Q = some (.slice M)
 c:P.cellsOf K = 1∧P.cellsOf Q = 1
end
end Go.SX
end
section
namespace Go.Proofs.YtfeniggadfkakaaDoor
open Go Go.SX Go.Vl
set_option maxRecDepth 100000
set_option maxHeartbeats 0
theorem less_ne {a b:Str} (h:Op.bytesLess a b = true):a≠b:=fun e=>by rw [e,less_irrefl] at h; cases h
theorem beq_S (a:Str):(a == a) = true:=beq_self_eq_true a
theorem shr63 {f:Int} (h0:0≤f) (h1:f≤18446744073709551615):(f.fdiv (2 ^ min (Int.toNat 63) IntKind.u64.bits) == 1) = decide (¬ f < 9223372036854775808):=by
 rw [show (2:Int) ^ min (Int.toNat 63) IntKind.u64.bits = 9223372036854775808 from rfl,Int.fdiv_eq_ediv_of_nonneg _ (by decide)]
 rw [Bool.eq_iff_iff,beq_iff_eq,decide_eq_true_eq]
 omega
theorem or63 {f:Int} (h0:0≤f) (h1:f < 9223372036854775808):bits .or .u64 f 9223372036854775808 = f + 9223372036854775808:=by
 obtain ⟨n,rfl⟩:∃ n:Nat,f = n:=⟨f.toNat,by omega⟩
 rw [show (9223372036854775808:Int) = ((2 ^ 63 * 1:Nat):Int) from rfl,bits_or_u64_nat _ _ (by omega) (by omega),Nat.or_comm,← Nat.two_pow_add_eq_or_of_lt (by omega)]
 omega
theorem xor63 {f:Int} (h0:0≤f) (h1:f≤18446744073709551615):bits .xor .u64 (if IntKind.u64.signed = true then -1 else IntKind.u64.max) f = 18446744073709551615 - f:=by
 obtain ⟨n,rfl⟩:∃ n:Nat,f = n:=⟨f.toNat,by omega⟩
 rw [show (if IntKind.u64.signed = true then (-1:Int) else IntKind.u64.max) = ((18446744073709551615:Nat):Int) from rfl,bits_xor_u64_nat _ _ (by omega) (by omega)]
 have h:(18446744073709551615 ^^^ n:Nat) = 18446744073709551615 - n:=by
  have h2:=congrArg BitVec.toNat (BitVec.allOnes_xor (x:=BitVec.ofNat 64 n))
  rw [BitVec.toNat_xor,BitVec.toNat_not,BitVec.toNat_ofNat,Nat.mod_eq_of_lt (by omega),BitVec.toNat_allOnes] at h2
  exact h2
 rw [h]
 omega
section
variable [G:Globs]
theorem w_nanI64 (a:Int):vc Tryd.prog Γ 6 [0,2] (Tryd.f73.body.getD .skip) (postK Γ [.tmp 2] (fun v=>v = .b false)) ⟨argSlots 0 [.i .i64 a],[]⟩:=by
 show _ = _
 rw [bne_self_eq_false]
 rfl
theorem s_nanI64 (a:Int):PSpec Tryd.prog 73 [.i .i64 a] (.b false) :=
 pspec_of_vc Γ_good Tryd.func73 rfl Tryd.call73 Tryd.results73 Tryd.ntmps73 (Nat.le_of_ble_eq_true rfl) (w_nanI64 a)
theorem w_cmpI64 (a b:Int):vc Tryd.prog Γ 20 [0,1,4,5,6,11,12,13,16,19] (Tryd.f50.body.getD .skip) (postK Γ [.tmp 4] (fun v=>v = .i .i64 (cmpI a b))) ⟨argSlots 0 [.i .i64 a,.i .i64 b],[]⟩:=by
 refine Or.inl (eX _ (aN (s_nanI64 a) ?_))
 refine Or.inl (eX _ (aN (s_nanI64 b) ?_))
 refine aN (fun h=>Bool.noConfusion h) (fun _=>?_)
 refine aN (fun h=>Bool.noConfusion h) (fun _=>?_)
 refine aN (fun h=>?_) (fun h=>?_)
 ·have h:a < b:=of_decide_eq_true h
  show AV.i .i64 (-1) = AV.i .i64 (cmpI a b)
  rw [cmpI,if_neg (by omega),if_pos h]
 ·have h:¬ a < b:=of_decide_eq_false h
  refine aN (fun h2=>?_) (fun h2=>?_)
  ·have h2:b < a:=of_decide_eq_true h2
   show AV.i .i64 1 = AV.i .i64 (cmpI a b)
   rw [cmpI,if_neg (by omega),if_neg h]
  ·have h2:¬ b < a:=of_decide_eq_false h2
   show AV.i .i64 0 = AV.i .i64 (cmpI a b)
   rw [cmpI,if_pos (by omega)]
theorem s_cmpI64 (a b:Int):PSpec Tryd.prog 50 [.i .i64 a,.i .i64 b] (.i .i64 (cmpI a b)) :=
 pspec_of_vc Γ_good Tryd.func50 rfl Tryd.call50 Tryd.results50 Tryd.ntmps50 (Nat.le_of_ble_eq_true rfl) (w_cmpI64 a b)
theorem w_nanJ64 (a:Int):vc Tryd.prog Γ 6 [0,2] (Tryd.f74.body.getD .skip) (postK Γ [.tmp 2] (fun v=>v = .b false)) ⟨argSlots 0 [.i .i64 a],[]⟩:=by
 show _ = _
 rw [bne_self_eq_false]
 rfl
theorem s_nanJ64 (a:Int):PSpec Tryd.prog 74 [.i .i64 a] (.b false) :=
 pspec_of_vc Γ_good Tryd.func74 rfl Tryd.call74 Tryd.results74 Tryd.ntmps74 (Nat.le_of_ble_eq_true rfl) (w_nanJ64 a)
theorem w_cmpJ64 (a b:Int):vc Tryd.prog Γ 20 [0,1,4,5,6,11,12,13,16,19] (Tryd.f51.body.getD .skip) (postK Γ [.tmp 4] (fun v=>v = .i .i64 (cmpI a b))) ⟨argSlots 0 [.i .i64 a,.i .i64 b],[]⟩:=by
 refine Or.inl (eX _ (aN (s_nanJ64 a) ?_))
 refine Or.inl (eX _ (aN (s_nanJ64 b) ?_))
 refine aN (fun h=>Bool.noConfusion h) (fun _=>?_)
 refine aN (fun h=>Bool.noConfusion h) (fun _=>?_)
 refine aN (fun h=>?_) (fun h=>?_)
 ·have h:a < b:=of_decide_eq_true h
  show AV.i .i64 (-1) = AV.i .i64 (cmpI a b)
  rw [cmpI,if_neg (by omega),if_pos h]
 ·have h:¬ a < b:=of_decide_eq_false h
  refine aN (fun h2=>?_) (fun h2=>?_)
  ·have h2:b < a:=of_decide_eq_true h2
   show AV.i .i64 1 = AV.i .i64 (cmpI a b)
   rw [cmpI,if_neg (by omega),if_neg h]
  ·have h2:¬ b < a:=of_decide_eq_false h2
   show AV.i .i64 0 = AV.i .i64 (cmpI a b)
   rw [cmpI,if_pos (by omega)]
theorem s_cmpJ64 (a b:Int):PSpec Tryd.prog 51 [.i .i64 a,.i .i64 b] (.i .i64 (cmpI a b)) :=
 pspec_of_vc Γ_good Tryd.func51 rfl Tryd.call51 Tryd.results51 Tryd.ntmps51 (Nat.le_of_ble_eq_true rfl) (w_cmpJ64 a b)
theorem w_nanU64 (a:Int):vc Tryd.prog Γ 6 [0,2] (Tryd.f75.body.getD .skip) (postK Γ [.tmp 2] (fun v=>v = .b false)) ⟨argSlots 0 [.i .u64 a],[]⟩:=by
 show _ = _
 rw [bne_self_eq_false]
 rfl
theorem s_nanU64 (a:Int):PSpec Tryd.prog 75 [.i .u64 a] (.b false) :=
 pspec_of_vc Γ_good Tryd.func75 rfl Tryd.call75 Tryd.results75 Tryd.ntmps75 (Nat.le_of_ble_eq_true rfl) (w_nanU64 a)
theorem w_cmpU64 (a b:Int):vc Tryd.prog Γ 20 [0,1,4,5,6,11,12,13,16,19] (Tryd.f52.body.getD .skip) (postK Γ [.tmp 4] (fun v=>v = .i .i64 (cmpI a b))) ⟨argSlots 0 [.i .u64 a,.i .u64 b],[]⟩:=by
 refine Or.inl (eX _ (aN (s_nanU64 a) ?_))
 refine Or.inl (eX _ (aN (s_nanU64 b) ?_))
 refine aN (fun h=>Bool.noConfusion h) (fun _=>?_)
 refine aN (fun h=>Bool.noConfusion h) (fun _=>?_)
 refine aN (fun h=>?_) (fun h=>?_)
 ·have h:a < b:=of_decide_eq_true h
  show AV.i .i64 (-1) = AV.i .i64 (cmpI a b)
  rw [cmpI,if_neg (by omega),if_pos h]
 ·have h:¬ a < b:=of_decide_eq_false h
  refine aN (fun h2=>?_) (fun h2=>?_)
  ·have h2:b < a:=of_decide_eq_true h2
   show AV.i .i64 1 = AV.i .i64 (cmpI a b)
   rw [cmpI,if_neg (by omega),if_neg h]
  ·have h2:¬ b < a:=of_decide_eq_false h2
   show AV.i .i64 0 = AV.i .i64 (cmpI a b)
   rw [cmpI,if_pos (by omega)]
theorem s_cmpU64 (a b:Int):PSpec Tryd.prog 52 [.i .u64 a,.i .u64 b] (.i .i64 (cmpI a b)) :=
 pspec_of_vc Γ_good Tryd.func52 rfl Tryd.call52 Tryd.results52 Tryd.ntmps52 (Nat.le_of_ble_eq_true rfl) (w_cmpU64 a b)
theorem w_nanS (a:Str):vc Tryd.prog Γ 6 [0,2] (Tryd.f76.body.getD .skip) (postK Γ [.tmp 2] (fun v=>v = .b false)) ⟨argSlots 0 [.s a],[]⟩:=by
 show _ = _
 rw [beq_S]
 rfl
theorem s_nanS (a:Str):PSpec Tryd.prog 76 [.s a] (.b false) :=
 pspec_of_vc Γ_good Tryd.func76 rfl Tryd.call76 Tryd.results76 Tryd.ntmps76 (Nat.le_of_ble_eq_true rfl) (w_nanS a)
theorem w_cmpStr (a b:Str):vc Tryd.prog Γ 20 [0,1,4,5,6,11,12,13,16,19] (Tryd.f54.body.getD .skip) (postK Γ [.tmp 4] (fun v=>v = .i .i64 (cmpS a b))) ⟨argSlots 0 [.s a,.s b],[]⟩:=by
 refine Or.inl (eX _ (aN (s_nanS a) ?_))
 refine Or.inl (eX _ (aN (s_nanS b) ?_))
 refine aN (fun h=>Bool.noConfusion h) (fun _=>?_)
 refine aN (fun h=>Bool.noConfusion h) (fun _=>?_)
 refine aN (fun h=>?_) (fun h=>?_)
 ·have h:Op.bytesLess a b = true:=h
  show AV.i .i64 (-1) = AV.i .i64 (cmpS a b)
  rw [cmpS,if_neg (less_ne h),if_pos h]
 ·have h:Op.bytesLess a b = false:=h
  refine aN (fun h2=>?_) (fun h2=>?_)
  ·have h2:(!(Op.bytesLess a b || a == b)) = true:=h2
   rw [h,Bool.false_or] at h2
   have h3:a≠b:=by simpa using h2
   show AV.i .i64 1 = AV.i .i64 (cmpS a b)
   rw [cmpS,if_neg h3,if_neg (by rw [h]; decide)]
  ·have h2:(!(Op.bytesLess a b || a == b)) = false:=h2
   rw [h,Bool.false_or] at h2
   have h3:a = b:=by simpa using h2
   show AV.i .i64 0 = AV.i .i64 (cmpS a b)
   rw [cmpS,if_pos h3]
theorem s_cmpStr (a b:Str):PSpec Tryd.prog 54 [.s a,.s b] (.i .i64 (cmpS a b)) :=
 pspec_of_vc Γ_good Tryd.func54 rfl Tryd.call54 Tryd.results54 Tryd.ntmps54 (Nat.le_of_ble_eq_true rfl) (w_cmpStr a b)
theorem w_or (l:List Int):vc Tryd.prog Γ 18 [0,2,3,5,6,7,8,9,14] (Tryd.f49.body.getD .skip) (postK Γ [.tmp 2] (fun v=>v = .i .i64 (firstN l))) ⟨argSlots 0 [.rd .int l],[]⟩:=by
 intro _
 refine eX [] (eX [] (eX [] (eX Nat (eX (fun k=>k≤l.length∧firstN l = firstN (l.drop k)) (eX (fun k=>⟨[(3,.i .i64 0),(6,.rd .int l),(7,.i .i64 l.length),(8,.i .i64 k)],[]⟩) (eX (fun k=>l.length - k) (eX 0 (aN ⟨Nat.zero_le _,rfl⟩ (aN ?_ ?_)))))))))
 ·exact wK
 ·rintro k ⟨hk,he⟩
  refine aN (fun hc=>?_) (fun hc=>?_)
  · have hc : k < l.length := by have : (k : Int) < (l.length : Int) := of_decide_eq_true hc
                                 omega
    have hg:l.getD (Int.toNat (k:Int)) (dflt .int) = l[k]:=by rw [Int.toNat_natCast,List.getD_eq_getElem?_getD,List.getElem?_eq_getElem hc]; rfl
    refine bN2 ?_
    rw [firstN_drop hc] at he
    refine aN (fun hq=>?_) (fun hq=>?_)
    ·have hq:l[k]≠0:=by rw [hg] at hq; simpa using hq
     rw [orI_ne hq] at he
     show AV.i .i64 (l.getD (Int.toNat (k:Int)) (dflt .int)) = AV.i .i64 (firstN l)
     rw [hg,he]
    ·have hq:l[k] = 0:=by rw [hg] at hq; simpa using hq
     rw [hq,orI_zero] at he
     refine aN (rng64 (by omega) (by have:=len_le (by assumption:l.length≤maxLen); omega)) ?_
     refine eX [] (eX (k + 1) (aN ⟨hc,he⟩ (aN ?_ ?_)))
     ·exact wK
     ·show l.length - (k + 1) < l.length - k
      omega
  · have hc : k = l.length := by have : ¬ (k : Int) < (l.length : Int) := of_decide_eq_false hc
                                 omega
    subst hc
    rw [List.drop_length,firstN] at he
    exact congrArg (AV.i .i64) he.symm
theorem s_or (l:List Int):PSpec Tryd.prog 49 [.rd .int l] (.i .i64 (firstN l)) :=
 pspec_of_vc Γ_good Tryd.func49 rfl Tryd.call49 Tryd.results49 Tryd.ntmps49 (Nat.le_of_ble_eq_true rfl) (w_or l)
theorem w_rk (f:Int) (h0:0≤f) (h1:f≤18446744073709551615):vc Tryd.prog Γ 10 [0,2,5] (Tryd.f53.body.getD .skip) (postK Γ [.tmp 2] (fun v=>v = .i .u64 (rank f))) ⟨argSlots 0 [.i .u64 f],[]⟩:=by
 refine aN (by decide) ?_
 refine aN (fun h=>?_) (fun h=>?_)
 ·have h:¬ f < 9223372036854775808:=of_decide_eq_true ((shr63 h0 h1).symm.trans h)
  refine congrArg (AV.i .u64) ?_
  rw [xor63 h0 h1,rank,if_neg h]
 ·have h : f < 9223372036854775808 := by
   have:=of_decide_eq_false ((shr63 h0 h1).symm.trans h)
   omega
  refine congrArg (AV.i .u64) ?_
  rw [or63 h0 h,rank,if_pos h]
theorem s_rk (f:Int) (h0:0≤f) (h1:f≤18446744073709551615):PSpec Tryd.prog 53 [.i .u64 f] (.i .u64 (rank f)) :=
 pspec_of_vc Γ_good Tryd.func53 rfl Tryd.call53 Tryd.results53 Tryd.ntmps53 (Nat.le_of_ble_eq_true rfl) (w_rk f h0 h1)
theorem w_cfV (l m:List Val) (hc:∀ x ∈ l,∀ y ∈ m,PSpec Tryd.prog 27 [.agg (encVal x),.agg (encVal y)] (.i .i64 (cmpV x y))):vc Tryd.prog Γ 39 [0,1,2,6,7,8,9,10,11,12,13,14,21,31,38] (Tryd.f55.body.getD .skip) (postK Γ [.tmp 6] (fun v=>v = .i .i64 (cmpL l m))) ⟨argSlots 0 [.rd .val l,.rd .val m,.fn 27 []],[]⟩:=by
 intro hl
 refine eX [] (eX [] (eX [] (eX Nat (eX (fun k=>k≤l.length∧k≤m.length∧cmpL l m = cmpL (l.drop k) (m.drop k)) (eX (fun k=>⟨[(0,.rd .val l),(1,.rd .val m),(2,.fn 27 []),(11,.rd .val l),(12,.i .i64 l.length),(13,.i .i64 k)],[]⟩) (eX (fun k=>l.length - k) (eX 0 (aN ⟨Nat.zero_le _,Nat.zero_le _,rfl⟩ (aN ?_ ?_)))))))))
 ·exact wK
 ·rintro k ⟨hk,hkm,he⟩
  refine aN (fun hd=>?_) (fun hd=>?_)
  · have hd : k < l.length := by have : (k : Int) < (l.length : Int) := of_decide_eq_true hd
                                 omega
    have hg:l.getD (Int.toNat (k:Int)) (dflt .val) = l[k]:=by rw [Int.toNat_natCast,List.getD_eq_getElem?_getD,List.getElem?_eq_getElem hd]; rfl
    refine bN2 ?_
    intro hm
    refine aN (fun hq=>?_) (fun hq=>?_)
    · have hq : m.length ≤ k := by have : (m.length : Int) ≤ (k : Int) := of_decide_eq_true hq
                                   omega
      rw [cmpL_short hd hq] at he
      exact congrArg (AV.i .i64) he.symm
    · have hq : k < m.length := by have : ¬ (m.length : Int) ≤ (k : Int) := of_decide_eq_false hq
                                   omega
      have hgm:m.getD (Int.toNat (k:Int)) (dflt .val) = m[k]:=by rw [Int.toNat_natCast,List.getD_eq_getElem?_getD,List.getElem?_eq_getElem hq]; rfl
      refine bN2 ?_
      have hs:=hc l[k] (List.getElem_mem hd) m[k] (List.getElem_mem hq)
      rw [← hg,← hgm] at hs
      refine Or.inl (eX _ (aN (hs) ?_))
      rw [hg,hgm]
      rw [cmpL_drop hd hq] at he
      refine aN (fun hz=>?_) (fun hz=>?_)
      ·have hz:cmpV l[k] m[k]≠0:=by simpa using hz
       rw [orI_ne hz] at he
       exact congrArg (AV.i .i64) he.symm
      ·have hz:cmpV l[k] m[k] = 0:=by simpa using hz
       rw [hz,orI_zero] at he
       have:=len_le hl
       (refine rNG ?_)
       refine eX [] (eX (k + 1) (aN ⟨hd,hq,he⟩ (aN ?_ ?_)))
       ·exact wK
       ·show l.length - (k + 1) < l.length - k
        omega
  · have hd : k = l.length := by have : ¬ (k : Int) < (l.length : Int) := of_decide_eq_false hd
                                 omega
    subst hd
    intro _
    intro hm
    refine aN (fun hq=>?_) (fun hq=>?_)
    · have hq : l.length < m.length := by have : (l.length : Int) < (m.length : Int) := of_decide_eq_true hq
                                          omega
      rw [cmpL_long (Nat.le_refl _) hq] at he
      exact congrArg (AV.i .i64) he.symm
    · have hq : m.length ≤ l.length := by have : ¬ (l.length : Int) < (m.length : Int) := of_decide_eq_false hq
                                          omega
      rw [cmpL_end (Nat.le_refl _) hq] at he
      exact congrArg (AV.i .i64) he.symm
theorem s_cfV (l m:List Val) (hc:∀ x ∈ l,∀ y ∈ m,PSpec Tryd.prog 27 [.agg (encVal x),.agg (encVal y)] (.i .i64 (cmpV x y))):PSpec Tryd.prog 55 [.rd .val l,.rd .val m,.fn 27 []] (.i .i64 (cmpL l m)) :=
 pspec_of_vc Γ_good Tryd.func55 rfl Tryd.call55 Tryd.results55 Tryd.ntmps55 (Nat.le_of_ble_eq_true rfl) (w_cfV l m hc)
theorem w_cfE (l m:List (Str × Val)) (hc:∀ x ∈ l,∀ y ∈ m,PSpec Tryd.prog 57 [.agg (enc .ent x),.agg (enc .ent y)] (.i .i64 (cmpP x y))):vc Tryd.prog Γ 39 [0,1,2,6,7,8,9,10,11,12,13,14,21,31,38] (Tryd.f56.body.getD .skip) (postK Γ [.tmp 6] (fun v=>v = .i .i64 (cmpE l m))) ⟨argSlots 0 [.rd .ent l,.rd .ent m,.fn 57 []],[]⟩:=by
 intro hl
 refine eX [] (eX [] (eX [] (eX Nat (eX (fun k=>k≤l.length∧k≤m.length∧cmpE l m = cmpE (l.drop k) (m.drop k)) (eX (fun k=>⟨[(0,.rd .ent l),(1,.rd .ent m),(2,.fn 57 []),(11,.rd .ent l),(12,.i .i64 l.length),(13,.i .i64 k)],[]⟩) (eX (fun k=>l.length - k) (eX 0 (aN ⟨Nat.zero_le _,Nat.zero_le _,rfl⟩ (aN ?_ ?_)))))))))
 ·exact wK
 ·rintro k ⟨hk,hkm,he⟩
  refine aN (fun hd=>?_) (fun hd=>?_)
  · have hd : k < l.length := by have : (k : Int) < (l.length : Int) := of_decide_eq_true hd
                                 omega
    have hg:l.getD (Int.toNat (k:Int)) (dflt .ent) = l[k]:=by rw [Int.toNat_natCast,List.getD_eq_getElem?_getD,List.getElem?_eq_getElem hd]; rfl
    refine bN2 ?_
    intro hm
    refine aN (fun hq=>?_) (fun hq=>?_)
    · have hq : m.length ≤ k := by have : (m.length : Int) ≤ (k : Int) := of_decide_eq_true hq
                                   omega
      rw [cmpE_short hd hq] at he
      exact congrArg (AV.i .i64) he.symm
    · have hq : k < m.length := by have : ¬ (m.length : Int) ≤ (k : Int) := of_decide_eq_false hq
                                   omega
      have hgm:m.getD (Int.toNat (k:Int)) (dflt .ent) = m[k]:=by rw [Int.toNat_natCast,List.getD_eq_getElem?_getD,List.getElem?_eq_getElem hq]; rfl
      refine bN2 ?_
      have hs:=hc l[k] (List.getElem_mem hd) m[k] (List.getElem_mem hq)
      rw [← hg,← hgm] at hs
      refine Or.inl (eX _ (aN (hs) ?_))
      rw [hg,hgm]
      rw [cmpE_drop hd hq] at he
      refine aN (fun hz=>?_) (fun hz=>?_)
      ·have hz:cmpP l[k] m[k]≠0:=by simpa using hz
       rw [orI_ne hz] at he
       exact congrArg (AV.i .i64) he.symm
      ·have hz:cmpP l[k] m[k] = 0:=by simpa using hz
       rw [hz,orI_zero] at he
       have:=len_le hl
       (refine rNG ?_)
       refine eX [] (eX (k + 1) (aN ⟨hd,hq,he⟩ (aN ?_ ?_)))
       ·exact wK
       ·show l.length - (k + 1) < l.length - k
        omega
  · have hd : k = l.length := by have : ¬ (k : Int) < (l.length : Int) := of_decide_eq_false hd
                                 omega
    subst hd
    intro _
    intro hm
    refine aN (fun hq=>?_) (fun hq=>?_)
    · have hq : l.length < m.length := by have : (l.length : Int) < (m.length : Int) := of_decide_eq_true hq
                                          omega
      rw [cmpE_long (Nat.le_refl _) hq] at he
      exact congrArg (AV.i .i64) he.symm
    · have hq : m.length ≤ l.length := by have : ¬ (l.length : Int) < (m.length : Int) := of_decide_eq_false hq
                                          omega
      rw [cmpE_end (Nat.le_refl _) hq] at he
      exact congrArg (AV.i .i64) he.symm
theorem s_cfE (l m:List (Str × Val)) (hc:∀ x ∈ l,∀ y ∈ m,PSpec Tryd.prog 57 [.agg (enc .ent x),.agg (enc .ent y)] (.i .i64 (cmpP x y))):PSpec Tryd.prog 56 [.rd .ent l,.rd .ent m,.fn 57 []] (.i .i64 (cmpE l m)) :=
 pspec_of_vc Γ_good Tryd.func56 rfl Tryd.call56 Tryd.results56 Tryd.ntmps56 (Nat.le_of_ble_eq_true rfl) (w_cfE l m hc)
theorem w_cmp1 (p q:Str × Val) (hc:PSpec Tryd.prog 27 [.agg (encVal p.2),.agg (encVal q.2)] (.i .i64 (cmpV p.2 q.2))):vc Tryd.prog Γ 17 [2,3,4] (Tryd.f57.body.getD .skip) (postK Γ [.tmp 4] (fun v=>v = .i .i64 (cmpP p q))) ⟨argSlots 0 [.agg (enc .ent p),.agg (enc .ent q)],[]⟩:=by
 refine eX [.blk [0,1,2,3,4,5,6,7,8,9,10,11,12] [15]] (aN (by kernel_rfl) ?_)
 refine eX _ (aN (s_cmpStr p.1 q.1) ?_)
 refine eX _ (aN (hc) ?_)
 refine eX _ (aN (s_or [cmpS p.1 q.1,cmpV p.2 q.2]) ?_)
 refine congrArg (AV.i .i64) ?_
 rw [cmpP_eq]
 simp only [firstN,orI_right]
theorem s_cmp1 (p q:Str × Val) (hc:PSpec Tryd.prog 27 [.agg (encVal p.2),.agg (encVal q.2)] (.i .i64 (cmpV p.2 q.2))):PSpec Tryd.prog 57 [.agg (enc .ent p),.agg (enc .ent q)] (.i .i64 (cmpP p q)) :=
 pspec_of_vc Γ_good Tryd.func57 rfl Tryd.call57 Tryd.results57 Tryd.ntmps57 (Nat.le_of_ble_eq_true rfl) (w_cmp1 p q hc)
theorem w_cmpr (a b:Val) (h0:0≤a.f∧a.f≤18446744073709551615) (h1:0≤b.f∧b.f≤18446744073709551615) (hc:∀ x ∈ a.l,∀ y ∈ b.l,PSpec Tryd.prog 27 [.agg (encVal x),.agg (encVal y)] (.i .i64 (cmpV x y))) (he:∀ x ∈ a.e,∀ y ∈ b.e,PSpec Tryd.prog 57 [.agg (enc .ent x),.agg (enc .ent y)] (.i .i64 (cmpP x y))):vc Tryd.prog Γ 39 [2,3,4] (Tryd.f27.body.getD .skip) (postK Γ [.tmp 4] (fun v=>v = .i .i64 (cmpV a b))) ⟨argSlots 0 [.agg (encVal a),.agg (encVal b)],[]⟩:=by
 refine eX [.blk [0,1,2,3,4,5,6,7,8,9,10,11,12,13,14,15,16,17,18,19,20,21,22,23,24,25,26,27,28,29,30,31,32,33,34] [37]] (aN (by kernel_rfl) ?_)
 refine eX _ (aN (s_cmpI64 a.kind b.kind) ?_)
 refine eX _ (aN (s_cmpJ64 a.n b.n) ?_)
 refine eX _ (aN (s_rk a.f h0.1 h0.2) ?_)
 refine eX _ (aN (s_rk b.f h1.1 h1.2) ?_)
 refine eX _ (aN (s_cmpU64 (rank a.f) (rank b.f)) ?_)
 refine eX _ (aN (s_cmpStr a.s b.s) ?_)
 refine eX _ (aN (s_cfV a.l b.l hc) ?_)
 refine eX _ (aN (s_cfE a.e b.e he) ?_)
 refine eX _ (aN (s_or [cmpI a.kind b.kind,cmpI a.n b.n,cmpI (rank a.f) (rank b.f),cmpS a.s b.s,cmpL a.l b.l,cmpE a.e b.e]) ?_)
 refine congrArg (AV.i .i64) ?_
 rw [cmpV_eq]
 simp only [firstN,orI_right]
theorem s_cmpr (a b:Val) (h0:0≤a.f∧a.f≤18446744073709551615) (h1:0≤b.f∧b.f≤18446744073709551615) (hc:∀ x ∈ a.l,∀ y ∈ b.l,PSpec Tryd.prog 27 [.agg (encVal x),.agg (encVal y)] (.i .i64 (cmpV x y))) (he:∀ x ∈ a.e,∀ y ∈ b.e,PSpec Tryd.prog 57 [.agg (enc .ent x),.agg (enc .ent y)] (.i .i64 (cmpP x y))):PSpec Tryd.prog 27 [.agg (encVal a),.agg (encVal b)] (.i .i64 (cmpV a b)) :=
 pspec_of_vc Γ_good Tryd.func27 rfl Tryd.call27 Tryd.results27 Tryd.ntmps27 (Nat.le_of_ble_eq_true rfl) (w_cmpr a b h0 h1 hc he)
end
end Go.Proofs.YtfeniggadfkakaaDoor
end
section
namespace Go.Proofs.YtfeniggadfkakaaDoor
open Go Go.SX Go.Vl
set_option maxRecDepth 100000
set_option maxHeartbeats 0
def sg (t:Bool):Int:=if t = true then -1 else 1
theorem cmpI_ne {a b:Int} (h:a≠b):cmpI a b = sg (decide (a < b)):=by
 unfold cmpI sg
 rw [if_neg h]
 simp
theorem cmpS_ne {a b:Str} (h:a≠b):cmpS a b = sg (Op.bytesLess a b):=by
 unfold cmpS sg
 rw [if_neg h]
theorem bool_ne {a b:Bool} (h:(!(a == b)) = true):a≠b:=by simpa using h
theorem bool_eq {a b:Bool} (h:(!(a == b)) = false):a = b:=by simpa using h
theorem len_ne {m n:Nat} (h:(((m:Nat):Int) != ((n:Nat):Int)) = true):m≠n:=fun e=>by subst e; simp at h
theorem len_eq {m n:Nat} (h:(((m:Nat):Int) != ((n:Nat):Int)) = false):m = n:=by
 have:(m:Int) = (n:Int):=by simpa using h
 omega
theorem sg_nz (t:Bool):sg t≠0:=by cases t<;>decide
theorem shr63z {f:Int} (h0:0≤f) (h1:f≤18446744073709551615):(f.fdiv (2 ^ min (Int.toNat 63) IntKind.u64.bits) == 0) = decide (f < 9223372036854775808):=by
 rw [show (2:Int) ^ min (Int.toNat 63) IntKind.u64.bits = 9223372036854775808 from rfl,Int.fdiv_eq_ediv_of_nonneg _ (by decide)]
 rw [Bool.eq_iff_iff,beq_iff_eq,decide_eq_true_eq]
 omega
theorem rank_low {a b:Int} (ha:0≤a∧a≤18446744073709551615) (hb:0≤b∧b≤18446744073709551615) (h:decide (a < 9223372036854775808)≠decide (b < 9223372036854775808)):cmpI (rank a) (rank b) = sg (decide (b < 9223372036854775808)):=by
 by_cases h1:a < 9223372036854775808<;>by_cases h2:b < 9223372036854775808
 ·simp [h1,h2] at h
 ·rw [decide_eq_false h2,rank,rank,if_pos h1,if_neg h2,cmpI_ne (by omega),decide_eq_false (by omega)]
 ·rw [decide_eq_true h2,rank,rank,if_neg h1,if_pos h2,cmpI_ne (by omega),decide_eq_true (by omega)]
 ·simp [h1,h2] at h
theorem rank_high {a b:Int} (ha:0≤a∧a≤18446744073709551615) (hb:0≤b∧b≤18446744073709551615) (hne:a≠b) (h:decide (a < 9223372036854775808) = decide (b < 9223372036854775808)):cmpI (rank a) (rank b) = sg (decide (a < b) == decide (a < 9223372036854775808)):=by
 by_cases h1:a < 9223372036854775808<;>by_cases h2:b < 9223372036854775808
 ·rw [rank,rank,if_pos h1,if_pos h2,cmpI_ne (by omega),decide_eq_true h1]
  congr 1
  by_cases h3:a < b
  ·rw [decide_eq_true h3,decide_eq_true (by omega)]; rfl
  ·rw [decide_eq_false h3,decide_eq_false (by omega)]; rfl
 ·simp [h1,h2] at h
 ·simp [h1,h2] at h
 ·rw [rank,rank,if_neg h1,if_neg h2,cmpI_ne (by omega),decide_eq_false h1]
  congr 1
  by_cases h3:a < b
  ·rw [decide_eq_true h3,decide_eq_false (by omega)]; rfl
  ·rw [decide_eq_false h3,decide_eq_true (by omega)]; rfl
section
variable [G:Globs]
theorem w_sgn (t:Bool):vc Tryd.prog Γ 4 [0,2,3] (Tryd.f35.body.getD .skip) (postK Γ [.tmp 2] (fun v=>v = .i .i64 (sg t))) ⟨argSlots 0 [.b t],[]⟩:=by
 refine aN (fun h=>?_) (fun h=>?_)
 ·have h:t = true:=h
  subst h
  rfl
 ·have h:t = false:=h
  subst h
  rfl
theorem s_sgn (t:Bool):PSpec Tryd.prog 35 [.b t] (.i .i64 (sg t)) :=
 pspec_of_vc Γ_good Tryd.func35 rfl Tryd.call35 Tryd.results35 Tryd.ntmps35 (Nat.le_of_ble_eq_true rfl) (w_sgn t)
theorem w_besd (a b:Val) (h0:0≤a.f∧a.f≤18446744073709551615) (h1:0≤b.f∧b.f≤18446744073709551615) (hc:∀ x ∈ a.l,∀ y ∈ b.l,PSpec Tryd.prog 19 [.agg (encVal x),.agg (encVal y)] (.i .i64 (cmpV x y))) (hp:∀ x ∈ a.e,∀ y ∈ b.e,PSpec Tryd.prog 19 [.agg (encVal x.2),.agg (encVal y.2)] (.i .i64 (cmpV x.2 y.2))):VCs Tryd.prog Γ 185 [2,3,4,5,6,7,8,9,10,15,26,37,48,63,81,96,104,124,139,168,176] (Tryd.f19.body.getD .skip) (postK Γ [.tmp 4] (fun v=>v = .i .i64 (cmpV a b))) ⟨argSlots 0 [.agg (encVal a),.agg (encVal b)],[]⟩:=by
 refine VCs.seq (by first | exact Γ_good | exact Ctx.good_kp Γ_good _) ?_
 refine VCs.seq (by first | exact Γ_good | exact Ctx.good_kp Γ_good _) ?_
 refine aN (fun hk=>?_) (fun hk=>?_)
 ·have hk:a.kind≠b.kind:=by simpa using hk
  refine Or.inl (eX _ (aN (s_sgn (decide (a.kind < b.kind))) ?_))
  refine congrArg (AV.i .i64) ?_
  rw [cmpV_eq,cmpI_ne hk,orI_ne (sg_nz _)]
 have hk:a.kind = b.kind:=by simpa using hk
 refine VCs.seq (by first | exact Γ_good | exact Ctx.good_kp Γ_good _) ?_
 refine aN (fun hn=>?_) (fun hn=>?_)
 ·have hn:a.n≠b.n:=by simpa using hn
  refine Or.inl (eX _ (aN (s_sgn (decide (a.n < b.n))) ?_))
  refine congrArg (AV.i .i64) ?_
  rw [cmpV_eq,hk,cmpI_self,orI_zero,cmpI_ne hn,orI_ne (sg_nz _)]
 have hn:a.n = b.n:=by simpa using hn
 refine VCs.seq (by first | exact Γ_good | exact Ctx.good_kp Γ_good _) ?_
 refine aN (fun hf=>?_) (fun hf=>?_)
 ·have hf:a.f≠b.f:=by simpa using hf
  refine eX [.blk [0,1,2,3,4,5,6,7,8,9]] (aN (by kernel_rfl) ?_)
  refine aN (by decide) ?_
  refine aN (by decide) ?_
  refine aN (fun hd=>?_) (fun hd=>?_)
  ·have hd:=bool_ne hd
   rw [shr63z h0.1 h0.2,shr63z h1.1 h1.2] at hd
   refine Or.inl (eX _ (aN (s_sgn (b.f.fdiv (2 ^ min (Int.toNat 63) IntKind.u64.bits) == 0)) ?_))
   refine congrArg (AV.i .i64) ?_
   rw [shr63z h1.1 h1.2,cmpV_eq,hk,cmpI_self,orI_zero,hn,cmpI_self,orI_zero,rank_low h0 h1 hd,orI_ne (sg_nz _)]
  ·have hd:=bool_eq hd
   rw [shr63z h0.1 h0.2,shr63z h1.1 h1.2] at hd
   refine Or.inl (eX _ (aN (s_sgn (decide (a.f < b.f) == (a.f.fdiv (2 ^ min (Int.toNat 63) IntKind.u64.bits) == 0))) ?_))
   refine congrArg (AV.i .i64) ?_
   rw [shr63z h0.1 h0.2,cmpV_eq,hk,cmpI_self,orI_zero,hn,cmpI_self,orI_zero,rank_high h0 h1 hf hd,orI_ne (sg_nz _)]
 have hf:a.f = b.f:=by simpa using hf
 refine VCs.seq (by first | exact Γ_good | exact Ctx.good_kp Γ_good _) ?_
 refine aN (fun hs=>?_) (fun hs=>?_)
 ·have hs:a.s≠b.s:=by simpa using hs
  refine Or.inl (eX _ (aN (s_sgn (Op.bytesLess a.s b.s)) ?_))
  refine congrArg (AV.i .i64) ?_
  rw [cmpV_eq,hk,cmpI_self,orI_zero,hn,cmpI_self,orI_zero,hf,cmpI_self,orI_zero,cmpS_ne hs,orI_ne (sg_nz _)]
 have hs:a.s = b.s:=by simpa using hs
 have hr:cmpV a b = orI (cmpL a.l b.l) (cmpE a.e b.e):=by rw [cmpV_eq,hk,cmpI_self,orI_zero,hn,cmpI_self,orI_zero,hf,cmpI_self,orI_zero,hs,cmpS_self,orI_zero]
 refine VCs.cut (by first | exact Γ_good | exact Ctx.good_kp Γ_good _) Unit (fun _=>∃ k,cmpL a.l b.l = cmpL (a.l.drop k) (b.l.drop k)∧((k = a.l.length∧k≤b.l.length)∨(k = b.l.length∧k≤a.l.length))) (fun _=>⟨[(2,.pt 2 0),(3,.pt 3 0)],[(2,encVal a),(3,encVal b)]⟩) ?_ ?_
 ·refine eX [] (eX [] (eX [] (eX Nat (eX (fun k=>k≤a.l.length∧k≤b.l.length∧cmpL a.l b.l = cmpL (a.l.drop k) (b.l.drop k)) (eX (fun k=>⟨[(2,.pt 2 0),(3,.pt 3 0),(7,.i .i64 k)],[(2,encVal a),(3,encVal b)]⟩) (eX (fun k=>a.l.length - k) (eX 0 (aN ⟨Nat.zero_le _,Nat.zero_le _,rfl⟩ (aN ?_ ?_)))))))))
  ·exact wK
  ·rintro k ⟨hka,hkb,he⟩
   intro hla
   refine aN (fun hc1=>?_) (fun hc1=>?_)
   · have hc1 : k < a.l.length := by have : (k : Int) < (a.l.length : Int) := of_decide_eq_true hc1
                                     omega
     intro _
     refine aN (fun hc2=>?_) (fun hc2=>?_)
     · have hc2 : k < b.l.length := by have : (k : Int) < (b.l.length : Int) := of_decide_eq_true hc2
                                       omega
       have hg:a.l.getD (Int.toNat (k:Int)) (dflt .val) = a.l[k]:=by rw [Int.toNat_natCast,List.getD_eq_getElem?_getD,List.getElem?_eq_getElem hc1]; rfl
       have hgb:b.l.getD (Int.toNat (k:Int)) (dflt .val) = b.l[k]:=by rw [Int.toNat_natCast,List.getD_eq_getElem?_getD,List.getElem?_eq_getElem hc2]; rfl
       have hcall:=hc a.l[k] (List.getElem_mem hc1) b.l[k] (List.getElem_mem hc2)
       rw [← hg,← hgb] at hcall
       refine eX [.blk [0,1,2,3,4,5,6,7,8,9,10,11]] (aN (by kernel_rfl) ?_)
       refine bN2 ?_
       refine bN2 ?_
       refine eX _ (aN (hcall) ?_)
       rw [hg,hgb]
       rw [cmpL_drop hc1 hc2] at he
       refine aN (fun hz=>?_) (fun hz=>?_)
       ·have hz:cmpV a.l[k] b.l[k]≠0:=by simpa using hz
        rw [orI_ne hz] at he
        refine congrArg (AV.i .i64) ?_
        rw [hr,he,orI_ne hz]
       ·have hz:cmpV a.l[k] b.l[k] = 0:=by simpa using hz
        rw [hz,orI_zero] at he
        have:=len_le hla
        (refine rNG ?_)
        refine eX [] (eX (k + 1) (aN ⟨hc1,hc2,he⟩ (aN ?_ ?_)))
        ·exact wK
        ·show a.l.length - (k + 1) < a.l.length - k
         omega
     · have hc2 : k = b.l.length := by have : ¬ (k : Int) < (b.l.length : Int) := of_decide_eq_false hc2
                                       omega
       refine eX () (aN ⟨k,he,.inr ⟨hc2,hka⟩⟩ ?_)
       exact wK
   · have hc1 : k = a.l.length := by have : ¬ (k : Int) < (a.l.length : Int) := of_decide_eq_false hc1
                                     omega
     refine aN (fun h9=>Bool.noConfusion h9) (fun _=>?_)
     refine eX () (aN ⟨k,he,.inl ⟨hc1,hkb⟩⟩ ?_)
     exact wK
 rintro _ ⟨k,he,hk2⟩
 refine VCs.seq (by first | exact Γ_good | exact Ctx.good_kp Γ_good _) ?_
 intro hla
 intro hlb
 refine aN (fun hz=>?_) (fun hz=>?_)
 ·have hz:a.l.length≠b.l.length:=len_ne hz
  intro _
  intro _
  refine Or.inl (eX _ (aN (s_sgn (decide ((a.l.length:Int) < (b.l.length:Int)))) ?_))
  refine congrArg (AV.i .i64) ?_
  rcases hk2 with ⟨h2,h3⟩ | ⟨h2,h3⟩
  ·rw [cmpL_long (by omega) (by omega)] at he
   rw [hr,he,decide_eq_true (by omega)]
   rfl
  ·rw [cmpL_short (by omega) (by omega)] at he
   rw [hr,he,decide_eq_false (by omega)]
   rfl
 have hz:a.l.length = b.l.length:=len_eq hz
 have hr:cmpV a b = cmpE a.e b.e:=by rw [hr,he,cmpL_end (by omega) (by omega),orI_zero]
 clear he hk2 k
 refine VCs.cut (by first | exact Γ_good | exact Ctx.good_kp Γ_good _) Unit (fun _=>∃ k,cmpE a.e b.e = cmpE (a.e.drop k) (b.e.drop k)∧((k = a.e.length∧k≤b.e.length)∨(k = b.e.length∧k≤a.e.length))) (fun _=>⟨[(2,.pt 2 0),(3,.pt 3 0)],[(2,encVal a),(3,encVal b)]⟩) ?_ ?_
 ·refine eX [] (eX [] (eX [] (eX Nat (eX (fun k=>k≤a.e.length∧k≤b.e.length∧cmpE a.e b.e = cmpE (a.e.drop k) (b.e.drop k)) (eX (fun k=>⟨[(2,.pt 2 0),(3,.pt 3 0),(9,.i .i64 k)],[(2,encVal a),(3,encVal b)]⟩) (eX (fun k=>a.e.length - k) (eX 0 (aN ⟨Nat.zero_le _,Nat.zero_le _,rfl⟩ (aN ?_ ?_)))))))))
  ·exact wK
  ·rintro k ⟨hka,hkb,he⟩
   intro hla
   refine aN (fun hc1=>?_) (fun hc1=>?_)
   · have hc1 : k < a.e.length := by have : (k : Int) < (a.e.length : Int) := of_decide_eq_true hc1
                                     omega
     intro _
     refine aN (fun hc2=>?_) (fun hc2=>?_)
     · have hc2 : k < b.e.length := by have : (k : Int) < (b.e.length : Int) := of_decide_eq_true hc2
                                       omega
       have hg:a.e.getD (Int.toNat (k:Int)) (dflt .ent) = a.e[k]:=by rw [Int.toNat_natCast,List.getD_eq_getElem?_getD,List.getElem?_eq_getElem hc1]; rfl
       have hgb:b.e.getD (Int.toNat (k:Int)) (dflt .ent) = b.e[k]:=by rw [Int.toNat_natCast,List.getD_eq_getElem?_getD,List.getElem?_eq_getElem hc2]; rfl
       have hcall:=hp a.e[k] (List.getElem_mem hc1) b.e[k] (List.getElem_mem hc2)
       rw [← hg,← hgb] at hcall
       refine eX [.blk [0,1,2,3,4,5,6,7,8,9,10,11,12]] (aN (by kernel_rfl) ?_)
       refine bN2 ?_
       refine bN2 ?_
       rw [cmpE_drop hc1 hc2,cmpP_eq] at he
       refine aN (fun hq=>?_) (fun hq=>?_)
       ·have hq:a.e[k].1≠b.e[k].1:=by rw [hg,hgb] at hq; simpa using hq
        refine eX [.blk [0,1,2,3,4,5,6,7,8,9,10,11,12,13,14]] (aN (by kernel_rfl) ?_)
        refine bN2 ?_
        refine bN2 ?_
        refine eX _ (aN (s_sgn (Op.bytesLess (a.e.getD (Int.toNat (k:Int)) (dflt .ent)).1 (b.e.getD (Int.toNat (k:Int)) (dflt .ent)).1)) ?_)
        refine congrArg (AV.i .i64) ?_
        rw [hg,hgb,hr,he,cmpS_ne hq,orI_ne (sg_nz _),orI_ne (sg_nz _)]
       ·have hq:a.e[k].1 = b.e[k].1:=by rw [hg,hgb] at hq; simpa using hq
        rw [hq,cmpS_self,orI_zero] at he
        refine eX [.blk [0,1,2,3,4,5,6,7,8,9,10,11,12,13]] (aN (by kernel_rfl) ?_)
        refine bN2 ?_
        refine bN2 ?_
        refine eX _ (aN (hcall) ?_)
        rw [hg,hgb]
        refine aN (fun hz=>?_) (fun hz=>?_)
        ·have hz:cmpV a.e[k].2 b.e[k].2≠0:=by simpa using hz
         rw [orI_ne hz] at he
         refine congrArg (AV.i .i64) ?_
         rw [hr,he]
        ·have hz:cmpV a.e[k].2 b.e[k].2 = 0:=by simpa using hz
         rw [hz,orI_zero] at he
         have:=len_le hla
         (refine rNG ?_)
         refine eX [] (eX (k + 1) (aN ⟨hc1,hc2,he⟩ (aN ?_ ?_)))
         ·exact wK
         ·show a.e.length - (k + 1) < a.e.length - k
          omega
     · have hc2 : k = b.e.length := by have : ¬ (k : Int) < (b.e.length : Int) := of_decide_eq_false hc2
                                       omega
       refine eX () (aN ⟨k,he,.inr ⟨hc2,hka⟩⟩ ?_)
       exact wK
   · have hc1 : k = a.e.length := by have : ¬ (k : Int) < (a.e.length : Int) := of_decide_eq_false hc1
                                     omega
     refine aN (fun h9=>Bool.noConfusion h9) (fun _=>?_)
     refine eX () (aN ⟨k,he,.inl ⟨hc1,hkb⟩⟩ ?_)
     exact wK
 rintro _ ⟨k,he,hk2⟩
 refine VCs.of_vc (by first | exact Γ_good | exact Ctx.good_kp Γ_good _) ?_
 intro hla
 intro hlb
 refine aN (fun hz=>?_) (fun hz=>?_)
 ·have hz:a.e.length≠b.e.length:=len_ne hz
  intro _
  intro _
  refine Or.inl (eX _ (aN (s_sgn (decide ((a.e.length:Int) < (b.e.length:Int)))) ?_))
  refine congrArg (AV.i .i64) ?_
  rcases hk2 with ⟨h2,h3⟩ | ⟨h2,h3⟩
  ·rw [cmpE_long (by omega) (by omega)] at he
   rw [hr,he,decide_eq_true (by omega)]
   rfl
  ·rw [cmpE_short (by omega) (by omega)] at he
   rw [hr,he,decide_eq_false (by omega)]
   rfl
 ·have hz:a.e.length = b.e.length:=len_eq hz
  refine congrArg (AV.i .i64) ?_
  rw [hr,he,cmpE_end (by omega) (by omega)]
theorem s_besd (a b:Val) (h0:0≤a.f∧a.f≤18446744073709551615) (h1:0≤b.f∧b.f≤18446744073709551615) (hc:∀ x ∈ a.l,∀ y ∈ b.l,PSpec Tryd.prog 19 [.agg (encVal x),.agg (encVal y)] (.i .i64 (cmpV x y))) (hp:∀ x ∈ a.e,∀ y ∈ b.e,PSpec Tryd.prog 19 [.agg (encVal x.2),.agg (encVal y.2)] (.i .i64 (cmpV x.2 y.2))):PSpec Tryd.prog 19 [.agg (encVal a),.agg (encVal b)] (.i .i64 (cmpV a b)) :=
 pspec_of_VCs Γ_good Tryd.func19 rfl Tryd.call19 Tryd.results19 Tryd.ntmps19 (Nat.le_of_ble_eq_true rfl) (w_besd a b h0 h1 hc hp) Γ_good
theorem beside_spec:∀ (n:Nat) (a b:Val),SizeOf.sizeOf a < n→VB a→VB b→PSpec Tryd.prog 19 [.agg (encVal a),.agg (encVal b)] (.i .i64 (cmpV a b)):=by
 intro n
 induction n with
 | zero=>intro a b h; exact absurd h (Nat.not_lt_zero _)
 | succ n ih =>
  intro a b hs ha hb
  cases ha with
  | mk _ a1 a2 a3 a4 a5 =>
  cases hb with
  | mk _ b1 b2 b3 b4 b5 =>
   refine s_besd a b a3 b3 (fun x hx y hy=>ih x y ?_ (a4 x hx) (b4 y hy)) (fun x hx y hy=>ih x.2 y.2 ?_ (a5 x hx) (b5 y hy))
   ·have:=val_sz_l hx; omega
   ·have:=val_sz_e hx; omega
theorem s_Beside (a b:Val) (ha:VB a) (hb:VB b):PSpec Tryd.prog 19 [.agg (encVal a),.agg (encVal b)] (.i .i64 (cmpV a b)) :=
 beside_spec _ a b (Nat.lt_succ_self _) ha hb
end
end Go.Proofs.YtfeniggadfkakaaDoor
end
section
namespace Go.Proofs.YtfeniggadfkakaaDoor
open Go Go.SX Go.Vl
set_option maxRecDepth 100000
set_option maxHeartbeats 0
section
variable [G:Globs]
theorem w_same (a b:Val) (ha:VB a) (hb:VB b):vc Tryd.prog Γ 9 [2,3,4] (Tryd.f9.body.getD .skip) (postK Γ [.tmp 4] (fun v=>v = .b (decide (cmpV a b = 0)))) ⟨argSlots 0 [.agg (encVal a),.agg (encVal b)],[]⟩:=by
 refine Or.inl (eX _ (aN (s_Beside a b ha hb) ?_))
 rfl
theorem s_same (a b:Val) (ha:VB a) (hb:VB b):PSpec Tryd.prog 9 [.agg (encVal a),.agg (encVal b)] (.b (decide (cmpV a b = 0))) :=
 pspec_of_vc Γ_good Tryd.func9 rfl Tryd.call9 Tryd.results9 Tryd.ntmps9 (Nat.le_of_ble_eq_true rfl) (w_same a b ha hb)
theorem w_fnd1 (p:Ent) (k:Str):vc Tryd.prog Γ 8 [1,2,3] (Tryd.f65.body.getD .skip) (postK Γ [.tmp 3] (fun v=>v = .b (keyIs k p))) ⟨argSlots 0 [.agg (enc .ent p),.rp [.s k]],[]⟩:=by
 rfl
theorem s_fnd1 (p:Ent) (k:Str):PSpec Tryd.prog 65 [.agg (enc .ent p),.rp [.s k]] (.b (keyIs k p)) :=
 pspec_of_vc Γ_good Tryd.func65 rfl Tryd.call65 Tryd.results65 Tryd.ntmps65 (Nat.le_of_ble_eq_true rfl) (w_fnd1 p k)
theorem w_put1 (p:Ent) (k:Str):vc Tryd.prog Γ 8 [1,2,3] (Tryd.f79.body.getD .skip) (postK Γ [.tmp 3] (fun v=>v = .b (keyGt k p))) ⟨argSlots 0 [.agg (enc .ent p),.rp [.s k]],[]⟩:=by
 rfl
theorem s_put1 (p:Ent) (k:Str):PSpec Tryd.prog 79 [.agg (enc .ent p),.rp [.s k]] (.b (keyGt k p)) :=
 pspec_of_vc Γ_good Tryd.func79 rfl Tryd.call79 Tryd.results79 Tryd.ntmps79 (Nat.le_of_ble_eq_true rfl) (w_put1 p k)
theorem w_ixE (l:List Ent) (k:Str) (q:Ent→Bool) (f:Nat) (hq:∀ x ∈ l,PSpec Tryd.prog f [.agg (enc .ent x),.rp [.s k]] (.b (q x))):vc Tryd.prog Γ 19 [0,1,4,5,7,8,9,16] (Tryd.f64.body.getD .skip) (postK Γ [.tmp 4] (fun v=>v = .i .i64 (ixI l q))) ⟨argSlots 0 [.rd .ent l,.fn f [.rp [.s k]]],[]⟩:=by
 intro hl
 refine eX [] (eX [] (eX [] (eX Nat (eX (fun i=>i≤l.length∧i≤l.findIdx q) (eX (fun i=>⟨[(0,.rd .ent l),(1,.fn f [.rp [.s k]]),(7,.i .i64 l.length),(8,.i .i64 i)],[]⟩) (eX (fun i=>l.length - i) (eX 0 (aN ⟨Nat.zero_le _,Nat.zero_le _⟩ (aN ?_ ?_)))))))))
 ·exact wK
 ·rintro i ⟨hi,hf⟩
  refine aN (fun he=>?_) (fun he=>?_)
  · have hi : i < l.length := by have : (i : Int) < (l.length : Int) := of_decide_eq_true he
                                 omega
    have hg:l.getD (Int.toNat (i:Int)) (dflt .ent) = l[i]:=by rw [Int.toNat_natCast,List.getD_eq_getElem?_getD,List.getElem?_eq_getElem hi]; rfl
    refine bN2 ?_
    have hs:=hq l[i] (List.getElem_mem hi)
    rw [← hg] at hs
    refine Or.inl (eX _ (aN (hs) ?_))
    rw [hg]
    refine aN (fun hz=>?_) (fun hz=>?_)
    ·have hz:q l[i] = true:=hz
     rw [ix_hit hi hf hz]
     rfl
    ·have hz:q l[i] = false:=hz
     have:=len_le hl
     (refine rNG ?_)
     refine eX [] (eX (i + 1) (aN ⟨hi,ix_miss hi hf hz⟩ (aN ?_ ?_)))
     ·exact wK
     ·show l.length - (i + 1) < l.length - i
      omega
  · have hi : i = l.length := by have : ¬ (i : Int) < (l.length : Int) := of_decide_eq_false he
                                 omega
    rw [ix_none (by omega)]
    rfl
theorem s_ixE (l:List Ent) (k:Str) (q:Ent→Bool) (f:Nat) (hq:∀ x ∈ l,PSpec Tryd.prog f [.agg (enc .ent x),.rp [.s k]] (.b (q x))):PSpec Tryd.prog 64 [.rd .ent l,.fn f [.rp [.s k]]] (.i .i64 (ixI l q)) :=
 pspec_of_vc Γ_good Tryd.func64 rfl Tryd.call64 Tryd.results64 Tryd.ntmps64 (Nat.le_of_ble_eq_true rfl) (w_ixE l k q f hq)
theorem w_find (l:List Ent) (k:Str):vc Tryd.prog Γ 8 [0,3,4] (Tryd.f36.body.getD .skip) (postK Γ [.tmp 4] (fun v=>v = .i .i64 (ixI l (keyIs k)))) ⟨argSlots 0 [.rd .ent l,.s k],[]⟩:=by
 refine Or.inr (Or.inr (Or.inl (eX _ (aN (s_ixE l k (keyIs k) 65 (fun x _=>s_fnd1 x k)) ?_))))
 rfl
theorem s_find (l:List Ent) (k:Str):PSpec Tryd.prog 36 [.rd .ent l,.s k] (.i .i64 (ixI l (keyIs k))) :=
 pspec_of_vc Γ_good Tryd.func36 rfl Tryd.call36 Tryd.results36 Tryd.ntmps36 (Nat.le_of_ble_eq_true rfl) (w_find l k)
theorem w_entAt (l:List Ent) (k:Str):vc Tryd.prog Γ 20 [0,1,4,5,6,7,8,9,10,17] (Tryd.f20.body.getD .skip) (postK Γ [.tmp 4] (fun v=>v = .i .i64 (ixI l (keyIs k)))) ⟨argSlots 0 [.rd .ent l,.s k],[]⟩:=by
 intro hl
 refine eX [] (eX [] (eX [] (eX Nat (eX (fun i=>i≤l.length∧i≤l.findIdx (keyIs k)) (eX (fun i=>⟨[(1,.s k),(7,.rd .ent l),(8,.i .i64 l.length),(9,.i .i64 i)],[]⟩) (eX (fun i=>l.length - i) (eX 0 (aN ⟨Nat.zero_le _,Nat.zero_le _⟩ (aN ?_ ?_)))))))))
 ·exact wK
 ·rintro i ⟨hi,hf⟩
  refine aN (fun he=>?_) (fun he=>?_)
  · have hi : i < l.length := by have : (i : Int) < (l.length : Int) := of_decide_eq_true he
                                 omega
    have hg:l.getD (Int.toNat (i:Int)) (dflt .ent) = l[i]:=by rw [Int.toNat_natCast,List.getD_eq_getElem?_getD,List.getElem?_eq_getElem hi]; rfl
    refine bN2 ?_
    refine aN (fun hz=>?_) (fun hz=>?_)
    ·have hz:keyIs k l[i] = true:=by rw [← hg]; exact hz
     rw [ix_hit hi hf hz]
     rfl
    ·have hz:keyIs k l[i] = false:=by rw [← hg]; exact hz
     have:=len_le hl
     (refine rNG ?_)
     refine eX [] (eX (i + 1) (aN ⟨hi,ix_miss hi hf hz⟩ (aN ?_ ?_)))
     ·exact wK
     ·show l.length - (i + 1) < l.length - i
      omega
  · have hi : i = l.length := by have : ¬ (i : Int) < (l.length : Int) := of_decide_eq_false he
                                 omega
    rw [ix_none (by omega)]
    rfl
theorem s_entAt (l:List Ent) (k:Str):PSpec Tryd.prog 20 [.rd .ent l,.s k] (.i .i64 (ixI l (keyIs k))) :=
 pspec_of_vc Γ_good Tryd.func20 rfl Tryd.call20 Tryd.results20 Tryd.ntmps20 (Nat.le_of_ble_eq_true rfl) (w_entAt l k)
theorem w_wout (l:List Ent) (k:Str) (hl1:l.length≤100000000):vc Tryd.prog Γ 24 [0,1,4,5,7,8,9,10,11,17] (Tryd.f63.body.getD .skip) (postK Γ [.tmp 4] (fun v=>v = .rd .ent (withoutE l k))) ⟨argSlots 0 [.rd .ent l,.s k],[]⟩:=by
 intro hl
 refine eX [(5,5,.ent)] (eX [] (eX [] (eX Nat (eX (fun i=>i≤l.length) (eX (fun i=>⟨[(1,.s k),(5,.vec 5 .ent (withoutE (l.take i) k)),(8,.rd .ent l),(9,.i .i64 l.length),(10,.i .i64 i)],[]⟩) (eX (fun i=>l.length - i) (eX 0 (aN (Nat.zero_le _) (aN ?_ ?_)))))))))
 ·exact wK
 ·rintro i hi
  refine aN (fun he=>?_) (fun he=>?_)
  · have hi : i < l.length := by have : (i : Int) < (l.length : Int) := of_decide_eq_true he
                                 omega
    have hg:l.getD (Int.toNat (i:Int)) (dflt .ent) = l[i]:=by rw [Int.toNat_natCast,List.getD_eq_getElem?_getD,List.getElem?_eq_getElem hi]; rfl
    refine bN2 ?_
    refine aN (fun hz=>?_) (fun hz=>?_)
    ·have hz:keyIs k l[i] = false:=by rw [← hg]; simpa [keyIs] using hz
     rw [hg]
     have hfl:=filter_len (l:=l) (k:=k) (i:=i)
     refine aN (show ((withoutE (l.take i) k).length + 1) * 104≤140737488355328 by omega) ?_
     (refine rNG ?_)
     refine eX [(21,5)] (eX (i + 1) (aN hi (aN ?_ ?_)))
     ·have e:withoutE (l.take i) k++[(l[i].1,(⟨l[i].2.kind,l[i].2.n,l[i].2.f,l[i].2.s,l[i].2.l,l[i].2.e⟩:Val))] = withoutE (l.take (i + 1)) k:=by rw [val_eta]; exact (filter_next hi hz).symm
      (repeat' (first | exact wA | exact Or.inl ((congrArg (AV.vec 5 .ent) e)) | refine aN ?_ ?_))
     ·show l.length - (i + 1) < l.length - i
      omega
    ·have hz:keyIs k l[i] = true:=by rw [← hg]; simpa [keyIs] using hz
     (refine rNG ?_)
     refine eX [] (eX (i + 1) (aN hi (aN ?_ ?_)))
     ·(repeat' (first | exact wA | exact Or.inl ((congrArg (AV.vec 5 .ent) (filter_skip hi hz).symm)) | refine aN ?_ ?_))
     ·show l.length - (i + 1) < l.length - i
      omega
  · have hi : i = l.length := by have : ¬ (i : Int) < (l.length : Int) := of_decide_eq_false he
                                 omega
    subst hi
    rw [List.take_length]
    rfl
theorem s_wout (l:List Ent) (k:Str) (hl1:l.length≤100000000):PSpec Tryd.prog 63 [.rd .ent l,.s k] (.rd .ent (withoutE l k)) :=
 pspec_of_vc Γ_good Tryd.func63 rfl Tryd.call63 Tryd.results63 Tryd.ntmps63 (Nat.le_of_ble_eq_true rfl) (w_wout l k hl1)
end
end Go.Proofs.YtfeniggadfkakaaDoor
end
section
namespace Go.Proofs.YtfeniggadfkakaaDoor
open Go Go.SX Go.Vl
set_option maxRecDepth 100000
set_option maxHeartbeats 0
section
variable [G:Globs]
theorem compare_spec:∀ (n:Nat) (a b:Val),SizeOf.sizeOf a < n→VB a→VB b→PSpec Tryd.prog 27 [.agg (encVal a),.agg (encVal b)] (.i .i64 (cmpV a b)):=by
 intro n
 induction n with
 | zero=>intro a b h; exact absurd h (Nat.not_lt_zero _)
 | succ n ih =>
  intro a b hs ha hb
  cases ha with
  | mk _ a1 a2 a3 a4 a5 =>
  cases hb with
  | mk _ b1 b2 b3 b4 b5 =>
   refine s_cmpr a b a3 b3 (fun x hx y hy=>ih x y ?_ (a4 x hx) (b4 y hy)) (fun x hx y hy=>s_cmp1 x y (ih x.2 y.2 ?_ (a5 x hx) (b5 y hy)))
   ·have:=val_sz_l hx; omega
   ·have:=val_sz_e hx; omega
theorem s_Compare (a b:Val) (ha:VB a) (hb:VB b):PSpec Tryd.prog 27 [.agg (encVal a),.agg (encVal b)] (.i .i64 (cmpV a b)) :=
 compare_spec _ a b (Nat.lt_succ_self _) ha hb
end
end Go.Proofs.YtfeniggadfkakaaDoor
end
section
namespace Go.Proofs.YtfeniggadfkakaaDoor
open Go Go.SX Go.Vl Go.Ck Go.Up Go.Df
set_option maxRecDepth 100000
set_option maxHeartbeats 4000000
theorem sum_snoc {α:Type} (f:α→Int) (l:List α) {i:Nat} (h:i < l.length):((l.take (i + 1)).map f).sum = ((l.take i).map f).sum + f l[i]:=by
 rw [List.take_add_one,List.getElem?_eq_getElem h,List.map_append,List.sum_append]
 simp
theorem sum_lim {α:Type} (f:α→Int) (k:Int):∀ l:List α,(∀ x ∈ l,0≤f x∧f x≤k)→0≤(l.map f).sum∧(l.map f).sum≤k * l.length
 | [],_=>by simp
 | x::l,h=>by
  have h1:=h x (.head _)
  have h2:=sum_lim f k l fun y hy=>h y (.tail _ hy)
  rw [List.map_cons,List.sum_cons,List.length_cons]
  have:k * ((l.length + 1:Nat):Int) = k * l.length + k:=by rw [Int.natCast_add,Int.mul_add]; simp
  omega
theorem farF_tab (n:Nat) {a b:Val} (h:¬ cmpV a b = 0) (k:a.kind = 6∧b.kind = 6):farF (n + 1) a b = tabF (farF n) a.e b.e:=by rw [farF,if_neg h,if_pos k]
theorem farF_list (n:Nat) {a b:Val} (h:¬ cmpV a b = 0) (k:¬ (a.kind = 6∧b.kind = 6)) (m:a.kind = 5∧b.kind = 5):farF (n + 1) a b = ed (farF n) a.l b.l:=by rw [farF,if_neg h,if_neg k,if_pos m]
theorem farF_not (n:Nat) {a b:Val} (h:¬ cmpV a b = 0) (k:¬ (a.kind = 6∧b.kind = 6)) (m:¬ (a.kind = 5∧b.kind = 5)):farF (n + 1) a b = nd a + nd b:=by rw [farF,if_neg h,if_neg k,if_neg m]
theorem vb_l {v x:Val} (h:VB v) (hx:x ∈ v.l):VB x:=by
 cases h with
 | mk _ _ _ _ h4 h5=>exact h4 x hx
theorem vb_e {v:Val} {p:Ent} (h:VB v) (hx:p ∈ v.e):VB p.2:=by
 cases h with
 | mk _ _ _ _ h4 h5=>exact h5 p hx
section
variable [G:Globs]
theorem w_far1 (n:Nat) (a b:Val) (ha:VB a) (hb:VB b) (na:nd a≤1000) (nb:nd b≤1000) (ihl:∀ x ∈ a.l,∀ y ∈ b.l,PSpec Tryd.prog 21 [.agg (encVal x),.agg (encVal y)] (.i .i64 (farF n x y))) (ihe:∀ x ∈ a.e,∀ y ∈ b.e,PSpec Tryd.prog 21 [.agg (encVal x.2),.agg (encVal y.2)] (.i .i64 (farF n x.2 y.2))):vc Tryd.prog Γ 105 [2,3,4,5,7,8,10,11,16,26,27,28,29,38,57,58,59,60,68,76] (Tryd.f21.body.getD .skip) (postK Γ [.tmp 4] (fun v=>v = .i .i64 (farF (n + 1) a b))) ⟨argSlots 0 [.agg (encVal a),.agg (encVal b)],[]⟩:=by
 have hC:=s_Compare a b ha hb
 have hNa:=s_Nodes _ a (Nat.lt_succ_self _) (show nd a≤1000000000 by omega)
 have hNb:=s_Nodes _ b (Nat.lt_succ_self _) (show nd b≤1000000000 by omega)
 have sla:=sum_l a
 have slb:=sum_l b
 have pl:=sumN_nn a.l
 have pe:=sumN_nn (a.e.map (·.2))
 have ql:=sumN_nn b.l
 have qe:=sumN_nn (b.e.map (·.2))
 rw [List.length_map] at pe qe
 refine Or.inl (eX _ (aN (hC) ?_))
 by_cases h0:cmpV a b = 0
 ·rw [h0,show farF (n + 1) a b = 0 by rw [farF,if_pos h0]]
  (repeat' (first | (refine aN (fun h=>?_) (fun h=>?_)<;>(try simp [-List.getD_eq_getElem?_getD,-Int.pred_toNat] at h)<;>(try (exfalso; first | omega | contradiction))) | refine bX ?_ | intro _))
  rfl
 have h0b:(cmpV a b == 0) = false:=by simpa using h0
 refine aN (fun h=>absurd (of_decide_eq_true h) h0) (fun _=>?_)
 by_cases k6:a.kind = 6∧b.kind = 6
 ·rw [farF_tab n h0 k6]
  have hA:∀ x ∈ a.e,0≤tabA (farF n) b.e x∧tabA (farF n) b.e x≤2000000:=fun x hx=>by
   refine ⟨tabA_nn (far_nn n) _ _,?_⟩
   have h1:=nd_e hx
   unfold tabA
   split
   ·rename_i hh
    have hi:=ix_bound (l:=b.e) (q:=keyIs x.1) (by omega)
    refine far_small n (by omega) ?_
    rw [List.getD_eq_getElem?_getD,List.getElem?_eq_getElem hi.2.1]
    have:=nd_e (List.getElem_mem hi.2.1)
    show nd b.e[(ixI b.e (keyIs x.1)).toNat].2≤1000
    omega
   ·omega
  have hB:∀ x ∈ b.e,0≤tabB a.e x∧tabB a.e x≤1000:=fun x hx=>by
   have h1:=nd_e hx
   have h2:=tabB_b a.e x
   omega
  have sA:=fun i=>sum_lim (tabA (farF n) b.e) 2000000 (a.e.take i) fun x hx=>hA x (List.mem_of_mem_take hx)
  have sB:=fun i=>sum_lim (tabB a.e) 1000 (b.e.take i) fun x hx=>hB x (List.mem_of_mem_take hx)
  have lA:∀ i,((a.e.take i).length:Int)≤1000:=fun i=>by rw [List.length_take]; omega
  have lB:∀ i,((b.e.take i).length:Int)≤1000:=fun i=>by rw [List.length_take]; omega
  have TA:∀ i,0≤((a.e.take i).map (tabA (farF n) b.e)).sum∧((a.e.take i).map (tabA (farF n) b.e)).sum≤2000000000:=fun i=>by have:=sA i; have:=lA i; omega
  have TB:∀ i,0≤((b.e.take i).map (tabB a.e)).sum∧((b.e.take i).map (tabB a.e)).sum≤1000000:=fun i=>by have:=sB i; have:=lB i; omega
  (repeat' (first | (refine aN (fun h=>?_) (fun h=>?_)<;>(try simp [-List.getD_eq_getElem?_getD,-Int.pred_toNat] at h)<;>(try (exfalso; first | omega | contradiction))) | refine bX ?_ | intro _))
  refine eX [] (eX [] (eX [] (eX Nat (eX (fun i=>i≤(a.e).length) (eX (fun i=>⟨[(2,.pt 2 0),(3,.pt 3 0),(5,.i .i64 ((a.e.take i).map (tabA (farF n) b.e)).sum),(26,.rd .ent a.e),(27,.i .i64 a.e.length),(28,.i .i64 i)],[(2,encVal a),(3,encVal b)]⟩) (eX (fun i=>(a.e).length - i) (eX 0 (aN (Nat.zero_le _) (aN ?_ ?_)))))))))
  ·exact wK
  rintro i hi
  refine aN (fun hz=>?_) (fun hz=>?_)
  ·have hi:=ltD hz
   have hg:=getI (τ:=.ent) hi
   refine bN2 ?_
   rw [hg]
   have hm:=List.getElem_mem hi
   have hS:=sum_snoc (tabA (farF n) b.e) a.e hi
   have t1:=TA i
   have t2:=hA _ hm
   have hnx:=nd_e hm
   have hF:=s_find b.e a.e[i].1
   refine Or.inl (eX _ (aN (hF) ?_))
   refine aN (fun hc=>?_) (fun hc=>?_)
   ·have hc:0≤ixI b.e (keyIs a.e[i].1):=of_decide_eq_true hc
    have hb':=ix_bound (l:=b.e) (q:=keyIs a.e[i].1) (by omega)
    have hT:tabA (farF n) b.e a.e[i] = farF n a.e[i].2 (b.e.getD (ixI b.e (keyIs a.e[i].1)).toNat (dflt .ent)).2:=if_pos hc
    have hgd:b.e.getD (ixI b.e (keyIs a.e[i].1)).toNat (dflt .ent) = b.e[(ixI b.e (keyIs a.e[i].1)).toNat]'hb'.2.1:=by rw [List.getD_eq_getElem?_getD,List.getElem?_eq_getElem hb'.2.1]; rfl
    have hI:=ihe _ hm _ (List.getElem_mem hb'.2.1)
    rw [← hgd,← hT] at hI
    refine eX [.blk [0,1,2,3,4,5,6,7,8,9,10,11]] (aN (by kernel_rfl) ?_)
    refine bN2 ?_
    refine eX _ (aN (hI) ?_)
    (refine rNG ?_)
    (refine rNG ?_)
    refine eX [] (eX (_ + 1) (aN hi (aN ?_ ?_)))
    ·(repeat' (first | exact wA | exact Or.inl (congrArg (AV.i .i64) hS.symm) | refine aN ?_ ?_))
    ·(exact Nat.sub_lt_sub_left (by omega) (by omega))
   ·have hc:¬ 0≤ixI b.e (keyIs a.e[i].1):=of_decide_eq_false hc
    have hT:tabA (farF n) b.e a.e[i] = (sizV a.e[i].2).2:=if_neg hc
    have hN:=s_Nodes _ a.e[i].2 (Nat.lt_succ_self _) (show nd a.e[i].2≤1000000000 by omega)
    rw [← hT] at hN
    refine Or.inl (eX _ (aN (hN) ?_))
    (refine rNG ?_)
    (refine rNG ?_)
    refine eX [] (eX (_ + 1) (aN hi (aN ?_ ?_)))
    ·(repeat' (first | exact wA | exact Or.inl (congrArg (AV.i .i64) hS.symm) | refine aN ?_ ?_))
    ·(exact Nat.sub_lt_sub_left (by omega) (by omega))
  ·(have hi:=geD hi hz)
   subst hi
   rw [List.take_length]
   have ta:=TA a.e.length
   rw [List.take_length] at ta
   unfold tabF
   generalize (a.e.map (tabA (farF n) b.e)).sum = Z at *
   (repeat' (first | (refine aN (fun h=>?_) (fun h=>?_)<;>(try simp [-List.getD_eq_getElem?_getD,-Int.pred_toNat] at h)<;>(try (exfalso; first | omega | contradiction))) | refine bX ?_ | intro _))
   refine eX [] (eX [] (eX [] (eX Nat (eX (fun i=>i≤b.e.length) (eX (fun i=>⟨[(2,.pt 2 0),(5,.i .i64 (Z + ((b.e.take i).map (tabB a.e)).sum)),(57,.rd .ent b.e),(58,.i .i64 b.e.length),(59,.i .i64 i)],[(2,encVal a)]⟩) (eX (fun i=>b.e.length - i) (eX 0 (aN (Nat.zero_le _) (aN ?_ ?_)))))))))
   ·(repeat' (first | exact wA | exact Or.inl ((congrArg (AV.i .i64) (Int.add_zero Z).symm)) | refine aN ?_ ?_))
   rintro i hi
   refine aN (fun hz=>?_) (fun hz=>?_)
   ·have hi:=ltD hz
    have hg:=getI (τ:=.ent) hi
    refine bN2 ?_
    rw [hg]
    have hm:=List.getElem_mem hi
    have hS:=sum_snoc (tabB a.e) b.e hi
    have t1:=TB i
    have t2:=hB _ hm
    have hnx:=nd_e hm
    have hF:=s_find a.e b.e[i].1
    refine Or.inl (eX _ (aN (hF) ?_))
    refine aN (fun hc=>?_) (fun hc=>?_)
    ·have hc:ixI a.e (keyIs b.e[i].1) < 0:=of_decide_eq_true hc
     have hT:tabB a.e b.e[i] = (sizV b.e[i].2).2:=if_pos hc
     have hN:=s_Nodes _ b.e[i].2 (Nat.lt_succ_self _) (show nd b.e[i].2≤1000000000 by omega)
     rw [← hT] at hN
     refine Or.inl (eX _ (aN (hN) ?_))
     (refine rNG ?_)
     (refine rNG ?_)
     refine eX [] (eX (_ + 1) (aN hi (aN ?_ ?_)))
     ·(repeat' (first | exact wA | exact Or.inl (congrArg (AV.i .i64) (by rw [hS,Int.add_assoc])) | refine aN ?_ ?_))
     ·(exact Nat.sub_lt_sub_left (by omega) (by omega))
    ·have hc:¬ ixI a.e (keyIs b.e[i].1) < 0:=of_decide_eq_false hc
     have hT:tabB a.e b.e[i] = 0:=if_neg hc
     rw [hT] at hS
     (refine rNG ?_)
     refine eX [] (eX (_ + 1) (aN hi (aN ?_ ?_)))
     ·(repeat' (first | exact wA | exact Or.inl (congrArg (AV.i .i64) (by rw [hS,Int.add_zero])) | refine aN ?_ ?_))
     ·(exact Nat.sub_lt_sub_left (by omega) (by omega))
   ·(have hi:=geD hi hz)
    subst hi
    rw [List.take_length]
    exact rfl
 ·by_cases k5:a.kind = 5∧b.kind = 5
  ·rw [farF_list n h0 k6 k5]
   have hG:=s_grid (farF n) a.l b.l (far_nn n) (fun x hx y hy=>far_small n (by have:=nd_l hx; omega) (by have:=nd_l hy; omega)) (by omega) (by omega) ihl
   (repeat' (first | (refine aN (fun h=>?_) (fun h=>?_)<;>(try simp [-List.getD_eq_getElem?_getD,-Int.pred_toNat] at h)<;>(try (exfalso; first | omega | contradiction))) | refine bX ?_ | intro _))
   have gl:=grid_len (farF n) a.l b.l
   have rl:=row_len (farF n) a.l b.l a.l.length
   have e1:(gridP (farF n) a.l b.l).getD ((a.l.length:Nat):Int).toNat (dflt .ints) = rowP (farF n) a.l b.l a.l.length:=by rw [Int.toNat_natCast,List.getD_eq_getElem?_getD,grid_at _ _ _ (Nat.lt_succ_self _)]; rfl
   have e2:(rowP (farF n) a.l b.l a.l.length).getD ((b.l.length:Nat):Int).toNat (dflt .int) = ed (farF n) a.l b.l:=by rw [Int.toNat_natCast,row_get _ _ _ _ (Nat.lt_succ_self _),gP_end]
   refine eX [.blk [0,1,2,3,4,5,6,7,8,9,10,11,12,13,14,15]] (aN (by kernel_rfl) ?_)
   refine eX _ (aN (hG) ?_)
   refine bN2 ?_
   rw [e1]
   refine bN2 ?_
   exact congrArg (AV.i .i64) e2
  ·rw [farF_not n h0 k6 k5]
   have e:nd a + nd b = (sizV a).2 + (sizV b).2:=rfl
   rw [e]
   have p1:1≤(sizV a).2:=nd_pos a
   have p2:1≤(sizV b).2:=nd_pos b
   have p3:(sizV a).2≤1000:=na
   have p4:(sizV b).2≤1000:=nb
   (repeat' (first | (refine aN (fun h=>?_) (fun h=>?_)<;>(try simp [-List.getD_eq_getElem?_getD,-Int.pred_toNat] at h)<;>(try (exfalso; first | omega | contradiction))) | refine bX ?_ | intro _))
   all_goals refine eX [.blk [0,1,2,3,4,5]] (aN (by kernel_rfl) ?_)
   all_goals refine eX _ (aN (hNa) ?_)
   all_goals refine eX _ (aN (hNb) ?_)
   all_goals (refine rNG ?_)
   all_goals exact rfl
theorem s_far1 (n:Nat) (a b:Val) (ha:VB a) (hb:VB b) (na:nd a≤1000) (nb:nd b≤1000) (ihl:∀ x ∈ a.l,∀ y ∈ b.l,PSpec Tryd.prog 21 [.agg (encVal x),.agg (encVal y)] (.i .i64 (farF n x y))) (ihe:∀ x ∈ a.e,∀ y ∈ b.e,PSpec Tryd.prog 21 [.agg (encVal x.2),.agg (encVal y.2)] (.i .i64 (farF n x.2 y.2))):PSpec Tryd.prog 21 [.agg (encVal a),.agg (encVal b)] (.i .i64 (farF (n + 1) a b)) :=
 pspec_of_vc Γ_good Tryd.func21 rfl Tryd.call21 Tryd.results21 Tryd.ntmps21 (Nat.le_of_ble_eq_true rfl) (w_far1 n a b ha hb na nb ihl ihe)
theorem s_far:∀ (n:Nat) (a b:Val),SizeOf.sizeOf a < n→VB a→VB b→nd a≤1000→nd b≤1000→PSpec Tryd.prog 21 [.agg (encVal a),.agg (encVal b)] (.i .i64 (farF n a b))
 | 0,_,_,h=>absurd h (Nat.not_lt_zero _)
 | n + 1, a, b, h => fun ha hb na nb => s_far1 n a b ha hb na nb
   (fun x hx y hy=>s_far n x y (by have:=val_sz_l hx; omega) (vb_l ha hx) (vb_l hb hy) (by have:=nd_l hx; omega) (by have:=nd_l hy; omega))
   (fun x hx y hy=>s_far n x.2 y.2 (by have:=val_sz_e hx; omega) (vb_e ha hx) (vb_e hb hy) (by have:=nd_e hx; omega) (by have:=nd_e hy; omega))
end
end Go.Proofs.YtfeniggadfkakaaDoor
end
section
namespace Go.Df
open Go Go.SX Go.Vl Go.Ck Go.Up
set_option maxRecDepth 100000
inductive OKV:Int→Val→Prop
 | mk (a:Int) (v:Val):a < 20→docF v = 0→(∀ x ∈ partsOf v,OKV (a + 1) x)→OKV a v
theorem OKV.doc {a:Int} {v:Val} (h:OKV a v):docF v = 0:=by cases h; assumption
theorem OKV.lt {a:Int} {v:Val} (h:OKV a v):a < 20:=by cases h; assumption
theorem OKV.part {a:Int} {v:Val} (h:OKV a v) {x:Val} (hx:x ∈ partsOf v):OKV (a + 1) x:=by cases h with | mk _ _ _ _ h=>exact h x hx
theorem OKV.l {a:Int} {v:Val} (h:OKV a v) {x:Val} (hx:x ∈ v.l):OKV (a + 1) x:=h.part (List.mem_append_left _ hx)
theorem OKV.e {a:Int} {v:Val} (h:OKV a v) {p:Ent} (hx:p ∈ v.e):OKV (a + 1) p.2:=h.part (List.mem_append_right _ (List.mem_map_of_mem hx))
theorem doc_kind {v:Val} (h:docF v = 0):0≤v.kind∧v.kind≤6:=by
 by_cases hk:kindBad v
 ·rw [← docF_kind hk] at h; exact absurd h (by decide)
 ·unfold kindBad at hk
  omega
theorem OKV.kind {a:Int} {v:Val} (h:OKV a v):0≤v.kind∧v.kind≤6:=doc_kind h.doc
theorem OKV.mono {a c:Int} {v:Val} (h:OKV a v) (hc:c≤a):OKV c v:=by
 induction h generalizing c with
 | mk a v h1 h2 _ ih=>exact .mk c v (by omega) h2 fun x hx=>ih x hx (by omega)
theorem chkL_ok {a:Int}:∀ (l:List Val) (m:Int),(∀ x ∈ l,∀ k,(chkV x a k).1 = 0→OKV a x∧(chkV x a k).2 = k + nd x)→(chkL l a m).1 = 0→(∀ x ∈ l,OKV a x)∧(chkL l a m).2 = m + sumN l
 | [],m,_,_=>⟨(fun _ h=>nomatch h),by rw [chkL]; show m = m + 0; omega⟩
 | x::l,m,hh,h=>by
  have hx:=hh x (.head _) m
  rw [chkL] at h ⊢
  cases hc:chkV x a m with
  | mk e k =>
   rw [hc] at h hx
   simp only at h hx ⊢
   by_cases he:e = 0
   ·subst he
    rw [if_neg (by simp)] at h ⊢
    obtain ⟨h1,h2⟩:=hx rfl
    obtain ⟨h3,h4⟩:=chkL_ok l k (fun y hy=>hh y (.tail _ hy)) h
    refine ⟨fun y hy=>?_,?_⟩
    ·rcases List.mem_cons.1 hy with rfl | hy
     ·exact h1
     ·exact h3 y hy
    ·rw [h4,h2,sumN_cons]; omega
   ·rw [if_pos he] at h
    exact absurd h he
theorem okv_of:∀ (n:Nat) (v:Val),SizeOf.sizeOf v < n→∀ (a m:Int),(chkV v a m).1 = 0→OKV a v∧(chkV v a m).2 = m + nd v
 | 0,_,h=>absurd h (Nat.not_lt_zero _)
 | n + 1,v,hs=>fun a m h=>by
  rw [chkV_eq] at h ⊢
  by_cases h1:2000 < m + 1
  ·rw [if_pos h1] at h; exact absurd (show (2:Int) = 0 from h) (by decide)
  rw [if_neg h1] at h ⊢
  by_cases h2:oneF v a≠0
  ·rw [if_pos h2] at h; exact absurd h h2
  rw [if_neg h2] at h ⊢
  have h2:oneF v a = 0:=by simpa using h2
  rw [oneF_doc] at h2
  by_cases h3:20≤a
  ·rw [if_pos h3] at h2; exact absurd h2 (by decide)
  rw [if_neg h3] at h2
  obtain ⟨h4,h5⟩:=chkL_ok (partsOf v) (m + 1) (fun x hx k hk=>okv_of n x (by have:=parts_sz hx; omega) (a + 1) k hk) h
  exact ⟨.mk a v (by omega) h2 h4,by rw [h5,nd_eq]; omega⟩
theorem chk_okv {v:Val} (h:(chkV v 0 0).1 = 0):OKV 0 v:=(okv_of _ v (Nat.lt_succ_self _) 0 0 h).1
/-! ### the document's rows -/
def rowD (d:Val→Val→Int) (a b:List Val) (i:Nat):List Int:=(List.range (b.length + 1)).map fun j=>ed d (a.drop i) (b.drop j)
theorem rowD_len (d:Val→Val→Int) (a b:List Val) (i:Nat):(rowD d a b i).length = b.length + 1:=by unfold rowD; simp
theorem rowD_at (d:Val→Val→Int) (a b:List Val) (i:Nat) {j:Nat} (h:j < b.length + 1):(rowD d a b i)[j]? = some (ed d (a.drop i) (b.drop j)):=by unfold rowD; simp [h]
theorem rowD_get (d:Val→Val→Int) (a b:List Val) (i:Nat) {j:Nat} (h:j < b.length + 1):(rowD d a b i).getD j (dflt .int) = ed d (a.drop i) (b.drop j):=by
 rw [List.getD_eq_getElem?_getD,rowD_at d a b i h]; rfl
def backTo (d:Val→Val→Int) (a b:List Val) (i c:Nat):List Int:=List.replicate c 0++(rowD d a b i).drop c
theorem backTo_len (d:Val→Val→Int) (a b:List Val) (i:Nat) {c:Nat} (h:c≤b.length + 1):(backTo d a b i c).length = b.length + 1:=by
 unfold backTo; rw [List.length_append,List.length_drop,rowD_len,List.length_replicate]; omega
theorem backTo_all (d:Val→Val→Int) (a b:List Val) (i:Nat):backTo d a b i 0 = rowD d a b i:=rfl
theorem backTo_none (d:Val→Val→Int) (a b:List Val) (i:Nat):backTo d a b i (b.length + 1) = List.replicate (b.length + 1) 0:=by
 unfold backTo; rw [List.drop_eq_nil_of_le (by rw [rowD_len]; omega),List.append_nil]
theorem backTo_get (d:Val→Val→Int) (a b:List Val) (i:Nat) {c j:Nat} (h:c≤j) (hj:j < b.length + 1):(backTo d a b i c).getD j (dflt .int) = ed d (a.drop i) (b.drop j):=by
 unfold backTo
 rw [List.getD_eq_getElem?_getD,List.getElem?_append_right (by rw [List.length_replicate]; exact h),List.length_replicate,List.getElem?_drop,show c + (j - c) = j by omega,rowD_at d a b i hj]
 rfl
theorem backTo_set (d:Val→Val→Int) (a b:List Val) (i:Nat) {c:Nat} (h:c < b.length + 1):(backTo d a b i (c + 1)).set c (ed d (a.drop i) (b.drop c)) = backTo d a b i c:=by
 unfold backTo
 have e:(rowD d a b i).drop c = ed d (a.drop i) (b.drop c)::(rowD d a b i).drop (c + 1):=by
  have hl:c < (rowD d a b i).length:=by rw [rowD_len]; exact h
  rw [List.drop_eq_getElem_cons hl]
  congr 1
  have:=rowD_at d a b i h
  rw [List.getElem?_eq_getElem hl] at this
  injection this
 rw [e,List.replicate_succ',List.append_assoc,List.set_append_right _ _ (by rw [List.length_replicate]; exact Nat.le_refl _),List.length_replicate,Nat.sub_self]
 rfl
theorem ed_drop_nil (d:Val→Val→Int) (a:List Val) {b:List Val} {j:Nat} (h:j < b.length):ed d (a.drop a.length) (b.drop j) = ed d (a.drop a.length) (b.drop (j + 1)) + nd b[j]:=by
 rw [List.drop_length,List.drop_eq_getElem_cons h,ed]
theorem ed_drop_end (d:Val→Val→Int) {a:List Val} (b:List Val) {i:Nat} (h:i < a.length):ed d (a.drop i) (b.drop b.length) = ed d (a.drop (i + 1)) (b.drop b.length) + nd a[i]:=by
 rw [List.drop_length,List.drop_eq_getElem_cons h,ed]
theorem ed_drop (d:Val→Val→Int) {a b:List Val} {i j:Nat} (h:i < a.length) (k:j < b.length):ed d (a.drop i) (b.drop j) = m3 (ed d (a.drop (i + 1)) (b.drop j) + nd a[i]) (ed d (a.drop i) (b.drop (j + 1)) + nd b[j]) (ed d (a.drop (i + 1)) (b.drop (j + 1)) + d a[i] b[j]):=by
 conv=>lhs; rw [List.drop_eq_getElem_cons h,List.drop_eq_getElem_cons k]
 rw [ed,← List.drop_eq_getElem_cons h,← List.drop_eq_getElem_cons k]
theorem sumN_drop (l:List Val) (i:Nat):sumN (l.drop i)≤sumN l:=by
 have h:=sumN_app (l.take i) (l.drop i)
 rw [List.take_append_drop] at h
 have:=sumN_nn (l.take i)
 omega
theorem edD_b {d:Val→Val→Int} (hd:∀ x y,0≤d x y) (a b:List Val) (i j:Nat):0≤ed d (a.drop i) (b.drop j)∧ed d (a.drop i) (b.drop j)≤sumN a + sumN b:=by
 refine ⟨ed_nn hd _ _,?_⟩
 have h:=ed_le d (a.drop i) (b.drop j)
 have h1:=sumN_drop a i
 have h2:=sumN_drop b j
 exact Int.le_trans h (by omega)
end Go.Df
end
section
namespace Go.Proofs.YtfeniggadfkakaaDoor
open Go Go.SX Go.Ck Go.Vl
set_option maxRecDepth 100000
set_option maxHeartbeats 1000000
section
variable [G:Globs]
theorem w_sizeD (a:Val) (hn:(sizV a).2≤1000000000) (hl:∀ x ∈ a.l,PSpec Tryd.prog 16 [.agg (encVal x)] (.tup [.i .i64 (sizV x).1,.i .i64 (sizV x).2])) (he:∀ x ∈ a.e,PSpec Tryd.prog 16 [.agg (encVal x.2)] (.tup [.i .i64 (sizV x.2).1,.i .i64 (sizV x.2).2])):vc Tryd.prog Γ 56 [1,2,3,4,5,7,8,9,11,12,13,15,16,17,18,34,35,36,37] (Tryd.f16.body.getD .skip) (postK Γ [.tmp 2,.tmp 3] (fun v=>v = .tup [.i .i64 (sizV a).1,.i .i64 (sizV a).2])) ⟨argSlots 0 [.agg (encVal a)],[]⟩:=by
 intro hll
 have hlen:=siz_len a
 refine eX [] (eX [] (eX [] (eX Nat (eX (fun i=>i≤a.l.length) (eX (fun i=>⟨[(1,.pt 1 0),(4,.i .i64 (foldS (a.l.take i) (0,1)).1),(5,.i .i64 (foldS (a.l.take i) (0,1)).2),(15,.rd .val a.l),(16,.i .i64 a.l.length),(17,.i .i64 i)],[(1,encVal a)]⟩) (eX (fun i=>a.l.length - i) (eX 0 (aN (Nat.zero_le _) (aN ?_ ?_)))))))))
 ·exact wK
 ·rintro i hi
  refine aN (fun hz=>?_) (fun hz=>?_)
  ·have hi:=ltD hz
   have hg:=getI (τ:=.val) hi
   refine bN2 ?_
   rw [hg]
   have hs:=hl a.l[i] (List.getElem_mem hi)
   refine Or.inl (eX _ (aN (hs) ?_))
   have e1:foldS (a.l.take (i + 1)) (0,1) = addS (foldS (a.l.take i) (0,1)) (sizV a.l[i]):=by rw [take_snoc hi,foldS_snoc]
   have h1:=siz_pre (v:=a) (l:=a.l.take i) (k:=a.l.drop i++a.e.map (·.2)) (by rw [← List.append_assoc,List.take_append_drop]; rfl)
   have h2:=siz_pre (v:=a) (l:=a.l.take (i + 1)) (k:=a.l.drop (i + 1)++a.e.map (·.2)) (by rw [← List.append_assoc,List.take_append_drop]; rfl)
   have e2:(foldS (a.l.take (i + 1)) (0,1)).2 = (foldS (a.l.take i) (0,1)).2 + (sizV a.l[i]).2:=congrArg (·.2) e1
   have e3:(foldS (a.l.take (i + 1)) (0,1)).1 = _:=congrArg (·.1) e1
   (refine rNG ?_)
   (refine rNG ?_)
   refine eX [] (eX (i + 1) (aN hi (aN ?_ ?_)))
   ·(repeat' (first | exact wA | exact Or.inl ((congrArg (fun p:Int × Int=>AV.i .i64 p.1) e1.symm)) | exact Or.inl ((congrArg (fun p:Int × Int=>AV.i .i64 p.2) e1.symm)) | refine aN ?_ ?_))
   ·show a.l.length - (i + 1) < a.l.length - i
    omega
  ·have hi:=geD hi hz
   subst hi
   rw [List.take_length]
   intro hle
   refine eX [] (eX [] (eX [] (eX Nat (eX (fun i=>i≤a.e.length) (eX (fun i=>⟨[(4,.i .i64 (foldS (a.l++(a.e.take i).map (·.2)) (0,1)).1),(5,.i .i64 (foldS (a.l++(a.e.take i).map (·.2)) (0,1)).2),(34,.rd .ent a.e),(35,.i .i64 a.e.length),(36,.i .i64 i)],[]⟩) (eX (fun i=>a.e.length - i) (eX 0 (aN (Nat.zero_le _) (aN ?_ ?_)))))))))
   ·have e0:foldS (a.l++(a.e.take 0).map (·.2)) (0,1) = foldS a.l (0,1):=by rw [List.take_zero,List.map_nil,List.append_nil]
    (repeat' (first | exact wA | exact Or.inl ((congrArg (fun p:Int × Int=>AV.i .i64 p.1) e0.symm)) | exact Or.inl ((congrArg (fun p:Int × Int=>AV.i .i64 p.2) e0.symm)) | refine aN ?_ ?_))
   ·rintro i hi
    refine aN (fun hz=>?_) (fun hz=>?_)
    ·have hi:=ltD hz
     have hg:=getI (τ:=.ent) hi
     refine bN2 ?_
     rw [hg]
     have hs:=he a.e[i] (List.getElem_mem hi)
     refine Or.inl (eX _ (aN (hs) ?_))
     have hsn:a.l++(a.e.take (i + 1)).map (·.2) = (a.l++(a.e.take i).map (·.2))++[a.e[i].2]:=by rw [take_snoc hi,List.map_append,← List.append_assoc]; rfl
     have e1:foldS (a.l++(a.e.take (i + 1)).map (·.2)) (0,1) = addS (foldS (a.l++(a.e.take i).map (·.2)) (0,1)) (sizV a.e[i].2):=by rw [hsn,foldS_snoc]
     have h1:=siz_pre (v:=a) (l:=a.l++(a.e.take i).map (·.2)) (k:=(a.e.drop i).map (·.2)) (by rw [List.append_assoc,← List.map_append,List.take_append_drop]; rfl)
     have h2:=siz_pre (v:=a) (l:=a.l++(a.e.take (i + 1)).map (·.2)) (k:=(a.e.drop (i + 1)).map (·.2)) (by rw [List.append_assoc,← List.map_append,List.take_append_drop]; rfl)
     have e2:(foldS (a.l++(a.e.take (i + 1)).map (·.2)) (0,1)).2 = (foldS (a.l++(a.e.take i).map (·.2)) (0,1)).2 + (sizV a.e[i].2).2:=congrArg (·.2) e1
     (refine rNG ?_)
     (refine rNG ?_)
     refine eX [] (eX (i + 1) (aN hi (aN ?_ ?_)))
     ·(repeat' (first | exact wA | exact Or.inl ((congrArg (fun p:Int × Int=>AV.i .i64 p.1) e1.symm)) | exact Or.inl ((congrArg (fun p:Int × Int=>AV.i .i64 p.2) e1.symm)) | refine aN ?_ ?_))
     ·show a.e.length - (i + 1) < a.e.length - i
      omega
    ·have hi:=geD hi hz
     subst hi
     rw [List.take_length]
     have h1:=siz_pre (v:=a) (l:=a.l++a.e.map (·.2)) (k:=[]) (by rw [List.append_nil]; rfl)
     (refine rNG ?_)
     rw [sizV_eq]
     rfl
theorem s_sizeD (a:Val) (hn:(sizV a).2≤1000000000) (hl:∀ x ∈ a.l,PSpec Tryd.prog 16 [.agg (encVal x)] (.tup [.i .i64 (sizV x).1,.i .i64 (sizV x).2])) (he:∀ x ∈ a.e,PSpec Tryd.prog 16 [.agg (encVal x.2)] (.tup [.i .i64 (sizV x.2).1,.i .i64 (sizV x.2).2])):PSpec Tryd.prog 16 [.agg (encVal a)] (.tup [.i .i64 (sizV a).1,.i .i64 (sizV a).2]) :=
 pspec_of_vc Γ_good Tryd.func16 rfl Tryd.call16 Tryd.results16 Tryd.ntmps16 (Nat.le_of_ble_eq_true rfl) (w_sizeD a hn hl he)
theorem s_SizeD:∀ (n:Nat) (y:Val),SizeOf.sizeOf y < n→(sizV y).2≤1000000000→PSpec Tryd.prog 16 [.agg (encVal y)] (.tup [.i .i64 (sizV y).1,.i .i64 (sizV y).2]):=by
 intro n
 induction n with
 | zero=>intro y h; exact absurd h (Nat.not_lt_zero _)
 | succ n ih =>
  intro y h hn
  refine s_sizeD y hn (fun x hx=>ih x (by have:=val_sz_l hx; omega) ?_) (fun x hx=>ih x.2 (by have:=val_sz_e hx; omega) ?_)
  ·have:=(siz_parts y).2 x (List.mem_append_left _ hx); omega
  ·have:=(siz_parts y).2 x.2 (List.mem_append_right _ (List.mem_map.2 ⟨x,hx,rfl⟩)); omega
end
end Go.Proofs.YtfeniggadfkakaaDoor
end
section
namespace Go.Proofs.YtfeniggadfkakaaDoor
open Go Go.SX Go.Vl Go.Ck Go.Up Go.Df
set_option maxRecDepth 100000
set_option maxHeartbeats 4000000
section
variable [G:Globs]
theorem w_farD1 (n:Nat) (a b:Val) (ca cb:Int) (oa:OKV ca a) (ob:OKV cb b) (ha:VB a) (hb:VB b) (na:nd a≤1000) (nb:nd b≤1000) (ihl:∀ x ∈ a.l,∀ y ∈ b.l,PSpec Tryd.prog 10 [.agg (encVal x),.agg (encVal y)] (.i .i64 (farF n x y))) (ihe:∀ x ∈ a.e,∀ y ∈ b.e,PSpec Tryd.prog 10 [.agg (encVal x.2),.agg (encVal y.2)] (.i .i64 (farF n x.2 y.2))):vc Tryd.prog Γ 251 [2,3,4,6,8,9,11,12,14,16,18,19,20,22,23,25,26,27,29,30,31,32,45,55,61,63,64,65,66,75,98,99,100,101,109,131,158,193,220,241] (Tryd.f10.body.getD .skip) (postK Γ [.tmp 4] (fun v=>v = .i .i64 (farF (n + 1) a b))) ⟨argSlots 0 [.agg (encVal a),.agg (encVal b)],[]⟩:=by
 have hC:=s_same a b ha hb
 have hNa:=s_SizeD _ a (Nat.lt_succ_self _) (show nd a≤1000000000 by omega)
 have hNb:=s_SizeD _ b (Nat.lt_succ_self _) (show nd b≤1000000000 by omega)
 have ka:=oa.kind
 have kb:=ob.kind
 have sla:=sum_l a
 have slb:=sum_l b
 have pl:=sumN_nn a.l
 have pe:=sumN_nn (a.e.map (·.2))
 have ql:=sumN_nn b.l
 have qe:=sumN_nn (b.e.map (·.2))
 rw [List.length_map] at pe qe
 refine Or.inl (eX _ (aN (hNa) ?_))
 refine Or.inl (eX _ (aN (hNb) ?_))
 refine Or.inl (eX _ (aN (hC) ?_))
 by_cases h0:cmpV a b = 0
 ·rw [show farF (n + 1) a b = 0 by rw [farF,if_pos h0]]
  refine aN (fun _=>rfl) (fun h=>absurd h0 (of_decide_eq_false h))
 refine aN (fun h=>absurd (of_decide_eq_true h) h0) (fun _=>?_)
 by_cases k6:a.kind = 6∧b.kind = 6
 ·rw [farF_tab n h0 k6]
  have hA:∀ x ∈ a.e,0≤tabA (farF n) b.e x∧tabA (farF n) b.e x≤2000000:=fun x hx=>by
   refine ⟨tabA_nn (far_nn n) _ _,?_⟩
   have h1:=nd_e hx
   unfold tabA
   split
   ·rename_i hh
    have hi:=ix_bound (l:=b.e) (q:=keyIs x.1) (by omega)
    refine far_small n (by omega) ?_
    rw [List.getD_eq_getElem?_getD,List.getElem?_eq_getElem hi.2.1]
    have:=nd_e (List.getElem_mem hi.2.1)
    show nd b.e[(ixI b.e (keyIs x.1)).toNat].2≤1000
    omega
   ·omega
  have hB:∀ x ∈ b.e,0≤tabB a.e x∧tabB a.e x≤1000:=fun x hx=>by
   have h1:=nd_e hx
   have h2:=tabB_b a.e x
   omega
  have sA:=fun i=>sum_lim (tabA (farF n) b.e) 2000000 (a.e.take i) fun x hx=>hA x (List.mem_of_mem_take hx)
  have sB:=fun i=>sum_lim (tabB a.e) 1000 (b.e.take i) fun x hx=>hB x (List.mem_of_mem_take hx)
  have lA:∀ i,((a.e.take i).length:Int)≤1000:=fun i=>by rw [List.length_take]; omega
  have lB:∀ i,((b.e.take i).length:Int)≤1000:=fun i=>by rw [List.length_take]; omega
  have TA:∀ i,0≤((a.e.take i).map (tabA (farF n) b.e)).sum∧((a.e.take i).map (tabA (farF n) b.e)).sum≤2000000000:=fun i=>by have:=sA i; have:=lA i; omega
  have TB:∀ i,0≤((b.e.take i).map (tabB a.e)).sum∧((b.e.take i).map (tabB a.e)).sum≤1000000:=fun i=>by have:=sB i; have:=lB i; omega
  (repeat' (first | (refine aN (fun h=>?_) (fun h=>?_)<;>(try simp [-List.getD_eq_getElem?_getD,-Int.pred_toNat] at h)<;>(try (exfalso; first | omega | contradiction))) | refine bX ?_ | intro _))
  refine eX [] (eX [] (eX [] (eX Nat (eX (fun i=>i≤(a.e).length) (eX (fun i=>⟨[(2,.pt 2 0),(3,.pt 3 0),(9,.i .i64 ((a.e.take i).map (tabA (farF n) b.e)).sum),(63,.rd .ent a.e),(64,.i .i64 a.e.length),(65,.i .i64 i)],[(2,encVal a),(3,encVal b)]⟩) (eX (fun i=>(a.e).length - i) (eX 0 (aN (Nat.zero_le _) (aN ?_ ?_)))))))))
  ·exact wK
  rintro i hi
  refine aN (fun hz=>?_) (fun hz=>?_)
  ·have hi:=ltD hz
   have hg:=getI (τ:=.ent) hi
   refine bN2 ?_
   rw [hg]
   have hm:=List.getElem_mem hi
   have hS:=sum_snoc (tabA (farF n) b.e) a.e hi
   have t1:=TA i
   have t2:=hA _ hm
   have hnx:=nd_e hm
   have hF:=s_entAt b.e a.e[i].1
   refine Or.inl (eX _ (aN (hF) ?_))
   refine aN (fun hc=>?_) (fun hc=>?_)
   ·have hc:¬ 0≤ixI b.e (keyIs a.e[i].1):=by have:=of_decide_eq_true hc; omega
    have hT:tabA (farF n) b.e a.e[i] = (sizV a.e[i].2).2:=if_neg hc
    have hN:=s_SizeD _ a.e[i].2 (Nat.lt_succ_self _) (show nd a.e[i].2≤1000000000 by omega)
    rw [← hT] at hN
    refine Or.inl (eX _ (aN (hN) ?_))
    (refine rNG ?_)
    (refine rNG ?_)
    refine eX [] (eX (_ + 1) (aN hi (aN ?_ ?_)))
    ·(repeat' (first | exact wA | exact Or.inl (congrArg (AV.i .i64) hS.symm) | refine aN ?_ ?_))
    ·(exact Nat.sub_lt_sub_left (by omega) (by omega))
   ·have hc:0≤ixI b.e (keyIs a.e[i].1):=by have:=of_decide_eq_false hc; omega
    have hb':=ix_bound (l:=b.e) (q:=keyIs a.e[i].1) (by omega)
    have hT:tabA (farF n) b.e a.e[i] = farF n a.e[i].2 (b.e.getD (ixI b.e (keyIs a.e[i].1)).toNat (dflt .ent)).2:=if_pos hc
    have hgd:b.e.getD (ixI b.e (keyIs a.e[i].1)).toNat (dflt .ent) = b.e[(ixI b.e (keyIs a.e[i].1)).toNat]'hb'.2.1:=by rw [List.getD_eq_getElem?_getD,List.getElem?_eq_getElem hb'.2.1]; rfl
    have hI:=ihe _ hm _ (List.getElem_mem hb'.2.1)
    rw [← hgd,← hT] at hI
    refine eX [.blk [0,1,2,3,4,5,6,7,8,9,10,11]] (aN (by kernel_rfl) ?_)
    refine bN2 ?_
    refine eX _ (aN (hI) ?_)
    (refine rNG ?_)
    (refine rNG ?_)
    refine eX [] (eX (_ + 1) (aN hi (aN ?_ ?_)))
    ·(repeat' (first | exact wA | exact Or.inl (congrArg (AV.i .i64) hS.symm) | refine aN ?_ ?_))
    ·(exact Nat.sub_lt_sub_left (by omega) (by omega))
  ·(have hi:=geD hi hz)
   subst hi
   rw [List.take_length]
   have ta:=TA a.e.length
   rw [List.take_length] at ta
   unfold tabF
   generalize (a.e.map (tabA (farF n) b.e)).sum = Z at *
   (repeat' (first | (refine aN (fun h=>?_) (fun h=>?_)<;>(try simp [-List.getD_eq_getElem?_getD,-Int.pred_toNat] at h)<;>(try (exfalso; first | omega | contradiction))) | refine bX ?_ | intro _))
   refine eX [] (eX [] (eX [] (eX Nat (eX (fun i=>i≤b.e.length) (eX (fun i=>⟨[(2,.pt 2 0),(9,.i .i64 (Z + ((b.e.take i).map (tabB a.e)).sum)),(98,.rd .ent b.e),(99,.i .i64 b.e.length),(100,.i .i64 i)],[(2,encVal a)]⟩) (eX (fun i=>b.e.length - i) (eX 0 (aN (Nat.zero_le _) (aN ?_ ?_)))))))))
   ·(repeat' (first | exact wA | exact Or.inl ((congrArg (AV.i .i64) (Int.add_zero Z).symm)) | refine aN ?_ ?_))
   rintro i hi
   refine aN (fun hz=>?_) (fun hz=>?_)
   ·have hi:=ltD hz
    have hg:=getI (τ:=.ent) hi
    refine bN2 ?_
    rw [hg]
    have hm:=List.getElem_mem hi
    have hS:=sum_snoc (tabB a.e) b.e hi
    have t1:=TB i
    have t2:=hB _ hm
    have hnx:=nd_e hm
    have hF:=s_entAt a.e b.e[i].1
    refine Or.inl (eX _ (aN (hF) ?_))
    refine aN (fun hc=>?_) (fun hc=>?_)
    ·have hc:ixI a.e (keyIs b.e[i].1) < 0:=of_decide_eq_true hc
     have hT:tabB a.e b.e[i] = (sizV b.e[i].2).2:=if_pos hc
     have hN:=s_SizeD _ b.e[i].2 (Nat.lt_succ_self _) (show nd b.e[i].2≤1000000000 by omega)
     rw [← hT] at hN
     refine Or.inl (eX _ (aN (hN) ?_))
     (refine rNG ?_)
     (refine rNG ?_)
     refine eX [] (eX (_ + 1) (aN hi (aN ?_ ?_)))
     ·(repeat' (first | exact wA | exact Or.inl (congrArg (AV.i .i64) (by rw [hS,Int.add_assoc])) | refine aN ?_ ?_))
     ·(exact Nat.sub_lt_sub_left (by omega) (by omega))
    ·have hc:¬ ixI a.e (keyIs b.e[i].1) < 0:=of_decide_eq_false hc
     have hT:tabB a.e b.e[i] = 0:=if_neg hc
     rw [hT] at hS
     (refine rNG ?_)
     refine eX [] (eX (_ + 1) (aN hi (aN ?_ ?_)))
     ·(repeat' (first | exact wA | exact Or.inl (congrArg (AV.i .i64) (by rw [hS,Int.add_zero])) | refine aN ?_ ?_))
     ·(exact Nat.sub_lt_sub_left (by omega) (by omega))
   ·(have hi:=geD hi hz)
    subst hi
    rw [List.take_length]
    exact rfl
 ·by_cases k5:a.kind = 5∧b.kind = 5
  ·rw [farF_list n h0 k6 k5]
   have tn:∀ k:Nat,((k:Int) + 1).toNat = k + 1:=fun k=>by omega
   generalize hd:farF n = d at *
   have dnn:∀ x y,0≤d x y:=fun x y=>by rw [← hd]; exact far_nn n x y
   have dle:∀ x ∈ a.l,∀ y ∈ b.l,d x y≤2000000:=fun x hx y hy=>by rw [← hd]; exact far_small n (by have:=nd_l hx; omega) (by have:=nd_l hy; omega)
   (repeat' (first | (refine aN (fun h=>?_) (fun h=>?_)<;>(try simp [-List.getD_eq_getElem?_getD,-Int.pred_toNat] at h)<;>(try (exfalso; first | omega | contradiction))) | refine bX ?_ | intro _))
   refine aN ⟨by omega,by omega,by omega,show ((b.l.length:Int) + 1).toNat * 8≤140737488355328 by omega⟩ ?_
   rw [tn]
   have hz0:List.replicate (b.l.length + 1) (0:Int) = backTo d a.l b.l a.l.length b.l.length:=by
    rw [← backTo_set d a.l b.l a.l.length (Nat.lt_succ_self _),backTo_none,List.drop_length,List.drop_length,ed]
    simp [List.replicate_succ']
   (repeat' (first | (refine aN (fun h=>?_) (fun h=>?_)<;>(try simp [-List.getD_eq_getElem?_getD,-Int.pred_toNat] at h)<;>(try (exfalso; first | omega | contradiction))) | refine bX ?_ | intro _))
   refine eX [] (eX [] (eX [(125,19)] (eX Nat (eX (fun c=>c≤b.l.length) (eX (fun c=>⟨[(2,.pt 2 0),(3,.pt 3 0),(19,.vec 19 .int (backTo d a.l b.l a.l.length c)),(20,.i .i64 ((c:Int) - 1))],[(2,encVal a),(3,encVal b)]⟩) (eX (fun c=>c) (eX b.l.length (aN (Nat.le_refl _) (aN ?_ ?_)))))))))
   ·(repeat' (first | exact wA | exact Or.inl ((congrArg (AV.vec 19 .int) hz0)) | refine aN ?_ ?_))
   rintro c hc
   refine aN (fun hz=>?_) (fun hz=>?_)
   ·obtain ⟨m,rfl⟩:∃ m,c = m + 1:=⟨c - 1,by have:=of_decide_eq_true hz; omega⟩
    have hm:m < b.l.length:=by omega
    have tm:(((m + 1:Nat):Int) - 1).toNat = m:=by omega
    have tm1:(((m + 1:Nat):Int) - 1 + 1).toNat = m + 1:=by omega
    have hnb:=nd_mem b.l (List.getElem_mem hm)
    have hpb:=nd_pos b.l[m]
    have hN:=s_SizeD _ b.l[m] (Nat.lt_succ_self _) (show nd b.l[m]≤1000000000 by omega)
    have hg:b.l.getD (((m + 1:Nat):Int) - 1).toNat (dflt .val) = b.l[m]:=by rw [tm,List.getD_eq_getElem?_getD,List.getElem?_eq_getElem hm]; rfl
    have hr:(backTo d a.l b.l a.l.length (m + 1)).getD (((m + 1:Nat):Int) - 1 + 1).toNat (dflt .int) = ed d (a.l.drop a.l.length) (b.l.drop (m + 1)):=by rw [tm1]; exact backTo_get d a.l b.l _ (Nat.le_refl _) (by omega)
    have hbl:=backTo_len d a.l b.l a.l.length (show m + 1≤b.l.length + 1 by omega)
    have hset:=backTo_set d a.l b.l a.l.length (show m < b.l.length + 1 by omega)
    rw [ed_drop_nil d a.l hm] at hset
    have eb:=edD_b dnn a.l b.l a.l.length (m + 1)
    have hnb:(sizV b.l[m]).2≤sumN b.l:=hnb
    have hpb:1≤(sizV b.l[m]).2:=hpb
    rw [← hr] at eb hset
    refine bN2 ?_
    rw [hg]
    refine Or.inl (eX _ (aN (hN) ?_))
    (refine rNG ?_)
    refine bN2 ?_
    (refine rNG ?_)
    refine bN2 ?_
    rw [tm]
    (refine rNG ?_)
    refine eX [] (eX m (aN (Nat.le_of_lt hm) (aN ?_ ?_)))
    ·(repeat' (first | exact wA | exact Or.inl ((congrArg (AV.vec 19 .int) hset)) | exact Or.inl ((congrArg (AV.i .i64) (show ((m + 1:Nat):Int) - 1 - 1 = (m:Int) - 1 by omega))) | refine aN ?_ ?_))
    ·exact Nat.lt_succ_self m
   ·have hc0:c = 0:=by have:=of_decide_eq_false hz; omega
    subst hc0
    rw [backTo_all]
    (repeat' (first | (refine aN (fun h=>?_) (fun h=>?_)<;>(try simp [-List.getD_eq_getElem?_getD,-Int.pred_toNat] at h)<;>(try (exfalso; first | omega | contradiction))) | refine bX ?_ | intro _))
    refine eX [] (eX [] (eX [] (eX Nat (eX (fun c=>c≤a.l.length) (eX (fun c=>⟨[(2,.pt 2 0),(3,.pt 3 0),(19,.vec 19 .int (rowD d a.l b.l c)),(23,.i .i64 ((c:Int) - 1))],[(2,encVal a),(3,encVal b)]⟩) (eX (fun c=>c) (eX a.l.length (aN (Nat.le_refl _) (aN ?_ ?_)))))))))
    ·exact wK
    rintro c hc
    have hrl:=rowD_len d a.l b.l c
    refine aN (fun hz=>?_) (fun hz=>?_)
    ·obtain ⟨m,rfl⟩:∃ m,c = m + 1:=⟨c - 1,by have:=of_decide_eq_true hz; omega⟩
     have hm:m < a.l.length:=by omega
     have tm:(((m + 1:Nat):Int) - 1).toNat = m:=by omega
     have hna:=nd_mem a.l (List.getElem_mem hm)
     have hpa:=nd_pos a.l[m]
     have hN:=s_SizeD _ a.l[m] (Nat.lt_succ_self _) (show nd a.l[m]≤1000000000 by omega)
     have hg:a.l.getD (((m + 1:Nat):Int) - 1).toNat (dflt .val) = a.l[m]:=by rw [tm,List.getD_eq_getElem?_getD,List.getElem?_eq_getElem hm]; rfl
     have hna:(sizV a.l[m]).2≤sumN a.l:=hna
     have hpa:1≤(sizV a.l[m]).2:=hpa
     have eb:=edD_b dnn a.l b.l (m + 1) b.l.length
     have hre:(rowD d a.l b.l (m + 1)).getD ((b.l.length:Nat):Int).toNat (dflt .int) = ed d (a.l.drop (m + 1)) (b.l.drop b.l.length):=rowD_get d a.l b.l (m + 1) (Nat.lt_succ_self _)
     have hset:=backTo_set d a.l b.l m (Nat.lt_succ_self b.l.length)
     rw [backTo_none,ed_drop_end d b.l hm] at hset
     refine bN2 ?_
     rw [hg]
     refine Or.inl (eX _ (aN (hN) ?_))
     (repeat' (first | (refine aN (fun h=>?_) (fun h=>?_)<;>(try simp [-List.getD_eq_getElem?_getD,-Int.pred_toNat] at h)<;>(try (exfalso; first | omega | contradiction))) | refine bX ?_ | intro _))
     refine aN ⟨by omega,by omega,by omega,show ((b.l.length:Int) + 1).toNat * 8≤140737488355328 by omega⟩ ?_
     rw [tn]
     have hrep:(List.replicate (b.l.length + 1) (0:Int)).length = b.l.length + 1:=List.length_replicate
     rw [← hre] at eb hset
     refine eX [.blk [0,1,2,3,4,5,6,7,8,9,10,11,12],.one 13] (aN (by kernel_rfl) ?_)
     refine bN2 ?_
     (refine rNG ?_)
     refine bN2 ?_
     (repeat' (first | (refine aN (fun h=>?_) (fun h=>?_)<;>(try simp [-List.getD_eq_getElem?_getD,-Int.pred_toNat] at h)<;>(try (exfalso; first | omega | contradiction))) | refine bX ?_ | intro _))
     refine eX [] (eX [] (eX [(174,26)] (eX Nat (eX (fun c=>c≤b.l.length) (eX (fun c=>⟨[(2,.pt 2 0),(3,.pt 3 0),(19,.vec 19 .int (rowD d a.l b.l (m + 1))),(23,.i .i64 (((m + 1:Nat):Int) - 1)),(25,.i .i64 (sizV a.l[m]).2),(26,.vec 26 .int (backTo d a.l b.l m c)),(27,.i .i64 ((c:Int) - 1))],[(2,encVal a),(3,encVal b)]⟩) (eX (fun c=>c) (eX b.l.length (aN (Nat.le_refl _) (aN ?_ ?_)))))))))
     ·(repeat' (first | exact wA | exact Or.inl ((congrArg (AV.vec 26 .int) hset)) | refine aN ?_ ?_))
     rintro c hc
     have hbl:=backTo_len d a.l b.l m (show c≤b.l.length + 1 by omega)
     refine aN (fun hz=>?_) (fun hz=>?_)
     ·obtain ⟨k,rfl⟩:∃ k,c = k + 1:=⟨c - 1,by have:=of_decide_eq_true hz; omega⟩
      have hk:k < b.l.length:=by omega
      have tk:(((k + 1:Nat):Int) - 1).toNat = k:=by omega
      have tk1:(((k + 1:Nat):Int) - 1 + 1).toNat = k + 1:=by omega
      have hnb:=nd_mem b.l (List.getElem_mem hk)
      have hpb:=nd_pos b.l[k]
      have hNb:=s_SizeD _ b.l[k] (Nat.lt_succ_self _) (show nd b.l[k]≤1000000000 by omega)
      have hgb:b.l.getD (((k + 1:Nat):Int) - 1).toNat (dflt .val) = b.l[k]:=by rw [tk,List.getD_eq_getElem?_getD,List.getElem?_eq_getElem hk]; rfl
      have hnb:(sizV b.l[k]).2≤sumN b.l:=hnb
      have hpb:1≤(sizV b.l[k]).2:=hpb
      have hF:=ihl a.l[m] (List.getElem_mem hm) b.l[k] (List.getElem_mem hk)
      have hF1:=dle a.l[m] (List.getElem_mem hm) b.l[k] (List.getElem_mem hk)
      have hF0:=dnn a.l[m] b.l[k]
      have r1:(rowD d a.l b.l (m + 1)).getD (((k + 1:Nat):Int) - 1).toNat (dflt .int) = ed d (a.l.drop (m + 1)) (b.l.drop k):=by rw [tk]; exact rowD_get d a.l b.l (m + 1) (by omega)
      have r2:(backTo d a.l b.l m (k + 1)).getD (((k + 1:Nat):Int) - 1 + 1).toNat (dflt .int) = ed d (a.l.drop m) (b.l.drop (k + 1)):=by rw [tk1]; exact backTo_get d a.l b.l m (Nat.le_refl _) (by omega)
      have r3:(rowD d a.l b.l (m + 1)).getD (((k + 1:Nat):Int) - 1 + 1).toNat (dflt .int) = ed d (a.l.drop (m + 1)) (b.l.drop (k + 1)):=by rw [tk1]; exact rowD_get d a.l b.l (m + 1) (by omega)
      have e1:=edD_b dnn a.l b.l (m + 1) k
      have e2:=edD_b dnn a.l b.l m (k + 1)
      have e3:=edD_b dnn a.l b.l (m + 1) (k + 1)
      have hset:=backTo_set d a.l b.l m (show k < b.l.length + 1 by omega)
      rw [ed_drop d hm hk,← r1,← r2,← r3] at hset
      rw [← r1] at e1
      rw [← r2] at e2
      rw [← r3] at e3
      have hset:(backTo d a.l b.l m (k + 1)).set k (m3 ((rowD d a.l b.l (m + 1)).getD (((k + 1:Nat):Int) - 1).toNat (dflt .int) + (sizV a.l[m]).2) ((backTo d a.l b.l m (k + 1)).getD (((k + 1:Nat):Int) - 1 + 1).toNat (dflt .int) + (sizV b.l[k]).2) ((rowD d a.l b.l (m + 1)).getD (((k + 1:Nat):Int) - 1 + 1).toNat (dflt .int) + d a.l[m] b.l[k])) = backTo d a.l b.l m k:=hset
      have hlast:((k + 1:Nat):Int) - 1 - 1 = (k:Int) - 1:=by omega
      refine bN2 ?_
      rw [hgb]
      refine Or.inl (eX _ (aN (hNb) ?_))
      refine bN2 ?_
      (refine rNG ?_)
      (refine rNG ?_)
      refine bN2 ?_
      (refine rNG ?_)
      have hFc:PSpec Tryd.prog 10 [.agg (encVal (a.l.getD (((m + 1:Nat):Int) - 1).toNat (dflt .val))),.agg (encVal (b.l.getD (((k + 1:Nat):Int) - 1).toNat (dflt .val)))] (.i .i64 (d a.l[m] b.l[k])):=by rw [hg,hgb]; exact hF
      generalize (rowD d a.l b.l (m + 1)).getD (((k + 1:Nat):Int) - 1).toNat (dflt .int) = V1 at *
      generalize (backTo d a.l b.l m (k + 1)).getD (((k + 1:Nat):Int) - 1 + 1).toNat (dflt .int) = V2 at *
      refine aN (fun hq=>?_) (fun hq=>?_)
      ·have hq:V2 + (sizV b.l[k]).2 < V1 + (sizV a.l[m]).2:=of_decide_eq_true hq
       refine eX [.blk [0,1,2,3,4,5,6,7,8,9,10,11,12,13,14,15,16,17]] (aN (by kernel_rfl) ?_)
       (refine rNG ?_)
       refine bN2 ?_
       refine bN2 ?_
       refine bN2 ?_
       refine eX _ (aN (hFc) ?_)
       (refine rNG ?_)
       generalize (rowD d a.l b.l (m + 1)).getD (((k + 1:Nat):Int) - 1 + 1).toNat (dflt .int) = V3 at *
       refine aN (fun hw=>?_) (fun hw=>?_)
       ·have hw:V3 + d a.l[m] b.l[k] < V2 + (sizV b.l[k]).2:=of_decide_eq_true hw
        refine bN2 ?_
        rw [tk]
        (refine rNG ?_)
        refine eX [] (eX k (aN (Nat.le_of_lt hk) (aN ?_ ?_)))
        ·(repeat' (first | exact wA | exact Or.inl ((congrArg (AV.vec 26 .int) (show (backTo d a.l b.l m (k + 1)).set k (V3 + d a.l[m] b.l[k]) = backTo d a.l b.l m k by rw [← hset]; unfold m3; rw [if_pos hq,if_pos hw]))) | exact Or.inl ((congrArg (AV.i .i64) hlast)) | refine aN ?_ ?_))
        ·exact Nat.lt_succ_self k
       ·have hw:¬ V3 + d a.l[m] b.l[k] < V2 + (sizV b.l[k]).2:=of_decide_eq_false hw
        refine bN2 ?_
        rw [tk]
        (refine rNG ?_)
        refine eX [] (eX k (aN (Nat.le_of_lt hk) (aN ?_ ?_)))
        ·(repeat' (first | exact wA | exact Or.inl ((congrArg (AV.vec 26 .int) (show (backTo d a.l b.l m (k + 1)).set k (V2 + (sizV b.l[k]).2) = backTo d a.l b.l m k by rw [← hset]; unfold m3; rw [if_pos hq,if_neg hw]))) | exact Or.inl ((congrArg (AV.i .i64) hlast)) | refine aN ?_ ?_))
        ·exact Nat.lt_succ_self k
      ·have hq:¬ V2 + (sizV b.l[k]).2 < V1 + (sizV a.l[m]).2:=of_decide_eq_false hq
       refine eX [.blk [0,1,2,3,4,5,6,7,8,9,10,11,12,13,14,15,16,17]] (aN (by kernel_rfl) ?_)
       (refine rNG ?_)
       refine bN2 ?_
       refine bN2 ?_
       refine bN2 ?_
       refine eX _ (aN (hFc) ?_)
       (refine rNG ?_)
       generalize (rowD d a.l b.l (m + 1)).getD (((k + 1:Nat):Int) - 1 + 1).toNat (dflt .int) = V3 at *
       refine aN (fun hw=>?_) (fun hw=>?_)
       ·have hw:V3 + d a.l[m] b.l[k] < V1 + (sizV a.l[m]).2:=of_decide_eq_true hw
        refine bN2 ?_
        rw [tk]
        (refine rNG ?_)
        refine eX [] (eX k (aN (Nat.le_of_lt hk) (aN ?_ ?_)))
        ·(repeat' (first | exact wA | exact Or.inl ((congrArg (AV.vec 26 .int) (show (backTo d a.l b.l m (k + 1)).set k (V3 + d a.l[m] b.l[k]) = backTo d a.l b.l m k by rw [← hset]; unfold m3; rw [if_neg hq,if_pos hw]))) | exact Or.inl ((congrArg (AV.i .i64) hlast)) | refine aN ?_ ?_))
        ·exact Nat.lt_succ_self k
       ·have hw:¬ V3 + d a.l[m] b.l[k] < V1 + (sizV a.l[m]).2:=of_decide_eq_false hw
        refine bN2 ?_
        rw [tk]
        (refine rNG ?_)
        refine eX [] (eX k (aN (Nat.le_of_lt hk) (aN ?_ ?_)))
        ·(repeat' (first | exact wA | exact Or.inl ((congrArg (AV.vec 26 .int) (show (backTo d a.l b.l m (k + 1)).set k (V1 + (sizV a.l[m]).2) = backTo d a.l b.l m k by rw [← hset]; unfold m3; rw [if_neg hq,if_neg hw]))) | exact Or.inl ((congrArg (AV.i .i64) hlast)) | refine aN ?_ ?_))
        ·exact Nat.lt_succ_self k
     ·have hc0:c = 0:=by have:=of_decide_eq_false hz; omega
      subst hc0
      rw [backTo_all]
      (refine rNG ?_)
      refine eX [(26,19)] (eX m (aN (Nat.le_of_lt hm) (aN ?_ ?_)))
      ·(repeat' (first | exact wA | exact Or.inl ((congrArg (AV.i .i64) (show ((m + 1:Nat):Int) - 1 - 1 = (m:Int) - 1 by omega))) | refine aN ?_ ?_))
      ·exact Nat.lt_succ_self m
    ·have hc0:c = 0:=by have:=of_decide_eq_false hz; omega
     subst hc0
     have hre:=rowD_get d a.l b.l 0 (Nat.succ_pos b.l.length)
     refine bN2 ?_
     exact congrArg (AV.i .i64) hre
  ·rw [farF_not n h0 k6 k5]
   have e:nd a + nd b = (sizV a).2 + (sizV b).2:=rfl
   rw [e]
   have p1:1≤(sizV a).2:=nd_pos a
   have p2:1≤(sizV b).2:=nd_pos b
   have p3:(sizV a).2≤1000:=na
   have p4:(sizV b).2≤1000:=nb
   (repeat' (first | (refine aN (fun h=>?_) (fun h=>?_)<;>(try simp [-List.getD_eq_getElem?_getD,-Int.pred_toNat] at h)<;>(try (exfalso; first | omega | contradiction))) | refine bX ?_ | intro _))
   all_goals exact rfl
theorem s_farD1 (n:Nat) (a b:Val) (ca cb:Int) (oa:OKV ca a) (ob:OKV cb b) (ha:VB a) (hb:VB b) (na:nd a≤1000) (nb:nd b≤1000) (ihl:∀ x ∈ a.l,∀ y ∈ b.l,PSpec Tryd.prog 10 [.agg (encVal x),.agg (encVal y)] (.i .i64 (farF n x y))) (ihe:∀ x ∈ a.e,∀ y ∈ b.e,PSpec Tryd.prog 10 [.agg (encVal x.2),.agg (encVal y.2)] (.i .i64 (farF n x.2 y.2))):PSpec Tryd.prog 10 [.agg (encVal a),.agg (encVal b)] (.i .i64 (farF (n + 1) a b)) :=
 pspec_of_vc Γ_good Tryd.func10 rfl Tryd.call10 Tryd.results10 Tryd.ntmps10 (Nat.le_of_ble_eq_true rfl) (w_farD1 n a b ca cb oa ob ha hb na nb ihl ihe)
theorem s_farD:∀ (n:Nat) (a b:Val) (ca cb:Int),SizeOf.sizeOf a < n→OKV ca a→OKV cb b→VB a→VB b→nd a≤1000→nd b≤1000→PSpec Tryd.prog 10 [.agg (encVal a),.agg (encVal b)] (.i .i64 (farF n a b))
 | 0,_,_,_,_,h=>absurd h (Nat.not_lt_zero _)
 | n + 1, a, b, ca, cb, h => fun oa ob ha hb na nb => s_farD1 n a b ca cb oa ob ha hb na nb
   (fun x hx y hy=>s_farD n x y _ _ (by have:=val_sz_l hx; omega) (oa.l hx) (ob.l hy) (vb_l ha hx) (vb_l hb hy) (by have:=nd_l hx; omega) (by have:=nd_l hy; omega))
   (fun x hx y hy=>s_farD n x.2 y.2 _ _ (by have:=val_sz_e hx; omega) (oa.e hx) (ob.e hy) (vb_e ha hx) (vb_e hb hy) (by have:=nd_e hx; omega) (by have:=nd_e hy; omega))
end
end Go.Proofs.YtfeniggadfkakaaDoor
end
section
namespace Go.Proofs
open Go.Shelf
def Tryd.lays197_ren:Go.Shelf.Ren:=⟨fun | 197=>84 | 260=>88 | n=>n,fun | 9=>9 | 21=>21 | 3=>3 | 4=>4 | 5=>5 | 105=>109 | 119=>117 | 0=>0 | 46=>72 | 139=>120 | 138=>119 | n=>n,fun | 3=>0 | 4=>1 | n=>n⟩
theorem Tryd.lays197:Go.Proofs.Lays.n197 Tryd.prog Tryd.lays197_ren:={
 mixed:=by kernel_rfl
 f197:=Tryd.func84.trans (congrArg some (by kernel_rfl))
 f260:=Tryd.func88.trans (congrArg some (by kernel_rfl))
 t0:=Tryd.underlying0
 a0:=Tryd.isAgg0
 z0:=Tryd.sizeOf0
 v0:=Tryd.zeroValue0
 t3:=Tryd.underlying3
 a3:=Tryd.isAgg3
 z3:=Tryd.sizeOf3
 v3:=Tryd.zeroValue3
 t4:=Tryd.underlying4
 a4:=Tryd.isAgg4
 z4:=Tryd.sizeOf4
 v4:=Tryd.zeroValue4
 t5:=Tryd.underlying5
 a5:=Tryd.isAgg5
 z5:=Tryd.sizeOf5
 v5:=Tryd.zeroValue5
 t9:=Tryd.underlying9
 a9:=Tryd.isAgg9
 z9:=Tryd.sizeOf9
 v9:=Tryd.zeroValue9
 t21:=Tryd.underlying21
 a21:=Tryd.isAgg21
 z21:=Tryd.sizeOf21
 v21:=Tryd.zeroValue21
 t46:=Tryd.underlying72
 a46:=Tryd.isAgg72
 z46:=Tryd.sizeOf72
 v46:=Tryd.zeroValue72
 t105:=Tryd.underlying109
 a105:=Tryd.isAgg109
 z105:=Tryd.sizeOf109
 v105:=Tryd.zeroValue109
 t119:=Tryd.underlying117
 a119:=Tryd.isAgg117
 z119:=Tryd.sizeOf117
 t138:=Tryd.underlying119
 a138:=Tryd.isAgg119
 z138:=Tryd.sizeOf119
 v138:=Tryd.zeroValue119
 t139:=Tryd.underlying120
 a139:=Tryd.isAgg120
 z139:=Tryd.sizeOf120
 v139:=Tryd.zeroValue120
 g3:=by kernel_rfl
 g4:=by kernel_rfl }
def Tryd.lays260_ren:Go.Shelf.Ren:=⟨fun | 260=>88 | n=>n,fun | 9=>9 | 21=>21 | 3=>3 | 4=>4 | 5=>5 | 119=>117 | 0=>0 | 46=>72 | 139=>120 | 138=>119 | n=>n,fun | 3=>0 | 4=>1 | n=>n⟩
theorem Tryd.lays260:Go.Proofs.Lays.n260 Tryd.prog Tryd.lays260_ren:={
 mixed:=by kernel_rfl
 f260:=Tryd.func88.trans (congrArg some (by kernel_rfl))
 t0:=Tryd.underlying0
 a0:=Tryd.isAgg0
 z0:=Tryd.sizeOf0
 v0:=Tryd.zeroValue0
 t3:=Tryd.underlying3
 a3:=Tryd.isAgg3
 z3:=Tryd.sizeOf3
 v3:=Tryd.zeroValue3
 t4:=Tryd.underlying4
 a4:=Tryd.isAgg4
 z4:=Tryd.sizeOf4
 v4:=Tryd.zeroValue4
 t5:=Tryd.underlying5
 a5:=Tryd.isAgg5
 z5:=Tryd.sizeOf5
 v5:=Tryd.zeroValue5
 t9:=Tryd.underlying9
 a9:=Tryd.isAgg9
 z9:=Tryd.sizeOf9
 v9:=Tryd.zeroValue9
 t21:=Tryd.underlying21
 a21:=Tryd.isAgg21
 z21:=Tryd.sizeOf21
 v21:=Tryd.zeroValue21
 t46:=Tryd.underlying72
 a46:=Tryd.isAgg72
 z46:=Tryd.sizeOf72
 v46:=Tryd.zeroValue72
 t119:=Tryd.underlying117
 a119:=Tryd.isAgg117
 z119:=Tryd.sizeOf117
 t138:=Tryd.underlying119
 a138:=Tryd.isAgg119
 z138:=Tryd.sizeOf119
 v138:=Tryd.zeroValue119
 t139:=Tryd.underlying120
 a139:=Tryd.isAgg120
 z139:=Tryd.sizeOf120
 v139:=Tryd.zeroValue120
 g3:=by kernel_rfl
 g4:=by kernel_rfl }
open Go.RowKit Go.Lib in
theorem Tryd.utf8_DecodeRuneInString (s : ByteArray) (w : World) (hT : Lib.Utf8Tabs 0 1 w) :
  Calls Tryd.prog 84 #[.string s] w fun e w'=>e = .returned (.tuple #[.int .i32 (Lib.decodeGo s).1,.int .i64 (Lib.decodeGo s).2])∧Below w.heap.size w w':=Any.utf8_DecodeRuneInString Tryd.lays197 s w hT
end Go.Proofs
end
section
namespace Go.Proofs.YtfeniggadfkakaaDoor
open Go Go.SX Go.Ut Go.RowKit
set_option maxRecDepth 100000
set_option maxHeartbeats 0
def HasU8 [G:Globs]:Prop:=∃ o0 o1:Obj,(0,o0) ∈ G.gl∧(1,o1) ∈ G.gl∧∀ w:World,w.heap[0]? = some o0→w.heap[1]? = some o1→Lib.Utf8Tabs 0 1 w
section
variable [G:Globs]
def decG (s:Str):Nat × Nat:=if s = [] then (65533,0) else decAt s 0
theorem s_Decode (hu:HasU8) (s:Str):PSpec Tryd.prog 84 [.s s] (.tup [.i .i32 (decG s).1,.i .i64 (decG s).2]):=by
 refine ⟨Tryd.call84,fun O w vs hO hG hargs=>?_⟩
 obtain ⟨v0,vs0,rfl,h0,h⟩:=hargs.cons_inv
 obtain rfl:=h.nil_inv
 cases h0
 obtain ⟨o0,o1,m0,m1,ht⟩:=hu
 have hT:=ht w (hG _ m0).2 (hG _ m1).2
 have hd:Lib.decodeGo ⟨s.toArray⟩ = decG s:=by
  unfold Lib.decodeGo decG
  have hsz:(⟨s.toArray⟩:ByteArray).size = s.length:=by simp [ByteArray.size]
  rw [hsz]
  by_cases h:s = []
  ·subst h; rfl
  ·rw [if_neg (by simpa using h),if_neg h]
   exact decAt_eq s 0
 refine (Tryd.utf8_DecodeRuneInString ⟨s.toArray⟩ w hT).mono fun e w' ⟨he,hw⟩=>?_
 subst he
 rw [hd]
 refine ⟨_,rfl,⟨hw.os,hw.tape,hw.output,hw.size,fun k hk _=>hw.block k hk⟩,.tup _ [_,_] rfl fun j av v hav hv=>?_⟩
 match j with
 | 0=>simp at hav hv; subst hav hv; exact .i _ _
 | 1=>simp at hav hv; subst hav hv; exact .i _ _
 | j + 2=>simp at hav
def codeR (s:Str):AV:=.tup [.i .i32 (code s).1,.i .i64 (code s).2]
theorem w_Next (hu:HasU8) (s:Str):vc Tryd.prog Γ 20 [0,2,3,4,5,16] (Tryd.f78.body.getD .skip) (postK Γ [.tmp 2,.tmp 3] (fun v=>v = codeR s)) ⟨argSlots 0 [.s s],[]⟩:=by
 have qd:=s_Decode hu s
 by_cases h:s = []
 ·subst h
  refine Or.inl (eX _ (aN (qd) ?_))
  repeat (first | (focus (refine aN ?_ (fun h9=>?_); rotate_left 1; (focus (exfalso; revert h9; first | decide | (simp<;>omega) | (intro h9; simp at h9<;>omega))); refine fun _=>?_)) | (focus (refine aN (fun h9=>?_) ?_; (focus (exfalso; revert h9; first | decide | (simp<;>omega) | (intro h9; simp at h9<;>omega))); refine fun _=>?_)))
  rfl
 ·have hd:decG s = decAt s 0:=by unfold decG; rw [if_neg h]
  rw [hd] at qd
  have hp:=dec_pos s 0
  by_cases hb:(decAt s 0).1 = 65533∧(decAt s 0).2 = 1
  ·have hc:code s = (-1,1):=by unfold code; rw [if_neg h,if_pos hb]
   rw [hb.1,hb.2] at qd
   unfold codeR
   rw [hc]
   refine Or.inl (eX _ (aN (qd) ?_))
   repeat (first | (focus (refine aN ?_ (fun h9=>?_); rotate_left 1; (focus (exfalso; revert h9; first | decide | (simp<;>omega) | (intro h9; simp at h9<;>omega))); refine fun _=>?_)) | (focus (refine aN (fun h9=>?_) ?_; (focus (exfalso; revert h9; first | decide | (simp<;>omega) | (intro h9; simp at h9<;>omega))); refine fun _=>?_)))
   rfl
  ·have hc:code s = (((decAt s 0).1:Int),(decAt s 0).2):=by unfold code; rw [if_neg h,if_neg hb]
   unfold codeR
   rw [hc]
   refine Or.inl (eX _ (aN (qd) ?_))
   refine aN (fun h1=>?_) (fun h1=>?_)
   ·have h1:(decAt s 0).1 = 65533:=by have:=eq_of_beq h1; omega
    have h2:(decAt s 0).2≠1:=fun e=>hb ⟨h1,e⟩
    refine aN (fun h3=>?_) (fun h3=>?_)
    ·exfalso
     have:(((decAt s 0).2:Int) < 2):=of_decide_eq_true (show decide (((decAt s 0).2:Int) < 2) = true from h3)
     omega
    ·rfl
   ·(focus (refine aN (fun h9=>?_) ?_; (focus (exfalso; revert h9; first | decide | (simp<;>omega) | (intro h9; simp at h9<;>omega))); refine fun _=>?_))
    rfl
theorem s_Next (hu:HasU8) (s:Str):PSpec Tryd.prog 78 [.s s] (codeR s) :=
 pspec_of_vc Γ_good Tryd.func78 rfl Tryd.call78 Tryd.results78 Tryd.ntmps78 (Nat.le_of_ble_eq_true rfl) (w_Next hu s)
theorem w_Scalar (n:Int):vc Tryd.prog Γ 17 [0,2] (Tryd.f83.body.getD .skip) (postK Γ [.tmp 2] (fun v=>v = .b (decide (scalar n)))) ⟨argSlots 0 [.i .i64 n],[]⟩:=by
 repeat' (refine aN (fun h=>?_) (fun h=>?_)<;>(try simp [-List.getD_eq_getElem?_getD,-Int.pred_toNat] at h))
 all_goals
  refine congrArg AV.b ?_
  rw [Bool.eq_iff_iff]
  simp only [cond_true,cond_false,decide_eq_true_eq,Bool.false_eq_true,true_iff,false_iff]
  unfold scalar
  first | omega | (constructor<;>intro h9<;>(try (exfalso; exact h9))<;>omega)
theorem s_Scalar (n:Int):PSpec Tryd.prog 83 [.i .i64 n] (.b (decide (scalar n))) :=
 pspec_of_vc Γ_good Tryd.func83 rfl Tryd.call83 Tryd.results83 Tryd.ntmps83 (Nat.le_of_ble_eq_true rfl) (w_Scalar n)
end
end Go.Proofs.YtfeniggadfkakaaDoor
end
section
namespace Go.Proofs.YtfeniggadfkakaaDoor
open Go Go.SX Go.Ut Go.RowKit
set_option maxRecDepth 100000
set_option maxHeartbeats 0
section
variable [G:Globs]
theorem acc_bnd {s:Str} {r:Int} (h0:0≤r) (h1:r≤63):∀ (i:Nat),i≤4→(∀ j,1≤j→j < i→cont s j)→0≤acc s r i∧acc s r i≤16777215:=by
 intro i hi hc
 have key:∀ j,1≤j→j < i→128≤b8 s j∧b8 s j < 192:=hc
 match i,hi with
 | 0,_=>exact ⟨h0,by simp only [acc]; omega⟩
 | 1,_=>exact ⟨h0,by simp only [acc]; omega⟩
 | 2,_=>have k1:=key 1 (by decide) (by decide); simp only [acc]; omega
 | 3,_=>have k1:=key 1 (by decide) (by decide); have k2:=key 2 (by decide) (by decide); simp only [acc]; omega
 | 4,_=>have k1:=key 1 (by decide) (by decide); have k2:=key 2 (by decide) (by decide); have k3:=key 3 (by decide) (by decide); simp only [acc]; omega
 | i + 5,h=>exfalso; omega
theorem i32_in (n:Int) (h0:0≤n) (h1:n≤2147483647):IntKind.i32.wrap n = n:=IntWalk.i32_in n ⟨by omega,h1⟩
theorem w_Code (s:Str):vc Tryd.prog Γ 90 [0,2,3,4,5,6,7,9,13,19,30,41,55,58,70,86] (Tryd.f77.body.getD .skip) (postK Γ [.tmp 2,.tmp 3] (fun v=>v = codeR s)) ⟨argSlots 0 [.s s],[]⟩:=by
 by_cases h0:s = []
 ·subst h0
  (focus (refine aN ?_ (fun h9=>?_); rotate_left 1; (focus (exfalso; revert h9; first | decide | (simp<;>omega) | (intro h9; simp at h9<;>omega))); refine fun _=>?_))
  rfl
 have hl:1≤s.length:=by cases s with
  | nil=>exact absurd rfl h0
  | cons c r=>simp
 have hb:=b8_rng s 0
 have hw:IntKind.i64.wrap (((s.getD (Int.toNat 0) 0).toNat:Nat):Int) = b8 s 0:=IntWalk.i64_in _ ⟨by show _≤b8 s 0; omega,by show b8 s 0≤_; omega⟩
 refine aN (fun h9=>absurd (eq_of_beq h9) h0) (fun _=>?_)
 rcases (show b8 s 0 < 128∨(128≤b8 s 0∧b8 s 0 < 192)∨(192≤b8 s 0∧b8 s 0 < 224)∨(224≤b8 s 0∧b8 s 0 < 240)∨(240≤b8 s 0∧b8 s 0 < 248)∨248≤b8 s 0 by omega) with hc | hc | hc | hc | hc | hc
 ·refine eX [.blk [0,1,2,3,4,5]] (aN (by kernel_rfl) ?_)
  refine bN2 ?_
  refine bN2 ?_
  rw [hw]
  refine aN (fun _=>?_) (fun h9=>absurd (show b8 s 0 < 128 by omega) (of_decide_eq_false h9))
  rw [codeR,code1 h0 hc]
  show AV.tup [.i .i32 (IntKind.i32.wrap (b8 s 0)),.i .i64 1] = _
  rw [i32_in _ (by omega) (by omega)]
  all_goals rfl
 ·have hbad:code s = (-1,1):=code_bad h0 (by omega)
  refine eX [.blk [0,1,2,3,4,5]] (aN (by kernel_rfl) ?_)
  refine bN2 ?_
  refine bN2 ?_
  rw [hw]
  refine aN (fun h9=>absurd (of_decide_eq_true h9) (show ¬ (b8 s 0 < 128) by omega)) (fun _=>?_)
  refine bN2 ?_
  refine aN (fun h9=>absurd (of_decide_eq_true h9) (show ¬ (192≤b8 s 0) by omega)) (fun _=>?_)
  (focus (refine aN (fun h9=>?_) ?_; (focus (exfalso; revert h9; first | decide | (simp<;>omega) | (intro h9; simp at h9<;>omega))); refine fun _=>?_))
  refine bN2 ?_
  refine aN (fun h9=>absurd (of_decide_eq_true h9) (show ¬ (224≤b8 s 0) by omega)) (fun _=>?_)
  (focus (refine aN (fun h9=>?_) ?_; (focus (exfalso; revert h9; first | decide | (simp<;>omega) | (intro h9; simp at h9<;>omega))); refine fun _=>?_))
  refine bN2 ?_
  refine aN (fun h9=>absurd (of_decide_eq_true h9) (show ¬ (240≤b8 s 0) by omega)) (fun _=>?_)
  (focus (refine aN (fun h9=>?_) ?_; (focus (exfalso; revert h9; first | decide | (simp<;>omega) | (intro h9; simp at h9<;>omega))); refine fun _=>?_))
  rw [codeR,hbad]
  rfl
 ·have hlead:lead s = (2,128,b8 s 0 - 192):=by unfold lead; rw [if_pos (by omega)]
  have hg:good s↔(2≤s.length∧(∀ i,1≤i→i < 2→cont s i)∧128≤acc s (b8 s 0 - 192) 2∧scalar (acc s (b8 s 0 - 192) 2)):=by unfold good; rw [hlead]
  have hbad:¬ good s→code s = (-1,1):=(code_many h0 (by omega) (by omega)).2
  refine eX [.blk [0,1,2,3,4,5]] (aN (by kernel_rfl) ?_)
  refine bN2 ?_
  refine bN2 ?_
  rw [hw]
  refine aN (fun h9=>absurd (of_decide_eq_true h9) (show ¬ (b8 s 0 < 128) by omega)) (fun _=>?_)
  refine bN2 ?_
  refine aN (fun _=>?_) (fun h9=>absurd (show 192≤b8 s 0 by omega) (of_decide_eq_false h9))
  refine bN2 ?_
  refine aN (fun _=>?_) (fun h9=>absurd (show b8 s 0 < 224 by omega) (of_decide_eq_false h9))
  refine bN2 ?_
  intro _
  refine aN (fun hs=>?_) (fun hs=>?_)
  ·have hs:(s.length:Int) < 2:=of_decide_eq_true hs
   show AV.tup [.i .i32 (-1),.i .i64 1] = codeR s
   rw [codeR,hbad (fun h=>by have:=(hg.1 h).1; omega)]
   all_goals rfl
  ·have hs:¬ (s.length:Int) < 2:=of_decide_eq_false hs
   refine eX [] (eX [] (eX [] (eX Nat (eX (fun i=>1≤i∧i≤2∧∀ j,1≤j→j < i→cont s j) (eX (fun i=>⟨[(0,.s s),(4,.i .i64 2),(5,.i .i64 128),(6,.i .i64 (acc s (b8 s 0 - 192) i)),(7,.i .i64 i)],[]⟩) (eX (fun i=>2 - i) (eX 1 (aN ⟨Nat.le_refl _,by decide,fun j h1 h2=>by omega⟩ (aN ?_ ?_)))))))))
   ·exact wK
   ·rintro i ⟨hi1,hin,hcs⟩
    have hab:=acc_bnd (s:=s) (r:=(b8 s 0 - 192)) (by omega) (by omega) i (by omega) hcs
    have hbi:=b8_rng s i
    refine aN (fun hc=>?_) (fun hc=>?_)
    ·have hc:i < 2:=by have:(i:Int) < 2:=of_decide_eq_true hc; omega
     refine bN2 ?_
     refine aN (fun h1=>?_) (fun h1=>?_)
     ·have h1:¬ b8 s i < 128:=of_decide_eq_false h1
      refine bN2 ?_
      refine aN (fun h2=>?_) (fun h2=>?_)
      ·have h2:192≤b8 s i:=of_decide_eq_true h2
       show AV.tup [.i .i32 (-1),.i .i64 1] = codeR s
       rw [codeR,hbad (fun h=>by have:=(hg.1 h).2.1 i hi1 hc; unfold cont at this; omega)]
       all_goals rfl
      ·have h2:¬ 192≤b8 s i:=of_decide_eq_false h2
       have hwi:IntKind.i64.wrap (((s.getD (Int.toNat (i:Int)) 0).toNat:Nat):Int) = b8 s i:=IntWalk.i64_in _ ⟨by show _≤b8 s i; omega,by show b8 s i≤_; omega⟩
       have hacc:acc s (b8 s 0 - 192) (i + 1) = acc s (b8 s 0 - 192) i * 64 + b8 s i - 128:=by
        obtain ⟨k,rfl⟩:∃ k,i = k + 1:=⟨i - 1,by omega⟩
        rfl
       refine bN2 ?_
       refine bN2 ?_
       refine aN ⟨by rw [hwi]; omega,by rw [hwi]; omega⟩ ?_
       rw [hwi]
       refine bN2 ?_
       refine bN2 ?_
       have hcs':∀ j,1≤j→j < i + 1→cont s j:=fun j h3 h4=>by
        rcases Nat.lt_or_ge j i with h | h
        ·exact hcs j h3 h
        ·have:j = i:=by omega
         subst this
         exact ⟨by omega,by omega⟩
       refine eX [] (eX (i + 1) (aN ⟨by omega,by omega,hcs'⟩ (aN ?_ ?_)))
       ·(repeat' (first | exact wA | exact Or.inl (congrArg (AV.i .i64) hacc.symm) | refine aN ?_ ?_))
       ·show 2 - (i + 1) < 2 - i
        omega
     ·have h1:b8 s i < 128:=of_decide_eq_true (show decide (b8 s i < 128) = true from h1)
      (focus (refine aN ?_ (fun h9=>?_); rotate_left 1; (focus (exfalso; revert h9; first | decide | (simp<;>omega) | (intro h9; simp at h9<;>omega))); refine fun _=>?_))
      show AV.tup [.i .i32 (-1),.i .i64 1] = codeR s
      rw [codeR,hbad (fun h=>by have:=(hg.1 h).2.1 i hi1 hc; unfold cont at this; omega)]
      all_goals rfl
    ·have hc:i = 2:=by have:¬ (i:Int) < 2:=of_decide_eq_false hc; omega
     subst hc
     refine aN (fun h1=>?_) (fun h1=>?_)
     ·have h1:¬ acc s (b8 s 0 - 192) 2 < 128:=of_decide_eq_false h1
      refine Or.inl (eX _ (aN (s_Scalar (acc s (b8 s 0 - 192) 2)) ?_))
      refine aN (fun h2=>?_) (fun h2=>?_)
      ·have h2:¬ scalar (acc s (b8 s 0 - 192) 2):=by simpa using h2
       show AV.tup [.i .i32 (-1),.i .i64 1] = codeR s
       rw [codeR,hbad (fun h=>h2 (hg.1 h).2.2.2)]
       all_goals rfl
      ·have h2:scalar (acc s (b8 s 0 - 192) 2):=by simpa using h2
       have hgood:good s:=hg.2 ⟨by omega,hcs,by omega,h2⟩
       have hw2:IntKind.i32.wrap (acc s (b8 s 0 - 192) 2) = acc s (b8 s 0 - 192) 2:=i32_in _ (by omega) (by unfold scalar at h2; omega)
       have hcd:=(code_many h0 (by omega) (by omega)).1 hgood
       rw [hlead] at hcd
       rw [codeR,hcd]
       show AV.tup [.i .i32 (IntKind.i32.wrap (acc s (b8 s 0 - 192) 2)),.i .i64 2] = _
       rw [hw2]
       all_goals rfl
     ·have h1:acc s (b8 s 0 - 192) 2 < 128:=of_decide_eq_true (show decide (acc s (b8 s 0 - 192) 2 < 128) = true from h1)
      (focus (refine aN ?_ (fun h9=>?_); rotate_left 1; (focus (exfalso; revert h9; first | decide | (simp<;>omega) | (intro h9; simp at h9<;>omega))); refine fun _=>?_))
      show AV.tup [.i .i32 (-1),.i .i64 1] = codeR s
      rw [codeR,hbad (fun h=>by have:=(hg.1 h).2.2.1; omega)]
      all_goals rfl
 ·have hlead:lead s = (3,2048,b8 s 0 - 224):=by unfold lead; rw [if_neg (by omega),if_pos (by omega)]
  have hg:good s↔(3≤s.length∧(∀ i,1≤i→i < 3→cont s i)∧2048≤acc s (b8 s 0 - 224) 3∧scalar (acc s (b8 s 0 - 224) 3)):=by unfold good; rw [hlead]
  have hbad:¬ good s→code s = (-1,1):=(code_many h0 (by omega) (by omega)).2
  refine eX [.blk [0,1,2,3,4,5]] (aN (by kernel_rfl) ?_)
  refine bN2 ?_
  refine bN2 ?_
  rw [hw]
  refine aN (fun h9=>absurd (of_decide_eq_true h9) (show ¬ (b8 s 0 < 128) by omega)) (fun _=>?_)
  refine bN2 ?_
  refine aN (fun _=>?_) (fun h9=>absurd (show 192≤b8 s 0 by omega) (of_decide_eq_false h9))
  refine bN2 ?_
  refine aN (fun h9=>absurd (of_decide_eq_true h9) (show ¬ (b8 s 0 < 224) by omega)) (fun _=>?_)
  refine bN2 ?_
  refine aN (fun _=>?_) (fun h9=>absurd (show 224≤b8 s 0 by omega) (of_decide_eq_false h9))
  refine bN2 ?_
  refine aN (fun _=>?_) (fun h9=>absurd (show b8 s 0 < 240 by omega) (of_decide_eq_false h9))
  refine bN2 ?_
  intro _
  refine aN (fun hs=>?_) (fun hs=>?_)
  ·have hs:(s.length:Int) < 3:=of_decide_eq_true hs
   show AV.tup [.i .i32 (-1),.i .i64 1] = codeR s
   rw [codeR,hbad (fun h=>by have:=(hg.1 h).1; omega)]
   all_goals rfl
  ·have hs:¬ (s.length:Int) < 3:=of_decide_eq_false hs
   refine eX [] (eX [] (eX [] (eX Nat (eX (fun i=>1≤i∧i≤3∧∀ j,1≤j→j < i→cont s j) (eX (fun i=>⟨[(0,.s s),(4,.i .i64 3),(5,.i .i64 2048),(6,.i .i64 (acc s (b8 s 0 - 224) i)),(7,.i .i64 i)],[]⟩) (eX (fun i=>3 - i) (eX 1 (aN ⟨Nat.le_refl _,by decide,fun j h1 h2=>by omega⟩ (aN ?_ ?_)))))))))
   ·exact wK
   ·rintro i ⟨hi1,hin,hcs⟩
    have hab:=acc_bnd (s:=s) (r:=(b8 s 0 - 224)) (by omega) (by omega) i (by omega) hcs
    have hbi:=b8_rng s i
    refine aN (fun hc=>?_) (fun hc=>?_)
    ·have hc:i < 3:=by have:(i:Int) < 3:=of_decide_eq_true hc; omega
     refine bN2 ?_
     refine aN (fun h1=>?_) (fun h1=>?_)
     ·have h1:¬ b8 s i < 128:=of_decide_eq_false h1
      refine bN2 ?_
      refine aN (fun h2=>?_) (fun h2=>?_)
      ·have h2:192≤b8 s i:=of_decide_eq_true h2
       show AV.tup [.i .i32 (-1),.i .i64 1] = codeR s
       rw [codeR,hbad (fun h=>by have:=(hg.1 h).2.1 i hi1 hc; unfold cont at this; omega)]
       all_goals rfl
      ·have h2:¬ 192≤b8 s i:=of_decide_eq_false h2
       have hwi:IntKind.i64.wrap (((s.getD (Int.toNat (i:Int)) 0).toNat:Nat):Int) = b8 s i:=IntWalk.i64_in _ ⟨by show _≤b8 s i; omega,by show b8 s i≤_; omega⟩
       have hacc:acc s (b8 s 0 - 224) (i + 1) = acc s (b8 s 0 - 224) i * 64 + b8 s i - 128:=by
        obtain ⟨k,rfl⟩:∃ k,i = k + 1:=⟨i - 1,by omega⟩
        rfl
       refine bN2 ?_
       refine bN2 ?_
       refine aN ⟨by rw [hwi]; omega,by rw [hwi]; omega⟩ ?_
       rw [hwi]
       refine bN2 ?_
       refine bN2 ?_
       have hcs':∀ j,1≤j→j < i + 1→cont s j:=fun j h3 h4=>by
        rcases Nat.lt_or_ge j i with h | h
        ·exact hcs j h3 h
        ·have:j = i:=by omega
         subst this
         exact ⟨by omega,by omega⟩
       refine eX [] (eX (i + 1) (aN ⟨by omega,by omega,hcs'⟩ (aN ?_ ?_)))
       ·(repeat' (first | exact wA | exact Or.inl (congrArg (AV.i .i64) hacc.symm) | refine aN ?_ ?_))
       ·show 3 - (i + 1) < 3 - i
        omega
     ·have h1:b8 s i < 128:=of_decide_eq_true (show decide (b8 s i < 128) = true from h1)
      (focus (refine aN ?_ (fun h9=>?_); rotate_left 1; (focus (exfalso; revert h9; first | decide | (simp<;>omega) | (intro h9; simp at h9<;>omega))); refine fun _=>?_))
      show AV.tup [.i .i32 (-1),.i .i64 1] = codeR s
      rw [codeR,hbad (fun h=>by have:=(hg.1 h).2.1 i hi1 hc; unfold cont at this; omega)]
      all_goals rfl
    ·have hc:i = 3:=by have:¬ (i:Int) < 3:=of_decide_eq_false hc; omega
     subst hc
     refine aN (fun h1=>?_) (fun h1=>?_)
     ·have h1:¬ acc s (b8 s 0 - 224) 3 < 2048:=of_decide_eq_false h1
      refine Or.inl (eX _ (aN (s_Scalar (acc s (b8 s 0 - 224) 3)) ?_))
      refine aN (fun h2=>?_) (fun h2=>?_)
      ·have h2:¬ scalar (acc s (b8 s 0 - 224) 3):=by simpa using h2
       show AV.tup [.i .i32 (-1),.i .i64 1] = codeR s
       rw [codeR,hbad (fun h=>h2 (hg.1 h).2.2.2)]
       all_goals rfl
      ·have h2:scalar (acc s (b8 s 0 - 224) 3):=by simpa using h2
       have hgood:good s:=hg.2 ⟨by omega,hcs,by omega,h2⟩
       have hw2:IntKind.i32.wrap (acc s (b8 s 0 - 224) 3) = acc s (b8 s 0 - 224) 3:=i32_in _ (by omega) (by unfold scalar at h2; omega)
       have hcd:=(code_many h0 (by omega) (by omega)).1 hgood
       rw [hlead] at hcd
       rw [codeR,hcd]
       show AV.tup [.i .i32 (IntKind.i32.wrap (acc s (b8 s 0 - 224) 3)),.i .i64 3] = _
       rw [hw2]
       all_goals rfl
     ·have h1:acc s (b8 s 0 - 224) 3 < 2048:=of_decide_eq_true (show decide (acc s (b8 s 0 - 224) 3 < 2048) = true from h1)
      (focus (refine aN ?_ (fun h9=>?_); rotate_left 1; (focus (exfalso; revert h9; first | decide | (simp<;>omega) | (intro h9; simp at h9<;>omega))); refine fun _=>?_))
      show AV.tup [.i .i32 (-1),.i .i64 1] = codeR s
      rw [codeR,hbad (fun h=>by have:=(hg.1 h).2.2.1; omega)]
      all_goals rfl
 ·have hlead:lead s = (4,65536,b8 s 0 - 240):=by unfold lead; rw [if_neg (by omega),if_neg (by omega)]
  have hg:good s↔(4≤s.length∧(∀ i,1≤i→i < 4→cont s i)∧65536≤acc s (b8 s 0 - 240) 4∧scalar (acc s (b8 s 0 - 240) 4)):=by unfold good; rw [hlead]
  have hbad:¬ good s→code s = (-1,1):=(code_many h0 (by omega) (by omega)).2
  refine eX [.blk [0,1,2,3,4,5]] (aN (by kernel_rfl) ?_)
  refine bN2 ?_
  refine bN2 ?_
  rw [hw]
  refine aN (fun h9=>absurd (of_decide_eq_true h9) (show ¬ (b8 s 0 < 128) by omega)) (fun _=>?_)
  refine bN2 ?_
  refine aN (fun _=>?_) (fun h9=>absurd (show 192≤b8 s 0 by omega) (of_decide_eq_false h9))
  refine bN2 ?_
  refine aN (fun h9=>absurd (of_decide_eq_true h9) (show ¬ (b8 s 0 < 224) by omega)) (fun _=>?_)
  refine bN2 ?_
  refine aN (fun _=>?_) (fun h9=>absurd (show 224≤b8 s 0 by omega) (of_decide_eq_false h9))
  refine bN2 ?_
  refine aN (fun h9=>absurd (of_decide_eq_true h9) (show ¬ (b8 s 0 < 240) by omega)) (fun _=>?_)
  refine bN2 ?_
  refine aN (fun _=>?_) (fun h9=>absurd (show 240≤b8 s 0 by omega) (of_decide_eq_false h9))
  refine bN2 ?_
  refine aN (fun _=>?_) (fun h9=>absurd (show b8 s 0 < 248 by omega) (of_decide_eq_false h9))
  refine bN2 ?_
  intro _
  refine aN (fun hs=>?_) (fun hs=>?_)
  ·have hs:(s.length:Int) < 4:=of_decide_eq_true hs
   show AV.tup [.i .i32 (-1),.i .i64 1] = codeR s
   rw [codeR,hbad (fun h=>by have:=(hg.1 h).1; omega)]
   all_goals rfl
  ·have hs:¬ (s.length:Int) < 4:=of_decide_eq_false hs
   refine eX [] (eX [] (eX [] (eX Nat (eX (fun i=>1≤i∧i≤4∧∀ j,1≤j→j < i→cont s j) (eX (fun i=>⟨[(0,.s s),(4,.i .i64 4),(5,.i .i64 65536),(6,.i .i64 (acc s (b8 s 0 - 240) i)),(7,.i .i64 i)],[]⟩) (eX (fun i=>4 - i) (eX 1 (aN ⟨Nat.le_refl _,by decide,fun j h1 h2=>by omega⟩ (aN ?_ ?_)))))))))
   ·exact wK
   ·rintro i ⟨hi1,hin,hcs⟩
    have hab:=acc_bnd (s:=s) (r:=(b8 s 0 - 240)) (by omega) (by omega) i (by omega) hcs
    have hbi:=b8_rng s i
    refine aN (fun hc=>?_) (fun hc=>?_)
    ·have hc:i < 4:=by have:(i:Int) < 4:=of_decide_eq_true hc; omega
     refine bN2 ?_
     refine aN (fun h1=>?_) (fun h1=>?_)
     ·have h1:¬ b8 s i < 128:=of_decide_eq_false h1
      refine bN2 ?_
      refine aN (fun h2=>?_) (fun h2=>?_)
      ·have h2:192≤b8 s i:=of_decide_eq_true h2
       show AV.tup [.i .i32 (-1),.i .i64 1] = codeR s
       rw [codeR,hbad (fun h=>by have:=(hg.1 h).2.1 i hi1 hc; unfold cont at this; omega)]
       all_goals rfl
      ·have h2:¬ 192≤b8 s i:=of_decide_eq_false h2
       have hwi:IntKind.i64.wrap (((s.getD (Int.toNat (i:Int)) 0).toNat:Nat):Int) = b8 s i:=IntWalk.i64_in _ ⟨by show _≤b8 s i; omega,by show b8 s i≤_; omega⟩
       have hacc:acc s (b8 s 0 - 240) (i + 1) = acc s (b8 s 0 - 240) i * 64 + b8 s i - 128:=by
        obtain ⟨k,rfl⟩:∃ k,i = k + 1:=⟨i - 1,by omega⟩
        rfl
       refine bN2 ?_
       refine bN2 ?_
       refine aN ⟨by rw [hwi]; omega,by rw [hwi]; omega⟩ ?_
       rw [hwi]
       refine bN2 ?_
       refine bN2 ?_
       have hcs':∀ j,1≤j→j < i + 1→cont s j:=fun j h3 h4=>by
        rcases Nat.lt_or_ge j i with h | h
        ·exact hcs j h3 h
        ·have:j = i:=by omega
         subst this
         exact ⟨by omega,by omega⟩
       refine eX [] (eX (i + 1) (aN ⟨by omega,by omega,hcs'⟩ (aN ?_ ?_)))
       ·(repeat' (first | exact wA | exact Or.inl (congrArg (AV.i .i64) hacc.symm) | refine aN ?_ ?_))
       ·show 4 - (i + 1) < 4 - i
        omega
     ·have h1:b8 s i < 128:=of_decide_eq_true (show decide (b8 s i < 128) = true from h1)
      (focus (refine aN ?_ (fun h9=>?_); rotate_left 1; (focus (exfalso; revert h9; first | decide | (simp<;>omega) | (intro h9; simp at h9<;>omega))); refine fun _=>?_))
      show AV.tup [.i .i32 (-1),.i .i64 1] = codeR s
      rw [codeR,hbad (fun h=>by have:=(hg.1 h).2.1 i hi1 hc; unfold cont at this; omega)]
      all_goals rfl
    ·have hc:i = 4:=by have:¬ (i:Int) < 4:=of_decide_eq_false hc; omega
     subst hc
     refine aN (fun h1=>?_) (fun h1=>?_)
     ·have h1:¬ acc s (b8 s 0 - 240) 4 < 65536:=of_decide_eq_false h1
      refine Or.inl (eX _ (aN (s_Scalar (acc s (b8 s 0 - 240) 4)) ?_))
      refine aN (fun h2=>?_) (fun h2=>?_)
      ·have h2:¬ scalar (acc s (b8 s 0 - 240) 4):=by simpa using h2
       show AV.tup [.i .i32 (-1),.i .i64 1] = codeR s
       rw [codeR,hbad (fun h=>h2 (hg.1 h).2.2.2)]
       all_goals rfl
      ·have h2:scalar (acc s (b8 s 0 - 240) 4):=by simpa using h2
       have hgood:good s:=hg.2 ⟨by omega,hcs,by omega,h2⟩
       have hw2:IntKind.i32.wrap (acc s (b8 s 0 - 240) 4) = acc s (b8 s 0 - 240) 4:=i32_in _ (by omega) (by unfold scalar at h2; omega)
       have hcd:=(code_many h0 (by omega) (by omega)).1 hgood
       rw [hlead] at hcd
       rw [codeR,hcd]
       show AV.tup [.i .i32 (IntKind.i32.wrap (acc s (b8 s 0 - 240) 4)),.i .i64 4] = _
       rw [hw2]
       all_goals rfl
     ·have h1:acc s (b8 s 0 - 240) 4 < 65536:=of_decide_eq_true (show decide (acc s (b8 s 0 - 240) 4 < 65536) = true from h1)
      (focus (refine aN ?_ (fun h9=>?_); rotate_left 1; (focus (exfalso; revert h9; first | decide | (simp<;>omega) | (intro h9; simp at h9<;>omega))); refine fun _=>?_))
      show AV.tup [.i .i32 (-1),.i .i64 1] = codeR s
      rw [codeR,hbad (fun h=>by have:=(hg.1 h).2.2.1; omega)]
      all_goals rfl
 ·have hbad:code s = (-1,1):=code_bad h0 (by omega)
  refine eX [.blk [0,1,2,3,4,5]] (aN (by kernel_rfl) ?_)
  refine bN2 ?_
  refine bN2 ?_
  rw [hw]
  refine aN (fun h9=>absurd (of_decide_eq_true h9) (show ¬ (b8 s 0 < 128) by omega)) (fun _=>?_)
  refine bN2 ?_
  refine aN (fun _=>?_) (fun h9=>absurd (show 192≤b8 s 0 by omega) (of_decide_eq_false h9))
  refine bN2 ?_
  refine aN (fun h9=>absurd (of_decide_eq_true h9) (show ¬ (b8 s 0 < 224) by omega)) (fun _=>?_)
  refine bN2 ?_
  refine aN (fun _=>?_) (fun h9=>absurd (show 224≤b8 s 0 by omega) (of_decide_eq_false h9))
  refine bN2 ?_
  refine aN (fun h9=>absurd (of_decide_eq_true h9) (show ¬ (b8 s 0 < 240) by omega)) (fun _=>?_)
  refine bN2 ?_
  refine aN (fun _=>?_) (fun h9=>absurd (show 240≤b8 s 0 by omega) (of_decide_eq_false h9))
  refine bN2 ?_
  refine aN (fun h9=>absurd (of_decide_eq_true h9) (show ¬ (b8 s 0 < 248) by omega)) (fun _=>?_)
  rw [codeR,hbad]
  rfl
theorem s_Code (s:Str):PSpec Tryd.prog 77 [.s s] (codeR s) :=
 pspec_of_vc Γ_good Tryd.func77 rfl Tryd.call77 Tryd.results77 Tryd.ntmps77 (Nat.le_of_ble_eq_true rfl) (w_Code s)
end
end Go.Proofs.YtfeniggadfkakaaDoor
end
section
namespace Go.Ut
open Go.SX

def eb (x:Int):UInt8:=UInt8.ofNat (IntKind.u8.wrap x).toNat
end Go.Ut
end
section
namespace Go.Proofs.YtfeniggadfkakaaDoor
open Go Go.SX Go.Ut Go.RowKit
set_option maxRecDepth 100000
set_option maxHeartbeats 0
section
variable [G:Globs]
theorem w_BadPlace (s:Str):vc Tryd.prog Γ 23 [0,2,3,4,5,9,18] (Tryd.f60.body.getD .skip) (postK Γ [.tmp 2] (fun v=>v = .i .i64 (bad s))) ⟨argSlots 0 [.s s],[]⟩:=by
 refine eX [] (eX [] (eX [] (eX Nat (eX (fun i=>i≤s.length∧badFrom s i = bad s) (eX (fun i=>⟨[(0,.s s),(3,.i .i64 i)],[]⟩) (eX (fun i=>s.length - i) (eX 0 (aN ⟨Nat.zero_le _,rfl⟩ (aN ?_ ?_)))))))))
 ·exact wK
 ·rintro i ⟨hi,heq⟩
  intro hml
  unfold maxLen at hml
  refine aN (fun hc=>?_) (fun hc=>?_)
  ·have hk:i < s.length:=by have:(i:Int) < s.length:=of_decide_eq_true hc; omega
   rw [bad_step hk] at heq
   have hp:=dec_pos s i
   have hle:=dec_le hk
   have ht:(s.take (Int.toNat (s.length:Int))).drop (Int.toNat i) = s.drop i:=by simp only [Int.toNat_natCast,List.take_length]
   have qc:=s_Code (s.drop i)
   unfold codeR at qc
   rw [code_at hk] at qc
   refine aN ⟨by omega,by omega,Int.le_refl _⟩ ?_
   rw [ht]
   by_cases hb:(decAt s i).1 = 65533∧(decAt s i).2 = 1
   ·rw [if_pos hb] at qc heq
    refine Or.inl (eX _ (aN (qc) ?_))
    (focus (refine aN ?_ (fun h9=>?_); rotate_left 1; (focus (exfalso; revert h9; first | decide | (simp<;>omega) | (intro h9; simp at h9<;>omega))); refine fun _=>?_))
    exact congrArg (AV.i .i64) heq
   ·rw [if_neg hb] at qc heq
    refine Or.inl (eX _ (aN (qc) ?_))
    refine aN (fun h9=>absurd (of_decide_eq_true h9) (by simp only; omega)) (fun _=>?_)
    refine aN ⟨by simp only; omega,by simp only; omega⟩ ?_
    refine eX [] (eX (i + (decAt s i).2) (aN ⟨hle,heq⟩ (aN ?_ ?_)))
    ·exact wK
    ·show s.length - (i + (decAt s i).2) < s.length - i
     omega
  ·have hk:s.length≤i:=by have:¬ (i:Int) < s.length:=of_decide_eq_false hc; omega
   rw [bad_end hk] at heq
   exact congrArg (AV.i .i64) heq
theorem s_BadPlace (s:Str):PSpec Tryd.prog 60 [.s s] (.i .i64 (bad s)) :=
 pspec_of_vc Γ_good Tryd.func60 rfl Tryd.call60 Tryd.results60 Tryd.ntmps60 (Nat.le_of_ble_eq_true rfl) (w_BadPlace s)
theorem w_Bad (hu:HasU8) (s:Str):vc Tryd.prog Γ 25 [0,2,3,4,6,8,9,10,14,23] (Tryd.f66.body.getD .skip) (postK Γ [.tmp 2] (fun v=>v = .i .i64 (bad s))) ⟨argSlots 0 [.s s],[]⟩:=by
 refine eX [] (eX [] (eX [] (eX Nat (eX (fun i=>i≤s.length∧badFrom s i = bad s) (eX (fun i=>⟨[(0,.s s),(8,.ob 8 8 (.it s i))],[]⟩) (eX (fun i=>s.length - i) (eX 0 (aN ⟨Nat.zero_le _,rfl⟩ (aN ?_ ?_)))))))))
 ·exact wK
 ·rintro i ⟨hi,heq⟩
  refine aN (fun hk=>?_) (fun hk=>?_)
  ·rw [bad_step hk] at heq
   have hp:=dec_pos s i
   have hle:=dec_le hk
   have ht:(s.take (Int.toNat (s.length:Int))).drop (Int.toNat i) = s.drop i:=by simp only [Int.toNat_natCast,List.take_length]
   have qc:=s_Next hu (s.drop i)
   unfold codeR at qc
   rw [code_at hk] at qc
   (focus (refine aN ?_ (fun h9=>?_); rotate_left 1; (focus (exfalso; revert h9; first | decide | (simp<;>omega) | (intro h9; simp at h9<;>omega))); refine fun _=>?_))
   refine aN (fun h1=>?_) (fun h1=>?_)
   ·have h1:(decAt s i).1 = 65533:=by have:=eq_of_beq h1; omega
    refine aN ⟨by omega,by omega,Int.le_refl _⟩ ?_
    rw [ht]
    by_cases hb:(decAt s i).1 = 65533∧(decAt s i).2 = 1
    ·rw [if_pos hb] at qc heq
     refine Or.inl (eX _ (aN (qc) ?_))
     (focus (refine aN ?_ (fun h9=>?_); rotate_left 1; (focus (exfalso; revert h9; first | decide | (simp<;>omega) | (intro h9; simp at h9<;>omega))); refine fun _=>?_))
     exact congrArg (AV.i .i64) heq
    ·rw [if_neg hb] at qc heq
     refine Or.inl (eX _ (aN (qc) ?_))
     have h2:(decAt s i).2≠1:=fun e=>hb ⟨h1,e⟩
     refine aN (fun h9=>absurd (eq_of_beq h9) (by simp only; omega)) (fun _=>?_)
     refine eX [] (eX (i + (decAt s i).2) (aN ⟨hle,heq⟩ (aN ?_ ?_)))
     ·exact wK
     ·show s.length - (i + (decAt s i).2) < s.length - i
      omega
   ·have h1:(decAt s i).1≠65533:=by have:=ne_of_beq_false h1; omega
    rw [if_neg (fun h=>h1 h.1)] at heq
    refine eX [] (eX (i + (decAt s i).2) (aN ⟨hle,heq⟩ (aN ?_ ?_)))
    ·exact wK
    ·show s.length - (i + (decAt s i).2) < s.length - i
     omega
  ·rw [bad_end (by omega)] at heq
   (focus (refine aN (fun h9=>?_) ?_; (focus (exfalso; revert h9; first | decide | (simp<;>omega) | (intro h9; simp at h9<;>omega))); refine fun _=>?_))
   exact congrArg (AV.i .i64) heq
theorem s_Bad (hu:HasU8) (s:Str):PSpec Tryd.prog 66 [.s s] (.i .i64 (bad s)) :=
 pspec_of_vc Γ_good Tryd.func66 rfl Tryd.call66 Tryd.results66 Tryd.ntmps66 (Nat.le_of_ble_eq_true rfl) (w_Bad hu s)
end
end Go.Proofs.YtfeniggadfkakaaDoor
end
section
namespace Go.SX
variable [Globs]
section
variable {P:Program} {N:Nat} {Γ:Ctx} {L:List Nat} {W0:World} {F:Fr} {X:Nat→Prop} {s:St} {β:Nat→Option Nat} {a:Act} {w:World}
def RL1:AV→AV→Prop
 | .agg cs,.agg ds=>AVles cs ds
 | c,d=>AVle c d
def RLs:List AV→List AV→Prop
 | [],[]=>True
 | a::r,b::t=>RL1 a b∧RLs r t
 | _,_=>False
def RL:AV→AV→Prop
 | .tup cs,.tup ds=>RLs cs ds
 | c,d=>RL1 c d
theorem im_RL1 {O:Nat→Prop} {c d:AV} {u:Value} (h:Im O w c u) (hle:RL1 c d):Im O w d u:=by
 unfold RL1 at hle
 split at hle
 ·cases h with
  | agg _ vs h1 h2 h3 =>
   have:=all_le (show All2 (Im O w) _ vs from ⟨h1,h3⟩) hle
   exact .agg _ vs this.1 h2 this.2
 ·exact im_le h hle
theorem im_RLs {O:Nat→Prop}:∀ {cs ds:List AV} {us:List Value},All2 (Im O w) cs us→RLs cs ds→All2 (Im O w) ds us
 | [],[],us,h,_=>h
 | [],_::_,_,_,hle=>hle.elim
 | _::_,[],_,_,hle=>hle.elim
 | c::r,d::t,us,h,hle=>by
  obtain ⟨u,us',rfl,h1,h2⟩:=h.cons_inv
  exact All2.cons (im_RL1 h1 hle.1) (im_RLs h2 hle.2)
theorem im_RL {O:Nat→Prop} {c d:AV} {u:Value} (h:Im O w c u) (hle:RL c d):Im O w d u:=by
 unfold RL at hle
 split at hle
 ·cases h with
  | tup _ vs h1 h2 =>
   have:=im_RLs (show All2 (Im O w) _ vs from ⟨h1,h2⟩) hle
   exact .tup _ vs this.1 this.2
 ·exact im_RL1 h hle
theorem pspec_of_vcL (hΓ : Γ.good P) {f : FuncId} {fn : Func} {c : Code} (hf : P.funcs[f]? = some fn) (hb : fn.body = some c) (hcall : ∀ (vs : Array Value) (w : World), (callFunc f vs).run P w = .ok (.enter f vs) w)
  {rs:Array ResultVar} (hrs:fn.results = rs) (hN:fn.ntmps = N) {args:List AV} {r:AV} {L:List Nat} (hlen:args.length≤N)
  (hvc:vc P Γ N L c (postK Γ rs.toList (fun v=>RL v r)) ⟨argSlots 0 args,[]⟩):PSpec P f args r:=by
 refine ⟨hcall,fun O w vs hO hG hargs=>?_⟩
 refine calls_of_wp hf hb ?_
 have hsz:vs.length = args.length:=hargs.1.symm
 have hI:InvB w Fr.none O N ⟨argSlots 0 args,[]⟩ (fun _=>none) { tmps:=vs.toArray++Array.replicate (fn.ntmps - vs.toArray.size) undef,defers:=[] } w:=by
  have hNm:∀ n,¬ Nm ⟨argSlots 0 args,[]⟩ n:=by
   rintro n (⟨cs,h⟩ | ⟨m,h⟩ | ⟨b,cs,h,_⟩)
   ·cases h
   ·have:=look_args args 0 m
    rw [Nat.zero_add] at this
    simp only [this] at h
    by_cases hm:m < args.length
    ·rw [List.getD_eq_getElem?_getD,List.getElem?_eq_getElem hm] at h
     have:=(hargs.2 m _ _ (List.getElem?_eq_getElem hm) (List.getElem?_eq_getElem (by rw [hsz]; exact hm))).ids_nil
     rw [show (some args[m]).getD AV.x = args[m] from rfl,this] at h
     cases h
    ·rw [List.getD_eq_getElem?_getD,List.getElem?_eq_none (by omega)] at h
     simp [ids,ids0] at h
   ·cases h
  refine ⟨Stp.refl _ _,fun n=>?_,?_,fun n cs h=>(by cases h),fun n m g hn=>absurd hn (hNm n),fun n g hn=>absurd hn (hNm n),rfl,fun k hk=>⟨hO k hk,id⟩,fun n cs g h=>(by cases h),fun _ _=>rfl,hG.step (Stp.refl (fun _=>False) w) (fun _ _ h=>h.elim) fun k _ hk=>hk.elim id fun h=>h.elim⟩
  ·have h1:=look_args args 0 n
   rw [Nat.zero_add] at h1
   show Rel _ _ _ (look (argSlots 0 args) n) _
   rw [h1]
   by_cases hm:n < args.length
   ·have hmv:n < vs.length:=by rw [hsz]; exact hm
    have h2:=hargs.2 n _ _ (List.getElem?_eq_getElem hm) (List.getElem?_eq_getElem hmv)
    rw [List.getD_eq_getElem?_getD,List.getElem?_eq_getElem hm]
    have h3:(vs.toArray++Array.replicate (fn.ntmps - vs.toArray.size) undef).getD n undef = vs[n]:=by
     rw [Array.getD_eq_getD_getElem?,Array.getElem?_append_left (by simpa using hmv)]
     simp [hmv]
    rw [h3]
    refine Rel.im (h2.mono fun k hk=>?_)
    rcases hk with hk | ⟨m,hm',_⟩
    ·exact hk
    ·exact absurd hm' (hNm m)
   ·rw [List.getD_eq_getElem?_getD,List.getElem?_eq_none (by omega)]
    exact Rel.x
  ·show (vs.toArray++Array.replicate (fn.ntmps - vs.toArray.size) undef).size = N
   simp only [Array.size_append,List.size_toArray,Array.size_replicate,hN,hsz]
   omega
 refine vc_ok (W0:=w) (F:=Fr.none) (X:=O) hΓ c _ _ _ _ _ (fun e s a w' hq ⟨β,hI'⟩=>?_) hvc ⟨_,hI⟩
 have key:retK Γ s rs.toList (fun v=>RL v r)→a.defers = []∧∃ v,(results fn a.tmps).run P w' = .ok v w'∧∃ v',Ending.returned v = .returned v'∧Stp (fun _=>False) w w'∧Im O w' r v':=by
  intro h
  rw [← hrs] at h
  obtain ⟨v,u,hv,h1,h2⟩:=ret_ok hΓ hI' h
  exact ⟨hI'.defers,u,h2,u,rfl,hI'.ext,im_RL h1 hv⟩
 cases e with
 | normal=>exact key hq
 | ret=>exact key hq
 | _=>exact hq.elim

theorem pspec_of_VCsL (_hΓ : Γ.good P) {f : FuncId} {fn : Func} {c : Code} (hf : P.funcs[f]? = some fn) (hb : fn.body = some c) (hcall : ∀ (vs : Array Value) (w : World), (callFunc f vs).run P w = .ok (.enter f vs) w)
  {rs:Array ResultVar} (hrs:fn.results = rs) (hN:fn.ntmps = N) {args:List AV} {r:AV} (hlen:args.length≤N)
  (hvc:VCs P Γ N L c (postK Γ rs.toList (fun v=>RL v r)) ⟨argSlots 0 args,[]⟩) (hΓ:Γ.good P):PSpec P f args r:=by
 refine ⟨hcall,fun O w vs hO hG hargs=>?_⟩
 refine calls_of_wp hf hb ?_
 have hsz:vs.length = args.length:=hargs.1.symm
 have hI:InvB w Fr.none O N ⟨argSlots 0 args,[]⟩ (fun _=>none) { tmps:=vs.toArray++Array.replicate (fn.ntmps - vs.toArray.size) undef,defers:=[] } w:=by
  have hNm:∀ n,¬ Nm ⟨argSlots 0 args,[]⟩ n:=by
   rintro n (⟨cs,h⟩ | ⟨m,h⟩ | ⟨b,cs,h,_⟩)
   ·cases h
   ·have:=look_args args 0 m
    rw [Nat.zero_add] at this
    simp only [this] at h
    by_cases hm:m < args.length
    ·rw [List.getD_eq_getElem?_getD,List.getElem?_eq_getElem hm] at h
     have:=(hargs.2 m _ _ (List.getElem?_eq_getElem hm) (List.getElem?_eq_getElem (by rw [hsz]; exact hm))).ids_nil
     rw [show (some args[m]).getD AV.x = args[m] from rfl,this] at h
     cases h
    ·rw [List.getD_eq_getElem?_getD,List.getElem?_eq_none (by omega)] at h
     simp [ids,ids0] at h
   ·cases h
  refine ⟨Stp.refl _ _,fun n=>?_,?_,fun n cs h=>(by cases h),fun n m g hn=>absurd hn (hNm n),fun n g hn=>absurd hn (hNm n),rfl,fun k hk=>⟨hO k hk,id⟩,fun n cs g h=>(by cases h),fun _ _=>rfl,hG.step (Stp.refl (fun _=>False) w) (fun _ _ h=>h.elim) fun k _ hk=>hk.elim id fun h=>h.elim⟩
  ·have h1:=look_args args 0 n
   rw [Nat.zero_add] at h1
   show Rel _ _ _ (look (argSlots 0 args) n) _
   rw [h1]
   by_cases hm:n < args.length
   ·have hmv:n < vs.length:=by rw [hsz]; exact hm
    have h2:=hargs.2 n _ _ (List.getElem?_eq_getElem hm) (List.getElem?_eq_getElem hmv)
    rw [List.getD_eq_getElem?_getD,List.getElem?_eq_getElem hm]
    have h3:(vs.toArray++Array.replicate (fn.ntmps - vs.toArray.size) undef).getD n undef = vs[n]:=by
     rw [Array.getD_eq_getD_getElem?,Array.getElem?_append_left (by simpa using hmv)]
     simp [hmv]
    rw [h3]
    refine Rel.im (h2.mono fun k hk=>?_)
    rcases hk with hk | ⟨m,hm',_⟩
    ·exact hk
    ·exact absurd hm' (hNm m)
   ·rw [List.getD_eq_getElem?_getD,List.getElem?_eq_none (by omega)]
    exact Rel.x
  ·show (vs.toArray++Array.replicate (fn.ntmps - vs.toArray.size) undef).size = N
   simp only [Array.size_append,List.size_toArray,Array.size_replicate,hN,hsz]
   omega
 refine hvc.ok w Fr.none O _ _ _ (fun e s a w' hq ⟨β,hI'⟩=>?_) ⟨_,hI⟩
 have key:retK Γ s rs.toList (fun v=>RL v r)→a.defers = []∧∃ v,(results fn a.tmps).run P w' = .ok v w'∧∃ v',Ending.returned v = .returned v'∧Stp (fun _=>False) w w'∧Im O w' r v':=by
  intro h
  rw [← hrs] at h
  obtain ⟨v,u,hv,h1,h2⟩:=ret_ok hΓ hI' h
  exact ⟨hI'.defers,u,h2,u,rfl,hI'.ext,im_RL h1 hv⟩
 cases e with
 | normal=>exact key hq
 | ret=>exact key hq
 | _=>exact hq.elim
end
end Go.SX
end
section
namespace Go.SX
variable [Globs]
open Go.RowKit Go.WideShapes Go.ChangeShapes Go.Deep
inductive VN (n:Nat):Val→Prop
 | mk (a:Val):a.l.length≤n→a.e.length≤n→(∀ x ∈ a.l,VN n x)→(∀ p ∈ a.e,VN n p.2)→VN n a
theorem VN.mono {n m:Nat} (h:n≤m) {a:Val} (ha:VN n a):VN m a:=by
 induction ha with
 | mk a h1 h2 _ _ i1 i2=>exact .mk a (Nat.le_trans h1 h) (Nat.le_trans h2 h) i1 i2
structure Bulk {H:Type} (bk:DataW H→Nat):Prop where
 len:∀ els rest,els.length≤bk (.slice els rest)
 el:∀ els rest,∀ d ∈ els,bk d≤bk (.slice els rest)
 part:∀ ds,∀ d ∈ ds,bk d≤bk (.agg ds)
section
variable {H:Type} {encH:TypeId × Value→H} {P:Program} {W:World} {sp:Nat→Bool} {hd:Bool} {O:Nat→Prop} {bk:DataW H→Nat}
end
end Go.SX
end
section
namespace Go.Proofs.YtfeniggadfkakaaDoor
open Go Go.SX Go.Vl
set_option maxRecDepth 100000
set_option maxHeartbeats 0
section
variable [G:Globs]
theorem w_own (a:Val) (hl:a.l.length≤100000000) (he:a.e.length≤100000000) (hc:∀ x ∈ a.l,PSpec Tryd.prog 38 [.agg (encVal x)] (.agg (encVal x))) (hp:∀ x ∈ a.e,PSpec Tryd.prog 38 [.agg (encVal x.2)] (.agg (encVal x.2))):vc Tryd.prog Γ 48 [1,2,3,4,6,8,15,16,17,18,29,30,31,32] (Tryd.f38.body.getD .skip) (postK Γ [.cell 2 26] (fun v=>v = .agg (encVal a))) ⟨argSlots 0 [.agg (encVal a)],[]⟩:=by
 refine eX [.blk [0,1,2,3,4,5]] (aN (by kernel_rfl) ?_)
 intro hml
 refine eX [] (eX [(1,4,47,.val)] (eX [] (eX Nat (eX (fun i=>i≤a.l.length) (eX (fun i=>⟨[(1,.pt 1 0),(2,.pt 2 0),(4,.rd .ent a.e),(15,.rd .val a.l),(16,.i .i64 a.l.length),(17,.i .i64 i)],[(1,[.i .i64 a.kind,.i .i64 a.n,.i .u64 a.f,.s a.s,.vec 47 .val (a.l.take i),.nl]),(2,[.i .i64 0,.i .i64 0,.i .u64 0,.s [],.nl,.nl])]⟩) (eX (fun i=>a.l.length - i) (eX 0 (aN (Nat.zero_le _) (aN ?_ ?_)))))))))
 ·exact wK
 ·rintro i hi
  refine aN (fun hz=>?_) (fun hz=>?_)
  · have hi : i < a.l.length := by have : (i : Int) < (a.l.length : Int) := of_decide_eq_true hz
                                   omega
    have hg:a.l.getD (Int.toNat (i:Int)) (dflt .val) = a.l[i]:=by rw [Int.toNat_natCast,List.getD_eq_getElem?_getD,List.getElem?_eq_getElem hi]; rfl
    refine bN2 ?_
    have hs:=hc a.l[i] (List.getElem_mem hi)
    rw [← hg] at hs
    refine eX [.blk [0,1,2,3,4] [25],.one 5,.take 6,.one 7] (aN (by kernel_rfl) ?_)
    refine eX _ (aN (hs) ?_)
    rw [hg]
    refine aN (show ((a.l.take i).length + 1) * 88≤140737488355328 by rw [List.length_take]; omega) ?_
    (refine rNG ?_)
    have e:a.l.take i++[(⟨a.l[i].kind,a.l[i].n,a.l[i].f,a.l[i].s,a.l[i].l,a.l[i].e⟩:Val)] = a.l.take (i + 1):=by rw [val_eta,List.take_add_one,List.getElem?_eq_getElem hi]; rfl
    refine eX [(26,47)] (eX (i + 1) (aN hi (aN ?_ ?_)))
    ·(repeat' (first | exact wA | exact Or.inl ((congrArg (AV.vec 47 .val) e)) | refine aN ?_ ?_))
    ·show a.l.length - (i + 1) < a.l.length - i
     omega
  · have hi : i = a.l.length := by have : ¬ (i : Int) < (a.l.length : Int) := of_decide_eq_false hz
                                   omega
    subst hi
    rw [List.take_length]
    intro hme
    refine eX [] (eX [(1,5,46,.ent)] (eX [] (eX Nat (eX (fun i=>i≤a.e.length) (eX (fun i=>⟨[(1,.pt 1 0),(2,.pt 2 0),(29,.rd .ent a.e),(30,.i .i64 a.e.length),(31,.i .i64 i)],[(1,[.i .i64 a.kind,.i .i64 a.n,.i .u64 a.f,.s a.s,.vec 47 .val a.l,.vec 46 .ent (a.e.take i)]),(2,[.i .i64 0,.i .i64 0,.i .u64 0,.s [],.nl,.nl])]⟩) (eX (fun i=>a.e.length - i) (eX 0 (aN (Nat.zero_le _) (aN ?_ ?_)))))))))
    ·exact wK
    ·rintro i hi
     refine aN (fun hz=>?_) (fun hz=>?_)
     · have hi : i < a.e.length := by have : (i : Int) < (a.e.length : Int) := of_decide_eq_true hz
                                      omega
       have hg:a.e.getD (Int.toNat (i:Int)) (dflt .ent) = a.e[i]:=by rw [Int.toNat_natCast,List.getD_eq_getElem?_getD,List.getElem?_eq_getElem hi]; rfl
       refine bN2 ?_
       have hs:=hp a.e[i] (List.getElem_mem hi)
       rw [← hg] at hs
       refine eX [.blk [0,1,2,3,4,5,6,7,8] [43],.one 9,.take 10,.one 11] (aN (by kernel_rfl) ?_)
       refine eX _ (aN (hs) ?_)
       rw [hg]
       refine aN (show ((a.e.take i).length + 1) * 104≤140737488355328 by rw [List.length_take]; omega) ?_
       (refine rNG ?_)
       have e:a.e.take i++[(a.e[i].1,(⟨a.e[i].2.kind,a.e[i].2.n,a.e[i].2.f,a.e[i].2.s,a.e[i].2.l,a.e[i].2.e⟩:Val))] = a.e.take (i + 1):=by rw [val_eta,List.take_add_one,List.getElem?_eq_getElem hi]; rfl
       refine eX [(44,46)] (eX (i + 1) (aN hi (aN ?_ ?_)))
       ·(repeat' (first | exact wA | exact Or.inl ((congrArg (AV.vec 46 .ent) e)) | refine aN ?_ ?_))
       ·show a.e.length - (i + 1) < a.e.length - i
        omega
     · have hi : i = a.e.length := by have : ¬ (i : Int) < (a.e.length : Int) := of_decide_eq_false hz
                                      omega
       subst hi
       rw [List.take_length]
       rfl
theorem s_own (a:Val) (hl:a.l.length≤100000000) (he:a.e.length≤100000000) (hc:∀ x ∈ a.l,PSpec Tryd.prog 38 [.agg (encVal x)] (.agg (encVal x))) (hp:∀ x ∈ a.e,PSpec Tryd.prog 38 [.agg (encVal x.2)] (.agg (encVal x.2))):PSpec Tryd.prog 38 [.agg (encVal a)] (.agg (encVal a)) :=
 pspec_of_vc Γ_good Tryd.func38 rfl Tryd.call38 Tryd.results38 Tryd.ntmps38 (Nat.le_of_ble_eq_true rfl) (w_own a hl he hc hp)
theorem own_spec:∀ (m:Nat) (a:Val),SizeOf.sizeOf a < m→VN 100000000 a→PSpec Tryd.prog 38 [.agg (encVal a)] (.agg (encVal a)):=by
 intro m
 induction m with
 | zero=>intro a h; exact absurd h (Nat.not_lt_zero _)
 | succ m ih =>
  intro a hs ha
  cases ha with
  | mk _ a1 a2 a3 a4 =>
   refine s_own a a1 a2 (fun x hx=>ih x ?_ (a3 x hx)) (fun x hx=>ih x.2 ?_ (a4 x hx))
   ·have:=val_sz_l hx; omega
   ·have:=val_sz_e hx; omega
theorem s_Own (a:Val) (ha:VN 100000000 a):PSpec Tryd.prog 38 [.agg (encVal a)] (.agg (encVal a)):=own_spec _ a (Nat.lt_succ_self _) ha
theorem w_drop (l:List Ent) (k:Str) (hl1:l.length≤100000000) (hn:∀ p ∈ l,VN 100000000 p.2):vc Tryd.prog Γ 29 [0,1,4,5,7,8,9,10,11,17] (Tryd.f70.body.getD .skip) (postK Γ [.tmp 4] (fun v=>v = .rd .ent (withoutE l k))) ⟨argSlots 0 [.rd .ent l,.s k],[]⟩:=by
 intro hl
 refine eX [(5,5,.ent)] (eX [] (eX [] (eX Nat (eX (fun i=>i≤l.length) (eX (fun i=>⟨[(1,.s k),(5,.vec 5 .ent (withoutE (l.take i) k)),(8,.rd .ent l),(9,.i .i64 l.length),(10,.i .i64 i)],[]⟩) (eX (fun i=>l.length - i) (eX 0 (aN (Nat.zero_le _) (aN ?_ ?_)))))))))
 ·exact wK
 ·rintro i hi
  refine aN (fun he=>?_) (fun he=>?_)
  · have hi : i < l.length := by have : (i : Int) < (l.length : Int) := of_decide_eq_true he
                                 omega
    have hg:l.getD (Int.toNat (i:Int)) (dflt .ent) = l[i]:=by rw [Int.toNat_natCast,List.getD_eq_getElem?_getD,List.getElem?_eq_getElem hi]; rfl
    refine bN2 ?_
    refine aN (fun hz=>?_) (fun hz=>?_)
    ·have hz:keyIs k l[i] = false:=by rw [← hg]; simpa [keyIs] using hz
     have hs:=s_Own l[i].2 (hn _ (List.getElem_mem hi))
     rw [← hg] at hs
     refine eX [.blk [0,1,2,3,4,5,6,7] [25],.one 8,.take 9] (aN (by kernel_rfl) ?_)
     refine eX _ (aN (hs) ?_)
     rw [hg]
     have hfl:=filter_len (l:=l) (k:=k) (i:=i)
     refine aN (show ((withoutE (l.take i) k).length + 1) * 104≤140737488355328 by omega) ?_
     (refine rNG ?_)
     refine eX [(26,5)] (eX (i + 1) (aN hi (aN ?_ ?_)))
     ·have e:withoutE (l.take i) k++[(l[i].1,(⟨l[i].2.kind,l[i].2.n,l[i].2.f,l[i].2.s,l[i].2.l,l[i].2.e⟩:Val))] = withoutE (l.take (i + 1)) k:=by rw [val_eta]; exact (filter_next hi hz).symm
      (repeat' (first | exact wA | exact Or.inl ((congrArg (AV.vec 5 .ent) e)) | refine aN ?_ ?_))
     ·show l.length - (i + 1) < l.length - i
      omega
    ·have hz:keyIs k l[i] = true:=by rw [← hg]; simpa [keyIs] using hz
     (refine rNG ?_)
     refine eX [] (eX (i + 1) (aN hi (aN ?_ ?_)))
     ·(repeat' (first | exact wA | exact Or.inl ((congrArg (AV.vec 5 .ent) (filter_skip hi hz).symm)) | refine aN ?_ ?_))
     ·show l.length - (i + 1) < l.length - i
      omega
  · have hi : i = l.length := by have : ¬ (i : Int) < (l.length : Int) := of_decide_eq_false he
                                 omega
    subst hi
    rw [List.take_length]
    rfl
theorem s_drop (l:List Ent) (k:Str) (hl1:l.length≤100000000) (hn:∀ p ∈ l,VN 100000000 p.2):PSpec Tryd.prog 70 [.rd .ent l,.s k] (.rd .ent (withoutE l k)) :=
 pspec_of_vc Γ_good Tryd.func70 rfl Tryd.call70 Tryd.results70 Tryd.ntmps70 (Nat.le_of_ble_eq_true rfl) (w_drop l k hl1 hn)
end
end Go.Proofs.YtfeniggadfkakaaDoor
end
section
namespace Go.Proofs.YtfeniggadfkakaaDoor
open Go Go.SX Go.Ck Go.Vl Go.Ut Go.Up
set_option maxRecDepth 100000
set_option maxHeartbeats 1000000
theorem stepF1 {p:PStep} (h:p.i < -1∨(0≤p.i∧p.key≠[])):stepF p = 1:=if_pos h
theorem stepF2 {p:PStep} (h:¬ (p.i < -1∨(0≤p.i∧p.key≠[]))) (h2:100 < p.key.length):stepF p = 2:=by unfold stepF; rw [if_neg h,if_pos h2]
theorem stepF3 {p:PStep} (h:¬ (p.i < -1∨(0≤p.i∧p.key≠[]))) (h2:¬ 100 < p.key.length) (h3:0≤bad p.key):stepF p = 3:=by unfold stepF; rw [if_neg h,if_neg h2,if_pos h3]
theorem stepF0 {p:PStep} (h:¬ (p.i < -1∨(0≤p.i∧p.key≠[]))) (h2:¬ 100 < p.key.length) (h3:¬ 0≤bad p.key):stepF p = 0:=by unfold stepF; rw [if_neg h,if_neg h2,if_neg h3]
theorem stepsF_stop {l:List PStep} {i:Nat} {e:Int} (h:i < l.length) (he:stepF l[i] = e) (h0:e≠0):stepsF (l.drop i) = e:=by rw [stepsF_drop h,he,orI_ne h0]
theorem stepsF_go {l:List PStep} {i:Nat} (h:i < l.length) (he:stepF l[i] = 0):stepsF (l.drop i) = stepsF (l.drop (i + 1)):=by rw [stepsF_drop h,he,orI_zero]
section
variable [G:Globs]
theorem w_pathC (hu:HasU8) (l:List PStep):vc Tryd.prog Γ 39 [0,2,4,7,8,9,10,11,14,28,33] (Tryd.f39.body.getD .skip) (postK Γ [.tmp 2] (fun v=>v = .i .i64 (pathF l))) ⟨argSlots 0 [.rd .pstep l],[]⟩:=by
 intro hl
 refine aN (fun hq=>?_) (fun hq=>?_)
 ·refine congrArg (AV.i .i64) ?_
  rw [pathF,if_pos (by have:=of_decide_eq_true hq; omega)]
 rw [pathF,if_neg (by have:=of_decide_eq_false hq; omega)]
 intro _
 refine eX [] (eX [] (eX [] (eX Nat (eX (fun i=>i≤(l).length∧(stepsF l = stepsF (l.drop i))) (eX (fun i=>⟨[(8,.rd .pstep l),(9,.i .i64 l.length),(10,.i .i64 i)],[]⟩) (eX (fun i=>(l).length - i) (eX 0 (aN ⟨Nat.zero_le _,rfl⟩ (aN ?_ ?_)))))))))
 ·exact wK
 rintro i ⟨hi,hI⟩
 refine aN (fun hz=>?_) (fun hz=>?_)
 ·have hi:=ltD hz
  have hg:=getI (τ:=.pstep) hi
  refine bN2 ?_
  rw [hg]
  by_cases c:l[i].i < -1∨(0≤l[i].i∧l[i].key≠[])
  ·rw [stepsF_stop hi (stepF1 c) (by decide)] at hI
   rcases c with c | ⟨c,c3⟩
   all_goals (repeat' (first | (refine aN (fun h=>?_) (fun h=>?_)<;>(try simp [-List.getD_eq_getElem?_getD,-Int.pred_toNat] at h)<;>(try (exfalso; first | omega | contradiction))) | refine bX ?_ | intro _))
   all_goals exact congrArg (AV.i .i64) hI.symm
  ·have c1 : -1≤l[i].i:=by omega
   have c2:l[i].i < 0∨(0≤l[i].i∧l[i].key = []):=by grind
   by_cases d:100 < l[i].key.length
   ·rw [stepsF_stop hi (stepF2 c d) (by decide)] at hI
    rcases c2 with c2 | ⟨c2,c3⟩
    all_goals (repeat' (first | (refine aN (fun h=>?_) (fun h=>?_)<;>(try simp [-List.getD_eq_getElem?_getD,-Int.pred_toNat] at h)<;>(try (exfalso; first | omega | contradiction))) | refine bX ?_ | intro _))
    all_goals exact congrArg (AV.i .i64) hI.symm
   ·by_cases e:0≤bad l[i].key
    ·rw [stepsF_stop hi (stepF3 c d e) (by decide)] at hI
     rcases c2 with c2 | ⟨c2,c3⟩
     all_goals (repeat' (first | (refine aN (fun h=>?_) (fun h=>?_)<;>(try simp [-List.getD_eq_getElem?_getD,-Int.pred_toNat] at h)<;>(try (exfalso; first | omega | contradiction))) | refine bX ?_ | intro _))
     all_goals refine Or.inl (eX _ (aN (s_Bad hu l[i].key) ?_))
     all_goals (repeat' (first | (refine aN (fun h=>?_) (fun h=>?_)<;>(try simp [-List.getD_eq_getElem?_getD,-Int.pred_toNat] at h)<;>(try (exfalso; first | omega | contradiction))) | refine bX ?_ | intro _))
     all_goals exact congrArg (AV.i .i64) hI.symm
    ·rw [stepsF_go hi (stepF0 c d e)] at hI
     have:=len_le hl
     rcases c2 with c2 | ⟨c2,c3⟩
     all_goals (repeat' (first | (refine aN (fun h=>?_) (fun h=>?_)<;>(try simp [-List.getD_eq_getElem?_getD,-Int.pred_toNat] at h)<;>(try (exfalso; first | omega | contradiction))) | refine bX ?_ | intro _))
     all_goals refine Or.inl (eX _ (aN (s_Bad hu l[i].key) ?_))
     all_goals (repeat' (first | (refine aN (fun h=>?_) (fun h=>?_)<;>(try simp [-List.getD_eq_getElem?_getD,-Int.pred_toNat] at h)<;>(try (exfalso; first | omega | contradiction))) | refine bX ?_ | intro _))
     all_goals refine eX [] (eX (i + 1) (aN ⟨hi,hI⟩ (aN ?_ ?_)))
     all_goals first | (exact Nat.sub_lt_sub_left (by omega) (by omega)) | exact wK
 ·(have hi:=geD hi hz)
  rw [hI,List.drop_eq_nil_of_le (by omega)]
  rfl
theorem s_pathC (hu:HasU8) (l:List PStep):PSpec Tryd.prog 39 [.rd .pstep l] (.i .i64 (pathF l)) :=
 pspec_of_vc Γ_good Tryd.func39 rfl Tryd.call39 Tryd.results39 Tryd.ntmps39 (Nat.le_of_ble_eq_true rfl) (w_pathC hu l)
def partA (a:Val) (p:PStep):AV:=.tup [.agg (encVal (partV a p).1),.i .i64 (partV a p).2]
theorem partA_eq {a:Val} {p:PStep} {w:Val} {e:Int} (h:partV a p = (w,e)):partA a p = .tup [.agg (encVal w),.i .i64 e]:=by unfold partA; rw [h]
theorem partV_tk {a:Val} {p:PStep} (h:p.i < 0) (h2:a.kind≠6):partV a p = (zeroV,10):=by unfold partV; rw [if_pos h,if_pos h2]
theorem partV_tn {a:Val} {p:PStep} (h:p.i < 0) (h2:¬ a.kind≠6) (h3:ixI a.e (keyIs p.key) < 0):partV a p = (zeroV,8):=by unfold partV; rw [if_pos h,if_neg h2,if_pos h3]
theorem partV_t {a:Val} {p:PStep} (h:p.i < 0) (h2:¬ a.kind≠6) (h3:¬ ixI a.e (keyIs p.key) < 0):partV a p = ((a.e.getD (ixI a.e (keyIs p.key)).toNat (dflt .ent)).2,0):=by unfold partV; rw [if_pos h,if_neg h2,if_neg h3]
theorem partV_lk {a:Val} {p:PStep} (h:¬ p.i < 0) (h2:a.kind≠5):partV a p = (zeroV,10):=by unfold partV; rw [if_neg h,if_pos h2]
theorem partV_ln {a:Val} {p:PStep} (h:¬ p.i < 0) (h2:¬ a.kind≠5) (h3:(a.l.length:Int)≤p.i):partV a p = (zeroV,8):=by unfold partV; rw [if_neg h,if_neg h2,if_pos h3]
theorem partV_l {a:Val} {p:PStep} (h:¬ p.i < 0) (h2:¬ a.kind≠5) (h3:¬ (a.l.length:Int)≤p.i):partV a p = (a.l.getD p.i.toNat (dflt .val),0):=by unfold partV; rw [if_neg h,if_neg h2,if_neg h3]
theorem w_partOf (a:Val) (p:PStep) (h : -1≤p.i):vc Tryd.prog Γ 46 [2,3,4,5,6,7,10,13,21,31,38] (Tryd.f34.body.getD .skip) (postK Γ [.cell 4 26,.tmp 5] (fun v=>RL v (partA a p))) ⟨argSlots 0 [.agg (encVal a),.agg (enc .pstep p)],[]⟩:=by
 refine aN (fun hq=>?_) (fun hq=>?_)
 ·have hq:p.i < 0:=by have:=eq_of_beq hq; omega
  refine aN (fun hk=>?_) (fun hk=>?_)
  ·have hk:a.kind≠6:=by simpa using hk
   rw [partA_eq (partV_tk hq hk)]
   exact rL
  have hk:¬ a.kind≠6:=by simpa using hk
  refine Or.inl (eX _ (aN (s_entAt a.e p.key) ?_))
  refine aN (fun hx=>?_) (fun hx=>?_)
  ·have hx:ixI a.e (keyIs p.key) < 0:=of_decide_eq_true hx
   rw [partA_eq (partV_tn hq hk hx)]
   exact rL
  have hx:¬ ixI a.e (keyIs p.key) < 0:=of_decide_eq_false hx
  have hb:=ix_bound hx
  rw [partA_eq (partV_t hq hk hx)]
  refine bN2 ?_
  exact rL
 ·have hq:¬ p.i < 0:=by have:=ne_of_beq_false hq; omega
  refine aN (fun hk=>?_) (fun hk=>?_)
  ·have hk:a.kind≠5:=by simpa using hk
   rw [partA_eq (partV_lk hq hk)]
   exact rL
  have hk:¬ a.kind≠5:=by simpa using hk
  intro _
  refine aN (fun hx=>?_) (fun hx=>?_)
  ·rw [partA_eq (partV_ln hq hk (of_decide_eq_true hx))]
   exact rL
  have hx:¬ (a.l.length:Int)≤p.i:=of_decide_eq_false hx
  rw [partA_eq (partV_l hq hk hx)]
  refine bN2 ?_
  exact rL
theorem s_partOf (a:Val) (p:PStep) (h : -1≤p.i):PSpec Tryd.prog 34 [.agg (encVal a),.agg (enc .pstep p)] (partA a p) :=
 pspec_of_vcL Γ_good Tryd.func34 rfl Tryd.call34 Tryd.results34 Tryd.ntmps34 (Nat.le_of_ble_eq_true rfl) (w_partOf a p h)
theorem w_part (a:Val) (p:PStep):vc Tryd.prog Γ 49 [2,3,4,5,6,9,15,20,30,35] (Tryd.f40.body.getD .skip) (postK Γ [.cell 4 26,.tmp 5] (fun v=>RL v (partA a p))) ⟨argSlots 0 [.agg (encVal a),.agg (enc .pstep p)],[]⟩:=by
 refine aN (fun hq=>?_) (fun hq=>?_)
 ·have hq:p.i < 0:=of_decide_eq_true hq
  refine Or.inl (eX _ (aN (s_find a.e p.key) ?_))
  refine aN (fun hk=>?_) (fun hk=>?_)
  ·have hk:a.kind≠6:=by simpa using hk
   rw [partA_eq (partV_tk hq hk)]
   exact rL
  have hk:¬ a.kind≠6:=by simpa using hk
  refine aN (fun hx=>?_) (fun hx=>?_)
  ·have hx:ixI a.e (keyIs p.key) < 0:=of_decide_eq_true hx
   rw [partA_eq (partV_tn hq hk hx)]
   exact rL
  have hx:¬ ixI a.e (keyIs p.key) < 0:=of_decide_eq_false hx
  have hb:=ix_bound hx
  rw [partA_eq (partV_t hq hk hx)]
  refine bN2 ?_
  exact rL
 ·have hq:¬ p.i < 0:=of_decide_eq_false hq
  refine aN (fun hk=>?_) (fun hk=>?_)
  ·have hk:a.kind≠5:=by simpa using hk
   rw [partA_eq (partV_lk hq hk)]
   exact rL
  have hk:¬ a.kind≠5:=by simpa using hk
  intro _
  refine aN (fun hx=>?_) (fun hx=>?_)
  ·rw [partA_eq (partV_ln hq hk (of_decide_eq_true hx))]
   exact rL
  have hx:¬ (a.l.length:Int)≤p.i:=of_decide_eq_false hx
  rw [partA_eq (partV_l hq hk hx)]
  refine bN2 ?_
  exact rL
theorem s_part (a:Val) (p:PStep):PSpec Tryd.prog 40 [.agg (encVal a),.agg (enc .pstep p)] (partA a p) :=
 pspec_of_vcL Γ_good Tryd.func40 rfl Tryd.call40 Tryd.results40 Tryd.ntmps40 (Nat.le_of_ble_eq_true rfl) (w_part a p)
theorem w_pathR (l:List PStep):vc Tryd.prog Γ 36 [0,2,4,7,8,9,10,11,26,30,34] (Tryd.f61.body.getD .skip) (postK Γ [.tmp 2] (fun v=>v = .i .i64 (pathF l))) ⟨argSlots 0 [.rd .pstep l],[]⟩:=by
 intro hl
 refine aN (fun hq=>?_) (fun hq=>?_)
 ·refine congrArg (AV.i .i64) ?_
  rw [pathF,if_pos (by have:=of_decide_eq_true hq; omega)]
 rw [pathF,if_neg (by have:=of_decide_eq_false hq; omega)]
 intro _
 refine eX [] (eX [] (eX [] (eX Nat (eX (fun i=>i≤(l).length∧(stepsF l = stepsF (l.drop i))) (eX (fun i=>⟨[(8,.rd .pstep l),(9,.i .i64 l.length),(10,.i .i64 i)],[]⟩) (eX (fun i=>(l).length - i) (eX 0 (aN ⟨Nat.zero_le _,rfl⟩ (aN ?_ ?_)))))))))
 ·exact wK
 rintro i ⟨hi,hI⟩
 refine aN (fun hz=>?_) (fun hz=>?_)
 ·have hi:=ltD hz
  have hg:=getI (τ:=.pstep) hi
  refine bN2 ?_
  rw [hg]
  by_cases c:l[i].i < -1∨(0≤l[i].i∧l[i].key≠[])
  ·rw [stepsF_stop hi (stepF1 c) (by decide)] at hI
   rcases c with c | ⟨c,c3⟩
   all_goals (repeat' (first | (refine aN (fun h=>?_) (fun h=>?_)<;>(try simp [-List.getD_eq_getElem?_getD,-Int.pred_toNat] at h)<;>(try (exfalso; first | omega | contradiction))) | refine bX ?_ | intro _))
   all_goals exact congrArg (AV.i .i64) hI.symm
  ·have c1 : -1≤l[i].i:=by omega
   have c2:l[i].i = -1∨(0≤l[i].i∧l[i].key = []):=by grind
   by_cases d:100 < l[i].key.length
   ·rw [stepsF_stop hi (stepF2 c d) (by decide)] at hI
    rcases c2 with c2 | ⟨c2,c3⟩
    all_goals (repeat' (first | (refine aN (fun h=>?_) (fun h=>?_)<;>(try simp [-List.getD_eq_getElem?_getD,-Int.pred_toNat] at h)<;>(try (exfalso; first | omega | contradiction))) | refine bX ?_ | intro _))
    all_goals exact congrArg (AV.i .i64) hI.symm
   ·by_cases e:0≤bad l[i].key
    ·rw [stepsF_stop hi (stepF3 c d e) (by decide)] at hI
     rcases c2 with c2 | ⟨c2,c3⟩
     all_goals (repeat' (first | (refine aN (fun h=>?_) (fun h=>?_)<;>(try simp [-List.getD_eq_getElem?_getD,-Int.pred_toNat] at h)<;>(try (exfalso; first | omega | contradiction))) | refine bX ?_ | intro _))
     all_goals refine Or.inl (eX _ (aN (s_BadPlace l[i].key) ?_))
     all_goals (repeat' (first | (refine aN (fun h=>?_) (fun h=>?_)<;>(try simp [-List.getD_eq_getElem?_getD,-Int.pred_toNat] at h)<;>(try (exfalso; first | omega | contradiction))) | refine bX ?_ | intro _))
     all_goals exact congrArg (AV.i .i64) hI.symm
    ·rw [stepsF_go hi (stepF0 c d e)] at hI
     have:=len_le hl
     rcases c2 with c2 | ⟨c2,c3⟩
     all_goals (repeat' (first | (refine aN (fun h=>?_) (fun h=>?_)<;>(try simp [-List.getD_eq_getElem?_getD,-Int.pred_toNat] at h)<;>(try (exfalso; first | omega | contradiction))) | refine bX ?_ | intro _))
     all_goals refine Or.inl (eX _ (aN (s_BadPlace l[i].key) ?_))
     all_goals (repeat' (first | (refine aN (fun h=>?_) (fun h=>?_)<;>(try simp [-List.getD_eq_getElem?_getD,-Int.pred_toNat] at h)<;>(try (exfalso; first | omega | contradiction))) | refine bX ?_ | intro _))
     all_goals refine eX [] (eX (i + 1) (aN ⟨hi,hI⟩ (aN ?_ ?_)))
     all_goals first | (exact Nat.sub_lt_sub_left (by omega) (by omega)) | exact wK
 ·(have hi:=geD hi hz)
  rw [hI,List.drop_eq_nil_of_le (by omega)]
  rfl
theorem s_pathR (l:List PStep):PSpec Tryd.prog 61 [.rd .pstep l] (.i .i64 (pathF l)) :=
 pspec_of_vc Γ_good Tryd.func61 rfl Tryd.call61 Tryd.results61 Tryd.ntmps61 (Nat.le_of_ble_eq_true rfl) (w_pathR l)
def ledA (a:Val) (l:List PStep):AV:=.tup [.agg (encVal (ledV a l).1),.i .i64 (ledV a l).2]
theorem ledA_eq {a w:Val} {l:List PStep} {e:Int} (h:ledV a l = (w,e)):ledA a l = .tup [.agg (encVal w),.i .i64 e]:=by unfold ledA; rw [h]
theorem tail_eq (p:PStep) (r:List PStep):((p::r).take (Int.toNat ((p::r).length:Int))).drop (Int.toNat 1) = r:=by
 rw [Int.toNat_natCast,List.take_length]; rfl
theorem w_led0 (a:Val):vc Tryd.prog Γ 30 [1,2,4,5,6,7,10,21] (Tryd.f18.body.getD .skip) (postK Γ [.cell 4 26,.tmp 5] (fun v=>RL v (ledA a []))) ⟨argSlots 0 [.agg (encVal a),.rd .pstep []],[]⟩:=by
 intro _
 refine aN (fun _=>?_) (fun hq=>Bool.noConfusion hq)
 exact rL
theorem s_led0 (a:Val):PSpec Tryd.prog 18 [.agg (encVal a),.rd .pstep []] (ledA a []) :=
 pspec_of_vcL Γ_good Tryd.func18 rfl Tryd.call18 Tryd.results18 Tryd.ntmps18 (Nat.le_of_ble_eq_true rfl) (w_led0 a)
theorem w_led1 (a:Val) (p:PStep) (r:List PStep) (h : -1≤p.i) (ih:∀ w,PSpec Tryd.prog 18 [.agg (encVal w),.rd .pstep r] (ledA w r)):vc Tryd.prog Γ 30 [1,2,4,5,6,7,10,21] (Tryd.f18.body.getD .skip) (postK Γ [.cell 4 26,.tmp 5] (fun v=>RL v (ledA a (p::r)))) ⟨argSlots 0 [.agg (encVal a),.rd .pstep (p::r)],[]⟩:=by
 intro _
 refine aN (fun hq=>?_) (fun _=>?_)
 ·have:=eq_of_beq hq
  simp only [List.length_cons] at this
  omega
 have hs:=s_partOf a p h
 refine eX [.take 1,.take 2,.tree 8 [0,3,4,5,6,7,8,9] (.opt 0 (.opt 3 (.opt 4 (.opt 5 (.opt 6 (.opt 7 (.opt 8 (.opt 9 .fin .non) .non) (.opt 8 (.opt 7 (.opt 9 .fin .non) (.opt 9 (.opt 7 .fin .non) .non)) .non)) (.opt 7 (.opt 6 (.opt 8 (.opt 9 .fin .non) .non) (.opt 8 (.opt 6 (.opt 9 .fin .non) .non) .non)) (.opt 8 (.opt 6 (.opt 7 (.opt 9 .fin .non) (.opt 9 (.opt 7 .fin .non) .non)) (.opt 7 (.opt 6 (.opt 9 .fin .non) .non) .non)) .non))) (.opt 8 (.opt 5 (.opt 6 (.opt 7 (.opt 9 .fin .non) (.opt 9 (.opt 7 .fin .non) .non)) (.opt 7 (.opt 6 (.opt 9 .fin .non) .non) .non)) .non) .non)) (.opt 8 (.opt 4 (.opt 5 (.opt 6 (.opt 7 (.opt 9 .fin .non) (.opt 9 (.opt 7 .fin .non) .non)) (.opt 7 (.opt 6 (.opt 9 .fin .non) .non) .non)) .non) .non) .non)) (.opt 8 (.opt 3 (.opt 4 (.opt 5 (.opt 6 (.opt 7 (.opt 9 .fin .non) (.opt 9 (.opt 7 .fin .non) .non)) (.opt 7 (.opt 6 (.opt 9 .fin .non) .non) .non)) .non) .non) .non) .non)) (.opt 3 (.opt 0 (.opt 4 (.opt 5 (.opt 6 (.opt 7 (.opt 8 (.opt 9 .fin .non) .non) (.opt 8 (.opt 7 (.opt 9 .fin .non) (.opt 9 (.opt 7 .fin .non) .non)) .non)) (.opt 7 (.opt 6 (.opt 8 (.opt 9 .fin .non) .non) (.opt 8 (.opt 6 (.opt 9 .fin .non) .non) .non)) (.opt 8 (.opt 6 (.opt 7 (.opt 9 .fin .non) (.opt 9 (.opt 7 .fin .non) .non)) (.opt 7 (.opt 6 (.opt 9 .fin .non) .non) .non)) .non))) (.opt 8 (.opt 5 (.opt 6 (.opt 7 (.opt 9 .fin .non) (.opt 9 (.opt 7 .fin .non) .non)) (.opt 7 (.opt 6 (.opt 9 .fin .non) .non) .non)) .non) .non)) (.opt 8 (.opt 4 (.opt 5 (.opt 6 (.opt 7 (.opt 9 .fin .non) (.opt 9 (.opt 7 .fin .non) .non)) (.opt 7 (.opt 6 (.opt 9 .fin .non) .non) .non)) .non) .non) .non)) (.opt 8 (.opt 0 (.opt 4 (.opt 5 (.opt 6 (.opt 7 (.opt 9 .fin .non) (.opt 9 (.opt 7 .fin .non) .non)) (.opt 7 (.opt 6 (.opt 9 .fin .non) .non) .non)) .non) .non) .non) .non)) (.opt 8 (.opt 0 (.opt 3 (.opt 4 (.opt 5 (.opt 6 (.opt 7 (.opt 9 .fin .non) (.opt 9 (.opt 7 .fin .non) .non)) (.opt 7 (.opt 6 (.opt 9 .fin .non) .non) .non)) .non) .non) .non) (.opt 3 (.opt 0 (.opt 4 (.opt 5 (.opt 6 (.opt 7 (.opt 9 .fin .non) (.opt 9 (.opt 7 .fin .non) .non)) (.opt 7 (.opt 6 (.opt 9 .fin .non) .non) .non)) .non) .non) .non) .non)) .non))),.take 10] (aN (by kernel_rfl) ?_)
 refine aN ⟨by omega,by simp only [List.length_cons]; omega⟩ ?_
 refine eX ⟨[(1,.rd .pstep (p::r)),(2,.pt 2 0),(4,.pt 4 0),(5,.i .i64 0),(6,.pt 6 0),(19,.i .i64 (partV a p).2)],[(2,encVal a),(4,[.i .i64 0,.i .i64 0,.i .u64 0,.s [],.nl,.nl]),(6,encVal (partV a p).1)]⟩ (aN ?_ ?_)
 ·repeat' (first | exact trivial | exact Or.inl rfl | refine aN ?_ ?_ | refine Or.inl (eX _ (aN hs ?_)))
 have hr:PSpec Tryd.prog 18 [.agg (encVal (partV a p).1),.rd .pstep (((p::r).take (Int.toNat ((p::r).length:Int))).drop (Int.toNat 1))] (ledA (partV a p).1 r):=by
  rw [tail_eq]; exact ih _
 refine aN (fun hq=>?_) (fun hq=>?_)
 ·have hq:(partV a p).2≠0:=by simpa using hq
  rw [ledA_eq (show ledV a (p::r) = (zeroV,(partV a p).2) from by rw [ledV,if_pos hq])]
  exact rL
 ·have hq:¬ (partV a p).2≠0:=by simpa using hq
  rw [show ledA a (p::r) = ledA (partV a p).1 r from by unfold ledA; rw [ledV,if_neg hq]]
  refine eX [.blk [0,1,2,3,4,5],.one 6,.take 7] (aN (by kernel_rfl) ?_)
  refine aN ⟨by omega,by simp only [List.length_cons]; omega,by simp only [List.length_cons]; omega⟩ ?_
  refine eX _ (aN (hr) ?_)
  exact rL
theorem s_led1 (a:Val) (p:PStep) (r:List PStep) (h : -1≤p.i) (ih:∀ w,PSpec Tryd.prog 18 [.agg (encVal w),.rd .pstep r] (ledA w r)):PSpec Tryd.prog 18 [.agg (encVal a),.rd .pstep (p::r)] (ledA a (p::r)) :=
 pspec_of_vcL Γ_good Tryd.func18 rfl Tryd.call18 Tryd.results18 Tryd.ntmps18 (Nat.le_of_ble_eq_true rfl) (w_led1 a p r h ih)
theorem s_Led:∀ (l:List PStep) (a:Val),(∀ p ∈ l,-1≤p.i)→PSpec Tryd.prog 18 [.agg (encVal a),.rd .pstep l] (ledA a l)
 | [],a,_=>s_led0 a
 | p::r,a,h=>s_led1 a p r (h p (.head _)) fun w=>s_Led r w fun q hq=>h q (.tail _ hq)
def getV (a:Val) (l:List PStep):Val × Int:=if pathF l≠0 then (zeroV,pathF l) else ledV a l
def getA (a:Val) (l:List PStep):AV:=.tup [.agg (encVal (getV a l).1),.i .i64 (getV a l).2]
theorem getA_eq {a w:Val} {l:List PStep} {e:Int} (h:getV a l = (w,e)):getA a l = .tup [.agg (encVal w),.i .i64 e]:=by unfold getA; rw [h]
theorem vn_zero (n:Nat):VN n zeroV:=.mk _ (Nat.zero_le _) (Nat.zero_le _) (fun _ h=>nomatch h) (fun _ h=>nomatch h)
theorem vn_part {n:Nat} {v x:Val} (hv:VN n v) (hx:x ∈ partsOf v):VN n x:=by
 cases hv with
 | mk _ _ _ h4 h5 =>
  rcases List.mem_append.1 hx with hx | hx
  ·exact h4 x hx
  ·obtain ⟨z,hz,rfl⟩:=List.mem_map.1 hx
   exact h5 z hz
theorem w_get (hu:HasU8) (a:Val) (l:List PStep) (ha:VN 100000000 a):vc Tryd.prog Γ 35 [1,2,4,5,6,8,9,13,16,17,18,19,29] (Tryd.f23.body.getD .skip) (postK Γ [.cell 4 26,.tmp 5] (fun v=>RL v (getA a l))) ⟨argSlots 0 [.agg (encVal a),.rd .pstep l],[]⟩:=by
 refine Or.inl (eX _ (aN (s_pathC hu l) ?_))
 refine aN (fun hq=>?_) (fun hq=>?_)
 ·have hq:pathF l≠0:=by simpa using hq
  rw [getA_eq (show getV a l = (zeroV,pathF l) from if_pos hq)]
  exact rL
 have hq:¬ pathF l≠0:=by simpa using hq
 have hg:getV a l = ledV a l:=if_neg hq
 rw [show getA a l = ledA a l from by unfold getA ledA; rw [hg]]
 intro hl
 refine eX [] (eX [] (eX [] (eX Nat (eX (fun i=>i≤(l).length∧((ledV a (l.take i)).2 = 0)) (eX (fun i=>⟨[(2,.pt 2 0),(4,.pt 4 0),(5,.i .i64 0),(16,.rd .pstep l),(17,.i .i64 l.length),(18,.i .i64 i)],[(2,encVal (ledV a (l.take i)).1),(4,[.i .i64 0,.i .i64 0,.i .u64 0,.s [],.nl,.nl])]⟩) (eX (fun i=>(l).length - i) (eX 0 (aN ⟨Nat.zero_le _,rfl⟩ (aN ?_ ?_)))))))))
 ·exact wK
 rintro i ⟨hi,hI⟩
 refine aN (fun hz=>?_) (fun hz=>?_)
 ·have hi:=ltD hz
  have hg:=getI (τ:=.pstep) hi
  refine bN2 ?_
  rw [hg]
  have hs:=s_part (ledV a (l.take i)).1 l[i]
  have hap:=ledV_append (l.take i) [l[i]] a hI
  rw [← take_snoc hi,ledV_one] at hap
  have hap2:=ledV_append (l.take i) (l.drop i) a hI
  rw [List.take_append_drop,List.drop_eq_getElem_cons hi,ledV] at hap2
  have:=len_le hl
  refine Or.inl (eX _ (aN (hs) ?_))
  refine aN (fun hq=>?_) (fun hq=>?_)
  ·have hq:(partV (ledV a (l.take i)).1 l[i]).2≠0:=by simpa using hq
   rw [if_pos hq] at hap2
   rw [ledA_eq hap2]
   exact rL
  ·have hq:¬ (partV (ledV a (l.take i)).1 l[i]).2≠0:=by simpa using hq
   rw [if_neg hq] at hap
   have e1:(ledV a (l.take (i + 1))).1 = (partV (ledV a (l.take i)).1 l[i]).1:=by rw [hap]
   (refine rNG ?_)
   refine eX [] (eX (_ + 1) (aN ⟨hi,(by rw [hap])⟩ (aN ?_ ?_)))
   ·(repeat' (first | exact wA | exact Or.inl ((congrArg (fun v:Val=>AV.i .i64 v.kind) e1.symm)) | exact Or.inl ((congrArg (fun v:Val=>AV.i .i64 v.n) e1.symm)) | exact Or.inl ((congrArg (fun v:Val=>AV.i .u64 v.f) e1.symm)) | exact Or.inl ((congrArg (fun v:Val=>AV.s v.s) e1.symm)) | exact Or.inl ((congrArg (fun v:Val=>AV.rd .val v.l) e1.symm)) | exact Or.inl ((congrArg (fun v:Val=>AV.rd .ent v.e) e1.symm)) | refine aN ?_ ?_))
   ·(exact Nat.sub_lt_sub_left (by omega) (by omega))
 ·(have hi:=geD hi hz)
  subst hi
  rw [List.take_length] at hI ⊢
  refine Or.inl (eX _ (aN (s_Own (ledV a l).1 (ledV_keep (R:=VN 100000000) (vn_zero _) (fun _ h _ hx=>vn_part h hx) l a ha)) ?_))
  rw [show ledA a l = .tup [.agg (encVal (ledV a l).1),.i .i64 0] from by unfold ledA; rw [hI]]
  exact rL
theorem s_get (hu:HasU8) (a:Val) (l:List PStep) (ha:VN 100000000 a):PSpec Tryd.prog 23 [.agg (encVal a),.rd .pstep l] (getA a l) :=
 pspec_of_vcL Γ_good Tryd.func23 rfl Tryd.call23 Tryd.results23 Tryd.ntmps23 (Nat.le_of_ble_eq_true rfl) (w_get hu a l ha)
end
end Go.Proofs.YtfeniggadfkakaaDoor
end
section
namespace Go.Proofs.YtfeniggadfkakaaDoor
open Go Go.SX Go.Ck Go.Vl Go.Ut
set_option maxRecDepth 100000
set_option maxHeartbeats 1000000
section
variable [G:Globs]
def partsR (f:Int):AV:=if (f / 4503599627370496) % 2048 = 2047 then .tup [.i .u64 0,.i .i64 0,.i .i64 (if f % 4503599627370496 = 0 then 1 else 2)] else if (f / 4503599627370496) % 2048 = 0 then .tup [.i .u64 (f % 4503599627370496),.i .i64 (-1074),.i .i64 0] else .tup [.i .u64 (f % 4503599627370496 + 4503599627370496),.i .i64 ((f / 4503599627370496) % 2048 - 1075),.i .i64 0]
theorem w_floatParts (f:Int) (h0:0≤f) (h1:f≤18446744073709551615):vc Tryd.prog Γ 28 [0,2,3,4,5,6,18,20,22] (Tryd.f59.body.getD .skip) (postK Γ [.tmp 2,.tmp 3,.tmp 4] (fun v=>v = partsR f)) ⟨argSlots 0 [.i .u64 f],[]⟩:=by
 have hq:f.tdiv 4503599627370496 = f / 4503599627370496:=Int.tdiv_eq_ediv_of_nonneg h0
 have hm:f.tmod 4503599627370496 = f % 4503599627370496:=Int.tmod_eq_emod_of_nonneg h0
 have hm2:(f / 4503599627370496).tmod 2048 = (f / 4503599627370496) % 2048:=Int.tmod_eq_emod_of_nonneg (by omega)
 have hw:IntKind.i64.wrap ((f.tdiv 4503599627370496).tmod 2048) = (f / 4503599627370496) % 2048:=by
  rw [hq,hm2]; exact IntWalk.i64_in _ ⟨by omega,by omega⟩
 have hw2:IntKind.u64.wrap (f.tmod 4503599627370496 + 4503599627370496) = f % 4503599627370496 + 4503599627370496:=by
  rw [hm]; exact IntWalk.u64_in _ ⟨by omega,by omega⟩
 refine aN (by decide) ?_
 refine aN (by decide) ?_
 refine bN2 ?_
 refine aN (by decide) ?_
 refine aN (fun h=>?_) (fun h=>?_)
 ·have h:(f / 4503599627370496) % 2048 = 2047:=by rw [← hw]; exact eq_of_beq h
  refine aN (fun h2=>?_) (fun h2=>?_)
  ·have h2:f % 4503599627370496 = 0:=by rw [← hm]; exact eq_of_beq h2
   show AV.tup [.i .u64 0,.i .i64 0,.i .i64 1] = _
   rw [partsR,if_pos h,if_pos h2]
  ·have h2:¬ f % 4503599627370496 = 0:=by rw [← hm]; exact ne_of_beq_false h2
   refine aN (fun _=>?_) (fun h3=>absurd (hw.trans h) (ne_of_beq_false h3))
   show AV.tup [.i .u64 0,.i .i64 0,.i .i64 2] = _
   rw [partsR,if_pos h,if_neg h2]
 ·have h:¬ (f / 4503599627370496) % 2048 = 2047:=by rw [← hw]; exact ne_of_beq_false h
  refine aN (fun h2=>Bool.noConfusion h2) (fun _=>?_)
  refine aN (fun h3=>absurd (hw.symm.trans (eq_of_beq h3)) h) (fun _=>?_)
  refine aN (fun h2=>?_) (fun h2=>?_)
  ·have h2:(f / 4503599627370496) % 2048 = 0:=by rw [← hw]; exact eq_of_beq h2
   show AV.tup [.i .u64 (f.tmod 4503599627370496),.i .i64 (-1074),.i .i64 0] = _
   rw [partsR,if_neg h,if_pos h2,hm]
  ·have h2:¬ (f / 4503599627370496) % 2048 = 0:=by rw [← hw]; exact ne_of_beq_false h2
   refine bN2 ?_
   show AV.tup [.i .u64 (IntKind.u64.wrap (f.tmod 4503599627370496 + 4503599627370496)),.i .i64 (IntKind.i64.wrap ((f.tdiv 4503599627370496).tmod 2048) - 1075),.i .i64 0] = _
   rw [partsR,if_neg h,if_neg h2,hw2,hw]
theorem s_floatParts (f:Int) (h0:0≤f) (h1:f≤18446744073709551615):PSpec Tryd.prog 59 [.i .u64 f] (partsR f) :=
 pspec_of_vc Γ_good Tryd.func59 rfl Tryd.call59 Tryd.results59 Tryd.ntmps59 (Nat.le_of_ble_eq_true rfl) (w_floatParts f h0 h1)
theorem partsR_eq (f:Int):∃ x y z,partsR f = .tup [.i .u64 x,.i .i64 y,.i .i64 z]∧(z = 2↔((f / 4503599627370496) % 2048 = 2047∧f % 4503599627370496≠0)):=by
 unfold partsR
 split
 ·rename_i h
  refine ⟨_,_,_,rfl,?_⟩
  split<;>omega
 ·split
  ·exact ⟨_,_,_,rfl,by omega⟩
  ·exact ⟨_,_,_,rfl,by omega⟩
theorem w_oneFault (a:Val) (h0:0≤a.f) (h1:a.f≤18446744073709551615):VCs Tryd.prog Γ 147 [1,2,5,6,7,8,16,44,84,98,114,118,120,121,122,123,130,134,143] (Tryd.f31.body.getD .skip) (postK Γ [.tmp 2] (fun v=>v = .i .i64 (docF a))) ⟨argSlots 0 [.agg (encVal a)],[]⟩:=by
 refine VCs.seq (by first | exact Γ_good | exact Ctx.good_kp Γ_good _) ?_
 refine VCs.cut (by first | exact Γ_good | exact Ctx.good_kp Γ_good _) Unit (fun _=>¬ (a.kind < 0∨6 < a.kind)) (fun _=>⟨[(1,.pt 1 0),(2,.i .i64 0)],[(1,encVal a)]⟩) ?_ ?_
 ·(repeat' (first | (refine aN (fun h=>?_) (fun h=>?_)<;>(try simp [-List.getD_eq_getElem?_getD,-Int.pred_toNat] at h)<;>(try (exfalso; first | omega | contradiction))) | refine bX ?_ | intro _))
  all_goals first | (exact congrArg (AV.i .i64) (docF_kind (by unfold kindBad oddF; omega))) | (refine eX () (aN (by omega) ?_); exact wK)
 intro _ k1
 refine VCs.cut (by first | exact Γ_good | exact Ctx.good_kp Γ_good _) Unit (fun _=>¬ ((a.kind≠1∧a.kind≠2∧a.n≠0)∨(a.kind = 1∧a.n≠0∧a.n≠1))) (fun _=>⟨[(1,.pt 1 0),(2,.i .i64 0)],[(1,encVal a)]⟩) ?_ ?_
 ·(repeat' (first | (refine aN (fun h=>?_) (fun h=>?_)<;>(try simp [-List.getD_eq_getElem?_getD,-Int.pred_toNat] at h)<;>(try (exfalso; first | omega | contradiction))) | refine bX ?_ | intro _))
  all_goals first | (exact congrArg (AV.i .i64) (docF_kind (by unfold kindBad oddF; omega))) | (refine eX () (aN (by omega) ?_); exact wK)
 intro _ k2
 refine VCs.cut (by first | exact Γ_good | exact Ctx.good_kp Γ_good _) Unit (fun _=>¬ ((a.kind≠3∧a.f≠0)∨(a.kind≠4∧a.s≠[])∨(a.kind≠5∧0 < a.l.length)∨(a.kind≠6∧0 < a.e.length))) (fun _=>⟨[(1,.pt 1 0),(2,.i .i64 0)],[(1,encVal a)]⟩) ?_ ?_
 ·(repeat' (first | (refine aN (fun h=>?_) (fun h=>?_)<;>(try simp [-List.getD_eq_getElem?_getD,-Int.pred_toNat] at h)<;>(try (exfalso; first | omega | contradiction))) | refine bX ?_ | intro _))
  all_goals first | (exact congrArg (AV.i .i64) (docF_kind (by unfold kindBad oddF; grind))) | (refine eX () (aN (by grind) ?_); exact wK)
 intro _ k3
 obtain ⟨x,y,z,hp,hz⟩:=partsR_eq a.f
 have hs:=s_floatParts a.f h0 h1
 rw [hp] at hs
 refine VCs.cut (by first | exact Γ_good | exact Ctx.good_kp Γ_good _) Unit (fun _=>¬ oddF a.f) (fun _=>⟨[(1,.pt 1 0),(2,.i .i64 0)],[(1,encVal a)]⟩) ?_ ?_
 ·refine Or.inl (eX _ (aN (hs) ?_))
  (repeat' (first | (refine aN (fun h=>?_) (fun h=>?_)<;>(try simp [-List.getD_eq_getElem?_getD,-Int.pred_toNat] at h)<;>(try (exfalso; first | omega | contradiction))) | refine bX ?_ | intro _))
  all_goals first | (exact congrArg (AV.i .i64) (docF_kind (by unfold kindBad oddF; omega))) | (refine eX () (aN (by unfold oddF; omega) ?_); exact wK)
 intro _ k4
 have hk:¬ kindBad a:=by unfold kindBad; grind
 refine VCs.cut (by first | exact Γ_good | exact Ctx.good_kp Γ_good _) Unit (fun _=>¬ (4000 < a.s.length∨200 < a.l.length∨200 < a.e.length)) (fun _=>⟨[(1,.pt 1 0),(2,.i .i64 0)],[(1,encVal a)]⟩) ?_ ?_
 ·(repeat' (first | (refine aN (fun h=>?_) (fun h=>?_)<;>(try simp [-List.getD_eq_getElem?_getD,-Int.pred_toNat] at h)<;>(try (exfalso; first | omega | contradiction))) | refine bX ?_ | intro _))
  all_goals first | (exact congrArg (AV.i .i64) (docF_large hk (by omega))) | (refine eX () (aN (by omega) ?_); exact wK)
 intro _ k5
 refine VCs.cut (by first | exact Γ_good | exact Ctx.good_kp Γ_good _) Unit (fun _=>¬ 0≤bad a.s) (fun _=>⟨[(1,.pt 1 0),(2,.i .i64 0)],[(1,encVal a)]⟩) ?_ ?_
 ·refine Or.inl (eX _ (aN (s_BadPlace a.s) ?_))
  (repeat' (first | (refine aN (fun h=>?_) (fun h=>?_)<;>(try simp [-List.getD_eq_getElem?_getD,-Int.pred_toNat] at h)<;>(try (exfalso; first | omega | contradiction))) | refine bX ?_ | intro _))
  all_goals first | (exact congrArg (AV.i .i64) (docF_text hk k5 (by omega))) | (refine eX () (aN (by omega) ?_); exact wK)
 intro _ k6
 refine VCs.of_vc (by first | exact Γ_good | exact Ctx.good_kp Γ_good _) ?_
 rw [docF_ent hk k5 k6]
 intro hl
 refine eX [] (eX [] (eX [] (eX Nat (eX (fun i=>i≤a.e.length∧entF none a.e = entF (keyAt a.e i) (a.e.drop i)) (eX (fun i=>⟨[(6,.s (lastK a.e i)),(120,.rd .ent a.e),(121,.i .i64 a.e.length),(122,.i .i64 i)],[]⟩) (eX (fun i=>a.e.length - i) (eX 0 (aN ⟨Nat.zero_le _,rfl⟩ (aN ?_ ?_)))))))))
 ·exact wK
 ·rintro i ⟨hi,he⟩
  refine aN (fun hz=>?_) (fun hz=>?_)
  ·have hi:=ltD hz
   have hg:=getI (τ:=.ent) hi
   refine bN2 ?_
   rw [hg]
   intro _
   refine aN (fun hq=>?_) (fun hq=>?_)
   ·have hk:=keyF_large (p:=keyAt a.e i) (k:=a.e[i].1) (by have:=of_decide_eq_true hq; omega)
    rw [entF_stop hi (by rw [hk]; decide),hk] at he
    exact congrArg (AV.i .i64) he.symm
   have n1:¬ 100 < a.e[i].1.length:=by have:=of_decide_eq_false hq; omega
   refine Or.inl (eX _ (aN (s_BadPlace a.e[i].1) ?_))
   refine aN (fun hq=>?_) (fun hq=>?_)
   ·have hk:=keyF_text (p:=keyAt a.e i) (k:=a.e[i].1) n1 (of_decide_eq_true hq)
    rw [entF_stop hi (by rw [hk]; decide),hk] at he
    exact congrArg (AV.i .i64) he.symm
   have n2:¬ 0≤bad a.e[i].1:=of_decide_eq_false hq
   have hlen:=len_le hl
   refine aN (fun hq=>?_) (fun hq=>?_)
   ·have h0:0 < i:=by have:=of_decide_eq_true hq; omega
    refine aN (fun hq=>?_) (fun hq=>?_)
    ·have hk:=keyF_order (e:=a.e) n1 n2 h0 (by simpa using (show (!Op.bytesLess (lastK a.e i) a.e[i].1) = true from hq))
     rw [entF_stop hi (by rw [hk]; decide),hk] at he
     exact congrArg (AV.i .i64) he.symm
    ·have hk:=keyF_ok (e:=a.e) n1 n2 (fun _=>by simpa using (show (!Op.bytesLess (lastK a.e i) a.e[i].1) = false from hq))
     rw [entF_go hi hk] at he
     (refine rNG ?_)
     refine eX [] (eX (i + 1) (aN ⟨hi,he⟩ (aN ?_ ?_)))
     ·(repeat' (first | exact wA | exact Or.inl ((congrArg AV.s (lastK_succ hi).symm)) | refine aN ?_ ?_))
     ·show a.e.length - (i + 1) < a.e.length - i
      omega
   ·have h0:¬ 0 < i:=by have:=of_decide_eq_false hq; omega
    refine aN (fun hq=>Bool.noConfusion hq) (fun _=>?_)
    have hk:=keyF_ok (e:=a.e) n1 n2 (fun h=>absurd h h0)
    rw [entF_go hi hk] at he
    (refine rNG ?_)
    refine eX [] (eX (i + 1) (aN ⟨hi,he⟩ (aN ?_ ?_)))
    ·(repeat' (first | exact wA | exact Or.inl ((congrArg AV.s (lastK_succ hi).symm)) | refine aN ?_ ?_))
    ·show a.e.length - (i + 1) < a.e.length - i
     omega
  ·have hi:=geD hi hz
   rw [entF_end _ (by omega)] at he
   exact congrArg (AV.i .i64) he.symm
theorem s_oneFault (a:Val) (h0:0≤a.f) (h1:a.f≤18446744073709551615):PSpec Tryd.prog 31 [.agg (encVal a)] (.i .i64 (docF a)) :=
 pspec_of_VCs Γ_good Tryd.func31 rfl Tryd.call31 Tryd.results31 Tryd.ntmps31 (Nat.le_of_ble_eq_true rfl) (w_oneFault a h0 h1) Γ_good
end
end Go.Proofs.YtfeniggadfkakaaDoor
end
section
namespace Go.Proofs.YtfeniggadfkakaaDoor
open Go Go.SX Go.Ck Go.Vl Go.Ut
set_option maxRecDepth 100000
set_option maxHeartbeats 1000000
section
variable [G:Globs]
theorem w_fault (a:Val) (ha:VB a) (hn:(sizV a).2≤1000000000):vc Tryd.prog Γ 74 [1,2,3,4,5,6,7,9,11,17,26,29,34,38,39,40,41,55,56,57,58] (Tryd.f15.body.getD .skip) (postK Γ [.tmp 2] (fun v=>v = .i .i64 (chkT [⟨a,0⟩] 0))) ⟨argSlots 0 [.agg (encVal a)],[]⟩:=by
 have hpos:=siz_pos a
 generalize hR:chkT [⟨a,0⟩] 0 = R
 refine eX [] (eX [] (eX [(14,3)] (eX (List VPlace × Int) (eX (fun q=>(∀ p ∈ q.1,VB p.v∧0≤p.above∧p.above≤20)∧sumT q.1≤1000000000∧0≤q.2∧q.2≤2000∧R = chkT q.1 q.2) (eX (fun ⟨l,m⟩=>⟨[(3,.vec 3 .vplace l),(4,.i .i64 m)],[]⟩) (eX (fun q=>(sumT q.1).toNat) (eX ([⟨a,0⟩],0) (aN ⟨fun p hp=>by rw [List.mem_singleton.1 hp]; exact ⟨ha,Int.le_refl _,(show (0:Int)≤20 by decide)⟩,by simp only [sumT]; omega,Int.le_refl _,by omega,hR.symm⟩ (aN ?_ ?_)))))))))
 ·(repeat' (first | exact wA | exact Or.inl ((congrArg (fun x=>AV.vec 3 .vplace [x]) (vplace_eta a 0))) | refine aN ?_ ?_))
 ·rintro ⟨l,m⟩ ⟨hv,hs,hm0,hm,he⟩
  simp only at hv hs hm0 hm he
  intro hl
  refine aN (fun hz=>?_) (fun hz=>?_)
  ·obtain ⟨x, r, rfl⟩ : ∃ x r, l = x :: r := by
    cases l with
    | nil=>exact absurd (of_decide_eq_true hz) (by decide)
    | cons x r=>exact ⟨x,r,rfl⟩
   obtain ⟨hxb,hx0,hx1⟩:=hv x (.head _)
   have hlenr:((r.length:Nat):Int)≤sumT r:=sumT_len r
   have hsx:=siz_pos x.v
   have hsl:=siz_len x.v
   have hsum:sumT (x::r) = (sizV x.v).2 + sumT r:=rfl
   refine aN ⟨by omega,by simp only [List.length_cons]; omega⟩ ?_
   refine aN ⟨by omega,by simp only [List.length_cons]; omega⟩ ?_
   (refine rNG ?_)
   rw [chkT_step] at he
   refine aN (fun hq=>?_) (fun hq=>?_)
   ·rw [if_pos (of_decide_eq_true hq)] at he
    exact congrArg (AV.i .i64) he.symm
   rw [if_neg (of_decide_eq_false hq)] at he
   have hm2:¬ 2000 < m + 1:=of_decide_eq_false hq
   rw [oneF_doc] at he
   refine aN (fun hq=>?_) (fun hq=>?_)
   ·rw [if_pos (show 20≤x.above from of_decide_eq_true hq),if_pos (by decide)] at he
    exact congrArg (AV.i .i64) he.symm
   have ha20:¬ 20≤x.above:=of_decide_eq_false hq
   rw [if_neg ha20] at he
   have hfb:0≤x.v.f∧x.v.f≤18446744073709551615:=by cases hxb with | mk _ _ _ h3=>exact h3
   refine Or.inl (eX _ (aN (s_oneFault x.v hfb.1 hfb.2) ?_))
   refine aN (fun hq=>?_) (fun hq=>?_)
   ·have hq:docF x.v≠0:=by simpa using hq
    rw [if_pos hq] at he
    exact congrArg (AV.i .i64) he.symm
   have hd:¬ docF x.v≠0:=by simpa using hq
   rw [if_neg hd] at he
   intro hlv
   refine eX [(7,7,.vplace)] (eX [] (eX [] (eX Nat (eX (fun i=>i≤x.v.l.length) (eX (fun i=>⟨[(3,.vs 3 .vplace (x::r) 1),(4,.i .i64 (m + 1)),(5,.pt 5 0),(7,.vec 7 .vplace ((x.v.l.take i).map fun v=>(⟨v,x.above + 1⟩:VPlace))),(38,.rd .val x.v.l),(39,.i .i64 x.v.l.length),(40,.i .i64 i)],[(5,enc .vplace x)]⟩) (eX (fun i=>x.v.l.length - i) (eX 0 (aN (Nat.zero_le _) (aN ?_ ?_)))))))))
   ·exact wK
   ·rintro i hi
    refine aN (fun hz=>?_) (fun hz=>?_)
    ·have hi:=ltD hz
     have hg:=getI (τ:=.val) hi
     refine bN2 ?_
     rw [hg]
     (refine rNG ?_)
     refine aN (show (((x.v.l.take i).map fun v=>(⟨v,x.above + 1⟩:VPlace)).length + 1) * 96≤140737488355328 by rw [List.length_map,List.length_take]; omega) ?_
     (refine rNG ?_)
     refine eX [(51,7)] (eX (i + 1) (aN hi (aN ?_ ?_)))
     ·(repeat' (first | exact wA | exact Or.inl ((congrArg (AV.vec 7 .vplace) (by rw [take_snoc hi,List.map_append]; exact congrArg (fun p=>_++[p]) (vplace_eta _ _)))) | refine aN ?_ ?_))
     ·show x.v.l.length - (i + 1) < x.v.l.length - i
      omega
    ·have hi:=geD hi hz
     subst hi
     rw [List.take_length]
     intro hle
     refine eX [] (eX [] (eX [] (eX Nat (eX (fun i=>i≤x.v.e.length) (eX (fun i=>⟨[(3,.vs 3 .vplace (x::r) 1),(4,.i .i64 (m + 1)),(5,.pt 5 0),(7,.vec 7 .vplace ((x.v.l++(x.v.e.take i).map (·.2)).map fun v=>(⟨v,x.above + 1⟩:VPlace))),(55,.rd .ent x.v.e),(56,.i .i64 x.v.e.length),(57,.i .i64 i)],[(5,enc .vplace x)]⟩) (eX (fun i=>x.v.e.length - i) (eX 0 (aN (Nat.zero_le _) (aN ?_ ?_)))))))))
     ·(repeat' (first | exact wA | exact Or.inl ((congrArg (AV.vec 7 .vplace) (by rw [List.take_zero,List.map_nil,List.append_nil]))) | refine aN ?_ ?_))
     ·rintro i hi
      refine aN (fun hz=>?_) (fun hz=>?_)
      ·have hi:=ltD hz
       have hg:=getI (τ:=.ent) hi
       refine bN2 ?_
       rw [hg]
       (refine rNG ?_)
       refine aN (show (((x.v.l++(x.v.e.take i).map (·.2)).map fun v=>(⟨v,x.above + 1⟩:VPlace)).length + 1) * 96≤140737488355328 by rw [List.length_map,List.length_append,List.length_map,List.length_take]; omega) ?_
       (refine rNG ?_)
       have he2:x.v.l++(x.v.e.take (i + 1)).map (·.2) = (x.v.l++(x.v.e.take i).map (·.2))++[x.v.e[i].2]:=by rw [take_snoc hi,List.map_append,← List.append_assoc]; rfl
       refine eX [(69,7)] (eX (i + 1) (aN hi (aN ?_ ?_)))
       ·have he3 : (x.v.l ++ (x.v.e.take i).map (·.2)).map (fun v => (⟨v, x.above + 1⟩ : VPlace)) ++ [⟨⟨x.v.e[i].2.kind, x.v.e[i].2.n, x.v.e[i].2.f, x.v.e[i].2.s, x.v.e[i].2.l, x.v.e[i].2.e⟩, x.above + 1⟩] = (x.v.l ++ (x.v.e.take (i + 1)).map (·.2)).map (fun v => (⟨v, x.above + 1⟩ : VPlace)) := by
         rw [he2,vplace_eta]; exact (List.map_append (l₂:=[x.v.e[i].2])).symm
        (repeat' (first | exact wA | exact Or.inl ((congrArg (AV.vec 7 .vplace) he3)) | refine aN ?_ ?_))
       ·show x.v.e.length - (i + 1) < x.v.e.length - i
        omega
      ·have hi:=geD hi hz
       subst hi
       rw [List.take_length]
       have hpl:(x.v.l++x.v.e.map (·.2)).map (fun v=>(⟨v,x.above + 1⟩:VPlace)) = placesOf x:=rfl
       have hpl2:=sumT_parts x
       have hpll:=sumT_len (placesOf x)
       refine aN (show ((placesOf x).length + r.length) * 96≤140737488355328 by omega) ?_
       refine eX [(73,3)] (eX (placesOf x++r,m + 1) (aN ⟨fun p hp=>?_,by simp only; rw [sumT_append]; omega,by simp only; omega,by simp only; omega,he⟩ (aN ?_ ?_)))
       ·rcases List.mem_append.1 hp with hp | hp
        ·obtain ⟨y,hy,rfl⟩:=List.mem_map.1 hp
         refine ⟨?_,by simp only; omega,by simp only; omega⟩
         cases hxb with
         | mk _ _ _ _ h4 h5 =>
          rcases List.mem_append.1 hy with hy | hy
          ·exact h4 y hy
          ·obtain ⟨z,hz,rfl⟩:=List.mem_map.1 hy
           exact h5 z hz
        ·exact hv p (.tail _ hp)
       ·trace_state
        exact wK
       ·simp only
        rw [sumT_append]
        omega
  ·have hnil : l = [] := by
    cases l with
    | nil=>rfl
    | cons x r=>exact absurd (of_decide_eq_false hz) (by simp only [List.length_cons]; omega)
   subst hnil
   exact congrArg (AV.i .i64) he.symm
theorem s_fault (a:Val) (ha:VB a) (hn:(sizV a).2≤1000000000):PSpec Tryd.prog 15 [.agg (encVal a)] (.i .i64 (chkT [⟨a,0⟩] 0)) :=
 pspec_of_vc Γ_good Tryd.func15 rfl Tryd.call15 Tryd.results15 Tryd.ntmps15 (Nat.le_of_ble_eq_true rfl) (w_fault a ha hn)
end
end Go.Proofs.YtfeniggadfkakaaDoor
end
