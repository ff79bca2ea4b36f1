/-
  A part of a proof: plain laws and walks, one after the other. No conditions.
-/
import Derived.Test.YtfeniggadfkakaaDoorDl2
import Derived.Orders
import Derived.Below
import Derived.ChangeSame
import Derived.Deep.Slices
import Derived.Carry
import Derived.DataReads
import Derived.Lib.SlicesCompact
import Derived.Sort.Walk0
set_option linter.constructorNameAsVariable false
set_option linter.unusedVariables false
set_option linter.unusedSimpArgs false
set_option linter.unusedSectionVars false
section
namespace Go.SX
variable [Globs]
section
variable {P:Program} {N:Nat} {Γ:Ctx} {W0:World} {F:Fr} {X:Nat→Prop} {s:St} {β:Nat→Option Nat} {a:Act} {w:World}

def CSpecM (P:Program) (f:FuncId) (args:List AV) (boxes:List (Nat × List AV)) (r:AV) (j:Nat) (g:AV) (boxes':List (Nat × List AV)):Prop :=
 (∀ (vs:Array Value) (w:World),(callFunc f vs).run P w = .ok (.enter f vs) w) ∧
 ∀ (F:Fr) (X:Nat→Prop) (β:Nat→Option Nat) (w:World) (vs:List Value),vs.length = args.length→(∀ n g,F.pin n = some g→∃ cs,lookB boxes n = some cs) →
  InvB w F X vs.length ⟨argSlots 0 args,boxes⟩ β ⟨vs.toArray,[]⟩ w →
  Calls P f vs.toArray w fun e w'=>∃ v u β',e = .returned v∧vs[j]? = some u∧Im (Own X ⟨[(0,g)],boxes'⟩ β') w' r v∧InvB w F X 1 ⟨[(0,g)],boxes'⟩ β' ⟨#[u],[]⟩ w'

def tells:AV→Bool
 | .ob _ _ o=>!o.grid
 | .vec .. => true
 | _=>false
theorem Rel.uniq {O:Nat→Prop} {v:AV} {u u':Value} (ht:tells v = true) (h:Rel β O w v u) (h':Rel β O w v u'):u = u':=by
 cases v with
 | ob i i2 o =>
  have hg:o.grid = false:=by simpa [tells] using ht
  exact (ObAt.uniq hg hg (show ObAt β O w i i2 o u' from h') (show ObAt β O w i i2 o u from h) (.inr (.inr rfl)))
 | vec id τ l=>exact VecAt.uniq (show VecAt β O w id τ l u from h) (show VecAt β O w id τ l u' from h')
 | _=>cases ht
def tmpK:Operand→(Nat→Prop)→Prop
 | .tmp q,K=>K q
 | _,_=>False
def lnK (u:AV) (K:Nat→(τ:Ty)→List (den τ)→Prop):Prop:=match u with
 | .ob i _ (.ln τ l)=>K i τ l
 | _=>False
theorem lnK_inv {u:AV} {K:Nat→(τ:Ty)→List (den τ)→Prop} (h:lnK u K):∃ i i2 τ l,u = .ob i i2 (.ln τ l)∧K i τ l:=by
 cases u with
 | ob i i2 o=>cases o with
  | ln τ l=>exact ⟨i,i2,τ,l,rfl,h⟩
  | _=>exact h.elim
 | _=>exact h.elim
theorem ln_back {β0 β:Nat→Option Nat} {O0 O:Nat→Prop} {w0 w:World} {i j:Nat} {τ:Ty} {l t t':List (den τ)} {u up:Value} (h1:VecAt β0 O0 w0 i τ l up) (h2:VecAt β0 O0 w0 i τ (l++t) u) (h3:VecAt β O w j τ (l++t') u):VecAt β O w j τ l up:=by
 rcases h2 with ⟨e1,rfl,e3⟩ | ⟨g,c,cur,e,a1,rfl,a3,a4,a5,a6,_⟩
 ·obtain ⟨rfl,rfl⟩:=List.append_eq_nil_iff.1 e1
  rcases h1 with ⟨_,rfl,_⟩ | ⟨g,_,_,_,b1,_⟩
  ·rcases h3 with ⟨c1,_,c3⟩ | ⟨_,_,_,_,_,c2,_⟩
   ·exact .inl ⟨rfl,rfl,c3⟩
   ·cases c2
  ·rw [e3] at b1; cases b1
 ·rcases h1 with ⟨_,_,b3⟩ | ⟨g',c',cur',e',b1,rfl,b3,b4,b5,b6,_⟩
  ·rw [a1] at b3; cases b3
  ·rw [a1] at b1
   injection b1 with b1
   subst b1
   rw [a3] at b3
   injection b3 with b3
   injection b3 with b3 _ _
   subst b3
   have hc:c = c':=by
    rw [a6] at b6
    exact Nat.eq_of_mul_eq_mul_right (esz_pos τ) b6
   subst hc
   have hl:(l++t).length = (l++t').length:=by
    rcases h3 with ⟨_,c2,_⟩ | ⟨_,_,_,_,_,c2,_⟩
    ·cases c2
    ·injection c2 with _ c2 _
   rw [hl] at h3
   exact VecAt.pre h3
def winK (N:Nat) (sl0:List (Nat × AV)) (v g:AV) (s:St) (K:St→Prop):List Nat→Prop
 | []=>K s
 | p::r=>match v,g with
  | .ob i _ (.vw τ l a _),.ob j _ (.vw σ m c _)=>chkK (Nat.beq a c) (castK τ m fun m=>m.length = l.length∧heldK ⟨sl0,[]⟩ (.vec i τ l) (p::r)∧putsK N (p::r) (.vec j τ m) s K)
  | .ob i _ (.ln τ l'),.ob j j2 (.ln σ m)=>chkK (Nat.beq j2 j) (lookK sl0 p fun u=>lnK u fun i' ρ l=>chkK (Nat.beq i' i) (castK τ l fun l=>castK τ m fun m=>(∃ t,l' = l++t)∧(∃ t,m = l++t)∧r = []∧stPutK N s (some p) (.ob j j (.ln τ l)) K))
  | _,_=>False
theorem win_ok {sl0 : List (Nat × AV)} {v g : AV} {u : Value} {ps : List Nat} {s : St} {β0 β : Nat → Option Nat} {O0 : Nat → Prop} {w0 w : World} {K : St → Prop} (hI : InvB W0 F X N s β a w)
  (hu:Rel β0 O0 w0 v u) (hsl:∀ q,Rel β0 O0 w0 (look sl0 q) (a.tmps.getD q undef)) (hg:∃ q,look s.slots q = g∧a.tmps.getD q undef = u)
  (h:winK N sl0 v g s K ps):∃ s',K s'∧InvB W0 F X N s' β a w∧∀ n,Nm s' n→Nm s n:=by
 cases ps with
 | nil=>exact ⟨s,h,hI,fun _ h=>h⟩
 | cons p r =>
  obtain ⟨q,hq,hqu⟩:=hg
  have hgr:=hI.slots q
  rw [hq,hqu] at hgr
  have hn:∀ n,n ∈ ids g→Nm s n:=fun n hn=>.inr (.inl ⟨q,by rw [hq]; exact hn⟩)
  cases v with
  | ob i i2 o=>cases o with
   | vw τ l x y=>cases g with
    | ob j j2 o'=>cases o' with
     | vw σ m c d =>
      obtain ⟨hac,hK⟩:=(chkK_iff _ _).1 (show chkK (Nat.beq x c) (castK τ m fun m=>m.length = l.length∧heldK ⟨sl0,[]⟩ (.vec i τ l) (p::r)∧putsK N (p::r) (.vec j τ m) s K) from h)
      obtain ⟨e,hh⟩:=castK_iff hK
      clear hK
      subst e
      clear h
      obtain ⟨hlen,hheld,h⟩:=hh
      have hac:=Nat.eq_of_beq_eq_true hac
      subst hac
      have hlen:m.length = l.length:=hlen
      obtain ⟨b0,c0,k1,_,k3,k4,k5,k6⟩:=(show ObAt β0 O0 w0 i i2 (.vw σ l x y) u from hu)
      obtain ⟨b1,c1,m1,m2,m3,m4,m5,m6⟩:=(show ObAt β (Own X s β) w j j2 (.vw σ m x d) u from hgr)
      rw [k5] at m5
      injection m5 with e1 e2 e3
      injection e1 with e1
      injection e1 with e1 _ _
      subst e1
      have q1:=(show VecAt β0 O0 w0 i σ l _ from k6)
      have hc0:l.length≤c0:=by
       rcases q1 with ⟨_,q,_⟩ | ⟨_,_,_,_,_,q,_,q2,_⟩
       ·cases q
       ·injection q with _ _ q; subst q; exact q2
      have hc1:m.length≤c1:=by
       rcases m6 with ⟨_,q,_⟩ | ⟨_,_,_,_,_,q,_,q2,_⟩
       ·cases q
       ·injection q with _ _ q; subst q; exact q2
      have:c1 = c0:=by omega
      subst this
      have hval:∀ p' ∈ p::r,a.tmps.getD p' undef = .slice (some ⟨b0,0,none⟩) l.length c1:=fun p' hp'=>by
       have h1:=hsl p'
       rw [held_mem hheld p' hp'] at h1
       exact VecAt.uniq (show VecAt β0 O0 w0 i σ l _ from h1) k6
      have h:stPutK N s (some p) (.vec j σ m) fun s=>putsK N r (.vec j σ m) s K:=h
      rw [stPutK_some] at h
      cases hb:Nat.blt p N with
      | false=>rw [hb] at h; exact h.elim
      | true =>
       rw [hb,cond_true] at h
       rw [Nat.blt_eq] at hb
       have hr:Rel β (Own X s β) w (.vec j σ m) (.slice (some ⟨b0,0,none⟩) l.length c1):=by
        have m6:VecAt β (Own X s β) w j σ m (.slice (some ⟨b0,0,none⟩) m.length c1):=m6
        rw [hlen] at m6
        exact m6
       have hI2:=hI.put (d:=p) hb hr (fun n hn'=>hn n (by
        have:n = j:=by simpa [ids,ids0] using hn'
        subst this; simp [ids,ids0]))
       rw [put_same (hval p (List.mem_cons_self ..)) (by rw [hI.size]; exact hb)] at hI2
       obtain ⟨s',z1,z2,z3,_⟩:=puts_ok r hI2 ⟨p,hb,by simp [St.put,look_setL],hval p (List.mem_cons_self ..)⟩ (fun p' hp'=>hval p' (List.mem_cons_of_mem _ hp')) h
       exact ⟨s',z1,z2,fun n hn'=>Nm.of_put (fun m hm=>hn m (by
        have:m = j:=by simpa [ids,ids0] using hm
        subst this; simp [ids,ids0])) (z3 n hn')⟩
     | _=>exact h.elim
    | _=>exact h.elim
   | ln τ l'=>cases g with
    | ob j j2 o'=>cases o' with
     | ln σ m =>
      obtain ⟨hj2,h⟩:=(chkK_iff _ _).1 (show chkK (Nat.beq j2 j) _ from h)
      have hj2:=Nat.eq_of_beq_eq_true hj2
      subst hj2
      rw [lookK_eq] at h
      obtain ⟨i',i2,ρ,l,hp,h⟩:=lnK_inv h
      obtain ⟨hi,k1⟩:=(chkK_iff _ _).1 h
      clear h
      have hi:=Nat.eq_of_beq_eq_true hi
      subst hi
      obtain ⟨e1,k2⟩:=castK_iff k1
      clear k1
      subst e1
      obtain ⟨e2,k3⟩:=castK_iff k2
      clear k2
      subst e2
      obtain ⟨⟨t,ht⟩,⟨t',ht'⟩,_,hK⟩:=k3
      simp only at ht ht'
      subst ht ht'
      obtain ⟨h1,h2⟩:=stPut_inv hK
      have hb:=h2 p rfl
      have r1:=hsl p
      rw [hp] at r1
      have r1:VecAt β0 O0 w0 i' σ l (a.tmps.getD p undef):=(show ObAt β0 O0 w0 i' i2 (.ln σ l) _ from r1).2
      have r2:VecAt β0 O0 w0 i' σ (l++t) u:=(show _∧VecAt β0 O0 w0 i' σ (l++t) u from hu).2
      have r3:VecAt β (Own X s β) w j2 σ (l++t') u:=(show ObAt β (Own X s β) w j2 j2 (.ln σ (l++t')) u from hgr).2
      have hnn:∀ n ∈ ids (AV.ob j2 j2 (.ln σ l)),Nm s n:=fun n hn'=>hn n (by simpa [ids,ids0] using hn')
      have hI2:=hI.put (d:=p) (v:=.ob j2 j2 (.ln σ l)) hb (show Rel β _ w _ _ from ⟨rfl,ln_back r1 r2 r3⟩) hnn
      rw [put_same rfl (by rw [hI.size]; exact hb)] at hI2
      exact ⟨_,h1,hI2,fun n hn'=>Nm.of_put hnn hn'⟩
     | _=>exact h.elim
    | _=>exact h.elim
   | _=>exact (by cases g<;>exact h.elim)
  | _=>exact (by cases g<;>exact h.elim)
def callMK (P:Program) (N:Nat) (s:St) (f:Operand) (args:List Operand) (dst:Option Nat) (K:St→Prop):Prop :=
 ∃ cv,nlBoxK cv s fun s=>∃ h fargs fboxes r j g fboxes' ρ qs ps,CSpecM P h fargs fboxes r j g fboxes' ∧
  frzAllK (newL (renN ρ) (namesV fargs fboxes) (namesV [g] fboxes')) s fun s1=>evsK s1 args fun vs=>evK s1 f fun fv=>match fv with
   | .fn h' caps => headNp caps = false ∧ h' = h ∧ mapC (ren (renN ρ)) fargs = callArgs vs caps ∧ boxEqK s1 ρ fboxes (callB N (renN ρ) (namesV fargs fboxes) (namesV [g] fboxes') (boxNames fboxes) (boxNames fboxes') fargs.length = true ∧
     sepB s1 (renN ρ) (namesV fargs fboxes) (boxNames fboxes') = true ∧
     nthK args j fun x=>tmpK x fun q=>lookK s1.slots q fun v=>chkK (tells v) (heldK s1 v qs ∧
     killAllK (deadL (renN ρ) (namesV fargs fboxes) (boxNames fboxes')) s1 fun s=>setBoxesK ρ fboxes' s fun s=>renK ρ g fun g=>stPutK N s (some q) g fun s=>putsK N qs g s fun s=>winK N s1.slots v g s (fun s=>stPutK N s dst r K) ps))
   | _=>False
theorem callM_ok (hI : InvB W0 F X N s β a w) {o : Oper} {f : Operand} {args : Array Operand} {ts : Array TypeId} (ho : o.op = .call { callee := .value f, args := args, argTypes := ts }) {K : St → Prop}
  (h:callMK P N s f args.toList o.dst K) {next:Act→World→Prop} {Q:Exit→Act→World→Prop} (hn:∀ s' a' w',K s'→Inv W0 F X N s' a' w'→next a' w'):o.wp P a w next Q:=by
 obtain ⟨cv,h⟩:=h
 obtain ⟨s0,β,⟨g,fargs,fboxes,r,j,gh,fboxes',ρ,qs,ps,⟨hcall,hspec⟩,h⟩,hI0⟩:=nlBox_ok cv hI h
 rw [frzAllK_eq,evsK_eq,evK_eq] at h
 have hI1:=hI0.frzAll (newL (renN ρ) (namesV fargs fboxes) (namesV [gh] fboxes'))
 have hnew:∀ n,n ∈ newL (renN ρ) (namesV fargs fboxes) (namesV [gh] fboxes')→¬ Nm (frzAll (newL (renN ρ) (namesV fargs fboxes) (namesV [gh] fboxes')) s0) n:=fun n hn hm=>(Nm.of_frzAll hm).2 hn
 generalize frzAll (newL (renN ρ) (namesV fargs fboxes) (namesV [gh] fboxes')) s0 = s1 at h hI1 hnew
 have hf:=ev_rel hI1 f
 have hvs:=evs_rel hI1 args.toList
 cases hfv:ev s1 f with
 | fn g' caps =>
  rw [hfv] at h hf
  obtain ⟨hnp,rfl,hargs,h⟩:=h
  obtain ⟨hbox,hchk,hsep,h⟩:=boxEqK_spec fboxes h
  simp only [callB,Bool.and_eq_true,List.all_eq_true,Bool.or_eq_true,Bool.not_eq_true',Nat.blt_eq] at hchk
  obtain ⟨⟨⟨⟨c1,c2⟩,c3⟩,c4⟩,c5⟩:=hchk
  obtain ⟨cvs,hfe,hcaps⟩:=hf.1
  have hall:All2 (Rel β (Own X s1 β) w) (mapC (ren (renN ρ)) fargs) (cargs caps (args.toList.map a.eval) cvs):=by
   rw [hargs]
   exact callArgs_all hvs.1 (hcaps.mono fun _ _ _ _ hr=>Rel.rel0 hr)
  have hidsAll:∀ k ∈ namesL (mapC (ren (renN ρ)) fargs),Nm s1 k:=by
   rw [hargs]
   intro k hk
   obtain ⟨c,hc,hk⟩:=List.mem_flatMap.1 hk
   rcases mem_callArgs hc with hc | hc
   ·exact hvs.2 c hc k hk
   ·obtain ⟨j,hj⟩:=List.getElem?_of_mem hc
    have hlt:=(List.getElem?_eq_some_iff.1 hj).1
    have hr:=hcaps.2 j c _ hj (List.getElem?_eq_getElem (by rw [← hcaps.1]; exact hlt))
    exact hf.2 k (List.mem_flatMap.2 ⟨c,hc,hr.ids hk⟩)
  have hok:CallOK s1 β N (renN ρ) fargs fboxes gh fboxes':=by
   refine ⟨fun k hk=>?_,hbox,injB_spec c1,fun k hk hkp=>⟨?_,hnew _ ?_⟩,fun k hk hkp=>?_,fun k hk hkp=>?_,fun n hn'=>Nat.le_of_ble_eq_true (c4 n hn'),uniqB_spec c5⟩
   ·obtain ⟨c,hc,hkc⟩:=List.mem_flatMap.1 hk
    refine hidsAll _ (List.mem_flatMap.2 ⟨ren (renN ρ) c,?_,?_⟩)
    ·rw [mapC_eq]; exact List.mem_map.2 ⟨c,hc,rfl⟩
    ·rw [ids_ren]; exact List.mem_map.2 ⟨k,hkc,rfl⟩
   ·rcases c2 k hk with h1 | h1
    ·exact absurd (inB_iff.1 h1) hkp
    ·exact h1
   ·refine List.mem_map.2 ⟨k,List.mem_filter.2 ⟨hk,?_⟩,rfl⟩
    cases hi:inB k (namesV fargs fboxes) with
    | true=>exact absurd (inB_iff.1 hi) hkp
    | false=>rfl
   ·rcases c3 k hk with h1 | h1
    ·rw [inB_iff.2 hkp] at h1; cases h1
    ·exact inB_iff.1 h1
   ·simp only [sepB,List.all_eq_true,Bool.or_eq_true,Bool.not_eq_true',Bool.and_eq_true] at hsep
    rcases hsep k hk with h1 | h1
    ·rw [inB_iff.2 hkp] at h1; cases h1
    ·exact ⟨noVs_spec h1.1,noVb_spec h1.2⟩
  obtain ⟨hpin,hIn⟩:=callIn hI1 hok hall
  have hlen:(cargs caps (args.toList.map a.eval) cvs).length = fargs.length:=by have:=hall.1; simpa [mapC_eq] using this.symm
  have hs:=hspec _ _ _ w _ hlen hpin hIn
  unfold Oper.wp
  have hrun:=run_fnV (w:=w) ho hfe hcall
  rw [hrun]
  refine hs.mono fun e w' hp=>?_
  obtain ⟨v,u,β',rfl,hu,him,hP⟩:=hp
  obtain ⟨x,hx,h⟩:=(nthK_iff _ _ _).1 h
  cases x with
  | tmp q =>
   have h:lookK s1.slots q _:=h
   rw [lookK_eq] at h
   obtain ⟨htl,hheld,h⟩:=(chkK_iff _ _).1 h
   rw [killAllK_eq,setBoxesK_eq,renK_eq] at h
   obtain ⟨h1,h2⟩:=stPut_inv h
   have hq:q < N:=h2 q rfl
   have hju:a.tmps.getD q undef = u:=by
    have hj:j < (args.toList.map a.eval).length:=by rw [List.length_map]; exact (List.getElem?_eq_some_iff.1 hx).1
    have hu:(args.toList.map a.eval++cvs)[j]? = some u:=by
     unfold cargs at hu
     rw [hnp] at hu
     exact hu
    rw [List.getElem?_append_left hj,List.getElem?_map,hx] at hu
    injection hu
   have hqs:∀ p ∈ qs,a.tmps.getD p undef = u:=fun p hp=>by
    have e:=held_mem hheld p hp
    have r1:=hI1.slots p
    rw [e] at r1
    rw [Rel.uniq htl r1 (hI1.slots q),hju]
   obtain ⟨hB,hOB⟩:=callOut hI1 hok hP h2
   rw [put_same hju (by rw [hI1.size]; exact hq)] at hB
   obtain ⟨s2,h3,hI2,hn2,qg,_,hqg,hqu⟩:=puts_ok qs hB ⟨q,hq,by rw [look_putO,if_pos rfl],hju⟩ hqs h1
   have hru:=hI1.slots q
   rw [hju] at hru
   obtain ⟨s2,h3,hI2,hn3⟩:=win_ok hI2 hru hI1.slots ⟨qg,hqg,hqu⟩ h3
   obtain ⟨s3,h4,h5⟩:=putIm_ok hI2 (Stp.refl _ _) h3 (him.mono fun k hk=>hOB k (hk.imp id fun ⟨n,hn',hb⟩=>⟨n,hn2 n (hn3 n hn'),hb⟩))
   exact hn _ _ _ h4 ⟨_,h5⟩
  | _=>exact h.elim
 | _=>rw [hfv] at h; exact h.elim
end
end Go.SX
end
section
namespace Go.SX
variable [Globs]
section
variable {P:Program} {N:Nat} {Γ:Ctx} {W0:World} {F:Fr} {X:Nat→Prop} {s:St} {β:Nat→Option Nat} {a:Act} {w:World}

def zerosB:List Value→Nat→Bool
 | [],0=>true
 | .int .u8 (.ofNat 0)::r,n + 1=>zerosB r n
 | _,_=>false
theorem zerosB_eq:∀ {l:List Value} {n:Nat},zerosB l n = true→l = List.replicate n (.int .u8 0):=by
 intro l
 induction l with
 | nil =>
  intro n h
  cases n with
  | zero=>rfl
  | succ n=>simp [zerosB] at h
 | cons v r ih =>
  intro n h
  cases n with
  | zero=>cases v<;>simp [zerosB] at h
  | succ n =>
   cases v with
   | int k m =>
    cases k<;>cases m with
    | ofNat m =>
     cases m with
     | zero=>first | (rw [List.replicate_succ,← ih (show zerosB r n = true from h)]; rfl) | simp [zerosB] at h
     | succ m=>first | exact absurd (show false = true from h) Bool.false_ne_true | simp [zerosB] at h
    | negSucc m=>simp [zerosB] at h
   | _=>simp [zerosB] at h
def arrNewK (N:Nat) (s:St) (ti:TI) (n:Nat) (dst:Option Nat) (K:St→Prop):Prop :=
 optK dst fun d=>stFrzK d s fun s=>chkK (Nat.ble 1 n) (chkK (Nat.ble n 1000000) (chkK (zerosB ti.zero n) (stKillK d s fun s=>stPutK N s (some d) (.vp d .u8 (List.replicate n 0) 0 0) K)))
theorem zero_bytes {O:Nat→Prop}:∀ n:Nat,All2 (Im O w) (flat .u8 (List.replicate n 0)) (List.replicate n (.int .u8 0)):=by
 intro n
 induction n with
 | zero=>exact All2.nil _
 | succ n ih=>rw [List.replicate_succ,List.replicate_succ]; exact All2.cons (.i _ _) ih
theorem arrNew_ok (hI : InvB W0 F X N s β a w) {o : Oper} {t : TypeId} (ho : o.op = .alloc t) {ti : TI} (hti : ti.ok P t) {n : Nat} {K : St → Prop} (h : arrNewK N s ti n o.dst K)
  {next:Act→World→Prop} {Q:Exit→Act→World→Prop} (hn:∀ s' a' w',K s'→Inv W0 F X N s' a' w'→next a' w'):o.wp P a w next Q:=by
 obtain ⟨d,hd,h⟩:=(optK_iff _ _).1 (show optK o.dst fun d=>_ from h)
 rw [stFrzK_eq] at h
 have hI1:=hI.frz d
 obtain ⟨hn1,h⟩:=(chkK_iff _ _).1 h
 obtain ⟨hn2,h⟩:=(chkK_iff _ _).1 h
 obtain ⟨hz,h⟩:=(chkK_iff _ _).1 h
 have hn1:=Nat.le_of_ble_eq_true hn1
 have hn2:=Nat.le_of_ble_eq_true hn2
 rw [stKillK_eq] at h
 cases hdN:Nat.blt d N with
 | false=>rw [stPutK_some,hdN] at h; exact h.elim
 | true =>
  rw [stPutK_some,hdN,cond_true] at h
  rw [Nat.blt_eq] at hdN
  obtain ⟨z,hzr,hzc⟩:=hti.zeroValue w
  have hzl:=zerosB_eq hz
  have hcs:z.cells.size = n:=by rw [hzc,hzl]; simp
  have hI2:=hI1.newAv (Ow:=fun _=>False) (d:=d) (id1:=d) (b:=some w.heap.size) (av0:=.vp d .u8 (List.replicate n 0) 0 0) (u:=.pointer (some ⟨w.heap.size,0,none⟩)) hdN (fun _=>rfl)
   (Stp.alloc w (.cells z.cells t)) (fun _ h=>h.elim)
   (fun g hg=>by injection hg with hg; subst hg; exact ⟨by simp,.inr (Nat.le_refl _)⟩) rfl (fun O' hO'=>by
    refine ⟨by simp; omega,⟨w.heap.size,by simp [setβ],by simp⟩,.slice (some ⟨w.heap.size,0,none⟩) (List.replicate n (0:Int)).length n,?_⟩
    refine vec_of (τ:=.u8) (us:=List.replicate n (.int .u8 0)) (cur:=z.cells) (e:=t) (by simp [setβ]) (heap_alloc_new w _) (by simp) (by unfold maxLen; omega) (by rw [hcs]; simp [esz]) (zero_bytes n) (fun j u hu=>?_)
    rw [hzc,hzl,List.getElem?_toArray]
    exact hu)
  refine wp_val (u:=.pointer (some ⟨w.heap.size,0,none⟩)) (w':=w.alloc (.cells z.cells t)) ?_ (by rw [hd]; exact hn _ _ _ h ⟨_,hI2⟩)
  simp [execOp,ho,Instr.alloc,hzr,newVar_run]
def arrCutK (Γ:Ctx) (N:Nat) (s:St) (t:TypeId) (lo hi mx:Option Operand) (dst:Option Nat) (K:St→Prop) (E:Prop):AV→Prop
 | .vp id τ l i o => chkK (Nat.beq i 0) (chkK (Nat.beq o 0) (chkK hi.isNone (chkK mx.isNone (tiK Γ t fun ti => match ti.desc with
   | .arr n e=>tiK Γ e fun te=>chkK (Nat.beq te.cells (esz τ)) (boundK s lo 0 fun lo=>(0≤lo∧lo≤(n:Int)∧l.length = n)∧stFrzK id s fun s=>stPutK N s dst (.rd τ (l.drop lo.toNat)) K)
   | _=>False))))
 | _=>E
theorem arrCut_ok (hΓ : Γ.ok P) (hI : InvB W0 F X N s β a w) {o : Oper} {t : TypeId} {x : Operand} {lo hi mx : Option Operand} (ho : o.op = .slice t x lo hi mx) {K : St → Prop} {E : Prop} (h : arrCutK Γ N s t lo hi mx o.dst K E (ev s x))
  {next:Act→World→Prop} {Q:Exit→Act→World→Prop} (hE:E→o.wp P a w next Q) (hn:∀ s' a' w',K s'→Inv W0 F X N s' a' w'→next a' w'):o.wp P a w next Q:=by
 have hx:=(ev_rel hI x).1
 have hxi:=(ev_rel hI x).2
 generalize ev s x = v at h hx hxi
 cases v with
 | vp id τ l i off =>
  obtain ⟨h1,h⟩:=(chkK_iff _ _).1 (show chkK (Nat.beq i 0) _ from h)
  obtain ⟨h2,h⟩:=(chkK_iff _ _).1 h
  obtain ⟨h3,h⟩:=(chkK_iff _ _).1 h
  obtain ⟨h4,h⟩:=(chkK_iff _ _).1 h
  obtain rfl:=Nat.eq_of_beq_eq_true h1
  obtain rfl:=Nat.eq_of_beq_eq_true h2
  obtain rfl:=Option.isNone_iff_eq_none.1 h3
  obtain rfl:=Option.isNone_iff_eq_none.1 h4
  obtain ⟨ti,hti,h⟩:=tiK_ok hΓ h
  obtain ⟨de,g1,g2⟩:=hti.desc
  cases hde:ti.desc with
  | arr n e =>
   rw [hde] at h g2
   have hu:P.underlying t = some (.array n e):=(show de = .array n e from g2) ▸ g1
   obtain ⟨te,hte,h⟩:=tiK_ok hΓ (show tiK Γ e _ from h)
   obtain ⟨hsz,h⟩:=(chkK_iff _ _).1 h
   obtain ⟨m,⟨⟨p0,p1,p2⟩,hK⟩,hm⟩:=bound_run hI h
   rw [stFrzK_eq] at hK
   obtain ⟨hl0,⟨g,hg,hv⟩,v',hva⟩:=(show (0 < l.length∧(∃ g,β id = some g∧a.eval x = .pointer (some ⟨g,0 * esz τ + 0,none⟩))∧∃ v',VecAt β (Own X s β) w id τ l v') from hx)
   have hNm:Nm s id:=hxi id (by simp [ids,ids0])
   have hO:∀ k,Own X (s.frz id) β k→Own X s β k∧β id≠some k:=by
    rintro k (hX | ⟨m,hm,hb⟩)
    ·exact ⟨.inl hX,fun e=>hI.disj id k hNm e hX⟩
    ·obtain ⟨h1,h2⟩:=Nm.of_frz hm
     exact ⟨.inr ⟨m,h1,hb⟩,fun e=>h2 (hI.inj m id k h1 hNm hb e)⟩
   have him:=hva.freeze hO
   rcases hva with ⟨rfl,_,_⟩ | ⟨g',c,cur,e',q1,rfl,q3,q4,q5,q6,q7⟩
   ·simp at hl0
   rw [hg] at q1
   injection q1 with q1
   subst q1
   have hmn:m.toNat≤l.length:=by omega
   have hin:Im (Own X (s.frz id) β) w (.rd τ l) (.slice (some ⟨g,0,none⟩) l.length l.length):=by
    cases him with
    | rd0 _ _ _ hc=>exact .rd0 τ _ _ (Nat.zero_le _)
    | rd _ _ _ _ _ u hg' hc hmx hne hcell him=>exact .rd τ l g 0 _ u hg' (Nat.le_refl _) (by omega) hne hcell him
   have hcut:=hin.rd_drop (k:=m.toNat) (ad:=if l.length = m.toNat then ⟨g,0,none⟩ else (⟨g,0,none⟩:Addr).add (m.toNat * esz τ)) hmn (fun hlt=>by rw [if_neg (by omega),add_none])
   refine val_ok (hI.frz id) hK hn (u:=.slice (some (if l.length = m.toNat then ⟨g,0,none⟩ else (⟨g,0,none⟩:Addr).add (m.toNat * esz τ))) (l.length - m.toNat) (l.length - m.toNat)) ?_ (Rel.im hcut) (fun n hn=>by simp [ids,ids0] at hn)
   have hb:=bounds_run (P:=P) (w:=w) (a:=a) (y:=none) (hi:=(n:Int)) false n n hm (.inl ⟨rfl,rfl⟩) p0 p1 (Int.le_refl _) (Nat.le_refl _)
   have hsz:=Nat.eq_of_beq_eq_true hsz
   simp only [Option.map_none] at hb
   simp [execOp,ho,hv,Instr.sliceAt,run_underlying hu,Instr.sureAddr,hb,hte.sizeOf,p2,hsz]
  | _=>rw [hde] at h; exact h.elim
 | _=>exact hE h
theorem arrCut_of {t : TypeId} {x : Operand} {lo hi : Option Operand} {dst : Option Nat} {K : St → Prop} (h : valK Γ s (.slice t x lo hi none) fun v => stPutK N s dst v K) :
  arrCutK Γ N s t lo hi none dst K (valK Γ s (.slice t x lo hi none) fun v=>stPutK N s dst v K) (ev s x):=by
 have h':=h
 have h' : evK s x fun a => tiK Γ t fun ti => match isStrT ti.desc with
   | true=>strSliceK s lo hi a fun v=>stPutK N s dst v K
   | false=>sliceTK ti.desc fun e=>tiK Γ e fun te=>rdSliceK s te.cells lo hi a fun v=>stPutK N s dst v K:=h'
 rw [evK_eq] at h'
 cases hv:ev s x with
 | vp id τ l i o =>
  exfalso
  rw [hv] at h'
  obtain ⟨ti,_,h'⟩:=tiK_mem h'
  cases hs:isStrT ti.desc with
  | true=>rw [hs] at h'; exact h'
  | false =>
   rw [hs] at h'
   have h':sliceTK ti.desc fun e=>tiK Γ e fun te=>rdSliceK s te.cells lo hi (.vp id τ l i o) fun v=>stPutK N s dst v K:=h'
   cases hd:ti.desc with
   | slice e =>
    rw [hd] at h'
    obtain ⟨te,_,h'⟩:=tiK_mem (show tiK Γ e _ from h')
    exact h'
   | _=>rw [hd] at h'; exact h'
 | _=>exact h
end
end Go.SX
end
section
namespace Go.SX
variable [Globs]
section
variable {P:Program} {N:Nat} {Γ:Ctx} {W0:World} {F:Fr} {X:Nat→Prop} {s:St} {β:Nat→Option Nat} {a:Act} {w:World}
def ESpec (P:Program) (f:FuncId) (args:List AV) (r:AV):Prop :=
 ∀ (O:Nat→Prop) (w:World) (vs:List Value),All2 (Im O w) args vs→∃ v,(callFunc f vs.toArray).run P w = .ok (.value v) w∧Im O w r v
def callXK (P:Program) (N:Nat) (s:St) (f:Operand) (args:List Operand) (dst:Option Nat) (K:St→Prop):Prop :=
 evK s f fun fv=>evsK s args fun vs=>match fv with
  | .fn g []=>chkK (imAll vs) (chkK (fnArgs vs) (∃ r,ESpec P g vs r∧stPutK N s dst r K))
  | _=>False
theorem callX_ok (hI : InvB W0 F X N s β a w) {o : Oper} {f : Operand} {args : Array Operand} {ts : Array TypeId} (ho : o.op = .call { callee := .value f, args := args, argTypes := ts }) {K : St → Prop}
  (h:callXK P N s f args.toList o.dst K) {next:Act→World→Prop} {Q:Exit→Act→World→Prop} (hn:∀ s' a' w',K s'→Inv W0 F X N s' a' w'→next a' w'):o.wp P a w next Q:=by
 unfold callXK at h
 rw [evK_eq,evsK_eq] at h
 have hf:=ev_rel hI f
 have hvs:=evs_rel hI args.toList
 cases hfv:ev s f with
 | fn g caps =>
  rw [hfv] at h hf
  cases caps with
  | cons _ _=>exact h.elim
  | nil =>
   obtain ⟨h1,h⟩:=(chkK_iff _ _).1 (show chkK _ _ from h)
   obtain ⟨h2,h⟩:=(chkK_iff _ _).1 h
   obtain ⟨r,hspec,hK⟩:=h
   obtain ⟨cvs,hfe,hcaps⟩:=hf.1
   obtain rfl:cvs = []:=hcaps.nil_inv
   have hfe:a.eval f = .func (.func g) #[] #[]:=hfe
   have himv:All2 (Im (Own X s β) w) (evs s args.toList) (args.toList.map a.eval) :=
    hvs.1.mono fun _ c v hc hr=>im_of_rel hr (imAll_mem h1 (List.mem_of_getElem? hc)) (fnArgs_mem h2 (List.mem_of_getElem? hc))
   obtain ⟨v,hv,him⟩:=hspec (Own X s β) w _ himv
   have hrun:(execOp a.eval o).run P w = .ok (.value v) w:=by
    have e1:args.map a.eval++#[] = (args.toList.map a.eval).toArray:=by apply Array.ext'; simp
    simp [execOp,ho,resolve,hfe,Deferred.ofValue,invoke]
    have e2:args.map a.eval = (args.toList.map a.eval).toArray:=by apply Array.ext'; simp
    first | (rw [e1]; exact hv) | (rw [e2]; exact hv)
   exact val_ok hI hK hn hrun (Rel.im him) (fun n hn=>by rw [him.ids_nil] at hn; cases hn)
 | _=>rw [hfv] at h; exact h.elim
end
end Go.SX
end
section
namespace Go.SX
variable [Globs]
section
variable {P:Program} {N:Nat} {Γ:Ctx} {W0:World} {F:Fr} {X:Nat→Prop} {s:St} {β:Nat→Option Nat} {a:Act} {w:World}

structure Ctx.good (P:Program) (Γ:Ctx):Prop where
 ok:Γ.ok P
 one:∀ p ∈ Γ,(∀ v ∈ p.2.zero,v.oneCell' = true)∧p.2.zero.length = p.2.cells
 mixed:P.follows .mixedOrders = true

/-! ### one operation -/
def onceB:Ctx→Nat→Bool
 | [],_=>false
 | (m,_)::r,n=>bif Nat.beq m n then true else onceB r n
def twiceB:Ctx→Nat→Bool
 | [],_=>false
 | (m,_)::r,n=>bif Nat.beq m n then onceB r n else twiceB r n
def Ctx.kp (Γ:Ctx) (t:Nat):Ctx:=match Γ.find? fun p=>Nat.beq p.1 t with
 | some p=>p::Γ
 | none=>Γ
theorem Ctx.good_kp {P:Program} {Γ:Ctx} (h:Γ.good P) (t:Nat):(Γ.kp t).good P:=by
 unfold Ctx.kp
 split
 ·rename_i p hp
  have hm:=List.mem_of_find?_eq_some hp
  refine ⟨fun q hq=>?_,fun q hq=>?_,h.mixed⟩
  ·rcases List.mem_cons.1 hq with rfl | hq
   ·exact h.ok _ hm
   ·exact h.ok q hq
  ·rcases List.mem_cons.1 hq with rfl | hq
   ·exact h.one _ hm
   ·exact h.one q hq
 ·exact h
def loadFrzK (Γ:Ctx) (s:St) (t:TypeId):AV→(St→Prop)→Prop
 | .pt n o,K=>bif twiceB Γ t then K s else lookBK s.boxes n fun cs=>tiK Γ t fun ti=>match isStruct ti.desc with
  | true=>takeK ti.cells (cs.drop o) fun l=>vecsOfK l fun ids=>frzAllK ids s K
  | false=>K s
 | _,K=>K s
def grPick:Ty→Nat→AV→Option (Nat × List Int)
 | .ints,0,.vec r .int row=>some (r,row)
 | _,_,_=>none
theorem grPick_some {τ:Ty} {o:Nat} {v:AV} {r:Nat} {row:List Int} (h:grPick τ o v = some (r,row)):τ = .ints∧o = 0∧v = .vec r .int row:=by
 unfold grPick at h
 split at h
 ·cases h; exact ⟨rfl,rfl,rfl⟩
 ·cases h
def optGrK:Option (Nat × List Int)→(Nat→List Int→Prop)→Prop→Prop
 | some (r,row),A,_=>A r row
 | none,_,B=>B
def storeK (s:St) (ti:TI):AV→AV→(St→Prop)→Prop
 | .pt n o,v,K=>storeBoxK s n o ti.cells v K
 | .vp id τ _ n o,v,K=>optGrK (grPick τ o v) (fun r row=>storeGrK s id r n row ti.cells K) (storeVpK s id τ n o ti.cells v K)
 | _,_,_=>False
def sbHeadK:List AV→(Nat→Nat→Ob→List AV→Prop)→Prop→Prop
 | .ob id id2 (.sb T e l)::rest,A,_=>A id id2 (.sb T e l) rest
 | _,_,B=>B
theorem sbHead_cases {vs:List AV} {A:Nat→Nat→Ob→List AV→Prop} {B:Prop} (h:sbHeadK vs A B):(∃ id id2 o rest,vs = .ob id id2 o::rest∧A id id2 o rest)∨B:=by
 unfold sbHeadK at h
 split at h
 ·exact .inl ⟨_,_,_,_,rfl,h⟩
 ·exact .inr h
theorem sbHead_of {vs:List AV} {A:Nat→Nat→Ob→List AV→Prop} {B:Prop} {b:List (Nat × List AV)} (h:imAll (rdAll b vs) = true) (hb:B):sbHeadK vs A B:=by
 unfold sbHeadK
 split
 ·simp [rdAll,rdOf,rdB,imAll,imB] at h
 ·exact hb
def calleeK (P:Program) (Γ:Ctx) (N:Nat) (s:St) (op:Op) (args:List Operand) (ts:List TypeId) (dst:Option Nat) (K:St→Prop):Callee→Prop
 | .value f=>evsK s args fun vs=>sbHeadK vs (fun id id2 o rest=>callSbK P N s f id id2 o rest dst K) (callK P N s f args dst K∨callBK P N s f args dst K∨readK P N s f args dst K∨callFK P N s f args dst K∨callXK P N s f args dst K∨callMK P N s f args dst K)
 | .builtin .append=>appendK Γ N s args ts dst K
 | _=>valK Γ s op fun v=>stPutK N s dst v K
def nilEqK (op:BinOp) (e:Bool) (K:AV→Prop):Prop :=
 match op with
 | .eql=>∀ x:Bool,(e = false→x = false)→K (.b x)
 | .neq=>∀ x:Bool,(e = false→x = false)→K (.b (!x))
 | _=>False
def binNK (Γ:Ctx) (op:BinOp) (t:TypeId):AV→AV→(AV→Prop)→Prop
 | .rd _ l,.nl,K=>tiK Γ t fun ti=>sliceTK ti.desc fun _=>nilEqK op l.isEmpty K
 | .vec _ _ l,.nl,K=>tiK Γ t fun ti=>sliceTK ti.desc fun _=>nilEqK op l.isEmpty K
 | .nl,.nl,K=>tiK Γ t fun ti=>sliceTK ti.desc fun _=>nilEqK op true K
 | .ob _ _ (.ln _ l),.nl,K=>tiK Γ t fun ti=>sliceTK ti.desc fun _=>nilEqK op l.isEmpty K
 | a,b,K=>binTK Γ op t a b K
theorem run_sliceEq {t e : TypeId} (h : P.underlying t = some (.slice e)) (a : Option Addr) (n c n' c' : Nat) (w : World) (x y : Operand) :
  (do eqGuard .eql t x y (.slice a n c) (.slice none n' c'); binOp .eql t (.slice a n c) (.slice none n' c'):Sem Value).run P w = .ok (.bool a.isNone) w ∧
  (do eqGuard .neq t x y (.slice a n c) (.slice none n' c'); binOp .neq t (.slice a n c) (.slice none n' c'):Sem Value).run P w = .ok (.bool (!a.isNone)) w:=by
 have h1:∀ d:Nat,(Op.equalIn (d + 1) t (.slice a n c) (.slice none n' c')).run P w = .ok a.isNone w:=fun d=>by cases a<;>simp [Op.equalIn,run_underlying h]
 refine ⟨?_,?_⟩
 ·simp only [eqGuard,binOp]
  simp [Op.equal,Op.maxDepth,h1 9999]
 ·simp only [eqGuard,binOp]
  simp [Op.equal,Op.maxDepth,h1 9999]
theorem nilEq_ok {t e : TypeId} (h : P.underlying t = some (.slice e)) {op : BinOp} {b : Bool} {K : AV → Prop} (hK : nilEqK op b K) {A : Option Addr} {n c n' c' : Nat} (x y : Operand) (hb : b = false → A.isNone = false) :
  ∃ v:Bool,K (.b v)∧∀ w:World,(do eqGuard op t x y (.slice A n c) (.slice none n' c'); binOp op t (.slice A n c) (.slice none n' c'):Sem Value).run P w = .ok (.bool v) w:=by
 cases op<;>first | exact hK.elim | skip
 ·exact ⟨_,hK _ hb,fun w=>(run_sliceEq h A n c n' c' w x y).1⟩
 ·exact ⟨_,hK _ hb,fun w=>(run_sliceEq h A n c n' c' w x y).2⟩
theorem binT_of {op:BinOp} {t:TypeId} {a b:AV} {K:AV→Prop} (h:binTK Γ op t a b K):binNK Γ op t a b K:=by
 unfold binNK
 split
 ·exact (h:False).elim
 ·exact (h:False).elim
 ·exact (h:False).elim
 ·exact (h:False).elim
 ·exact h
/-! values of an interface -/
def isIfcT:TD→Bool
 | .ifc=>true
 | _=>false
def isI64T:TD→Bool
 | .int .i64=>true
 | _=>false
def litB:Operand→Bool
 | .const _=>true
 | _=>false
def mkIfcK (t:TypeId):AV→(AV→Prop)→Prop
 | .i k n,K=>match k with
  | .i64=>K (.er (some (t,some n)))
  | _=>K (.er (some (t,none)))
 | _,K=>K (.er (some (t,none)))
def erEqK (Γ:Ctx) (op:BinOp) (lit:Bool):Option (TypeId × Option Int)→Option (TypeId × Option Int)→(AV→Prop)→Prop
 | none,none,K=>chkK lit (aggBinK op true K)
 | none,some _,K=>aggBinK op false K
 | some _,none,K=>aggBinK op false K
 | some (T,some m),some (T',some n),K=>match Nat.beq T T' with
  | true=>tiK Γ T fun ti=>chkK (isI64T ti.desc && ti.cmp) (aggBinK op (decide (m = n)) K)
  | false=>aggBinK op false K
 | some (_,_),some (_,_),_=>False
def binEK (Γ:Ctx) (op:BinOp) (t:TypeId) (lit:Bool):AV→AV→(AV→Prop)→Prop
 | .er a,.er b,K=>tiK Γ t fun ti=>chkK (isIfcT ti.desc) (erEqK Γ op lit a b K)
 | a,b,K=>binNK Γ op t a b K
theorem binN_of {op:BinOp} {t:TypeId} {lit:Bool} {a b:AV} {K:AV→Prop} (h:binNK Γ op t a b K):binEK Γ op t lit a b K:=by
 unfold binEK
 split
 ·exact (h:False).elim
 ·exact h
theorem ifc_ok {t:Nat} {ti:TI} (hti:ti.ok P t) (h:isIfcT ti.desc = true):∃ ms,P.underlying t = some (.interface ms):=by
 obtain ⟨de,h1,h2⟩:=hti.desc
 cases hd:ti.desc with
 | ifc=>rw [hd] at h2; obtain ⟨ms,rfl⟩:=(show ∃ ms,de = .interface ms from h2); exact ⟨ms,h1⟩
 | _=>rw [hd] at h; cases h
theorem i64_ok {t:Nat} {ti:TI} (hti:ti.ok P t) (h:isI64T ti.desc = true):P.underlying t = some (.int .i64):=by
 obtain ⟨de,h1,h2⟩:=hti.desc
 cases hd:ti.desc with
 | int k =>
  rw [hd] at h h2
  cases k<;>first | (cases h; done) | exact (show de = .int .i64 from h2) ▸ h1
 | _=>rw [hd] at h; cases h
theorem ifc_bin {op : BinOp} {t : TypeId} {u v : Value} {b : Bool} (hE : ∀ (d : Nat) (w : World), (Op.equalIn (d + 2) t u v).run P w = .ok b w) {x y : Operand}
  (hG:∀ (op:BinOp) (w:World),(eqGuard op t x y u v).run P w = .ok () w) (hs:(∃ T p,u = .iface T p)∨u = .nilIface) {K:AV→Prop} (hK:aggBinK op b K) :
  ∃ r:Bool,K (.b r)∧∀ w:World,(do eqGuard op t x y u v; binOp op t u v:Sem Value).run P w = .ok (.bool r) w:=by
 cases op<;>first | exact (hK:False).elim | skip
 ·refine ⟨b,hK,fun w=>?_⟩
  have h1:=hE 9998 w
  rcases hs with ⟨T,p,rfl⟩ | rfl
  ·cases v<;>simp [hG,binOp,Op.equal,Op.maxDepth,h1]
  ·cases v<;>simp [hG,binOp,Op.equal,Op.maxDepth,h1]
 ·refine ⟨!b,hK,fun w=>?_⟩
  have h1:=hE 9998 w
  rcases hs with ⟨T,p,rfl⟩ | rfl
  ·cases v<;>simp [hG,binOp,Op.equal,Op.maxDepth,h1]
  ·cases v<;>simp [hG,binOp,Op.equal,Op.maxDepth,h1]
theorem eqIfc_run {t T : TypeId} {ms : Array (String × TypeId)} (hu : P.underlying t = some (.interface ms)) (hi : P.underlying T = some (.int .i64)) {i : TypeInfo} (h2 : P.info? T = some i) (h3 : i.comparable = true) {m n : Int} (d : Nat) (w : World) :
  (Op.equalIn (d + 2) t (.iface T (.int .i64 m)) (.iface T (.int .i64 n))).run P w = .ok (decide (m = n)) w:=by
 have h0:(Op.equalIn (d + 1) T (.int .i64 m) (.int .i64 n)).run P w = .ok (decide (m = n)) w:=by
  rw [Op.equalIn]
  simp only [Sem.run_bind,run_underlying hi,Result.andThen_ok,if_true,Sem.run_pure]
  rfl
 rw [Op.equalIn]
 simp only [Sem.run_bind,run_underlying hu,Result.andThen_ok,typeInfo,ne_eq,not_true,if_false]
 simp [h2,h3,h0]
theorem eqNN_run {t:TypeId} {ms:Array (String × TypeId)} (hu:P.underlying t = some (.interface ms)) (d:Nat) (w:World):(Op.equalIn (d + 2) t .nilIface .nilIface).run P w = .ok true w:=by
 rw [Op.equalIn]
 simp only [Sem.run_bind,run_underlying hu,Result.andThen_ok]
 rfl
theorem eqNI_run {t:TypeId} {ms:Array (String × TypeId)} (hu:P.underlying t = some (.interface ms)) {T:TypeId} {p:Value} (d:Nat) (w:World):(Op.equalIn (d + 2) t .nilIface (.iface T p)).run P w = .ok false w:=by
 rw [Op.equalIn]
 simp only [Sem.run_bind,run_underlying hu,Result.andThen_ok]
 rfl
theorem eqIN_run {t:TypeId} {ms:Array (String × TypeId)} (hu:P.underlying t = some (.interface ms)) {T:TypeId} {p:Value} (d:Nat) (w:World):(Op.equalIn (d + 2) t (.iface T p) .nilIface).run P w = .ok false w:=by
 rw [Op.equalIn]
 simp only [Sem.run_bind,run_underlying hu,Result.andThen_ok]
 rfl
theorem eqII_run {t:TypeId} {ms:Array (String × TypeId)} (hu:P.underlying t = some (.interface ms)) {T T':TypeId} (hne:T≠T') {p q:Value} (d:Nat) (w:World):(Op.equalIn (d + 2) t (.iface T p) (.iface T' q)).run P w = .ok false w:=by
 rw [Op.equalIn]
 simp only [Sem.run_bind,run_underlying hu,Result.andThen_ok,if_pos hne]
 rfl
theorem guardI_run {t:TypeId} {x y:Operand} {T:TypeId} {p q:Value} (op:BinOp) (w:World):(eqGuard op t x y (.iface T p) q).run P w = .ok () w:=by cases op<;>rfl
theorem guardN_run {t:TypeId} {x y:Operand} {T:TypeId} {p:Value} (op:BinOp) (w:World):(eqGuard op t x y .nilIface (.iface T p)).run P w = .ok () w:=by cases op<;>rfl
theorem guardNN_run {t:TypeId} {x y:Operand} (hl:(litB x || litB y) = true) (op:BinOp) (w:World):(eqGuard op t x y .nilIface .nilIface).run P w = .ok () w:=by
 cases op<;>cases x<;>cases y<;>first | rfl | cases hl
theorem erEq_ok (hΓ : Γ.ok P) {op : BinOp} {t : TypeId} {ms : Array (String × TypeId)} (hu : P.underlying t = some (.interface ms)) {x y : Operand} {O : Nat → Prop} {a b : Option (TypeId × Option Int)} {u v : Value} {K : AV → Prop}
  (hx:Im O w (.er a) u) (hy:Im O w (.er b) v) (h:erEqK Γ op (litB x || litB y) a b K):∃ r:Bool,K (.b r)∧∀ w:World,(do eqGuard op t x y u v; binOp op t u v:Sem Value).run P w = .ok (.bool r) w:=by
 cases hx with
 | er0 =>
  cases hy with
  | er0 =>
   obtain ⟨hl,h⟩:=(chkK_iff _ _).1 (show chkK (litB x || litB y) (aggBinK op true K) from h)
   exact ifc_bin (eqNN_run hu) (guardNN_run hl) (.inr rfl) h
  | er1 T n=>exact ifc_bin (eqNI_run hu) guardN_run (.inr rfl) (show aggBinK op false K from h)
  | er2 T q=>exact ifc_bin (eqNI_run hu) guardN_run (.inr rfl) (show aggBinK op false K from h)
 | er1 T m =>
  cases hy with
  | er0=>exact ifc_bin (eqIN_run hu) guardI_run (.inl ⟨_,_,rfl⟩) (show aggBinK op false K from h)
  | er1 T' n =>
   have h:match Nat.beq T T' with
    | true=>tiK Γ T fun ti=>chkK (isI64T ti.desc && ti.cmp) (aggBinK op (decide (m = n)) K)
    | false=>aggBinK op false K:=h
   cases hb:Nat.beq T T' with
   | false =>
    rw [hb] at h
    exact ifc_bin (eqII_run hu (Nat.ne_of_beq_eq_false hb)) guardI_run (.inl ⟨_,_,rfl⟩) h
   | true =>
    rw [hb] at h
    have hh:tiK Γ T fun ti=>chkK (isI64T ti.desc && ti.cmp) (aggBinK op (decide (m = n)) K):=h
    clear h
    obtain rfl:=Nat.eq_of_beq_eq_true hb
    obtain ⟨ti,hti,h⟩:=tiK_ok hΓ hh
    obtain ⟨h1,h⟩:=(chkK_iff _ _).1 h
    rw [Bool.and_eq_true] at h1
    obtain ⟨i,h2,h3⟩:=hti.cmp h1.2
    exact ifc_bin (eqIfc_run hu (i64_ok hti h1.1) h2 h3) guardI_run (.inl ⟨_,_,rfl⟩) h
  | er2 T' q=>exact (show False from h).elim
 | er2 T p =>
  cases hy with
  | er0=>exact ifc_bin (eqIN_run hu) guardI_run (.inl ⟨_,_,rfl⟩) (show aggBinK op false K from h)
  | er1 T' n=>exact (show False from h).elim
  | er2 T' q=>exact (show False from h).elim
def gevK [G:Globs] (s:St):Operand→(AV→Prop)→Prop
 | .global g,K=>∃ (T:TypeId) (p:Value) (e:TypeId) (fz:Nat × Nat),(g,Obj.cells #[.iface T p] e fz) ∈ G.gl∧K (.rp [.er (some (T,none))])
 | x,K=>evK s x K
def opK (P:Program) (Γ:Ctx) (N:Nat) (o:Oper) (s:St) (K:St→Prop):Prop :=
 match o.op with
 | .alloc t=>tiK Γ t fun ti=>match ti.sb with
  | some e=>allocSbK N s t ti e o.dst K
  | none=>match ti.desc with
   | .arr n e=>tiK Γ e fun te=>match te.ty with
    | some .u8=>arrNewK N s ti n o.dst K
    | _=>allocK Γ N s t o.dst K
   | _=>allocK Γ N s t o.dst K
 | .slice t x lo hi mx=>evK s x fun a=>arrCutK Γ N s t lo hi mx o.dst K (valK Γ s (.slice t x lo hi mx) fun v=>stPutK N s o.dst v K) a
 | .range t x=>rangeK Γ N s t x o.dst K
 | .next x b=>match b with
  | true=>nextK N s x o.dst K
  | false=>False
 | .box _ x=>boxOpK N s x o.dst K
 | .binOp op t x y _=>evK s x fun a=>evK s y fun b=>binEK Γ op t (litB x || litB y) a b fun v=>stPutK N s o.dst v K
 | .makeInterface t x=>evK s x fun a=>tiK Γ t fun ti=>chkK (!isIfcT ti.desc) (mkIfcK t a fun v=>stPutK N s o.dst v K)
 | .load t x=>evK s x fun p=>loadFrzK Γ s t p fun s=>gevK s x fun p=>loadVK Γ s t p fun v=>stPutK N s o.dst v K
 | .store t x y=>evK s x fun p=>evK s y fun v=>tiK Γ t fun ti=>match o.dst with
  | none=>storeK s ti p v K
  | some _=>False
 | .convert src dst x=>evK s x fun a=>tiK Γ src fun ts=>tiK Γ dst fun ti=>convAK Γ ts.desc ti.desc a fun v=>stPutK N s o.dst v K
 | .makeSlice t x y=>makeK Γ N s t x y o.dst K
 | .makeMap t r=>match r with
  | none=>mkMapK Γ N s t o.dst K
  | some _=>False
 | .lookup t x i ok=>mapLookK Γ N s t x i ok o.dst K
 | .mapUpdate t x i y=>mapUpdK Γ s t x i y o.dst K
 | .insert t x i y=>mapUpdK Γ s t x i y o.dst K
 | .build t ps=>buildK Γ N s t ps.toList o.dst K
 | .buildSlice t len ps=>bsliceK Γ N s t len ps.toList o.dst K
 | .call c=>calleeK P Γ N s o.op c.args.toList c.argTypes.toList o.dst K c.callee
 | op=>valK Γ s op fun v=>stPutK N s o.dst v K

theorem builtin_ok (hΓ : Γ.good P) (hI : InvB W0 F X N s β a w) {o : Oper} {b : Builtin} {args : Array Operand} {ts : Array TypeId} (ho : o.op = .call { callee := .builtin b, args := args, argTypes := ts })
  {K:AV→Prop} (h:builtinVK Γ s b args.toList ts.toList K):ValOK P X s β a w o K:=by
 cases b<;>first | exact h.elim | skip
 ·have h:evsK s args.toList fun l=>nthK ts.toList 0 fun t=>tiK Γ t fun ti=>lenVK ti.desc l K:=h
  rw [evsK_eq] at h
  obtain ⟨t,h1,h⟩:=(nthK_iff _ _ _).1 h
  obtain ⟨ti,hti,h⟩:=tiK_ok hΓ.ok h
  exact len_ok ho hI h1 hti h
 ·have h:evsK s args.toList fun l=>maxK l K:=h
  rw [evsK_eq] at h
  exact minmax_ok ho hI (.inr ⟨rfl,h⟩)
 ·have h:evsK s args.toList fun l=>minK l K:=h
  rw [evsK_eq] at h
  exact minmax_ok ho hI (.inl ⟨rfl,h⟩)

theorem mem_evs {x:Operand} {l:List Operand} (h:x ∈ l):ev s x ∈ evs s l:=by
 induction l with
 | nil=>cases h
 | cons y r ih =>
  rcases List.mem_cons.1 h with rfl | h
  ·exact List.mem_cons_self ..
  ·exact List.mem_cons_of_mem _ (ih h)
theorem val_ok_all (hΓ:Γ.good P) (hI:InvB W0 F X N s β a w) {o:Oper} {K:AV→Prop} (h:valK Γ s o.op K):ValOK P X s β a w o K:=by
 cases ho:o.op with
 | move x=>rw [ho] at h; have h:evK s x K:=h; rw [evK_eq] at h; exact ⟨_,_,h,(ev_rel hI x).1,(ev_rel hI x).2,fun w'=>by simp [execOp,ho]⟩
 | assign x=>rw [ho] at h; have h:evK s x K:=h; rw [evK_eq] at h; exact ⟨_,_,h,(ev_rel hI x).1,(ev_rel hI x).2,fun w'=>by simp [execOp,ho]⟩
 | pick c x y =>
  rw [ho] at h
  have h:evK s c fun c=>evK s x fun a=>evK s y fun b=>pickK c a b K:=h
  simp only [evK_eq] at h
  exact pick_ok hI ho h
 | binOp op t x y ty =>
  rw [ho] at h
  have h:evK s x fun a=>evK s y fun b=>binTK Γ op t a b K:=h
  simp only [evK_eq] at h
  exact bin_ok hΓ.ok hI ho h
 | unOp op t x =>
  rw [ho] at h
  have h:evK s x fun a=>unK op a K:=h
  simp only [evK_eq] at h
  obtain ⟨r,z,h1,h2,h3⟩:=un_run (P:=P) op h (ev_rel hI x).1
  exact .im h1 h2 (fun w'=>by simp [execOp,ho,h3])
 | convert src dst x =>
  rw [ho] at h
  have h:evK s x fun a=>tiK Γ src fun _=>tiK Γ dst fun ti=>convK ti.desc a K:=h
  rw [evK_eq] at h
  obtain ⟨si,hsi,h⟩:=tiK_ok hΓ.ok h
  obtain ⟨ti,hti,h⟩:=tiK_ok hΓ.ok h
  obtain ⟨d,hd,_⟩:=hsi.desc
  exact conv_ok ho hti (ev_rel hI x).1 h ⟨d,hd⟩
 | fieldAddr t x f =>
  rw [ho] at h
  have h:evK s x fun p=>tiK Γ t fun ti=>structK ti.desc fun fl=>nthK fl f fun d=>match d with | (off,_)=>faddrK off p K:=h
  rw [evK_eq] at h
  obtain ⟨ti,hti,h⟩:=tiK_ok hΓ.ok h
  obtain ⟨fl,fs,h,hu,h3,h4⟩:=struct_ok hti h
  obtain ⟨d,hd,h⟩:=(nthK_iff _ _ _).1 h
  exact faddr_ok ho hu h3 h4 hd (ev_rel hI x).1 (ev_rel hI x).2 h
 | field t x f =>
  rw [ho] at h
  have h:evK s x fun p=>tiK Γ t fun ti=>structK ti.desc fun fl=>nthK fl f fun d=>match d with | (off,sz)=>fieldK off sz p K:=h
  rw [evK_eq] at h
  obtain ⟨ti,hti,h⟩:=tiK_ok hΓ.ok h
  obtain ⟨fl,fs,h,hu,h3,h4⟩:=struct_ok hti h
  obtain ⟨d,hd,h⟩:=(nthK_iff _ _ _).1 h
  exact field_ok ho hu h3 hd h4 (ev_rel hI x).1 h
 | extract x i =>
  rw [ho] at h
  have h:evK s x fun p=>extractK i p K:=h
  rw [evK_eq] at h
  exact extract_ok ho (ev_rel hI x).1 (ev_rel hI x).2 h
 | indexAddr t x i =>
  rw [ho] at h
  have h:evK s x fun a=>evK s i fun n=>intK n fun n=>tiK Γ t fun ti=>idxAddrK Γ n a K ti.desc:=h
  rw [evK_eq,evK_eq] at h
  obtain ⟨k,n,hi,h⟩:=int_ok h (ev_rel hI i).1
  obtain ⟨ti,hti,h⟩:=tiK_ok hΓ.ok h
  obtain ⟨de,h1,h2⟩:=hti.desc
  cases hd:ti.desc with
  | slice e =>
   rw [hd] at h h2
   obtain ⟨te,hte,h⟩:=tiK_ok hΓ.ok h
   exact iaddr_ok ho ((show de = .slice e from h2) ▸ h1) hte hi (ev_rel hI x).1 (ev_rel hI x).2 h
  | arr len e =>
   rw [hd] at h h2
   obtain ⟨te,hte,h⟩:=tiK_ok hΓ.ok h
   exact arrAddr_ok ho ((show de = .array len e from h2) ▸ h1) hte hi (ev_rel hI x).1 (ev_rel hI x).2 h
  | _=>rw [hd] at h; exact h.elim
 | index t x i =>
  rw [ho] at h
  have h:evK s x fun a=>evK s i fun n=>intK n fun n=>tiK Γ t fun ti=>idxValK Γ n a K ti.desc:=h
  rw [evK_eq,evK_eq] at h
  obtain ⟨k,n,hi,h⟩:=int_ok h (ev_rel hI i).1
  obtain ⟨ti,hti,h⟩:=tiK_ok hΓ.ok h
  obtain ⟨de,h1,h2⟩:=hti.desc
  cases hd:ti.desc with
  | str =>
   rw [hd] at h h2
   exact strIndex_ok ho ((show de = .string from h2) ▸ h1) hi (ev_rel hI x).1 h
  | arr len e =>
   rw [hd] at h h2
   obtain ⟨te,hte,h⟩:=tiK_ok hΓ.ok h
   exact arrIdx_ok ho ((show de = .array len e from h2) ▸ h1) hte hi (ev_rel hI x).1 h
  | _=>rw [hd] at h; exact h.elim
 | nilCheck x =>
  rw [ho] at h
  have h:evK s x fun p=>nilChkK p K:=h
  rw [evK_eq] at h
  exact nilChk_ok ho (ev_rel hI x).1 (ev_rel hI x).2 h
 | makeFunc fn first captured =>
  rw [ho] at h
  have key:∀ l:List AV,noFn l = true→∀ v ∈ l,noFn [v] = true:=by
   intro l
   induction l with
   | nil=>intro _ v hv; cases hv
   | cons y r ih =>
    intro hl v hv
    have hy:noFn r = true∧noFn [y] = true:=by cases y<;>first | exact ⟨hl,rfl⟩ | exact absurd (show false = true from hl) (by simp)
    rcases List.mem_cons.1 hv with e | hv
    ·rw [e]; exact hy.2
    ·exact ih hy.1 v hv
  obtain ⟨first⟩:=first
  obtain ⟨captured⟩:=captured
  cases fn with
  | func f =>
   cases first with
   | nil =>
    have h:evsK s captured fun l=>chkK (noFn l) (chkK (!headNp l) (K (.fn f l))):=h
    rw [evsK_eq] at h
    obtain ⟨h1,h⟩:=(chkK_iff _ _).1 h
    obtain ⟨h2,h⟩:=(chkK_iff _ _).1 h
    exact fnVal_ok hI ho (fun x hx=>key _ h1 _ (mem_evs hx)) (by simpa using h2) h
   | cons x r =>
    cases captured with
    | nil =>
     have h:evsK s (x::r) fun l=>chkK (noFn l) (K (.fn f (.np::l))):=h
     rw [evsK_eq] at h
     obtain ⟨h1,h⟩:=(chkK_iff _ _).1 h
     exact bfVal_ok hI ho (fun x hx=>key _ h1 _ (mem_evs hx)) h
    | cons _ _=>exact h.elim
  | _=>exact h.elim
 | call c =>
  rw [ho] at h
  obtain ⟨callee,args,ts⟩:=c
  cases callee with
  | builtin b=>exact builtin_ok hΓ hI ho h
  | _=>exact h.elim
 | slice t x lo hi mx =>
  rw [ho] at h
  cases mx with
  | some _=>exact h.elim
  | none =>
   have h:evK s x fun a=>tiK Γ t fun ti=>match isStrT ti.desc with
    | true=>strSliceK s lo hi a K
    | false=>sliceTK ti.desc fun e=>tiK Γ e fun te=>rdSliceK s te.cells lo hi a K:=h
   rw [evK_eq] at h
   obtain ⟨ti,hti,h⟩:=tiK_ok hΓ.ok h
   cases hs:isStrT ti.desc with
   | true=>rw [hs] at h; exact strSlice_ok hI ho (str_ok hti hs) (ev_rel hI x).1 h
   | false =>
    rw [hs] at h
    obtain ⟨e,h,hu⟩:=slice_ok hti h
    obtain ⟨te,hte,h⟩:=tiK_ok hΓ.ok h
    exact rdSlice_ok hI ho hu hte (ev_rel hI x).1 (ev_rel hI x).2 h
 | _=>rw [ho] at h; exact h.elim

theorem valPut_ok (hΓ : Γ.good P) (hI : InvB W0 F X N s β a w) {o : Oper} {K : St → Prop} (h : valK Γ s o.op fun v => stPutK N s o.dst v K)
  {next:Act→World→Prop} {Q:Exit→Act→World→Prop} (hn:∀ s' a' w',K s'→Inv W0 F X N s' a' w'→next a' w'):o.wp P a w next Q:=by
 obtain ⟨v,u,h1,h2,h3,h4⟩:=val_ok_all hΓ hI h
 exact val_ok hI h1 hn (h4 w) h2 h3

theorem op_ok (hΓ : Γ.good P) (hI : InvB W0 F X N s β a w) {o : Oper} {K : St → Prop} (h : opK P Γ N o s K)
  {next:Act→World→Prop} {Q:Exit→Act→World→Prop} (hn:∀ s' a' w',K s'→Inv W0 F X N s' a' w'→next a' w'):o.wp P a w next Q:=by
 unfold opK at h
 cases ho:o.op with
 | alloc t =>
  rw [ho] at h
  obtain ⟨ti,hti,h⟩:=tiK_ok hΓ.ok (show tiK Γ t fun ti=>match ti.sb with
   | some e=>allocSbK N s t ti e o.dst K
   | none=>match ti.desc with
    | .arr n e=>tiK Γ e fun te=>match te.ty with
     | some .u8=>arrNewK N s ti n o.dst K
     | _=>allocK Γ N s t o.dst K
    | _=>allocK Γ N s t o.dst K from h)
  cases he:ti.sb with
  | some e=>rw [he] at h; exact allocSb_ok hI ho hti h hn
  | none =>
   rw [he] at h
   have old:allocK Γ N s t o.dst K→o.wp P a w next Q:=fun h=>alloc_ok hΓ.ok (fun p hp=>(hΓ.one p hp).1) hI ho h hn
   cases hd:ti.desc with
   | arr n e =>
    rw [hd] at h
    obtain ⟨te,hte,h⟩:=tiK_ok hΓ.ok (show tiK Γ e fun te=>match te.ty with
     | some .u8=>arrNewK N s ti n o.dst K
     | _=>allocK Γ N s t o.dst K from h)
    split at h
    ·exact arrNew_ok hI ho hti h hn
    ·exact old h
   | _=>rw [hd] at h; exact old h
 | slice t x lo hi mx =>
  rw [ho] at h
  have h:evK s x fun a=>arrCutK Γ N s t lo hi mx o.dst K (valK Γ s (.slice t x lo hi mx) fun v=>stPutK N s o.dst v K) a:=h
  rw [evK_eq] at h
  exact arrCut_ok hΓ.ok hI ho h (fun h=>valPut_ok hΓ hI (by rw [ho]; exact h) hn) hn
 | range t x=>rw [ho] at h; exact range_ok hΓ.ok hI ho h hn
 | next x b =>
  rw [ho] at h
  cases b with
  | true=>exact next_ok hI ho h hn
  | false=>exact h.elim
 | box t x=>rw [ho] at h; exact boxOp_ok hI ho h hn
 | binOp op t x y ty =>
  rw [ho] at h
  have h:evK s x fun a=>evK s y fun b=>binEK Γ op t (litB x || litB y) a b fun v=>stPutK N s o.dst v K:=h
  simp only [evK_eq] at h
  unfold binEK at h
  split at h
  ·rename_i hax hay
   have hx:=(ev_rel hI x).1
   have hy:=(ev_rel hI y).1
   rw [hax] at hx; rw [hay] at hy
   obtain ⟨ti,hti,h⟩:=tiK_ok hΓ.ok h
   obtain ⟨h1,h⟩:=(chkK_iff _ _).1 h
   obtain ⟨ms,hu⟩:=ifc_ok hti h1
   obtain ⟨r,hK,hrun⟩:=erEq_ok hΓ.ok hu (show Im _ _ _ _ from hx) (show Im _ _ _ _ from hy) h
   refine val_ok hI hK hn (u:=.bool r) ?_ (.b r) (fun n hn=>by cases hn)
   have h3:=hrun w
   simp only [execOp,ho]
   simp only [Sem.run_bind] at h3 ⊢
   rw [h3]
   rfl
  have hx:=(ev_rel hI x).1
  have hy:=(ev_rel hI y).1
  have key:∀ {b:Bool} {A:Option Addr} {n c:Nat},a.eval x = .slice A n c→a.eval y = .slice none 0 0→(b = false→A.isNone = false)→(tiK Γ t fun ti=>sliceTK ti.desc fun _=>nilEqK op b fun v=>stPutK N s o.dst v K)→o.wp P a w next Q:=fun hxe hye hb h=>by
   obtain ⟨ti,hti,h⟩:=tiK_ok hΓ.ok h
   obtain ⟨e,h,hu⟩:=slice_ok hti h
   obtain ⟨v,hK,hrun⟩:=nilEq_ok hu h x y hb
   refine val_ok hI hK hn (u:=.bool v) ?_ (.b v) (fun n hn=>by cases hn)
   have h3:=hrun w
   simp only [execOp,ho,hxe,hye]
   simp only [Sem.run_bind] at h3 ⊢
   rw [h3]
   rfl
  unfold binNK at h
  split at h
  ·rename_i hax hay
   rw [hax] at hx; rw [hay] at hy
   have hx:Im (Own X s β) w _ (a.eval x):=hx
   generalize he:a.eval x = u at hx
   cases hx with
   | rd0 _ A c _=>exact key he hy.inv_nl (fun hl=>by cases hl) h
   | rd=>exact key he hy.inv_nl (fun _=>rfl) h
  ·rename_i hax hay
   rw [hax] at hx; rw [hay] at hy
   rcases (show VecAt _ _ _ _ _ _ _ from hx) with ⟨h1,h2,_⟩ | ⟨g,c,cur,e,_,h2,_⟩
   ·exact key h2 hy.inv_nl (fun he=>by subst h1; cases he) h
   ·exact key h2 hy.inv_nl (fun _=>rfl) h
  ·rename_i hax hay
   rw [hax] at hx; rw [hay] at hy
   exact key (b:=true) hx.inv_nl hy.inv_nl (fun h=>by cases h) h
  ·rename_i hax hay
   rw [hax] at hx; rw [hay] at hy
   rcases (show _∧VecAt _ _ _ _ _ _ _ from hx).2 with ⟨h1,h2,_⟩ | ⟨g,c,cur,e,_,h2,_⟩
   ·exact key h2 hy.inv_nl (fun he=>by subst h1; cases he) h
   ·exact key h2 hy.inv_nl (fun _=>rfl) h
  ·obtain ⟨v,u,h1,h2,h3,h4⟩:=bin_ok hΓ.ok hI ho h
   exact val_ok hI h1 hn (h4 w) h2 h3
 | makeInterface t x =>
  rw [ho] at h
  have h:evK s x fun a=>tiK Γ t fun ti=>chkK (!isIfcT ti.desc) (mkIfcK t a fun v=>stPutK N s o.dst v K):=h
  rw [evK_eq] at h
  obtain ⟨ti,hti,h⟩:=tiK_ok hΓ.ok h
  obtain ⟨h1,h⟩:=(chkK_iff _ _).1 h
  have hrun:(execOp a.eval o).run P w = .ok (.value (.iface t (a.eval x))) w:=by
   obtain ⟨de,hu,hd⟩:=hti.desc
   have hne:∀ ms,de≠.interface ms:=by
    intro ms e
    subst e
    cases hdd:ti.desc with
    | ifc=>rw [hdd] at h1; cases h1
    | other=>rw [hdd] at hd; exact (show _∧_∧_ from hd).2.2 _ rfl
    | struct fl=>rw [hdd] at hd; obtain ⟨fs,hf,_⟩:=(show ∃ fs:Array Field,_∧_∧_ from hd); cases hf
    | _=>rw [hdd] at hd; cases (show TypeDesc.interface ms = _ from hd)
   simp only [execOp,ho]
   cases de<;>first | exact absurd rfl (hne _) | simp [Instr.makeInterface,run_underlying hu]
  have hx:=(ev_rel hI x).1
  cases hxv:ev s x with
  | i k n =>
   rw [hxv] at h hx
   rw [show a.eval x = .int k n from hx.inv_i] at hrun
   cases k<;>first
    | exact val_ok hI (show stPutK N s o.dst (.er (some (t,some n))) K from h) hn hrun (.er1 t n) (fun n hn=>by cases hn)
    | exact val_ok hI (show stPutK N s o.dst (.er (some (t,none))) K from h) hn hrun (.er2 t _) (fun n hn=>by cases hn)
  | _=>rw [hxv] at h; exact val_ok hI (show stPutK N s o.dst (.er (some (t,none))) K from h) hn hrun (.er2 t _) (fun n hn=>by cases hn)
 | load t x =>
  rw [ho] at h
  have h:evK s x fun p=>loadFrzK Γ s t p fun s=>gevK s x fun p=>loadVK Γ s t p fun v=>stPutK N s o.dst v K:=h
  by_cases hgl:∃ g,x = .global g
  ·obtain ⟨g,rfl⟩:=hgl
   obtain ⟨T,p,e,fz,hmem,h⟩:=(show ∃ (T:TypeId) (p:Value) (e:TypeId) (fz:Nat × Nat),(g,Obj.cells #[.iface T p] e fz) ∈ Globs.gl∧loadVK Γ s t (.rp [.er (some (T,none))]) fun v=>stPutK N s o.dst v K from h)
   obtain ⟨hg1,hg2⟩:=hI.globs _ hmem
   have hr:Rel β (Own X s β) w (.rp [.er (some (T,none))]) (a.eval (.global g)):=by
    refine Im.mk_rp (o:=0) fun j av hj=>?_
    cases j with
    | zero =>
     injection hj with hj
     subst hj
     exact ⟨hg1,.iface T p,by simp [World.cell?,hg2],.er2 T p,rfl⟩
    | succ j=>cases hj
   obtain ⟨v,u,h1,h2,h3,h4⟩:=load_ok hΓ.ok hI ho hr (fun n hn=>by cases hn) h
   exact val_ok hI h1 hn h4 h2 h3
  have hge:∀ s K,gevK s x K = evK s x K:=fun s K=>by cases x<;>first | rfl | exact absurd ⟨_,rfl⟩ hgl
  simp only [hge] at h
  rw [evK_eq] at h
  have key:∃ s',InvB W0 F X N s' β a w∧evK s' x fun p=>loadVK Γ s' t p fun v=>stPutK N s' o.dst v K:=by
   cases hp:ev s x with
   | pt n off =>
    rw [hp] at h
    have h:bif twiceB Γ t then (evK s x fun p=>loadVK Γ s t p fun v=>stPutK N s o.dst v K) else lookBK s.boxes n fun cs=>tiK Γ t fun ti=>match isStruct ti.desc with
     | true=>takeK ti.cells (cs.drop off) fun l=>vecsOfK l fun ids=>frzAllK ids s fun s=>evK s x fun p=>loadVK Γ s t p fun v=>stPutK N s o.dst v K
     | false=>evK s x fun p=>loadVK Γ s t p fun v=>stPutK N s o.dst v K:=h
    cases htw:twiceB Γ t with
    | true=>rw [htw] at h; exact ⟨s,hI,h⟩
    | false =>
    rw [htw,cond_false] at h
    obtain ⟨cs,h1,h⟩:=(lookBK_iff _ _ _).1 h
    obtain ⟨ti,hti,h⟩:=tiK_ok hΓ.ok h
    cases hs:isStruct ti.desc with
    | true =>
     rw [hs] at h
     have h:=((takeK_iff _ _ _).1 h).2
     rw [vecsOfK_eq,frzAllK_eq] at h
     exact ⟨_,hI.frzAll _,h⟩
    | false=>rw [hs] at h; exact ⟨s,hI,h⟩
   | _=>rw [hp] at h; exact ⟨s,hI,h⟩
  obtain ⟨s',hI',h⟩:=key
  rw [evK_eq] at h
  obtain ⟨v,u,h1,h2,h3,h4⟩:=load_ok hΓ.ok hI' ho (ev_rel hI' x).1 (ev_rel hI' x).2 h
  exact val_ok hI' h1 hn h4 h2 h3
 | store t x y =>
  rw [ho] at h
  have h:evK s x fun p=>evK s y fun v=>tiK Γ t fun ti=>match o.dst with
   | none=>storeK s ti p v K
   | some _=>False:=h
  rw [evK_eq,evK_eq] at h
  obtain ⟨ti,hti,h⟩:=tiK_ok hΓ.ok h
  cases hd:o.dst with
  | some d=>rw [hd] at h; exact h.elim
  | none =>
   rw [hd] at h
   cases hp:ev s x with
   | pt n off =>
    rw [hp] at h
    have hx:=(ev_rel hI x).1
    rw [hp] at hx
    obtain ⟨s',w',h1,h2,h3⟩:=storeBox_ok hI ho hti hx (ev_rel hI y).1 (ev_rel hI y).2 h
    exact wp_skp h3 (by rw [hd]; exact hn _ _ _ h1 ⟨β,h2⟩)
   | vp id τ l n off =>
    rw [hp] at h
    have hx:=ev_rel hI x
    rw [hp] at hx
    have hh:∃ s' w',K s'∧InvB W0 F X N s' β a w'∧(execOp a.eval o).run P w = .ok .skip w':=by
     have h:optGrK (grPick τ off (ev s y)) (fun r row=>storeGrK s id r n row ti.cells K) (storeVpK s id τ n off ti.cells (ev s y) K):=h
     cases hpk:grPick τ off (ev s y) with
     | none=>rw [hpk] at h; exact storeVp_ok hI ho hti hx.1 (hx.2 id (by simp [ids,ids0])) (ev_rel hI y).1 (ev_rel hI y).2 h
     | some p =>
      obtain ⟨r,row⟩:=p
      rw [hpk] at h
      obtain ⟨rfl,rfl,hv⟩:=grPick_some hpk
      have hy:=ev_rel hI y
      rw [hv] at hy
      exact storeGr_ok hI ho hti hx.1 (hx.2 id (by simp [ids,ids0])) hy.1 (hy.2 r (by simp [ids,ids0])) h
    obtain ⟨s',w',h1,h2,h3⟩:=hh
    exact wp_skp h3 (by rw [hd]; exact hn _ _ _ h1 ⟨β,h2⟩)
   | _=>rw [hp] at h; exact h.elim
 | convert src dst x =>
  rw [ho] at h
  have h:evK s x fun a=>tiK Γ src fun ts=>tiK Γ dst fun ti=>convAK Γ ts.desc ti.desc a fun v=>stPutK N s o.dst v K:=h
  rw [evK_eq] at h
  obtain ⟨ts,hts,h⟩:=tiK_ok hΓ.ok h
  obtain ⟨ti,hti,h⟩:=tiK_ok hΓ.ok h
  rcases convA_ok hΓ.ok ho hts hti (ev_rel hI x).1 h with ⟨v,u,h1,h2,h3,h4⟩ | ⟨e,l,h1,h2,h3⟩
  ·exact val_ok hI h1 hn h4 h2 h3
  ·obtain ⟨r,u,w',k1,k2,k3,k4⟩:=convS_ok (K:=fun v=>stPutK N s o.dst v K) hΓ.ok (own_lt hI) ho hts hti h2 (ev_rel hI x).1 h1 h3
   exact valIm_ok hI k2 k1 hn k3 k4
 | makeSlice t x y=>rw [ho] at h; exact make_ok hΓ.ok hI ho h hn
 | makeMap t r =>
  cases r with
  | none=>rw [ho] at h; exact mkMap_ok hΓ.ok hI ho h hn
  | some x=>rw [ho] at h; exact h.elim
 | lookup t x i ok=>rw [ho] at h; exact mapLook_ok hΓ.ok hI ho h hn
 | mapUpdate t x i y=>rw [ho] at h; exact mapUpd_ok hΓ.ok hI (.inl ho) h hn
 | insert t x i y=>rw [ho] at h; exact mapUpd_ok hΓ.ok hI (.inr ho) h hn
 | build t ps=>rw [ho] at h; exact build_ok hΓ.ok (fun p hp=>(hΓ.one p hp).1) hI ho h hn
 | buildSlice t len ps=>rw [ho] at h; exact bslice_ok hΓ.ok hΓ.one hI ho h hn
 | call c =>
  rw [ho] at h
  obtain ⟨callee,args,ts⟩:=c
  cases callee with
  | value f =>
   have h:evsK s args.toList fun vs=>sbHeadK vs (fun id id2 o' rest=>callSbK P N s f id id2 o' rest o.dst K) (callK P N s f args.toList o.dst K∨callBK P N s f args.toList o.dst K∨readK P N s f args.toList o.dst K∨callFK P N s f args.toList o.dst K∨callXK P N s f args.toList o.dst K∨callMK P N s f args.toList o.dst K):=h
   rw [evsK_eq] at h
   rcases sbHead_cases h with ⟨id,id2,ob,rest,hev,h⟩ | h
   ·exact callSb_ok hI ho hev h hn
   ·exact h.elim (fun h=>call_ok hI ho h hn) fun h=>h.elim (fun h=>callB_ok hI ho h hn) fun h=>h.elim (fun h=>read_ok hI ho h hn) fun h=>h.elim (fun h=>callF_ok hI ho h hn) fun h=>h.elim (fun h=>callX_ok hI ho h hn) fun h=>callM_ok hI ho h hn
  | builtin b =>
   cases b with
   | append=>exact append_ok hΓ.ok hΓ.one hI ho h hn
   | _=>exact valPut_ok hΓ hI (by rw [ho]; exact h) hn
  | invoke r m=>exact valPut_ok hΓ hI (by rw [ho]; exact h) hn
 | _=>exact valPut_ok hΓ hI (by rw [ho]; rw [ho] at h; exact h) hn

/-! ### a region -/
def guardK (N:Nat) (known:Bool) (s:St) (d:Nat) (want:Bool) (run skip:St→Prop):Prop :=
 lookK s.slots d fun v=>match known with
  | true=>match v with
   | .b true=>bif want then run s else skip s
   | .b false=>bif want then skip s else run s
   | .tup []=>skip s
   | _=>False
  | false=>match v with
   | .b t=>(t = want→stPutK N s (some d) (.b want) run)∧(t = (!want)→stPutK N s (some d) (.b (!want)) skip)
   | .tup []=>skip s
   | _=>False
def opsStepK (P:Program) (Γ:Ctx) (N:Nat) (ops:List Oper) (o:Oper) (known:List Nat) (s:St) (K:List Nat→St→Prop):Prop :=
 match o.guard with
 | none=>opK P Γ N o s fun s=>K known s
 | some (j,want)=>nthK ops j fun oj=>optK oj.dst fun d =>
  guardK N (inB j known) s d want (fun s=>opK P Γ N o s fun s=>K (j::known) s)
   (fun s=>stPutK N s o.dst (.tup []) fun s=>K (j::known) s)
def vcOps (P:Program) (Γ:Ctx) (N:Nat) (ops:List Oper):List Oper→List Nat→St→(St→Prop)→Prop
 | [],_,s,Q=>Q s
 | o::r,known,s,Q=>opsStepK P Γ N ops o known s fun known s=>vcOps P Γ N ops r known s Q

theorem undef_rel (O:Nat→Prop) (w:World):Im O w (.tup []) undef:=by
 have:=Im.tup (O:=O) (w:=w) [] [] rfl (by simp)
 exact this

theorem guard_ok (hI : InvB W0 F X N s β a w) {ops : List Oper} {j : Nat} {oj : Oper} (hj : ops[j]? = some oj) {d : Nat} (hd : oj.dst = some d) {known want : Bool} {run skip : St → Prop} (h : guardK N known s d want run skip) :
  (∃ s',InvB W0 F X N s' β a w∧yielded ops.toArray a.tmps j = some want∧run s')∨(∃ s',InvB W0 F X N s' β a w∧yielded ops.toArray a.tmps j≠some want∧skip s'):=by
 have hy:yielded ops.toArray a.tmps j = (match a.tmps[d]? with | some (.bool b)=>some b | _=>none):=by
  simp [yielded,hj,hd]; rfl
 have hr:=hI.slots d
 have hlit:∀ (t want:Bool),look s.slots d = .b t→yielded ops.toArray a.tmps j = some t:=by
  intro t want hv
  rw [hv] at hr
  have:=hr.inv_b
  rw [hy]
  rw [Array.getD_eq_getD_getElem?] at this
  cases hc:a.tmps[d]? with
  | none=>rw [hc] at this; simp [undef] at this
  | some u=>rw [hc] at this; simp at this; subst this; rfl
 have htup:look s.slots d = .tup []→yielded ops.toArray a.tmps j≠some want:=by
  intro hv
  rw [hv] at hr
  obtain ⟨vs,h1,h2⟩:=hr.inv_tup
  rw [hy]
  rw [Array.getD_eq_getD_getElem?] at h1
  cases hc:a.tmps[d]? with
  | none=>simp
  | some u=>rw [hc] at h1; simp at h1; subst h1; simp
 have hput:∀ t,look s.slots d = .b t→∀ K:St→Prop,stPutK N s (some d) (.b t) K→∃ s',InvB W0 F X N s' β a w∧K s':=by
  intro t hv K hK
  rw [stPutK_some] at hK
  cases hb:Nat.blt d N with
  | false=>rw [hb] at hK; exact hK.elim
  | true =>
   rw [hb,cond_true] at hK
   have hdN:d < N:=by rw [Nat.blt_eq] at hb; exact hb
   have h1:=hI.put hdN (v:=.b t) (u:=a.tmps.getD d undef) (by rw [hv] at hr; exact hr) (by intro n hn; cases hn)
   refine ⟨_,?_,hK⟩
   have e:a.put (some d) (a.tmps.getD d undef) = a:=by
    have hdl:d < a.tmps.size:=by rw [hI.size]; exact hdN
    simp only [Act.put]
    congr 1
    apply Array.ext_getElem?
    intro i
    rw [Array.getElem?_setIfInBounds]
    split
    ·rename_i e; subst e; rw [Array.getElem?_eq_getElem hdl]; simp
    ·rfl
   rw [e] at h1
   exact h1
 unfold guardK at h
 rw [lookK_eq] at h
 cases known with
 | true =>
  cases hv:look s.slots d with
  | b t =>
   rw [hv] at h
   have hyt:=hlit t want hv
   cases t<;>cases want
   ·exact .inl ⟨s,hI,hyt,h⟩
   ·exact .inr ⟨s,hI,by rw [hyt]; simp,h⟩
   ·exact .inr ⟨s,hI,by rw [hyt]; simp,h⟩
   ·exact .inl ⟨s,hI,hyt,h⟩
  | tup l =>
   rw [hv] at h
   cases l with
   | nil=>exact .inr ⟨s,hI,htup hv,h⟩
   | cons _ _=>exact h.elim
  | _=>rw [hv] at h; exact h.elim
 | false =>
  cases hv:look s.slots d with
  | b t =>
   rw [hv] at h
   have hyt:=hlit t want hv
   by_cases ht:t = want
   ·obtain ⟨s',h1,h2⟩:=hput want (ht ▸ hv) run (h.1 ht)
    exact .inl ⟨s',h1,by rw [hyt,ht],h2⟩
   ·have ht':t = !want:=by cases t<;>cases want<;>simp_all
    obtain ⟨s',h1,h2⟩:=hput (!want) (ht' ▸ hv) skip (h.2 ht')
    exact .inr ⟨s',h1,by rw [hyt]; simpa using ht,h2⟩
  | tup l =>
   rw [hv] at h
   cases l with
   | nil=>exact .inr ⟨s,hI,htup hv,h⟩
   | cons _ _=>exact h.elim
  | _=>rw [hv] at h; exact h.elim

theorem vcOps_ok (hΓ : Γ.good P) {ops : List Oper} {Q : St → Prop} {Q' : Exit → Act → World → Prop} (hQ : ∀ s a w, Q s → Inv W0 F X N s a w → Q' .normal a w) (l : List Oper) :
  ∀ (known:List Nat) (s:St) (a:Act) (w:World),vcOps P Γ N ops l known s Q→Inv W0 F X N s a w→wpList P ops.toArray Q' l a w:=by
 induction l with
 | nil=>intro known s a w h hI; exact hQ s a w h hI
 | cons o r ih =>
  intro known s a w h ⟨β,hI⟩
  simp only [vcOps,opsStepK] at h
  cases hg:o.guard with
  | none =>
   rw [hg] at h
   exact wpList_plain hg fun K hK=>op_ok hΓ hI h fun s' a' w' h1 h2=>hK _ _ (ih known s' a' w' h1 h2)
  | some p =>
   obtain ⟨j,want⟩:=p
   rw [hg] at h
   obtain ⟨oj,hj,h⟩:=(nthK_iff _ _ _).1 h
   obtain ⟨d,hd,h⟩:=(optK_iff _ _).1 h
   refine wpList_step fun K hK=>?_
   rcases guard_ok hI hj hd h with ⟨s',hI',hy,h⟩ | ⟨s',hI',hy,h⟩
   ·rw [if_pos (by simp [Region.wanted,hg,hy])]
    exact op_ok hΓ hI' h fun s' a' w' h1 h2=>hK _ _ (ih _ s' a' w' h1 h2)
   ·rw [if_neg (by simp [Region.wanted,hg]; exact hy)]
    obtain ⟨s2,h1,h2⟩:=putIm_ok hI' (Stp.refl _ w) h (undef_rel _ _)
    exact hK _ _ (ih _ s2 _ _ h1 ⟨β,h2⟩)
end
end Go.SX
end
section
namespace Go.SX
variable [Globs]
section
def CP {α:Type} (f:(α→Prop)→Prop):Prop:=∃ A:α→Prop,∀ K,f K↔∃ v,A v∧K v
variable {α γ:Type}
theorem CP.det {f:(α→Prop)→Prop} (h:CP f) {K:α→Prop} (hk:f K):∃ v,f (fun u=>u = v)∧K v:=by
 obtain ⟨A,hA⟩:=h
 obtain ⟨v,h1,h2⟩:=(hA K).1 hk
 exact ⟨v,(hA _).2 ⟨v,h1,rfl⟩,h2⟩
theorem CP.mon {f:(α→Prop)→Prop} (h:CP f) {K K':α→Prop} (hk:f K) (hi:∀ v,K v→K' v):f K':=by
 obtain ⟨A,hA⟩:=h
 obtain ⟨v,h1,h2⟩:=(hA K).1 hk
 exact (hA _).2 ⟨v,h1,hi v h2⟩
theorem CP.put {f:(α→Prop)→Prop} (h:CP f) {K:α→Prop} {v:α} (hk:f (fun u=>u = v)) (hv:K v):f K:=by
 obtain ⟨A,hA⟩:=h
 obtain ⟨u,h1,rfl⟩:=(hA _).1 hk
 exact (hA K).2 ⟨u,h1,hv⟩
theorem CP.pure {F:(α→Prop)→Prop} (v:α) (e:F = fun K:α→Prop=>K v:=by exact rfl):CP F:=⟨fun u=>u = v,fun K=>by subst e; simp⟩
theorem CP.none {F:(α→Prop)→Prop} (e:F = fun _:α→Prop=>False:=by exact rfl):CP F:=⟨fun _=>False,fun K=>by subst e; simp⟩
theorem CP.of_eq {f:(α→Prop)→Prop} {v:α} (h:∀ K,f K = K v):CP f:=⟨fun u=>u = v,fun K=>by rw [h]; simp⟩
theorem CP.and0 {p:Prop} {f:(α→Prop)→Prop} (h:CP f):CP (fun K=>p∧f K):=by
 obtain ⟨A,hA⟩:=h
 refine ⟨fun v=>p∧A v,fun K=>?_⟩
 show p∧f K↔_
 rw [hA]
 exact ⟨fun ⟨h1,v,h2,h3⟩=>⟨v,⟨h1,h2⟩,h3⟩,fun ⟨v,⟨h1,h2⟩,h3⟩=>⟨h1,v,h2,h3⟩⟩
theorem CP.and {p:Prop} {f F:(α→Prop)→Prop} (h:CP f) (e:F = fun K=>p∧f K:=by exact rfl):CP F:=e ▸ CP.and0 h
theorem CP.chk {b:Bool} {f F:(α→Prop)→Prop} (h:CP f) (e:F = fun K=>chkK b (f K):=by exact rfl):CP F:=by
 subst e
 cases b
 ·exact CP.none
 ·exact h
theorem CP.bif {b:Bool} {f g F:(α→Prop)→Prop} (h:CP f) (h':CP g) (e:F = fun K=>bif b then f K else g K:=by exact rfl):CP F:=by
 subst e
 cases b
 ·exact h'
 ·exact h
theorem CP.bind0 {f:(γ→Prop)→Prop} {g:γ→(α→Prop)→Prop} (hf:CP f) (hg:∀ x,CP (g x)):CP (fun K=>f fun x=>g x K):=by
 obtain ⟨A,hA⟩:=hf
 refine ⟨fun v=>∃ x,A x∧g x (fun u=>u = v),fun K=>?_⟩
 show (f fun x=>g x K)↔_
 rw [hA]
 constructor
 ·rintro ⟨x,h1,h2⟩
  obtain ⟨v,h3,h4⟩:=(hg x).det h2
  exact ⟨v,⟨x,h1,h3⟩,h4⟩
 ·rintro ⟨v,⟨x,h1,h3⟩,h4⟩
  exact ⟨x,h1,(hg x).put h3 h4⟩
theorem CP.bind {f:(γ→Prop)→Prop} {g:γ→(α→Prop)→Prop} {F:(α→Prop)→Prop} (hf:CP f) (hg:∀ x,CP (g x)) (e:F = fun K=>f fun x=>g x K:=by exact rfl):CP F:=e ▸ CP.bind0 hf hg
theorem CP.as {f F:(α→Prop)→Prop} (h:CP f) (e:F = f:=by exact rfl):CP F:=e ▸ h
theorem CP.ti (Γ:Ctx) (t:Nat):CP (tiK Γ t):=by
 induction Γ with
 | nil=>exact CP.none
 | cons p r ih=>obtain ⟨m,u⟩:=p; exact CP.bif (CP.pure u) ih
theorem CP.nth {l:List α} {n:Nat}:CP (nthK l n):=⟨fun v=>l[n]? = some v,fun K=>nthK_iff l n K⟩
theorem CP.take {l:List α} {n:Nat}:CP (takeK n l):=⟨fun v=>n≤l.length∧v = l.take n,fun K=>by
 rw [takeK_iff]
 exact ⟨fun ⟨h1,h2⟩=>⟨_,⟨h1,rfl⟩,h2⟩,fun ⟨_,⟨h1,e⟩,h2⟩=>⟨h1,e ▸ h2⟩⟩⟩
theorem CP.evK (s:St) (x:Operand):CP (evK s x):=CP.of_eq (evK_eq s x)
theorem CP.evsK (s:St) (l:List Operand):CP (evsK s l):=CP.of_eq (evsK_eq s l)
theorem CP.structK (d:TD):CP (structK d):=by cases d<;>first | exact CP.pure _ | exact CP.none
theorem CP.sliceTK (d:TD):CP (sliceTK d):=by cases d<;>first | exact CP.pure _ | exact CP.none
theorem CP.intK (v:AV):CP (intK v):=by cases v<;>first | exact CP.pure _ | exact CP.none
theorem CP.arith (k:IntKind) (n:Int):CP (arithK k n):=by
 unfold arithK
 cases k.signed with
 | true=>exact CP.and (CP.pure _)
 | false=>exact CP.pure _
theorem CP.intBin (op:BinOp) (k:IntKind) (a c:Int):CP (intBinK op k a c):=by
 cases op<;>first | exact CP.none | exact CP.pure _ | exact CP.arith _ _ | exact CP.and (CP.pure _) | exact CP.and (CP.and (CP.pure _))
theorem CP.strBin (op:BinOp) (a c:Str):CP (strBinK op a c):=by
 cases op<;>first | exact CP.none | exact CP.pure _ | exact CP.and (CP.pure _)
theorem CP.bin (op:BinOp) (a c:AV):CP (binK op a c):=by
 cases a with
 | i k n =>
  cases c with
  | i k' m=>cases op<;>first | exact CP.and (CP.pure _) | exact CP.bif (CP.intBin _ _ _ _) CP.none
  | _=>exact CP.none
 | s a=>cases c<;>first | exact CP.strBin _ _ _ | exact CP.none
 | _=>exact CP.none
theorem CP.boolBin (op:BinOp) (a c:Bool):CP (boolBinK op a c):=by cases op<;>first | exact CP.none | exact CP.pure _
theorem CP.nth' {α:Type} (l:List α):∀ n,CP (nthK l n):=by
 induction l with
 | nil=>intro n; exact CP.none
 | cons a r ih=>intro n; cases n with
  | zero=>exact CP.pure _
  | succ n=>exact ih n
theorem CP.cellEq (k:EK) (a c:AV):CP (cellEqK k a c):=by
 cases k<;>cases a<;>cases c<;>first | exact CP.none | exact CP.pure _ | exact CP.chk (CP.pure _)
theorem CP.aggEq (ks:List EK):∀ (fl:List (Nat × Nat)) (cs ds:List AV),CP (aggEqK ks fl cs ds):=by
 induction ks with
 | nil=>intro fl cs ds; cases fl<;>first | exact CP.pure _ | exact CP.none
 | cons k ks ih=>intro fl cs ds; cases fl with
  | nil=>exact CP.none
  | cons p fl=>exact CP.bind (CP.nth' _ _) fun _=>CP.bind (CP.nth' _ _) fun _=>CP.bind (CP.cellEq _ _ _) fun _=>CP.bind (ih _ _ _) fun _=>CP.pure _
theorem CP.aggBin (op:BinOp) (b:Bool):CP (aggBinK op b):=by cases op<;>first | exact CP.pure _ | exact CP.none
theorem CP.structFK (d:TD):CP (structFK d):=by cases d<;>first | exact CP.pure _ | exact CP.none
theorem CP.binT (Γ:Ctx) (op:BinOp) (t:TypeId) (a c:AV):CP (binTK Γ op t a c):=by
 have h:(∀ x,a≠.b x)→(∀ x,a≠.agg x)→binTK Γ op t a c = binK op a c:=by intro h h'; cases a<;>first | rfl | exact absurd rfl (h _) | exact absurd rfl (h' _)
 cases a with
 | b x =>
  cases c with
  | b y=>exact CP.bind (CP.ti Γ t) fun ti=>CP.chk (b:=isBoolT ti.desc) (CP.boolBin op x y)
  | _=>exact CP.none
 | agg cs =>
  cases c with
  | agg ds=>exact CP.bind (CP.ti Γ t) fun ti=>CP.bind (CP.structFK ti.desc) fun fl=>CP.chk (b:=!ti.eqs.isEmpty) (CP.bind (CP.aggEq ti.eqs fl cs ds) fun b=>CP.aggBin op b)
  | _=>exact CP.none
 | _=>rw [h (by intro x e; cases e) (by intro x e; cases e)]; exact CP.bin op _ _
theorem CP.or {f g:(α→Prop)→Prop} (hf:CP f) (hg:CP g):CP (fun K=>f K∨g K):=by
 obtain ⟨A,hA⟩:=hf
 obtain ⟨B,hB⟩:=hg
 refine ⟨fun v=>A v∨B v,fun K=>?_⟩
 show (f K∨g K)↔∃ v,(A v∨B v)∧K v
 rw [hA K,hB K]
 constructor
 ·rintro (⟨v,h1,h2⟩ | ⟨v,h1,h2⟩)
  ·exact ⟨v,.inl h1,h2⟩
  ·exact ⟨v,.inr h1,h2⟩
 ·rintro ⟨v,h1 | h1,h2⟩
  ·exact .inl ⟨v,h1,h2⟩
  ·exact .inr ⟨v,h1,h2⟩
theorem CP.neg (k:IntKind) (n:Int):CP (negK k n):=by
 unfold negK
 split
 ·exact CP.or (CP.arith _ _) (CP.pure _)
 ·exact CP.arith _ _
theorem CP.un (op:UnOp) (a:AV):CP (unK op a):=by
 cases a with
 | b x=>cases op<;>first | exact CP.pure _ | exact CP.none
 | i k n=>cases op<;>first | exact CP.pure _ | exact CP.none | exact CP.neg _ _
 | _=>exact CP.none
theorem CP.pick (c a b:AV):CP (pickK c a b):=by
 cases c with
 | b x =>
  cases a<;>cases b<;>first | exact CP.pure _ | exact CP.bif (CP.pure _) (CP.pure _)
 | _=>exact CP.none
theorem CP.conv (d:TD) (a:AV):CP (convK d a):=by
 cases d with
 | int k=>cases a<;>first | exact CP.pure _ | exact CP.none
 | str=>cases a<;>first | exact CP.pure _ | exact CP.none
 | _=>exact CP.none
theorem CP.forceL (l:List AV):CP (forceL l):=CP.of_eq (forceL_eq l)
theorem CP.faddr (off:Nat) (a:AV):CP (faddrK off a):=by
 cases a<;>first | exact CP.pure _ | exact CP.none | exact CP.bind (CP.forceL _) fun _=>CP.pure _
theorem CP.plain (l:List AV):CP (plainCK l):=CP.of_eq (plainCK_eq l)
theorem CP.pack (b:Bool) (l:List AV):CP (packK b l):=by
 cases b with
 | true =>
  have e:packK true l = fun K=>match anyVec l with
   | true=>chkK (noFn0 l) (K (.ag 0 l))
   | false=>plainCK l fun l=>K (.agg l):=rfl
  rw [e]
  cases anyVec l with
  | true=>exact CP.chk (CP.pure _)
  | false=>exact CP.bind (CP.plain l) fun _=>CP.pure _
 | false =>
  match l with
  | []=>exact CP.none
  | [v]=>exact CP.pure v
  | _::_::_=>exact CP.none
theorem CP.one (l : List AV) : CP (fun K : AV → Prop => match l with
  | [v]=>K v
  | _=>False):=by
 match l with
 | []=>exact CP.none
 | [v]=>exact CP.pure v
 | _::_::_=>exact CP.none
theorem CP.field (off sz:Nat) (a:AV):CP (fieldK off sz a):=by
 cases a with
 | agg cs=>exact CP.bind CP.take CP.one
 | _=>exact CP.none
theorem CP.extract (i:Nat) (a:AV):CP (extractK i a):=by
 cases a with
 | ag k cs =>
  cases k with
  | zero=>exact CP.none
  | succ k =>
   cases i with
   | zero=>exact CP.bind (CP.take (l:=cs) (n:=k + 1)) (fun l=>CP.pure (AV.ag 0 l))
   | succ i=>exact CP.nth
 | tup cs=>exact CP.nth
 | _=>exact CP.none
theorem CP.iaddr (n:Int) (c:Nat) (a:AV):CP (iaddrK n c a):=by
 cases a with
 | ob i i2 o=>cases o<;>first | exact CP.none | exact CP.chk (CP.and (CP.pure _))
 | _=>first | exact CP.none | exact CP.chk (CP.and (CP.bind (CP.forceL _) fun _=>CP.pure _)) | exact CP.chk (CP.and (CP.pure _))
theorem CP.arrAddr (n:Int) (l c:Nat) (a:AV):CP (arrAddrK n l c a):=by cases a<;>first | exact CP.none | exact CP.and (CP.pure _) | exact CP.chk (CP.chk (CP.chk (CP.and (CP.pure _))))
theorem CP.arrIdx (n:Int) (l c:Nat) (b:Bool) (a:AV):CP (arrIdxK n l c b a):=by cases a<;>first | exact CP.none | exact CP.chk (CP.chk (CP.and CP.nth))
theorem CP.strIndex (n:Int) (a:AV):CP (strIndexK n a):=by cases a<;>first | exact CP.none | exact CP.and (CP.pure _)
theorem CP.nilChk (a:AV):CP (nilChkK a):=by cases a<;>first | exact CP.none | exact CP.pure _
theorem CP.fnK (f:Fn) (n m:Nat):CP (fnK f n m):=by cases f<;>cases n<;>cases m<;>first | exact CP.none | exact CP.pure _
theorem CP.min (l:List AV):CP (minK l):=by
 match l with
 | []=>exact CP.none
 | [v]=>cases v<;>exact CP.none
 | [a,b]=>cases a<;>cases b<;>first | exact CP.none | exact CP.chk (CP.pure _)
 | [a,b,c]=>cases a<;>cases b<;>cases c<;>first | exact CP.none | exact CP.chk (CP.chk (CP.pure _))
 | a::b::c::_::_=>cases a<;>cases b<;>cases c<;>exact CP.none
theorem CP.max (l:List AV):CP (maxK l):=by
 match l with
 | []=>exact CP.none
 | [v]=>cases v<;>exact CP.none
 | [a,b]=>cases a<;>cases b<;>first | exact CP.none | exact CP.chk (CP.pure _)
 | a::b::_::_=>cases a<;>cases b<;>exact CP.none
theorem CP.bound (s:St) (x:Option Operand) (d:Int):CP (boundK s x d):=by
 cases x with
 | none=>exact CP.pure _
 | some x=>exact CP.bind (CP.evK s x) fun _=>CP.intK _
theorem CP.strSlice (s:St) (lo hi:Option Operand) (a:AV):CP (strSliceK s lo hi a):=by
 cases a<;>first | exact CP.none | exact CP.bind (CP.bound _ _ _) fun _=>CP.bind (CP.bound _ _ _) fun _=>CP.and (CP.pure _)
theorem CP.rdSlice (s:St) (c:Nat) (lo hi:Option Operand) (a:AV):CP (rdSliceK s c lo hi a):=by
 cases a with
 | rd τ l=>exact CP.chk (CP.bind (CP.bound _ _ _) fun _=>CP.bind (CP.bound _ _ _) fun _=>CP.and (CP.pure _))
 | vec id τ l =>
  cases hi with
  | none=>exact CP.chk (CP.bind (CP.bound _ _ _) fun _=>CP.and (CP.pure _))
  | some _=>exact CP.chk (CP.bind (CP.bound _ _ _) fun _=>CP.bind (CP.bound _ _ _) fun _=>CP.and (CP.pure _))
 | vs id τ l k =>
  cases hi with
  | none=>exact CP.chk (CP.bind (CP.bound _ _ _) fun _=>CP.and (CP.pure _))
  | some _=>exact CP.chk CP.none
 | _=>exact CP.none
theorem CP.vecsOf (l:List AV):CP (vecsOfK l):=CP.of_eq (vecsOfK_eq l)
theorem CP.opVecs (s:St) (l:List (Nat × Operand)):CP (opVecsK s l):=CP.of_eq (opVecsK_eq s l)
theorem CP.ofVals (l:List Value):CP (ofValsK l):=CP.of_eq (ofValsK_eq l)
theorem CP.parts (s:St) (l:List (Nat × Operand)):CP (partsK s l):=CP.of_eq (partsK_eq s l)
theorem CP.cells (a:AV):CP (cellsK a):=by
 cases a with
 | ag k cs=>cases k<;>first | exact CP.none | exact CP.pure _
 | _=>first | exact CP.none | exact CP.pure _
theorem CP.splice (l:List α):∀ (o:Nat) (v:List α),CP (spliceK l o v):=by
 induction l with
 | nil=>intro o v; cases o<;>cases v<;>first | exact CP.none | exact CP.pure _
 | cons a r ih =>
  intro o v
  cases o with
  | zero =>
   cases v with
   | nil=>exact CP.pure _
   | cons b vs=>exact CP.bind (ih 0 vs) fun _=>CP.pure _
  | succ o=>exact CP.bind (ih o v) fun _=>CP.pure _
theorem CP.fill {pl:Nat→(Nat × Nat→Prop)→Prop} (h:∀ i,CP (pl i)) (l:List (Nat × AV)):∀ cells,CP (fillK pl cells l):=by
 induction l with
 | nil=>intro cells; exact CP.pure _
 | cons p r ih =>
  obtain ⟨i,v⟩:=p
  intro cells
  exact CP.bind (h i) fun d=>CP.bind (CP.cells v) fun cs=>CP.chk (CP.bind (CP.splice _ _ _) fun c=>ih c)

/-! ### the calm operations -/
def nilK (l:List Nat) (K:Prop):Prop:=match l with
 | []=>K
 | _::_=>False
theorem nilK_iff (l:List Nat) (K:Prop):nilK l K↔l = []∧K:=by cases l<;>simp [nilK]
theorem CP.nil {l:List Nat} {f F:(α→Prop)→Prop} (h:CP f) (e:F = fun K=>nilK l (f K):=by exact rfl):CP F:=by
 subst e
 cases l
 ·exact h
 ·exact CP.none
def loadCK (Γ:Ctx) (s:St) (t:TypeId):AV→(AV→Prop)→Prop
 | .pt n o,K=>lookBK s.boxes n fun cs=>tiK Γ t fun ti=>takeK ti.cells (cs.drop o) fun l=>match isStruct ti.desc with
  | true=>vecsOfK l fun ids=>nilK ids (packK true l K)
  | false=>packK false l K
 | .rp cs,K=>tiK Γ t fun ti=>takeK ti.cells cs fun l=>packK (isStruct ti.desc) l K
 | .vp _ τ l n o,K=>tiK Γ t fun ti=>takeK ti.cells ((enc τ (l.getD n (dflt τ))).drop o) fun l=>packK (isStruct ti.desc) l K
 | .ob _ i2 (.gp L i row n),K=>tiK Γ t fun ti=>chkK (!isStruct ti.desc) (chkK (Nat.beq ti.cells 1) ((n = i∧K (.vec i2 .int row))∨(n≠i∧K (.rd .int (L.getD n [])))))
 | _,_=>False
def selK (l:List Nat) (A B:Prop):Prop:=match l with
 | []=>A
 | _::_=>B
theorem CP.sel {l:List Nat} {f g:(α→Prop)→Prop} (h:CP f) (k:CP g):CP (fun K=>selK l (f K) (g K)):=by
 cases l
 ·exact h
 ·exact k
theorem imAll_rd {b:List (Nat × List AV)} {vs:List AV} (h:imAll vs = true):imAll (rdAll b vs) = true:=by
 induction vs with
 | nil=>rfl
 | cons v r ih =>
  simp only [imAll] at h
  cases hx:imB v with
  | false=>rw [hx] at h; cases h
  | true =>
   rw [hx] at h
   have:imB (rdOf b v) = true:=by cases v<;>first | rfl | (cases hx; done)
   simp only [rdAll,imAll,this,cond_true]
   exact ih h
def callGK (P:Program) (vs:List AV):AV→(AV→Prop)→Prop
 | .fn g caps,K=>chkK (imAll vs) (chkK (fnArgs vs) (chkK (imAll caps) (∃ r,PSpec P g (callArgs vs caps) r∧K r)))
 | _,_=>False
def rdNeed (vs:List AV):List Nat:=bif fnArgs vs then vecsOf vs else [0]
def callCK (P:Program) (s:St) (f:Operand) (args:List Operand) (K:AV→Prop):Prop :=
 evsK s args fun vs=>selK (rdNeed vs) (evK s f fun fv=>callGK P vs fv K) (evK s f fun fv=>readGK P s.boxes vs fv K)
def buildCK (Γ:Ctx) (s:St) (t:TypeId) (ps:List (Nat × Operand)) (K:AV→Prop):Prop :=
 opVecsK s ps fun ids=>nilK ids (tiK Γ t fun ti=>structK ti.desc fun fl=>ofValsK ti.zero fun z=>partsK s ps fun l=>fillK (nthK fl) z l fun cs=>plainCK cs fun cs=>K (.agg cs))
def bsliceCK (Γ:Ctx) (s:St) (t:TypeId) (len:Nat) (ps:List (Nat × Operand)) (K:AV→Prop):Prop :=
 opVecsK s ps fun ids=>nilK ids (tiK Γ t fun ti=>sliceTK ti.desc fun e=>tiK Γ e fun te=>tyK te.ty fun τ =>
  chkK (Nat.beq te.cells (esz τ)) (chkK (Nat.ble (len * te.cells) 16777216) (partsK s ps fun l=>fillK (fun i K=>K (i * te.cells,te.cells)) (xs (len * te.cells)) l fun cs=>plainCK cs fun cs =>
   optK (decs τ len cs) fun l=>K (.rd τ l))))
def lenCK:TD→List AV→(AV→Prop)→Prop
 | .slice _,[.nl],K=>K (.i .i64 0)
 | .slice _,[.rd _ l],K=>K (.i .i64 (l.length:Int))
 | .slice _,[.vec _ _ l],K=>K (.i .i64 (l.length:Int))
 | .slice _,[.vs _ _ l k],K=>K (.i .i64 ((l.length - k:Nat):Int))
 | .str,[.s l],K=>K (.i .i64 (l.length:Int))
 | _,_,_=>False
theorem CP.len (d:TD) (l:List AV):CP (lenCK d l):=by
 cases d with
 | slice e =>
  cases l with
  | nil=>exact CP.none
  | cons v r =>
   cases r with
   | nil=>cases v<;>first | exact CP.none | exact CP.pure _
   | cons _ _=>cases v<;>exact CP.none
 | str =>
  cases l with
  | nil=>exact CP.none
  | cons v r =>
   cases r with
   | nil=>cases v<;>first | exact CP.none | exact CP.pure _
   | cons _ _=>cases v<;>exact CP.none
 | _=>exact CP.none
theorem len_of {d:TD} {l:List AV} {K:AV→Prop} (h:lenCK d l K):lenVK d l K:=by
 cases d with
 | slice e =>
  cases l with
  | nil=>exact h.elim
  | cons v r =>
   cases r with
   | nil=>cases v<;>first | exact h.elim | exact h | exact fun _=>h | exact fun _ _=>h
   | cons _ _=>cases v<;>exact h.elim
 | str =>
  cases l with
  | nil=>exact h.elim
  | cons v r =>
   cases r with
   | nil=>cases v<;>first | exact h.elim | exact fun _=>h
   | cons _ _=>cases v<;>exact h.elim
 | _=>exact h.elim
def calleeCK (P:Program) (Γ:Ctx) (s:St) (args:List Operand) (ts:List TypeId) (K:AV→Prop):Callee→Prop
 | .value f=>callCK P s f args K
 | .builtin .len=>evsK s args fun l=>nthK ts 0 fun t=>tiK Γ t fun ti=>lenCK ti.desc l K
 | .builtin .min=>evsK s args fun l=>minK l K
 | .builtin .max=>evsK s args fun l=>maxK l K
 | _=>False
theorem CP.idxAddr (Γ:Ctx) (n:Int) (a:AV) (d:TD):CP (fun K=>idxAddrK Γ n a K d):=by
 cases d<;>first | exact CP.none | exact CP.bind (CP.ti _ _) fun _=>CP.iaddr _ _ _ | exact CP.bind (CP.ti _ _) fun _=>CP.arrAddr _ _ _ _
theorem CP.idxVal (Γ:Ctx) (n:Int) (a:AV) (d:TD):CP (fun K=>idxValK Γ n a K d):=by
 cases d<;>first | exact CP.none | exact CP.strIndex _ _ | exact CP.bind (CP.ti _ _) fun _=>CP.arrIdx _ _ _ _ _
def convCK (Γ:Ctx):TD→TD→AV→(AV→Prop)→Prop
 | .slice e,.str,.rd .u8 l,K=>tiK Γ e fun te=>chkK (isU8T te.desc) (K (.s (l.map ofB)))
 | _,d,a,K=>convK d a K
theorem CP.convC (Γ:Ctx) (sd d:TD) (a:AV):CP (convCK Γ sd d a):=by
 by_cases h:∃ e l,sd = .slice e∧d = .str∧a = .rd .u8 l
 ·obtain ⟨e,l,rfl,rfl,rfl⟩:=h
  exact CP.bind (CP.ti Γ e) fun te=>CP.chk (CP.pure _)
 ·have e : convCK Γ sd d a = convK d a := by
   funext K
   unfold convCK
   split
   ·exact absurd ⟨_,_,rfl,rfl,rfl⟩ h
   ·rfl
  rw [e]; exact CP.conv d a
theorem convC_of {Γ:Ctx} {sd d:TD} {a:AV} {K:AV→Prop} (h:convCK Γ sd d a K):convAK Γ sd d a K:=by
 unfold convCK at h
 split at h
 ·exact h
 ·exact convA_of h
def calmK (P:Program) (Γ:Ctx) (s:St) (op:Op) (K:AV→Prop):Prop :=
 match op with
 | .load t x=>evK s x fun p=>loadCK Γ s t p K
 | .build t ps=>buildCK Γ s t ps.toList K
 | .buildSlice t len ps=>bsliceCK Γ s t len ps.toList K
 | .call c=>calleeCK P Γ s c.args.toList c.argTypes.toList K c.callee
 | .move x=>evK s x K
 | .assign x=>evK s x K
 | .pick c a b=>evK s c fun c=>evK s a fun a=>evK s b fun b=>pickK c a b K
 | .binOp op t x y _=>evK s x fun a=>evK s y fun b=>binTK Γ op t a b K
 | .unOp op _ x=>evK s x fun a=>unK op a K
 | .convert src dst x=>evK s x fun a=>tiK Γ src fun ts=>tiK Γ dst fun ti=>convCK Γ ts.desc ti.desc a K
 | .fieldAddr t x f=>evK s x fun p=>tiK Γ t fun ti=>structK ti.desc fun fl=>nthK fl f fun d=>match d with | (off,_)=>faddrK off p K
 | .field t x f=>evK s x fun p=>tiK Γ t fun ti=>structK ti.desc fun fl=>nthK fl f fun d=>match d with | (off,sz)=>fieldK off sz p K
 | .extract x i=>evK s x fun p=>extractK i p K
 | .indexAddr t x i=>evK s x fun a=>evK s i fun n=>intK n fun n=>tiK Γ t fun ti=>idxAddrK Γ n a K ti.desc
 | .index t x i=>evK s x fun a=>evK s i fun n=>intK n fun n=>tiK Γ t fun ti=>idxValK Γ n a K ti.desc
 | .nilCheck x=>evK s x fun p=>nilChkK p K
 | .slice t x lo hi mx=>match mx with
  | none=>evK s x fun a=>tiK Γ t fun ti=>match isStrT ti.desc with
   | true=>strSliceK s lo hi a K
   | false=>sliceTK ti.desc fun e=>tiK Γ e fun te=>rdSliceK s te.cells lo hi a K
  | some _=>False
 | _=>False
theorem CP.lookB (l:List (Nat × List AV)) (n:Nat):CP (lookBK l n):=⟨fun cs=>SX.lookB l n = some cs,fun K=>lookBK_iff l n K⟩
theorem CP.load (Γ:Ctx) (s:St) (t:TypeId) (a:AV):CP (loadCK Γ s t a):=by
 cases a<;>first | exact CP.none | skip
 ·exact CP.bind (CP.ti _ _) fun _=>CP.bind CP.take fun _=>CP.pack _ _
 ·refine CP.bind (CP.lookB _ _) fun cs=>CP.bind (CP.ti _ _) fun ti=>CP.bind CP.take fun l=>?_
  cases isStruct ti.desc with
  | true=>exact CP.bind (CP.vecsOf l) fun ids=>CP.nil (CP.pack _ _)
  | false=>exact CP.pack _ _
 ·exact CP.bind (CP.ti _ _) fun _=>CP.bind CP.take fun _=>CP.pack _ _
 ·rename_i o; cases o<;>first | exact CP.none | exact CP.bind (CP.ti _ _) fun _=>CP.chk (CP.chk (CP.or (CP.and (CP.pure _)) (CP.and (CP.pure _))))
theorem CP.callG (P:Program) (vs:List AV) (f:AV):CP (callGK P vs f):=by
 cases f<;>first | exact CP.none | exact CP.chk (CP.chk (CP.chk ⟨fun r=>PSpec P _ _ r,fun K=>Iff.rfl⟩))
theorem readG_iff {P:Program} {g:FuncId} {asg:List AV} {K:AV→Prop}:(∃ r,PSpec P g asg r∧chkK (grB r) (K r))↔∃ r,(PSpec P g asg r∧grB r = true)∧K r:=by
 constructor
 ·rintro ⟨r,h1,h2⟩
  obtain ⟨h3,h4⟩:=(chkK_iff _ _).1 h2
  exact ⟨r,⟨h1,h3⟩,h4⟩
 ·rintro ⟨r,⟨h1,h3⟩,h4⟩
  exact ⟨r,h1,(chkK_iff _ _).2 ⟨h3,h4⟩⟩
theorem CP.readG0 (P:Program) (g:FuncId) (asg:List AV):CP fun K=>∃ r,PSpec P g asg r∧chkK (grB r) (K r):=⟨fun r=>PSpec P g asg r∧grB r = true,fun _=>readG_iff⟩
theorem CP.readG (P:Program) (b:List (Nat × List AV)) (vs:List AV) (f:AV):CP (readGK P b vs f):=by
 cases f with
 | fn g caps=>exact CP.chk (CP.chk (CP.chk (CP.readG0 P g (callArgs (rdAll b vs) (rdBL b caps)))))
 | _=>exact CP.none
theorem CP.call (P:Program) (s:St) (f:Operand) (args:List Operand):CP (callCK P s f args) :=
 CP.bind (CP.evsK s args) fun vs=>CP.sel (CP.bind (CP.evK s f) fun fv=>CP.callG P vs fv) (CP.bind (CP.evK s f) fun fv=>CP.readG P s.boxes vs fv)
theorem CP.build (Γ:Ctx) (s:St) (t:TypeId) (ps:List (Nat × Operand)):CP (buildCK Γ s t ps) :=
 CP.bind (CP.opVecs s ps) fun ids => CP.nil (CP.bind (CP.ti Γ t) fun ti => CP.bind (CP.structK ti.desc) fun fl => CP.bind (CP.ofVals ti.zero) fun z => CP.bind (CP.parts s ps) fun l =>
   CP.bind (CP.fill (pl:=nthK fl) (fun _=>CP.nth) l z) fun cs=>CP.bind (CP.plain cs) fun cs=>CP.pure (AV.agg cs))
theorem CP.opt {o:Option α}:CP (optK o):=⟨fun v=>o = some v,fun K=>optK_iff o K⟩
theorem CP.ty {o:Option Ty}:CP (tyK o):=⟨fun v=>o = some v,fun K=>tyK_iff o K⟩
theorem CP.bslice (Γ:Ctx) (s:St) (t:TypeId) (len:Nat) (ps:List (Nat × Operand)):CP (bsliceCK Γ s t len ps) :=
 CP.bind (CP.opVecs s ps) fun ids=>CP.nil (CP.bind (CP.ti Γ t) fun ti=>CP.bind (CP.sliceTK ti.desc) fun e=>CP.bind (CP.ti Γ e) fun te=>CP.bind (CP.ty (o:=te.ty)) fun τ =>
  CP.chk (b:=Nat.beq te.cells (esz τ)) (CP.chk (b:=Nat.ble (len * te.cells) 16777216) (CP.bind (CP.parts s ps) fun l=>CP.bind (CP.fill (pl:=fun i K=>K (i * te.cells,te.cells)) (fun _=>CP.pure _) l (xs (len * te.cells))) fun cs =>
   CP.bind (CP.plain cs) fun cs=>CP.bind (CP.opt (o:=decs τ len cs)) fun l=>CP.pure (AV.rd τ l))))
theorem CP.callee (P:Program) (Γ:Ctx) (s:St) (args:List Operand) (ts:List TypeId) (c:Callee):CP (fun K=>calleeCK P Γ s args ts K c):=by
 cases c with
 | value f=>exact CP.call P s f args
 | builtin b=>cases b<;>first | exact CP.none | exact CP.bind (CP.evsK s args) fun _=>CP.min _ | exact CP.bind (CP.evsK s args) fun _=>CP.max _ | exact CP.bind (CP.evsK s args) fun _=>CP.bind CP.nth fun t=>CP.bind (CP.ti Γ t) fun _=>CP.len _ _
 | invoke r m=>exact CP.none
theorem calm_cp (P:Program) (Γ:Ctx) (s:St) (op:Op):CP (calmK P Γ s op):=by
 cases op with
 | load t x=>exact CP.bind (CP.evK _ _) fun _=>CP.load _ _ _ _
 | build t ps=>exact CP.build _ _ _ _
 | buildSlice t len ps=>exact CP.bslice _ _ _ _ _
 | call c=>exact CP.callee _ _ _ _ _ _
 | move x=>exact CP.evK _ _
 | assign x=>exact CP.evK _ _
 | pick c a b=>exact CP.bind (CP.evK _ _) fun _=>CP.bind (CP.evK _ _) fun _=>CP.bind (CP.evK _ _) fun _=>CP.pick _ _ _
 | binOp op t x y ty=>exact CP.bind (CP.evK _ _) fun _=>CP.bind (CP.evK _ _) fun _=>CP.binT _ _ _ _ _
 | unOp op t x=>exact CP.bind (CP.evK _ _) fun _=>CP.un _ _
 | convert a b x=>exact CP.bind (CP.evK _ _) fun _=>CP.bind (CP.ti _ _) fun _=>CP.bind (CP.ti _ _) fun _=>CP.convC _ _ _ _
 | fieldAddr t x f=>exact CP.bind (CP.evK _ _) fun _=>CP.bind (CP.ti _ _) fun _=>CP.bind (CP.structK _) fun _=>CP.bind CP.nth fun d=>CP.faddr _ _
 | field t x f=>exact CP.bind (CP.evK _ _) fun _=>CP.bind (CP.ti _ _) fun _=>CP.bind (CP.structK _) fun _=>CP.bind CP.nth fun d=>CP.field _ _ _
 | extract x i=>exact CP.bind (CP.evK _ _) fun _=>CP.extract _ _
 | indexAddr t x i=>exact CP.bind (CP.evK _ _) fun _=>CP.bind (CP.evK _ _) fun _=>CP.bind (CP.intK _) fun _=>CP.bind (CP.ti _ _) fun _=>CP.idxAddr _ _ _ _
 | index t x i=>exact CP.bind (CP.evK _ _) fun _=>CP.bind (CP.evK _ _) fun _=>CP.bind (CP.intK _) fun _=>CP.bind (CP.ti _ _) fun _=>CP.idxVal _ _ _ _
 | nilCheck x=>exact CP.bind (CP.evK _ _) fun _=>CP.nilChk _
 | slice t x lo hi mx =>
  cases mx with
  | some _=>exact CP.none
  | none =>
   refine CP.bind (CP.evK _ _) fun _=>CP.bind (CP.ti _ _) fun ti=>?_
   cases isStrT ti.desc with
   | true=>exact CP.strSlice _ _ _ _
   | false=>exact CP.bind (CP.sliceTK _) fun _=>CP.bind (CP.ti _ _) fun _=>CP.rdSlice _ _ _ _ _
 | _=>exact CP.none

/-! ### by its operands alone -/
theorem evs_congr {s s':St} {l:List Operand} (h:∀ x ∈ l,ev s x = ev s' x):evs s l = evs s' l:=by
 induction l with
 | nil=>rfl
 | cons x r ih=>simp only [evs]; rw [h x (List.mem_cons_self ..),ih fun y hy=>h y (List.mem_cons_of_mem _ hy)]
theorem parts_congr {s s':St} {l:List (Nat × Operand)} (h:∀ x ∈ l,ev s x.2 = ev s' x.2):parts s l = parts s' l:=by
 induction l with
 | nil=>rfl
 | cons p r ih=>obtain ⟨i,x⟩:=p; simp only [parts]; rw [h (i,x) (List.mem_cons_self ..),ih fun y hy=>h y (List.mem_cons_of_mem _ hy)]
theorem opVecs_congr {s s':St} {l:List (Nat × Operand)} (h:∀ x ∈ l,ev s x.2 = ev s' x.2):opVecs s l = opVecs s' l:=by
 induction l with
 | nil=>rfl
 | cons p r ih=>obtain ⟨i,x⟩:=p; simp only [opVecs]; rw [h (i,x) (List.mem_cons_self ..),ih fun y hy=>h y (List.mem_cons_of_mem _ hy)]
theorem load_congr {Γ:Ctx} {s s':St} (hb:∀ n,SX.lookB s.boxes n = SX.lookB s'.boxes n) (t:TypeId) (a:AV) (K:AV→Prop):loadCK Γ s t a K = loadCK Γ s' t a K:=by
 have h:∀ n K,lookBK s.boxes n K = lookBK s'.boxes n K:=fun n K=>by rw [propext (lookBK_iff s.boxes n K),propext (lookBK_iff s'.boxes n K),hb]
 cases a<;>first | rfl | (simp only [loadCK,h]; done) | (rename_i o; cases o<;>rfl)
theorem bound_congr {s s':St} {x:Option Operand} {d:Int} (h:∀ y ∈ x.toList,ev s y = ev s' y) (K:Int→Prop):boundK s x d K = boundK s' x d K:=by
 cases x with
 | none=>rfl
 | some y=>simp only [boundK,evK_eq]; rw [h y (by simp)]
theorem rdB_congr {b b':List (Nat × List AV)} (hb:∀ n,SX.lookB b n = SX.lookB b' n) (v:AV):rdB b v = rdB b' v:=by
 cases v with
 | pt n o =>
  cases o with
  | zero=>simp only [rdB,hb n]
  | succ o=>rfl
 | _=>rfl
theorem rdBL_congr {b b':List (Nat × List AV)} (hb:∀ n,SX.lookB b n = SX.lookB b' n) (l:List AV):rdBL b l = rdBL b' l:=by
 rw [rdBL_eq,rdBL_eq]
 exact List.map_congr_left fun v _=>rdB_congr hb v
theorem rdAll_congr {b b':List (Nat × List AV)} (hb:∀ n,SX.lookB b n = SX.lookB b' n) (l:List AV):rdAll b l = rdAll b' l:=by
 rw [rdAll_eq,rdAll_eq]
 refine List.map_congr_left fun v _=>?_
 have h:=rdB_congr hb v
 cases v with
 | fn g caps=>simp only [rdOf,rdBL_congr hb]
 | _=>exact h
theorem readG_congr {P:Program} {b b':List (Nat × List AV)} (hb:∀ n,SX.lookB b n = SX.lookB b' n) (l:List AV) (f:AV) (K:AV→Prop):readGK P b l f K = readGK P b' l f K:=by
 cases f with
 | fn g caps=>simp only [readGK,rdAll_congr hb,rdBL_congr hb]
 | _=>rfl
theorem calm_congr {P:Program} {Γ:Ctx} {s s':St} (hb:∀ n,SX.lookB s.boxes n = SX.lookB s'.boxes n) {op:Op} (h:∀ x ∈ op.operands.toList,ev s x = ev s' x) (K:AV→Prop):calmK P Γ s op K = calmK P Γ s' op K:=by
 cases op with
 | load t x=>simp only [calmK,evK_eq]; rw [h x (by simp [Op.operands]),load_congr hb]
 | build t ps =>
  have h':∀ x ∈ ps.toList,ev s x.2 = ev s' x.2:=fun x hx=>h x.2 (by simp only [Op.operands,List.mem_map]; exact ⟨x,hx,rfl⟩)
  simp only [calmK,buildCK,opVecsK_eq,partsK_eq]
  rw [parts_congr h',opVecs_congr h']
 | buildSlice t len ps =>
  have h':∀ x ∈ ps.toList,ev s x.2 = ev s' x.2:=fun x hx=>h x.2 (by simp only [Op.operands,List.mem_map]; exact ⟨x,hx,rfl⟩)
  simp only [calmK,bsliceCK,opVecsK_eq,partsK_eq]
  rw [parts_congr h',opVecs_congr h']
 | call c =>
  obtain ⟨callee,args,ts⟩:=c
  have h1:∀ x ∈ args.toList,ev s x = ev s' x:=fun x hx=>h x (by cases callee<;>simp [Op.operands,Call.operands]<;>simp_all)
  cases callee with
  | value f =>
   have h2:ev s f = ev s' f:=h f (by simp [Op.operands,Call.operands])
   simp only [calmK,calleeCK,callCK,evsK_eq,evK_eq,readG_congr hb]
   rw [evs_congr h1,h2]
  | builtin b=>cases b<;>first | rfl | (simp only [calmK,calleeCK,evsK_eq]; rw [evs_congr h1])
  | invoke r m=>rfl
 | move x=>simp only [calmK,evK_eq]; rw [h x (by simp [Op.operands])]
 | assign x=>simp only [calmK,evK_eq]; rw [h x (by simp [Op.operands])]
 | pick c a b=>simp only [calmK,evK_eq]; rw [h c (by simp [Op.operands]),h a (by simp [Op.operands]),h b (by simp [Op.operands])]
 | binOp op t x y ty=>simp only [calmK,evK_eq]; rw [h x (by simp [Op.operands]),h y (by simp [Op.operands])]
 | unOp op t x=>simp only [calmK,evK_eq]; rw [h x (by simp [Op.operands])]
 | convert a b x=>simp only [calmK,evK_eq]; rw [h x (by simp [Op.operands])]
 | fieldAddr t x f=>simp only [calmK,evK_eq]; rw [h x (by simp [Op.operands])]
 | field t x f=>simp only [calmK,evK_eq]; rw [h x (by simp [Op.operands])]
 | extract x i=>simp only [calmK,evK_eq]; rw [h x (by simp [Op.operands])]
 | indexAddr t x i=>simp only [calmK,evK_eq]; rw [h x (by simp [Op.operands]),h i (by simp [Op.operands])]
 | index t x i=>simp only [calmK,evK_eq]; rw [h x (by simp [Op.operands]),h i (by simp [Op.operands])]
 | nilCheck x=>simp only [calmK,evK_eq]; rw [h x (by simp [Op.operands])]
 | slice t x lo hi mx =>
  cases mx with
  | some _=>rfl
  | none =>
   have h1:∀ d K,boundK s lo d K = boundK s' lo d K:=fun d K=>bound_congr (fun y hy=>h y (by simp [Op.operands]; simp at hy; simp [hy])) K
   have h2:∀ d K,boundK s hi d K = boundK s' hi d K:=fun d K=>bound_congr (fun y hy=>h y (by simp [Op.operands]; simp at hy; simp [hy])) K
   simp only [calmK,evK_eq]
   rw [h x (by simp [Op.operands])]
   have e1:∀ a K,strSliceK s lo hi a K = strSliceK s' lo hi a K:=fun a K=>by cases a<;>first | rfl | (simp only [strSliceK,h1,h2])
   have e2:∀ c a K,rdSliceK s c lo hi a K = rdSliceK s' c lo hi a K:=fun c a K=>by cases a<;>first | rfl | (simp only [rdSliceK,h1,h2])
   simp only [e1,e2]
 | _=>rfl
/-! ### as the operation that it is -/
theorem calm_op {P:Program} {Γ:Ctx} {N:Nat} {s:St} {o:Oper} {K:St→Prop} (hnb:∀ t len ps,o.op≠.buildSlice t len ps) (h:calmK P Γ s o.op fun v=>stPutK N s o.dst v K):opK P Γ N o s K:=by
 unfold opK
 cases ho:o.op with
 | load t x =>
  rw [ho] at h
  have h:evK s x fun p=>loadCK Γ s t p fun v=>stPutK N s o.dst v K:=h
  show evK s x fun p=>loadFrzK Γ s t p fun s=>gevK s x fun p=>loadVK Γ s t p fun v=>stPutK N s o.dst v K
  have hge:∀ s K,gevK s x K = evK s x K:=by
   intro s' K'
   cases x with
   | global g=>exact (show False from h).elim
   | _=>rfl
  simp only [hge]
  rw [evK_eq] at h ⊢
  cases hp:ev s x with
  | pt n off =>
   rw [hp] at h
   show bif twiceB Γ t then (evK s x fun p=>loadVK Γ s t p fun v=>stPutK N s o.dst v K) else lookBK s.boxes n fun cs=>tiK Γ t fun ti=>match isStruct ti.desc with
    | true=>takeK ti.cells (cs.drop off) fun l=>vecsOfK l fun ids=>frzAllK ids s fun s=>evK s x fun p=>loadVK Γ s t p fun v=>stPutK N s o.dst v K
    | false=>evK s x fun p=>loadVK Γ s t p fun v=>stPutK N s o.dst v K
   obtain ⟨cs,h1,h⟩:=(lookBK_iff _ _ _).1 (show lookBK s.boxes n fun cs=>_ from h)
   cases htw:twiceB Γ t with
   | true =>
    rw [cond_true,evK_eq,hp]
    obtain ⟨ti,h2,h⟩:=(CP.ti Γ t).det h
    refine (lookBK_iff _ _ _).2 ⟨cs,h1,(CP.ti Γ t).put h2 ?_⟩
    obtain ⟨hl,h⟩:=(takeK_iff _ _ _).1 h
    refine (takeK_iff _ _ _).2 ⟨hl,?_⟩
    cases hs:isStruct ti.desc with
    | true =>
     rw [hs] at h
     have h:vecsOfK (List.take ti.cells (List.drop off cs)) fun ids=>nilK ids (packK true (List.take ti.cells (List.drop off cs)) fun v=>stPutK N s o.dst v K):=h
     rw [vecsOfK_eq] at h
     exact ((nilK_iff _ _).1 h).2
    | false=>rw [hs] at h; exact h
   | false =>
   rw [cond_false]
   refine (lookBK_iff _ _ _).2 ⟨cs,h1,?_⟩
   obtain ⟨ti,h2,h⟩:=(CP.ti Γ t).det h
   refine (CP.ti Γ t).put h2 ?_
   have hload:∀ K:AV→Prop,(takeK ti.cells (cs.drop off) fun l=>packK (isStruct ti.desc) l K)→loadVK Γ s t (.pt n off) K:=fun K hK =>
    (lookBK_iff _ _ _).2 ⟨cs,h1,(CP.ti Γ t).put h2 hK⟩
   obtain ⟨hl,h⟩:=(takeK_iff _ _ _).1 h
   cases hs:isStruct ti.desc with
   | true =>
    rw [hs] at h
    have h:vecsOfK (List.take ti.cells (List.drop off cs)) fun ids=>nilK ids (packK true (List.take ti.cells (List.drop off cs)) fun v=>stPutK N s o.dst v K):=h
    rw [vecsOfK_eq] at h
    obtain ⟨e,h⟩:=(nilK_iff _ _).1 h
    show takeK ti.cells (cs.drop off) fun l=>vecsOfK l fun ids=>frzAllK ids s fun s=>evK s x fun p=>loadVK Γ s t p fun v=>stPutK N s o.dst v K
    rw [takeK_iff,vecsOfK_eq,e]
    refine ⟨hl,?_⟩
    show evK s x _
    rw [evK_eq,hp]
    exact hload _ ((takeK_iff _ _ _).2 ⟨hl,by rw [hs]; exact h⟩)
   | false =>
    rw [hs] at h
    show evK s x _
    rw [evK_eq,hp]
    exact hload _ ((takeK_iff _ _ _).2 ⟨hl,by rw [hs]; exact h⟩)
  | rp cs=>rw [hp] at h; show evK s x _; rw [evK_eq,hp]; exact h
  | vp id τ l n off=>rw [hp] at h; show evK s x _; rw [evK_eq,hp]; exact h
  | ob i i2 ob =>
   rw [hp] at h
   cases ob with
   | gp L k row n=>show evK s x _; rw [evK_eq,hp]; exact h
   | _=>exact (show False from h).elim
  | _=>rw [hp] at h; exact h.elim
 | build t ps =>
  rw [ho] at h
  have h:buildCK Γ s t ps.toList fun v=>stPutK N s o.dst v K:=h
  show buildK Γ N s t ps.toList o.dst K
  unfold buildCK at h
  rw [opVecsK_eq] at h
  obtain ⟨e,h⟩:=(nilK_iff _ _).1 h
  refine buildK_of e ?_
  unfold buildFK
  rw [opVecsK_eq,e]
  exact h
 | call c =>
  rw [ho] at h
  obtain ⟨callee,args,ts⟩:=c
  cases callee with
  | value f =>
   have h:callCK P s f args.toList fun v=>stPutK N s o.dst v K:=h
   show evsK s args.toList fun vs=>sbHeadK vs (fun id id2 o' rest=>callSbK P N s f id id2 o' rest o.dst K) (callK P N s f args.toList o.dst K∨callBK P N s f args.toList o.dst K∨readK P N s f args.toList o.dst K∨callFK P N s f args.toList o.dst K∨callXK P N s f args.toList o.dst K∨callMK P N s f args.toList o.dst K)
   unfold callCK at h
   rw [evsK_eq] at h
   rw [evsK_eq]
   cases e:rdNeed (evs s args.toList) with
   | nil =>
    rw [e] at h
    have e:vecsOf (evs s args.toList) = []:=by
     unfold rdNeed at e
     cases hfa:fnArgs (evs s args.toList) with
     | true=>rw [hfa] at e; exact e
     | false=>rw [hfa] at e; cases e
    have h:evK s f fun fv=>callGK P (evs s args.toList) fv fun v=>stPutK N s o.dst v K:=h
    have him:imAll (evs s args.toList) = true:=by
     rw [evK_eq] at h
     cases hf:ev s f<;>rw [hf] at h<;>first | exact ((chkK_iff _ _).1 h).1 | exact h.elim
    refine sbHead_of (b:=s.boxes) (imAll_rd him) (.inl ?_)
    unfold callK
    rw [evsK_eq,vecsOfK_eq,e]
    show evK s f fun fv=>evsK s args.toList fun vs=>match fv with
     | .fn g caps=>chkK (imAll vs) (chkK (fnArgs vs) (chkK (imAll caps) (∃ r,PSpec P g (callArgs vs caps) r∧stPutK N s o.dst r K)))
     | _=>False
    rw [evK_eq,evsK_eq]
    rw [evK_eq] at h
    cases hf:ev s f<;>rw [hf] at h<;>first | exact h | exact h.elim
   | cons i r =>
    rw [e] at h
    have h:evK s f fun fv=>readGK P s.boxes (evs s args.toList) fv fun v=>stPutK N s o.dst v K:=h
    have him:imAll (rdAll s.boxes (evs s args.toList)) = true:=by
     rw [evK_eq] at h
     cases hf:ev s f<;>rw [hf] at h<;>first | exact ((chkK_iff _ _).1 h).1 | exact h.elim
    refine sbHead_of him (.inr (.inr (.inl ?_)))
    unfold readK
    rw [evsK_eq]
    exact h
  | builtin b =>
   by_cases hb:b = .len
   ·subst hb
    have h:evsK s args.toList fun l=>nthK ts.toList 0 fun t=>tiK Γ t fun ti=>lenCK ti.desc l fun v=>stPutK N s o.dst v K:=h
    show evsK s args.toList fun l=>nthK ts.toList 0 fun t=>tiK Γ t fun ti=>lenVK ti.desc l fun v=>stPutK N s o.dst v K
    rw [evsK_eq] at h ⊢
    obtain ⟨t,h1,h⟩:=(nthK_iff _ _ _).1 h
    refine (nthK_iff _ _ _).2 ⟨t,h1,?_⟩
    exact CP.mon (CP.ti Γ t) h fun ti h=>len_of h
   ·cases b<;>first | exact h | exact absurd rfl hb | exact h.elim
  | invoke r m=>exact h.elim
 | alloc _=>rw [ho] at h; exact h.elim
 | box _ _=>rw [ho] at h; exact h.elim
 | store _ _ _=>rw [ho] at h; exact h.elim
 | buildSlice t len ps=>exact absurd ho (hnb t len ps)
 | slice t x lo hi mx =>
  rw [ho] at h
  cases mx with
  | some _=>exact h.elim
  | none =>
   show evK s x fun a=>arrCutK Γ N s t lo hi none o.dst K (valK Γ s (.slice t x lo hi none) fun v=>stPutK N s o.dst v K) a
   rw [evK_eq]
   exact arrCut_of h
 | move _=>rw [ho] at h; exact h
 | assign _=>rw [ho] at h; exact h
 | pick _ _ _=>rw [ho] at h; exact h
 | binOp op t x y ty =>
  rw [ho] at h
  have h:evK s x fun a=>evK s y fun b=>binTK Γ op t a b fun v=>stPutK N s o.dst v K:=h
  show evK s x fun a=>evK s y fun b=>binEK Γ op t (litB x || litB y) a b fun v=>stPutK N s o.dst v K
  simp only [evK_eq] at h ⊢
  exact binN_of (binT_of h)
 | unOp _ _ _=>rw [ho] at h; exact h
 | convert src dst x =>
  rw [ho] at h
  have h:evK s x fun a=>tiK Γ src fun ts=>tiK Γ dst fun ti=>convCK Γ ts.desc ti.desc a fun v=>stPutK N s o.dst v K:=h
  show evK s x fun a=>tiK Γ src fun ts=>tiK Γ dst fun ti=>convAK Γ ts.desc ti.desc a fun v=>stPutK N s o.dst v K
  exact CP.mon (CP.evK s x) h fun v h=>CP.mon (CP.ti Γ src) h fun ts h=>CP.mon (CP.ti Γ dst) h fun ti h=>convC_of h
 | fieldAddr _ _ _=>rw [ho] at h; exact h
 | field _ _ _=>rw [ho] at h; exact h
 | extract _ _=>rw [ho] at h; exact h
 | indexAddr _ _ _=>rw [ho] at h; exact h
 | index _ _ _=>rw [ho] at h; exact h
 | nilCheck _=>rw [ho] at h; exact h
 | _=>rw [ho] at h; exact h.elim

theorem frz_same {d:Nat} {v:AV} (h:d ∉ ids v):frz d v = v:=by
 cases v with
 | vec i τ l=>have:i≠d:=fun e=>h (by simp [ids,ids0,e]); simp [frz,Bool.cond_eq_ite,this]
 | vp i τ l n off=>have:i≠d:=fun e=>h (by simp [ids,ids0,e]); simp [frz,Bool.cond_eq_ite,this]
 | pt n o=>have:n≠d:=fun e=>h (by simp [ids,ids0,e]); simp [frz,Bool.cond_eq_ite,this]
 | fn f caps =>
  have:inL d (caps.flatMap ids0) = false:=by rw [← Bool.not_eq_true,inL_iff]; exact h
  simp [frz,this]
 | tup caps =>
  have:inL d (caps.flatMap ids0) = false:=by rw [← Bool.not_eq_true,inL_iff]; exact h
  simp [frz,this]
 | vs i τ l n=>have:i≠d:=fun e=>h (by simp [ids,ids0,e]); simp [frz,Bool.cond_eq_ite,this]
 | ag k caps =>
  have:inL d (caps.flatMap ids0) = false:=by rw [← Bool.not_eq_true,inL_iff]; exact h
  simp [frz,this]
 | ob i i2 o =>
  have:inL d [i,i2] = false:=by rw [← Bool.not_eq_true,inL_iff]; exact h
  simp [frz,this]
 | _=>rfl
theorem kill_same {d:Nat} {v:AV} (h:d ∉ ids v):kill d v = v:=by
 have:inL d (ids v) = false:=by rw [← Bool.not_eq_true,inL_iff]; exact h
 simp [kill,this]
theorem map_same {f:AV→AV} {l:List AV} (h:∀ v ∈ l,f v = v):mapC f l = l:=by
 rw [mapC_eq]
 induction l with
 | nil=>rfl
 | cons v r ih=>simp only [List.map_cons]; rw [h v (List.mem_cons_self ..),ih fun u hu=>h u (List.mem_cons_of_mem _ hu)]
end
end Go.SX
end
section
namespace Go.SX
variable [Globs]
section
variable {P:Program} {N:Nat} {Γ:Ctx} {W0:World} {F:Fr} {X:Nat→Prop} {s:St} {β:Nat→Option Nat} {a:Act} {w:World}

def WkV (v t:AV):Prop:=v = t∨(v = .nl∧∃ τ,t = .rd τ [])∨(t = .x∨∃ id τ l,v = .vec id τ l∧t = .ob id id (.ln τ l))∨∃ id τ l,v = .vec id τ l∧t = .vs id τ l 0
def wkS (s:St):List (Nat × AV)→Prop
 | []=>True
 | (n,v)::r=>lookK s.slots n (fun u=>WkV u v)∧wkS s r
def wkC:List AV→List AV→Prop
 | [],[]=>True
 | u::r,v::t=>WkV u v∧wkC r t
 | _,_=>False
def wkB (s:St):List (Nat × List AV)→Prop
 | []=>True
 | (n,cs)::r=>lookBK s.boxes n (fun us=>wkC us cs)∧wkB s r
def Wk (s t:St):Prop:=wkS s t.slots∧wkB s t.boxes

theorem WkV.rel {u v:AV} {O:Nat→Prop} {x:Value} (h:WkV u v) (hr:Rel β O w u x):Rel β O w v x:=by
 rcases h with rfl | ⟨rfl,τ,rfl⟩ | (rfl | ⟨id,τ,l,rfl,rfl⟩) | ⟨id,τ,l,rfl,rfl⟩
 ·exact hr
 ·have:x = .slice none 0 0:=by cases (show Im _ _ _ _ from hr); rfl
  subst this
  exact Im.rd0 τ none 0 (Nat.zero_le _)
 ·exact Rel.x
 ·exact ⟨rfl,hr⟩
 ·exact ⟨Nat.zero_le _,x,hr,.inl ⟨rfl,rfl⟩⟩
theorem WkV.ids {u v:AV} (h:WkV u v):∀ n ∈ ids v,n ∈ ids u:=by
 rcases h with rfl | ⟨rfl,τ,rfl⟩ | (rfl | ⟨id,τ,l,rfl,rfl⟩) | ⟨id,τ,l,rfl,rfl⟩
 ·exact fun _ h=>h
 ·intro n hn; cases hn
 ·intro n hn; cases hn
 ·intro n hn
  have:n = id:=by simpa [SX.ids,ids0] using hn
  subst this
  simp [SX.ids,ids0]
 ·exact fun _ h=>h
theorem wkS_look {t:List (Nat × AV)} (h:wkS s t):∀ n,WkV (look s.slots n) (look t n):=by
 induction t with
 | nil=>intro n; exact .inr (.inr (.inl (.inl rfl)))
 | cons p r ih =>
  obtain ⟨m,v⟩:=p
  obtain ⟨h1,h2⟩:=h
  rw [lookK_eq] at h1
  intro n
  simp only [look]
  cases hb:Nat.beq m n with
  | true=>have:=Nat.eq_of_beq_eq_true hb; subst this; exact h1
  | false=>exact ih h2 n
theorem wkB_look {t:List (Nat × List AV)} (h:wkB s t):∀ n cs,lookB t n = some cs→∃ us,lookB s.boxes n = some us∧wkC us cs:=by
 induction t with
 | nil=>intro n cs hn; cases hn
 | cons p r ih =>
  obtain ⟨m,v⟩:=p
  obtain ⟨h1,h2⟩:=h
  intro n cs hn
  simp only [lookB] at hn
  cases hb:Nat.beq m n with
  | true=>rw [hb] at hn; injection hn with hn; subst hn; have:=Nat.eq_of_beq_eq_true hb; subst this; exact (lookBK_iff _ _ _).1 h1
  | false=>rw [hb] at hn; exact ih h2 n cs hn
theorem wkC_rel {us cs:List AV} {vs:List Value} {O:Nat→Prop} (h:wkC us cs) (hr:All2 (RelC β O w) us vs):All2 (RelC β O w) cs vs∧∀ c ∈ cs,∀ n ∈ ids c,∃ u ∈ us,n ∈ ids u:=by
 induction us generalizing cs vs with
 | nil=>cases cs with
  | nil=>exact ⟨hr,by intro c hc; cases hc⟩
  | cons _ _=>exact h.elim
 | cons u r ih=>cases cs with
  | nil=>exact h.elim
  | cons c t =>
   obtain ⟨v,vs',rfl,h1,h2⟩:=hr.cons_inv
   obtain ⟨h3,h4⟩:=ih h.2 h2
   refine ⟨All2.cons ⟨h.1.rel h1.1,h1.2⟩ h3,fun c' hc' n hn=>?_⟩
   rcases List.mem_cons.1 hc' with rfl | hc'
   ·exact ⟨u,List.mem_cons_self .., h.1.ids n hn⟩
   ·obtain ⟨u',hu',hn'⟩:=h4 c' hc' n hn
    exact ⟨u',List.mem_cons_of_mem _ hu',hn'⟩
theorem InvB.wk (hI:InvB W0 F X N s β a w) {t:St} (h:Wk s t):InvB W0 F X N t β a w:=by
 have hNm:∀ n,Nm t n→Nm s n:=by
  rintro n (⟨cs,hc⟩ | ⟨m,hm⟩ | ⟨b,cs,hb,c,hc,hn⟩)
  ·obtain ⟨us,hu,_⟩:=wkB_look h.2 n cs hc
   exact .inl ⟨us,hu⟩
  ·exact .inr (.inl ⟨m,(wkS_look h.1 m).ids n hm⟩)
  ·obtain ⟨us,hu,hw⟩:=wkB_look h.2 b cs hb
   obtain ⟨g,us',e,h1,h2,h3⟩:=hI.boxes b us hu
   obtain ⟨u,hu',hn'⟩:=(wkC_rel hw h3).2 c hc n hn
   exact .inr (.inr ⟨b,us,hu,u,hu',hn'⟩)
 have hO:∀ k,Own X t β k→Own X s β k:=fun k hk=>hk.imp id fun ⟨n,hn,hb⟩=>⟨n,hNm n hn,hb⟩
 refine hI.upd (Stp.refl (fun _=>False) w) (fun _ _ h=>h.elim) (fun n=>?_) (fun n cs hcs=>?_) (fun n m g hn hm=>hI.inj n m g (hNm n hn) (hNm m hm)) (fun n g hn hg=>hI.own n g (hNm n hn) hg) rfl rfl (fun n cs g hc hp=>by
  obtain ⟨us,hu,_⟩:=wkB_look h.2 n cs hc
  exact hI.pin n us g hu hp)
 ·exact ((wkS_look h.1 n).rel (hI.slots n)).mono hO
 ·obtain ⟨us,hu,hw⟩:=wkB_look h.2 n cs hcs
  obtain ⟨g,us',e,h1,h2,h3⟩:=hI.boxes n us hu
  exact ⟨g,us',e,h1,h2,(wkC_rel hw h3).1.mono fun _ _ _ _ hr=>⟨hr.1.mono hO,hr.2⟩⟩
end
end Go.SX
end
section
namespace Go.SX
variable [Globs]
section
variable {P:Program} {N:Nat} {Γ:Ctx} {W0:World} {F:Fr} {X:Nat→Prop} {s:St} {β:Nat→Option Nat} {a:Act} {w:World} {ops:Array Oper}

def Eqv (s s':St):Prop:=(∀ n,look s.slots n = look s'.slots n)∧∀ n,lookB s.boxes n = lookB s'.boxes n
theorem Eqv.refl (s:St):Eqv s s:=⟨fun _=>rfl,fun _=>rfl⟩
theorem Eqv.trans {a b c:St} (h:Eqv a b) (h':Eqv b c):Eqv a c:=⟨fun n=>(h.1 n).trans (h'.1 n),fun n=>(h.2 n).trans (h'.2 n)⟩
theorem Eqv.symm {a b:St} (h:Eqv a b):Eqv b a:=⟨fun n=>(h.1 n).symm,fun n=>(h.2 n).symm⟩
theorem Eqv.ev {a b:St} (h:Eqv a b) (x:Operand):ev a x = ev b x:=by cases x<;>first | rfl | exact h.1 _
theorem Eqv.inv (hI:InvB W0 F X N s β a w) {s':St} (h:Eqv s s'):InvB W0 F X N s' β a w:=by
 refine hI.less (Stp.refl _ _) ?_ (fun n=>⟨n,.inl ⟨(h.1 n).symm,rfl⟩⟩) (fun n cs hc=>by rw [h.2]; exact hc) rfl rfl
 rintro n (⟨cs,hc⟩ | ⟨m,hm⟩ | ⟨k,cs,hk,c,hc,hn⟩)
 ·exact .inl ⟨cs,by rw [h.2]; exact hc⟩
 ·exact .inr (.inl ⟨m,by rw [h.1]; exact hm⟩)
 ·exact .inr (.inr ⟨k,cs,by rw [h.2]; exact hk,c,hc,hn⟩)
theorem Eqv.putO {s s':St} (h:Eqv s s') (d:Option Nat) (v:AV):Eqv (putO s d v) (SX.putO s' d v):=by
 refine ⟨fun n=>?_,fun n=>by rw [boxes_putO,boxes_putO,h.2]⟩
 rw [look_putO,look_putO,h.1]
theorem frz_eqv {d:Nat} (h:¬ Nm s d):Eqv (s.frz d) s:=by
 refine ⟨fun n=>?_,fun n=>?_⟩
 ·show look (mapV (SX.frz d) s.slots) n = _
  rw [look_mapV _ (show SX.frz d .x = .x from rfl)]
  exact frz_same fun hd=>h (.inr (.inl ⟨n,hd⟩))
 ·simp only [St.frz,St.delBox,St.map,lookB_delL,lookB_mapB]
  by_cases e:d = n
  ·rw [if_pos e]
   cases hl:lookB s.boxes n with
   | none=>rfl
   | some cs=>exact absurd (.inl ⟨cs,e ▸ hl⟩) h
  ·rw [if_neg e]
   cases hl:lookB s.boxes n with
   | none=>rfl
   | some cs=>rw [Option.map_some,map_same fun v hv=>frz_same fun hd=>h (.inr (.inr ⟨n,cs,hl,v,hv,hd⟩))]
theorem kill_eqv {d:Nat} (h:¬ Nm s d):Eqv (s.kill d) s:=by
 refine ⟨fun n=>?_,fun n=>?_⟩
 ·show look (mapV (SX.kill d) s.slots) n = _
  rw [look_mapV _ (kill_x d)]
  exact kill_same fun hd=>h (.inr (.inl ⟨n,hd⟩))
 ·simp only [St.kill,St.delBox,St.map,lookB_delL,lookB_mapB]
  by_cases e:d = n
  ·rw [if_pos e]
   cases hl:lookB s.boxes n with
   | none=>rfl
   | some cs=>exact absurd (.inl ⟨cs,e ▸ hl⟩) h
  ·rw [if_neg e]
   cases hl:lookB s.boxes n with
   | none=>rfl
   | some cs=>rw [Option.map_some,map_same fun v hv=>kill_same fun hd=>h (.inr (.inr ⟨n,cs,hl,v,hv,hd⟩))]
def calmD (P:Program) (Γ:Ctx) (s:St) (o:Oper) (K:AV→Prop):Prop :=
 match o.op with
 | .alloc t=>match o.dst with
  | some d=>tiK Γ t fun ti=>chkK ti.sb.isNone (K (.ob d d (.nw ti.zero)))
  | none=>False
 | op=>calmK P Γ s op K
theorem calmD_of {o:Oper} (h:∀ t,o.op≠.alloc t) {K:AV→Prop}:calmD P Γ s o K = calmK P Γ s o.op K:=by
 unfold calmD
 cases ho:o.op<;>first | rfl | exact absurd ho (h _)
theorem calmD_cp (o:Oper):CP (calmD P Γ s o):=by
 by_cases h:∃ t,o.op = .alloc t
 ·obtain ⟨t,ho⟩:=h
  cases hd:o.dst with
  | none =>
   have e:calmD P Γ s o = fun _=>False:=by funext K; simp only [calmD,ho,hd]
   rw [e]; exact CP.none
  | some d =>
   have e:calmD P Γ s o = fun K=>tiK Γ t fun ti=>chkK ti.sb.isNone (K (.ob d d (.nw ti.zero))):=by funext K; simp only [calmD,ho,hd]
   rw [e]; exact CP.bind (CP.ti Γ t) fun ti=>CP.chk (CP.pure _)
 ·have e:calmD P Γ s o = calmK P Γ s o.op:=by funext K; exact calmD_of fun t ht=>h ⟨t,ht⟩
  rw [e]; exact calm_cp P Γ s o.op
theorem calmD_congr {s s':St} (hb:∀ n,lookB s.boxes n = lookB s'.boxes n) {o:Oper} (h:∀ x ∈ o.op.operands.toList,ev s x = ev s' x) (K:AV→Prop):calmD P Γ s o K = calmD P Γ s' o K:=by
 by_cases hal:∃ t,o.op = .alloc t
 ·obtain ⟨t,ho⟩:=hal
  simp only [calmD,ho]
 ·rw [calmD_of fun t ht=>hal ⟨t,ht⟩,calmD_of fun t ht=>hal ⟨t,ht⟩]
  exact calm_congr hb h K
theorem calm_wp (hΓ : Γ.good P) (hI : InvB W0 F X N s β a w) {o : Oper} {v : AV} (hfree : ((∃ t len ps, o.op = .buildSlice t len ps) ∨ ∃ t, o.op = .alloc t) → ∃ d, o.dst = some d ∧ ¬ Nm s d) (hd : ∀ d, o.dst = some d → d < N)
  (h:calmD P Γ s o (fun u=>u = v)) {next:Act→World→Prop} {Q:Exit→Act→World→Prop} (hn:∀ a' w',Inv W0 F X N (putO s o.dst v) a' w'→next a' w'):o.wp P a w next Q:=by
 by_cases hal:∃ t,o.op = .alloc t
 ·obtain ⟨d,hdst,hNd⟩:=hfree (.inr hal)
  obtain ⟨t,ho⟩:=hal
  have h:tiK Γ t fun ti=>chkK ti.sb.isNone (AV.ob d d (.nw ti.zero) = v):=by simpa only [calmD,ho,hdst] using h
  obtain ⟨ti,hmem,h⟩:=tiK_mem h
  obtain ⟨_,rfl⟩:=(chkK_iff _ _).1 h
  obtain ⟨z,hz,hzc⟩:=(hΓ.ok _ hmem).zeroValue w
  have hI2:=hI.newOb (hd d hdst) hNd hNd (Stp.alloc w (.cells z.cells t)) (Nat.le_refl _) (by simp) (o:=.nw ti.zero) (u:=.pointer (some ⟨w.heap.size,0,none⟩)) (fun O' =>
   ⟨w.heap.size,t,by simp [setβ],rfl,by rw [heap_alloc_new,hzc],(hΓ.one _ hmem).1⟩)
  refine wp_val (u:=.pointer (some ⟨w.heap.size,0,none⟩)) (w':=w.alloc (.cells z.cells t)) ?_ (hn _ _ (by rw [hdst]; exact ⟨_,hI2⟩))
  simp [execOp,ho,Instr.alloc,hz,newVar_run]
 rw [calmD_of fun t ht=>hal ⟨t,ht⟩] at h
 have hfree:(∃ t len ps,o.op = .buildSlice t len ps)→∃ d,o.dst = some d∧¬ Nm s d:=fun h=>hfree (.inl h)
 by_cases hb:∃ t len ps,o.op = .buildSlice t len ps
 ·obtain ⟨d,hdst,hNd⟩:=hfree hb
  obtain ⟨t,len,ps,ho⟩:=hb
  rw [ho] at h
  have h:bsliceCK Γ s t len ps.toList (fun u=>u = v):=h
  unfold bsliceCK at h
  rw [opVecsK_eq] at h
  obtain ⟨e,h⟩:=(nilK_iff _ _).1 h
  refine bslice_ok hΓ.ok hΓ.one hI ho (K:=fun s2=>∃ τ l,v = .rd τ l∧Eqv (s2.frz d) (putO s (some d) v)) ?_ fun s' a' w' hK ⟨β',hI'⟩=>?_
  ·unfold bsliceK
   rw [opVecsK_eq,e,hdst,frzAllK_eq]
   refine (optK_iff _ _).2 ⟨d,rfl,?_⟩
   simp only [frzAll]
   rw [stFrzK_eq]
   have hfe:=frz_eqv hNd
   obtain ⟨ti,h1,h⟩:=(CP.ti Γ t).det h
   refine (CP.ti Γ t).put h1 ?_
   obtain ⟨el,h2,h⟩:=(CP.sliceTK ti.desc).det h
   refine (CP.sliceTK ti.desc).put h2 ?_
   obtain ⟨te,h3,h⟩:=(CP.ti Γ el).det h
   refine (CP.ti Γ el).put h3 ?_
   obtain ⟨τ,h4,h⟩:=(tyK_iff _ _).1 h
   refine (tyK_iff _ _).2 ⟨τ,h4,?_⟩
   obtain ⟨h5,h⟩:=(chkK_iff _ _).1 h
   obtain ⟨h6,h⟩:=(chkK_iff _ _).1 h
   refine (chkK_iff _ _).2 ⟨h5,(chkK_iff _ _).2 ⟨h6,?_⟩⟩
   rw [partsK_eq] at h ⊢
   rw [parts_congr (s':=s) fun x _=>hfe.ev x.2]
   obtain ⟨cs,h7,h⟩:=(CP.fill (pl:=fun i K=>K (i * te.cells,te.cells)) (fun _=>CP.pure _) _ _).det h
   refine (CP.fill (pl:=fun i K=>K (i * te.cells,te.cells)) (fun _=>CP.pure _) _ _).put h7 ?_
   rw [plainCK_eq] at h ⊢
   obtain ⟨l,h8,rfl⟩:=(optK_iff _ _).1 h
   refine (optK_iff _ _).2 ⟨l,h8,?_⟩
   rw [stKillK_eq]
   refine stPut_mk (fun d' e'=>by injection e' with e'; subst e'; exact hd _ hdst) ⟨τ,l,rfl,?_⟩
   have hNd1:¬ Nm (s.frz d) d:=not_frz s d
   have hke:=(kill_eqv hNd1).trans hfe
   have hNk:¬ Nm ((s.frz d).kill d) d:=fun hm=>(Nm.of_kill hm).2 rfl
   refine ⟨fun n=>?_,fun n=>?_⟩
   ·show look (mapV (SX.frz d) (((s.frz d).kill d).put d (.vec d τ l)).slots) n = _
    rw [look_mapV _ (show SX.frz d .x = .x from rfl),look_putO]
    show SX.frz d (look (setL ((s.frz d).kill d).slots d (.vec d τ l)) n) = _
    rw [look_setL]
    by_cases e':d = n
    ·rw [if_pos e',if_pos (by rw [e'])]; simp [SX.frz]
    ·rw [if_neg e',if_neg (fun h=>e' (by injection h)),hke.1 n]
     exact frz_same fun hd'=>hNd (.inr (.inl ⟨n,hd'⟩))
   ·have h9:=(frz_eqv hNk).2 n
    exact h9.trans (hke.2 n)
  ·obtain ⟨τ,l,_,he⟩:=hK
   rw [hdst] at hn
   exact hn _ _ ⟨β',Eqv.inv (hI'.frz d) he⟩
 ·exact op_ok hΓ hI (calm_op (fun t len ps e=>hb ⟨t,len,ps,e⟩) ((calm_cp P Γ s o.op).put h (stPut_mk (K:=fun s'=>s' = putO s o.dst v) hd rfl))) fun s' a' w' hs' hI'=>hn a' w' (hs' ▸ hI')

/-! ### the values that a block yields in the order of the text -/
abbrev Item:=Nat × Oper × AV
def StepV (P:Program) (Γ:Ctx) (ops:List Oper) (o:Oper) (s:St) (v:AV):Prop :=
 match o.guard with
 | none=>calmD P Γ s o (fun u=>u = v)
 | some (j,want)=>∃ oj d,ops[j]? = some oj∧oj.dst = some d ∧
  ((look s.slots d = .b want∧calmD P Γ s o (fun u=>u = v))∨((look s.slots d = .b (!want)∨look s.slots d = .tup [])∧v = .tup []))
def dstB (o:Oper) (d:Nat):Bool:=match o.dst with | some d'=>Nat.beq d' d | none=>false
theorem dstB_iff {o:Oper} {d:Nat}:dstB o d = true↔o.dst = some d:=by
 unfold dstB
 cases o.dst with
 | none=>simp
 | some d'=>simp
def fzB (fz:List Nat) (o:Oper) (v:AV):Bool:=fz.all fun d=>!(inB d (ids v)) || dstB o d
theorem fzB_iff {fz:List Nat} {o:Oper} {v:AV}:fzB fz o v = true↔∀ d ∈ fz,d ∈ ids v→o.dst = some d:=by
 simp only [fzB,List.all_eq_true,Bool.or_eq_true,Bool.not_eq_true',← Bool.not_eq_true,inB_iff,dstB_iff]
 constructor
 ·exact fun h d hd hi=>(h d hd).resolve_left fun hn=>hn hi
 ·exact fun h d hd=>(Classical.em (d ∈ ids v)).elim (fun hi=>.inr (h d hd hi)) .inl
def Chain (P:Program) (Γ:Ctx) (N:Nat) (fz:List Nat) (ops:List Oper):List Item→St→Prop
 | [],_=>True
 | (_,o,v)::r,s=>StepV P Γ ops o s v∧(∀ d,o.dst = some d→d < N)∧(∀ d ∈ fz,d ∈ ids v→o.dst = some d)∧Chain P Γ N fz ops r (putO s o.dst v)
def runI:List Item→St→St
 | [],s=>s
 | (_,o,v)::r,s=>runI r (putO s o.dst v)
def blkStepK (P:Program) (Γ:Ctx) (N:Nat) (fz:List Nat) (ops:List Oper) (i:Nat) (known:List Nat) (s:St) (K:List Nat→St→Prop):Prop :=
 nthK ops i fun o =>
  match o.guard with
  | none=>calmD P Γ s o fun v=>chkK (fzB fz o v) (stPutK N s o.dst v fun s=>K known s)
  | some (j,want)=>nthK ops j fun oj=>optK oj.dst fun d =>
   guardK N (inB j known) s d want (fun s=>calmD P Γ s o fun v=>chkK (fzB fz o v) (stPutK N s o.dst v fun s=>K (j::known) s))
    (fun s=>stPutK N s o.dst (.tup []) fun s=>K (j::known) s)
def vcBlk (P:Program) (Γ:Ctx) (N:Nat) (fz:List Nat) (ops:List Oper):List Nat→List Nat→St→(St→Prop)→Prop
 | [],_,s,Q=>Q s
 | i::r,known,s,Q=>blkStepK P Γ N fz ops i known s fun known s=>vcBlk P Γ N fz ops r known s Q
theorem guard_cases {d : Nat} {known want : Bool} {run skip : St → Prop} (h : guardK N known s d want run skip) :
  (look s.slots d = .b want∧∃ s',Eqv s s'∧run s')∨((look s.slots d = .b (!want)∨look s.slots d = .tup [])∧∃ s',Eqv s s'∧skip s'):=by
 have hput:∀ t (K:St→Prop),look s.slots d = .b t→stPutK N s (some d) (.b t) K→∃ s',Eqv s s'∧K s':=fun t K hv hK =>
  ⟨putO s (some d) (.b t),⟨fun n=>by
   rw [look_putO]
   split
   ·rename_i e; injection e with e; rw [← e,hv]
   ·rfl,fun _=>rfl⟩,(stPut_inv hK).1⟩
 unfold guardK at h
 rw [lookK_eq] at h
 cases known with
 | true =>
  cases hv:look s.slots d with
  | b t =>
   rw [hv] at h
   cases t<;>cases want
   ·exact .inl ⟨rfl,s,Eqv.refl s,h⟩
   ·exact .inr ⟨.inl rfl,s,Eqv.refl s,h⟩
   ·exact .inr ⟨.inl rfl,s,Eqv.refl s,h⟩
   ·exact .inl ⟨rfl,s,Eqv.refl s,h⟩
  | tup l =>
   rw [hv] at h
   cases l with
   | nil=>exact .inr ⟨.inr rfl,s,Eqv.refl s,h⟩
   | cons _ _=>exact h.elim
  | _=>rw [hv] at h; exact h.elim
 | false =>
  cases hv:look s.slots d with
  | b t =>
   rw [hv] at h
   by_cases ht:t = want
   ·subst ht; exact .inl ⟨rfl,hput t run hv (h.1 rfl)⟩
   ·have ht':t = !want:=by cases t<;>cases want<;>simp_all
    subst ht'
    exact .inr ⟨.inl rfl,hput _ skip hv (h.2 rfl)⟩
  | tup l =>
   rw [hv] at h
   cases l with
   | nil=>exact .inr ⟨.inr rfl,s,Eqv.refl s,h⟩
   | cons _ _=>exact h.elim
  | _=>rw [hv] at h; exact h.elim
theorem blk_chain {fz : List Nat} {opl : List Oper} {K : St → Prop} (B : List Nat) : ∀ (known : List Nat) (s : St), vcBlk P Γ N fz opl B known s K → ∀ s0, Eqv s0 s →
  ∃ its:List Item,its.map (·.1) = B∧(∀ it ∈ its,opl[it.1]? = some it.2.1)∧Chain P Γ N fz opl its s0∧∃ t,Eqv (runI its s0) t∧K t:=by
 induction B with
 | nil=>intro known s h s0 he; exact ⟨[],rfl,(by intro it hit; cases hit),trivial,s,he,h⟩
 | cons i r ih =>
  intro known s h s0 he
  obtain ⟨o,ho,h⟩:=(nthK_iff _ _ _).1 h
  have run : ∀ {known' : List Nat} {s1 : St}, Eqv s0 s1 → (calmD P Γ s1 o fun v => chkK (fzB fz o v) (stPutK N s1 o.dst v fun s => vcBlk P Γ N fz opl r known' s K)) →
    ∃ v,calmD P Γ s0 o (fun u=>u = v)∧(∀ d,o.dst = some d→d < N)∧(∀ d ∈ fz,d ∈ ids v→o.dst = some d)∧vcBlk P Γ N fz opl r known' (putO s1 o.dst v) K:=by
   intro known' s1 he1 h1
   obtain ⟨v,h2,h3⟩:=(calmD_cp (s:=s1) o).det h1
   obtain ⟨h6,h3⟩:=(chkK_iff _ _).1 h3
   obtain ⟨h4,h5⟩:=stPut_inv h3
   exact ⟨v,by rw [calmD_congr he1.2 fun x _=>he1.ev x]; exact h2,h5,fzB_iff.1 h6,h4⟩
  have fin : ∀ {v : AV} {known' : List Nat} {s1 : St}, Eqv s0 s1 → StepV P Γ opl o s0 v → (∀ d, o.dst = some d → d < N) → (∀ d ∈ fz, d ∈ ids v → o.dst = some d) → vcBlk P Γ N fz opl r known' (putO s1 o.dst v) K →
    ∃ its:List Item,its.map (·.1) = i::r∧(∀ it ∈ its,opl[it.1]? = some it.2.1)∧Chain P Γ N fz opl its s0∧∃ t,Eqv (runI its s0) t∧K t:=by
   intro v known' s1 he1 h1 h2 h2' h3
   obtain ⟨its,k1,k2,k3,k4⟩:=ih _ _ h3 (putO s0 o.dst v) (he1.putO o.dst v)
   refine ⟨(i,o,v)::its,by simp [k1],fun it hit=>?_,⟨h1,h2,h2',k3⟩,k4⟩
   rcases List.mem_cons.1 hit with rfl | hit
   ·exact ho
   ·exact k2 it hit
  cases hg:o.guard with
  | none =>
   rw [hg] at h
   obtain ⟨v,h1,h2,h2',h3⟩:=run he h
   exact fin he (by unfold StepV; rw [hg]; exact h1) h2 h2' h3
  | some p =>
   obtain ⟨j,want⟩:=p
   rw [hg] at h
   obtain ⟨oj,hj,h⟩:=(nthK_iff _ _ _).1 h
   obtain ⟨d,hd,h⟩:=(optK_iff _ _).1 h
   rcases guard_cases h with ⟨h1,s1,he1,h⟩ | ⟨h1,s1,he1,h⟩
   ·obtain ⟨v,h2,h3,h3',h4⟩:=run (he.trans he1) h
    exact fin (he.trans he1) (by unfold StepV; rw [hg]; exact ⟨oj,d,hj,hd,.inl ⟨by rw [he.1]; exact h1,h2⟩⟩) h3 h3' h4
   ·obtain ⟨h4,h5⟩:=stPut_inv h
    exact fin (he.trans he1) (by unfold StepV; rw [hg]; exact ⟨oj,d,hj,hd,.inr ⟨by rw [he.1]; exact h1,rfl⟩⟩) h5 (by intro _ _ h; cases h) h4

/-! ### what is read after a part of the block -/
def selL:List Item→(Nat→Bool)→Nat→AV→AV
 | [],_,_,base=>base
 | (i,o,v)::r,p,x,base=>if p i = true∧o.dst = some x then v else selL r p x base
theorem selL_append (l l':List Item) (p:Nat→Bool) (x:Nat) (base:AV):selL (l++l') p x base = selL l p x (selL l' p x base):=by
 induction l with
 | nil=>rfl
 | cons q r ih=>obtain ⟨i,o,v⟩:=q; simp only [List.cons_append,selL,ih]
theorem selL_skip {l:List Item} {p:Nat→Bool} {x:Nat} {base:AV} (h:∀ q ∈ l,p q.1 = true→q.2.1.dst≠some x):selL l p x base = base:=by
 induction l with
 | nil=>rfl
 | cons q r ih =>
  obtain ⟨i,o,v⟩:=q
  simp only [selL]
  rw [if_neg fun ⟨h1,h2⟩=>h _ (List.mem_cons_self ..) h1 h2]
  exact ih fun q hq=>h q (List.mem_cons_of_mem _ hq)
theorem selL_same {l:List Item} {p p':Nat→Bool} {x:Nat} {base:AV} (h:∀ q ∈ l,q.2.1.dst = some x→p q.1 = p' q.1):selL l p x base = selL l p' x base:=by
 induction l with
 | nil=>rfl
 | cons q r ih =>
  obtain ⟨i,o,v⟩:=q
  simp only [selL]
  rw [ih fun q hq=>h q (List.mem_cons_of_mem _ hq)]
  by_cases hd:o.dst = some x
  ·rw [h _ (List.mem_cons_self ..) hd]
  ·simp [hd]
def aft (o:Oper) (i:Nat):Bool:=o.after.any fun e=>Region.binds .any e && Nat.beq e.on i
theorem aft_spec {o:Oper} {i:Nat} (h:aft o i = true):∃ e ∈ o.after,Region.binds .any e = true∧e.on = i:=by
 obtain ⟨e,h1,h2⟩:=Array.any_eq_true'.1 h
 simp only [Bool.and_eq_true] at h2
 exact ⟨e,h1,h2.1,Nat.eq_of_beq_eq_true h2.2⟩
def PairOK (ops:Array Oper) (e t:Item):Prop :=
 e.1≠t.1∧(∀ d,e.2.1.dst = some d→t.2.1.dst≠some d)∧(aft t.2.1 e.1 = true∨((∀ d,e.2.1.dst = some d→d ∉ t.2.1.looksAt ops)∧∀ d,t.2.1.dst = some d→d ∉ e.2.1.looksAt ops))
theorem look_runI (l:List Item) (h:l.Pairwise (PairOK ops)):∀ (s:St) (x:Nat),look (runI l s).slots x = selL l (fun _=>true) x (look s.slots x):=by
 induction l with
 | nil=>intro s x; rfl
 | cons q r ih =>
  obtain ⟨i,o,v⟩:=q
  intro s x
  rw [List.pairwise_cons] at h
  simp only [runI,selL]
  rw [ih h.2,look_putO]
  by_cases hd:o.dst = some x
  ·rw [if_pos hd,if_pos ⟨trivial,hd⟩]
   exact selL_skip fun q hq _=>(h.1 q hq).2.1 x hd
  ·rw [if_neg hd,if_neg fun h=>hd h.2]
theorem boxes_runI (l:List Item):∀ s,(runI l s).boxes = s.boxes:=by
 induction l with
 | nil=>intro s; rfl
 | cons q r ih=>obtain ⟨i,o,v⟩:=q; intro s; simp only [runI]; rw [ih,boxes_putO]
theorem chain_at {fz:List Nat} {opl:List Oper} (pre:List Item) {i:Nat} {o:Oper} {v:AV} {post:List Item}:∀ s,Chain P Γ N fz opl (pre++(i,o,v)::post) s→StepV P Γ opl o (runI pre s) v∧∀ d,o.dst = some d→d < N:=by
 induction pre with
 | nil=>intro s h; exact ⟨h.1,h.2.1⟩
 | cons q r ih=>obtain ⟨i',o',v'⟩:=q; intro s h; exact ih _ h.2.2.2
theorem chain_ids {fz:List Nat} {opl:List Oper} (l:List Item):∀ s,Chain P Γ N fz opl l s→∀ q ∈ l,∀ d ∈ fz,d ∈ ids q.2.2→q.2.1.dst = some d:=by
 induction l with
 | nil=>intro _ _ q hq; cases hq
 | cons q' r ih =>
  obtain ⟨i,o,v⟩:=q'
  intro s h q hq
  rcases List.mem_cons.1 hq with rfl | hq
  ·exact h.2.2.1
  ·exact ih _ h.2.2.2 q hq
theorem selL_or {l:List Item} {p:Nat→Bool} {x:Nat} {base:AV}:selL l p x base = base∨∃ q ∈ l,p q.1 = true∧selL l p x base = q.2.2:=by
 induction l with
 | nil=>exact .inl rfl
 | cons q r ih =>
  obtain ⟨i,o,v⟩:=q
  simp only [selL]
  split
  ·rename_i hp; exact .inr ⟨_,List.mem_cons_self .., hp.1,rfl⟩
  ·exact ih.imp id fun ⟨q,hq,e⟩=>⟨q,List.mem_cons_of_mem _ hq,e⟩

/-! ### the block, in any order -/
def cnt:List Item→(Nat→Bool)→Nat
 | [],_=>0
 | q::r,p=>(if p q.1 = true then 0 else 1) + cnt r p
theorem cnt_le {l:List Item} {p p':Nat→Bool} (h:∀ i,p i = true→p' i = true):cnt l p'≤cnt l p:=by
 induction l with
 | nil=>exact Nat.le_refl _
 | cons q r ih =>
  simp only [cnt]
  by_cases h1:p q.1 = true
  ·rw [if_pos h1,if_pos (h _ h1)]; omega
  ·rw [if_neg h1]; split<;>omega
theorem cnt_lt {l:List Item} {p p':Nat→Bool} (h:∀ i,p i = true→p' i = true) {q:Item} (hq:q ∈ l) (h1:p q.1≠true) (h2:p' q.1 = true):cnt l p' < cnt l p:=by
 induction l with
 | nil=>cases hq
 | cons q' r ih =>
  simp only [cnt]
  rcases List.mem_cons.1 hq with rfl | hq
  ·rw [if_pos h2,if_neg h1]; have:=cnt_le (l:=r) h; omega
  ·have:=ih hq
   by_cases h3:p q'.1 = true
   ·rw [if_pos h3,if_pos (h _ h3)]; omega
   ·rw [if_neg h3]; split<;>omega
theorem cnt_all {l:List Item} {p:Nat→Bool} (h:cnt l p = 0):∀ q ∈ l,p q.1 = true:=by
 induction l with
 | nil=>intro q hq; cases hq
 | cons q' r ih =>
  simp only [cnt] at h
  intro q hq
  rcases List.mem_cons.1 hq with rfl | hq
  ·by_cases h3:p q.1 = true
   ·exact h3
   ·rw [if_neg h3] at h; omega
  ·exact ih (by omega) q hq
theorem first_not {l:List Item} {p:Nat→Bool} (h:cnt l p≠0):∃ pre q post,l = pre++q::post∧(∀ r ∈ pre,p r.1 = true)∧p q.1≠true:=by
 induction l with
 | nil=>exact absurd rfl h
 | cons q' r ih =>
  by_cases h3:p q'.1 = true
  ·simp only [cnt,if_pos h3] at h
   obtain ⟨pre,q,post,rfl,h4,h5⟩:=ih (by omega)
   exact ⟨q'::pre,q,post,rfl,fun x hx=>by rcases List.mem_cons.1 hx with rfl | hx; exact h3; exact h4 x hx,h5⟩
  ·exact ⟨[],q',r,rfl,(by intro x hx; cases hx),h3⟩
def setAll (listed:Array Bool) (B:List Nat):Array Bool:=B.foldl (fun l i=>l.setIfInBounds i true) listed
theorem setAll_size (B:List Nat):∀ listed:Array Bool,(setAll listed B).size = listed.size:=by
 induction B with
 | nil=>intro l; rfl
 | cons i r ih=>intro l; simp only [setAll,List.foldl_cons]; exact (ih _).trans (by simp)
theorem setAll_get (B:List Nat):∀ (listed:Array Bool) (j:Nat),j < listed.size→(setAll listed B).getD j false = (decide (j ∈ B) || listed.getD j false):=by
 induction B with
 | nil=>intro l j _; simp [setAll]
 | cons i r ih =>
  intro l j hj
  have h1:=ih (l.setIfInBounds i true) j (by simpa using hj)
  simp only [setAll,List.foldl_cons] at h1 ⊢
  rw [h1]
  by_cases hij:i = j
  ·subst hij; simp [hj]
  ·have hji:j≠i:=fun e=>hij e.symm
   simp [Array.getElem?_setIfInBounds_ne hij,hji]

def lastB (oj:Oper):List Item→Prop
 | []=>True
 | q::r=>(aft oj q.1 = true∨∃ q' ∈ r,aft q'.2.1 q.1 = true)∧lastB oj r

structure BlkOK (ops:Array Oper) (listed:Array Bool) (its itB:List Item):Prop where
 size:listed.size = ops.size
 un:∀ q ∈ its,listed.getD q.1 true = false
 at':∀ q ∈ its,ops[q.1]? = some q.2.1
 pairs:its.Pairwise (PairOK ops)
 prev:∀ pre q post,its = pre++q::post→∀ e ∈ q.2.1.after,Region.binds .any e = true→listed.getD e.on false = true∨∃ r ∈ pre,r.1 = e.on
 last:∀ j oj,ops[j]? = some oj→listed.getD j true = false→(∀ q ∈ its,q.1≠j)→lastB oj itB∨∃ j',aft oj j' = true∧listed.getD j' false = false∧∀ q ∈ its,q.1≠j'

theorem getD_dflt {l:Array Bool} {i:Nat} (h:i < l.size) (d d':Bool):l.getD i d = l.getD i d':=by simp [h]

theorem cnt_zero (l:List Item) (p:Nat→Bool) (h:∀ q ∈ l,p q.1 = true):cnt l p = 0:=by
 induction l with
 | nil=>rfl
 | cons q r ih =>
  have h1:=ih fun q hq=>h q (List.mem_cons_of_mem _ hq)
  simp only [cnt,h q (List.mem_cons_self ..),if_true,h1]
theorem blk_exit {its itB itE : List Item} (hsp : its = itB ++ itE) (hE : itE.length ≤ 1) {listed0 listed : Array Bool} (hb : BlkOK ops listed0 its itB) {s0 s : St} (hz : ¬ cnt its (fun i => listed.getD i false) = 0) (hBall : ∀ q ∈ itB, listed.getD q.1 false = true)
  (hsz:listed.size = ops.size) (h1:∀ j,(∀ q ∈ its,q.1≠j)→listed.getD j false = listed0.getD j false) (hbx:s.boxes = s0.boxes) (hlk:∀ x,look s.slots x = selL its (fun i=>listed.getD i false) x (look s0.slots x)) :
  itE≠[]∧listed = setAll listed0 (itB.map (·.1))∧Eqv s (runI itB s0):=by
 obtain ⟨ie,rfl⟩:∃ ie,itE = [ie]:=by
  cases itE with
  | nil=>exact absurd (cnt_zero its _ (by rw [hsp,List.append_nil]; exact hBall)) hz
  | cons ie r =>
   cases r with
   | nil=>exact ⟨ie,rfl⟩
   | cons _ _=>simp only [List.length_cons] at hE; omega
 have hie:listed.getD ie.1 false≠true:=fun h=>hz (cnt_zero its _ fun q hq=>by
  rw [hsp] at hq
  rcases List.mem_append.1 hq with hq | hq
  ·exact hBall q hq
  ·rw [List.mem_singleton.1 hq]; exact h)
 have hpB:itB.Pairwise (PairOK ops):=by
  have:=hb.pairs
  rw [hsp] at this
  exact (List.pairwise_append.1 this).1
 refine ⟨by simp,?_,fun x=>?_,fun _=>by rw [boxes_runI,hbx]⟩
 ·apply Array.ext
  ·rw [setAll_size,hsz,hb.size]
  ·intro j hj hj'
   have hj0:j < listed0.size:=by rw [hb.size,← hsz]; exact hj
   have h3:=setAll_get (itB.map (·.1)) listed0 j hj0
   have h4:listed.getD j false = (setAll listed0 (itB.map (·.1))).getD j false:=by
    rw [h3]
    by_cases hm:j ∈ itB.map (·.1)
    ·obtain ⟨q,hq,rfl⟩:=List.mem_map.1 hm
     rw [hBall q hq]; simp [hm]
    ·by_cases hji:j = ie.1
     ·subst hji
      have h5:=hb.un ie (by rw [hsp]; simp)
      rw [getD_dflt hj0 true false] at h5
      rw [h5]
      simp only [hm,decide_false,Bool.false_or]
      cases h6:listed.getD ie.1 false with
      | false=>rfl
      | true=>exact absurd h6 hie
     ·rw [h1 j fun q hq e=>?_]
      ·simp only [hm,decide_false,Bool.false_or]
      ·rw [hsp] at hq
       rcases List.mem_append.1 hq with hq | hq
       ·exact hm (List.mem_map.2 ⟨q,hq,e⟩)
       ·rw [List.mem_singleton.1 hq] at e; exact hji e.symm
   simpa [hj,hj'] using h4
 ·rw [hlk,look_runI itB hpB,hsp,selL_append]
  have h5:selL [ie] (fun i=>listed.getD i false) x (look s0.slots x) = look s0.slots x:=by
   refine selL_skip fun q hq hl=>?_
   rw [List.mem_singleton.1 hq] at hl
   exact absurd hl hie
  rw [h5]
  exact selL_same fun q hq _=>hBall q hq
theorem blk_ok (hΓ : Γ.good P) {Q : Exit → Act → World → Prop} {its itB itE : List Item} (hsp : its = itB ++ itE) (hE : itE.length ≤ 1) {listed0 : Array Bool} (hb : BlkOK ops listed0 its itB) {s0 : St} {fz : List Nat} (hc : Chain P Γ N fz ops.toList its s0)
  (hfz:∀ q ∈ its,((∃ t len ps,q.2.1.op = .buildSlice t len ps)∨∃ t,q.2.1.op = .alloc t)→∃ d,q.2.1.dst = some d∧d ∈ fz) (hN0:∀ d ∈ fz,¬ Nm s0 d) {f:Nat}
  (hend:∀ fuel a w,f≤fuel→Inv W0 F X N (runI its s0) a w→wpAny P .any ops Q fuel (setAll listed0 (its.map (·.1))) a w)
  (hx:itE≠[]→∀ fuel a w,f + 1≤fuel→Inv W0 F X N (runI itB s0) a w→wpAny P .any ops Q fuel (setAll listed0 (itB.map (·.1))) a w) :
  ∀ (n fuel:Nat) (listed:Array Bool) (s:St) (a:Act) (w:World),cnt its (fun i=>listed.getD i false)≤n→n + f≤fuel→listed.size = ops.size →
   (∀ j,(∀ q ∈ its,q.1≠j)→listed.getD j false = listed0.getD j false) →
   (∀ q ∈ its,listed.getD q.1 false = true→∀ e ∈ q.2.1.after,Region.binds .any e = true→listed.getD e.on false = true) →
   s.boxes = s0.boxes→(∀ x,look s.slots x = selL its (fun i=>listed.getD i false) x (look s0.slots x))→Inv W0 F X N s a w→wpAny P .any ops Q fuel listed a w:=by
 intro n
 induction n with
 | zero =>
  intro fuel listed s a w hn hf hsz h1 h2 hbx hlk ⟨β,hI⟩
  have hall:=cnt_all (Nat.le_zero.1 hn)
  have e:listed = setAll listed0 (its.map (·.1)):=by
   apply Array.ext
   ·rw [setAll_size,hsz,hb.size]
   ·intro j hj hj'
    have hj0:j < listed0.size:=by rw [hb.size,← hsz]; exact hj
    have h3:=setAll_get (its.map (·.1)) listed0 j hj0
    have h4:listed.getD j false = (setAll listed0 (its.map (·.1))).getD j false:=by
     rw [h3]
     by_cases hm:j ∈ its.map (·.1)
     ·obtain ⟨q,hq,rfl⟩:=List.mem_map.1 hm
      rw [hall q hq]; simp [hm]
     ·rw [h1 j fun q hq e=>hm (List.mem_map.2 ⟨q,hq,e⟩)]; simp only [hm,decide_false,Bool.false_or]
    simpa [hj,hj'] using h4
  rw [e]
  refine hend fuel a w (by omega) ⟨β,Eqv.inv hI ⟨fun x=>?_,fun _=>by rw [boxes_runI,hbx]⟩⟩
  rw [hlk,look_runI its hb.pairs]
  exact selL_same fun q hq _=>hall q hq
 | succ n ih =>
  intro fuel listed s a w hn hf hsz h1 h2 hbx hlk hInv
  by_cases hz:cnt its (fun i=>listed.getD i false) = 0
  ·exact ih fuel listed s a w (by omega) (by omega) hsz h1 h2 hbx hlk hInv
  by_cases hBall:∀ q ∈ itB,listed.getD q.1 false = true
  ·obtain ⟨β,hI⟩:=hInv
   obtain ⟨k1,k2,k3⟩:=blk_exit hsp hE hb hz hBall hsz h1 hbx hlk
   rw [k2]
   exact hx k1 fuel a w (by omega) ⟨β,Eqv.inv hI k3⟩
  obtain ⟨qB,hqB,hqBn⟩:∃ q ∈ itB,listed.getD q.1 false≠true:=by
   refine Classical.byContradiction fun h=>hBall fun q hq=>?_
   refine Classical.byContradiction fun h2=>h ⟨q,hq,h2⟩
  obtain ⟨fuel,rfl⟩:∃ k,fuel = k + 1:=⟨fuel - 1,by omega⟩
  -- the first that is not there yet can be taken
  obtain ⟨pre,q,post,e,hpre,hq⟩:=first_not hz
  have hlt:∀ q ∈ its,q.1 < ops.size:=fun q hq=>(Array.getElem?_eq_some_iff.1 (hb.at' q hq)).1
  have hunb:∀ q ∈ its,listed.getD q.1 false≠true→listed.getD q.1 true = false:=fun q hq h=>by
   rw [getD_dflt (by rw [hsz]; exact hlt q hq) true false]; simpa using h
  have hready:q.1 ∈ Region.ready .any ops listed:=by
   have hqm:q ∈ its:=by rw [e]; simp
   refine mem_ready.2 ⟨hunb q hqm hq,q.2.1,hb.at' q hqm,fun ed hed hbd=>?_⟩
   rcases hb.prev pre q post e ed hed hbd with h | ⟨r,hr,hre⟩
   ·by_cases hm:∃ q' ∈ its,q'.1 = ed.on
    ·obtain ⟨q',hq',hqe⟩:=hm
     exfalso
     have:=hb.un q' hq'
     rw [hqe,getD_dflt (by rw [hb.size,← hqe]; exact hlt q' hq') true false,h] at this
     cases this
    ·rw [h1 _ fun q' hq' he=>hm ⟨q',hq',he⟩]; exact h
   ·rw [← hre]; exact hpre r hr
  refine ⟨fun h=>(by rw [h] at hready; cases hready),fun j hj=>?_⟩
  obtain ⟨hjun,oj,hoj,hjall⟩:=mem_ready.1 hj
  have hjun':listed.getD j false≠true:=by
   intro h
   have hjs:j < listed.size:=by rw [hsz]; exact (Array.getElem?_eq_some_iff.1 hoj).1
   rw [getD_dflt hjs true false,h] at hjun; cases hjun
  -- it is one of the block
  obtain ⟨it,hit,hitj⟩:∃ it ∈ its,it.1 = j:=by
   by_cases hm:∃ it ∈ its,it.1 = j
   ·exact hm
   ·exfalso
    have hno:∀ q ∈ its,q.1≠j:=fun q hq e=>hm ⟨q,hq,e⟩
    have hj0:listed0.getD j true = false:=by
     have hjs:j < listed0.size:=by rw [hb.size]; exact (Array.getElem?_eq_some_iff.1 hoj).1
     rw [getD_dflt hjs true false,← h1 j hno]; simpa using hjun'
    rcases hb.last j oj hoj hj0 hno with hl | ⟨j',hl1,hl2,hl3⟩
    case inr =>
     obtain ⟨ed,h3,h4,h5⟩:=aft_spec hl1
     have h6:=hjall ed h3 h4
     rw [h5,h1 j' hl3,hl2] at h6
     cases h6
    have key:∀ l:List Item,(∀ q ∈ l,q ∈ its)→lastB oj l→∀ q ∈ l,listed.getD q.1 false = true:=by
     intro l
     induction l with
     | nil=>intro _ _ q hq; cases hq
     | cons q r ihl =>
      intro hsub ⟨hl1,hl2⟩
      have hr:=ihl (fun q hq=>hsub q (List.mem_cons_of_mem _ hq)) hl2
      intro q' hq'
      rcases List.mem_cons.1 hq' with rfl | hq'
      ·rcases hl1 with h | ⟨q'',hq'',h⟩
       ·obtain ⟨ed,h3,h4,h5⟩:=aft_spec h
        rw [← h5]; exact hjall ed h3 h4
       ·obtain ⟨ed,h3,h4,h5⟩:=aft_spec h
        rw [← h5]; exact h2 q'' (hsub q'' (List.mem_cons_of_mem _ hq'')) (hr q'' hq'') ed h3 h4
      ·exact hr q' hq'
    exact hqBn (key itB (fun q hq=>by rw [hsp]; exact List.mem_append_left _ hq) hl qB hqB)
  subst hitj
  obtain ⟨pre',post',e'⟩:=List.append_of_mem hit
  obtain ⟨i,o,v⟩:=it
  have hoj':=hb.at' _ hit
  rw [hoj] at hoj'; injection hoj' with hoj'
  have hoj'':=hoj'.symm
  subst hoj''
  obtain ⟨hstep,hdN⟩:=chain_at pre' s0 (by rw [← e']; exact hc)
  have hpw:=hb.pairs
  rw [e'] at hpw
  obtain ⟨hpw1,hpw2,hpw3⟩:=List.pairwise_append.1 hpw
  rw [List.pairwise_cons] at hpw2
  have hread:∀ x ∈ o.looksAt ops,look s.slots x = look (runI pre' s0).slots x:=fun x hx=>by
   rw [hlk,look_runI pre' hpw1,e',selL_append]
   have h3:selL ((i,o,v)::post') (fun i=>listed.getD i false) x (look s0.slots x) = look s0.slots x:=by
    refine selL_skip fun q hq hlq hdq=>?_
    rcases List.mem_cons.1 hq with rfl | hq
    ·exact hjun' hlq
    ·obtain ⟨_,_,h5⟩:=hpw2.1 q hq
     rcases h5 with h5 | ⟨_,h5⟩
     ·obtain ⟨ed,h6,h7,h8⟩:=aft_spec h5
      have:=h2 q (by rw [e']; simp [hq]) hlq ed h6 h7
      rw [h8] at this
      exact hjun' this
     ·exact h5 x hdq hx
   rw [h3]
   refine selL_same fun q hq hdq=>?_
   obtain ⟨_,_,h5⟩:=hpw3 q hq (i,o,v) (List.mem_cons_self ..)
   rcases h5 with h5 | ⟨h5,_⟩
   ·obtain ⟨ed,h6,h7,h8⟩:=aft_spec h5
    rw [← h8]; exact hjall ed h6 h7
   ·exact absurd hx (h5 x hdq)
  have hbx':s.boxes = (runI pre' s0).boxes:=by rw [boxes_runI,hbx]
  have hcongr:∀ K,calmD P Γ s o K = calmD P Γ (runI pre' s0) o K:=calmD_congr (fun _=>by rw [hbx']) fun x hx=>by
   cases x with
   | tmp t=>exact hread t (by simp only [Oper.looksAt,List.mem_append,List.mem_filterMap]; exact .inl ⟨_,hx,rfl⟩)
   | _=>rfl
  -- and what comes after it is known
  have hnext:∀ a' w',Inv W0 F X N (putO s o.dst v) a' w'→wpAny P .any ops Q fuel (listed.setIfInBounds i true) a' w':=by
   intro a' w' hI'
   have hset:∀ k,(listed.setIfInBounds i true).getD k false = (decide (k = i) || listed.getD k false):=fun k=>by
    by_cases hk:i = k
    ·subst hk
     have:i < listed.size:=by rw [hsz]; exact hlt _ hit
     simp [this]
    ·have hk':k≠i:=fun e=>hk e.symm
     simp [Array.getElem?_setIfInBounds_ne hk,hk']
   have huniq:∀ q ∈ its,q.1 = i→q = (i,o,v):=fun q hq hqi=>by
    rw [e'] at hq
    rcases List.mem_append.1 hq with hq | hq
    ·exact absurd hqi (hpw3 q hq (i,o,v) (List.mem_cons_self ..)).1
    ·rcases List.mem_cons.1 hq with rfl | hq
     ·rfl
     ·exact absurd hqi.symm (hpw2.1 q hq).1
   refine ih fuel _ (putO s o.dst v) a' w' ?_ (by omega) (by simpa using hsz) (fun k hk=>?_) (fun q hq hl ed hed hbd=>?_) (by rw [boxes_putO,hbx]) (fun x=>?_) hI'
   ·have:=cnt_lt (l:=its) (p:=fun i=>listed.getD i false) (p':=fun k=>(listed.setIfInBounds i true).getD k false) (fun k hk=>by rw [hset,hk]; simp) hit hjun' (by rw [hset]; simp)
    omega
   ·rw [hset,h1 k hk]
    have:k≠i:=fun e=>hk _ hit e.symm
    simp [this]
   ·rw [hset] at hl ⊢
    by_cases hqi:q.1 = i
    ·have:=huniq q hq hqi
     subst this
     rw [hjall ed hed hbd]; simp
    ·have hlq:listed.getD q.1 false = true:=by simpa [hqi] using hl
     rw [h2 q hq hlq ed hed hbd]; simp
   ·rw [look_putO]
    by_cases hd:o.dst = some x
    ·rw [if_pos hd,e',selL_append]
     have h3:selL ((i,o,v)::post') (fun k=>(listed.setIfInBounds i true).getD k false) x (look s0.slots x) = v:=by
      simp only [selL]
      rw [if_pos ⟨by rw [hset]; simp,hd⟩]
     rw [h3]
     exact (selL_skip fun q hq _ hdq=>(hpw3 q hq (i,o,v) (List.mem_cons_self ..)).2.1 x hdq hd).symm
    ·rw [if_neg hd,hlk]
     refine selL_same fun q hq hdq=>?_
     show listed.getD q.1 false = (listed.setIfInBounds i true).getD q.1 false
     rw [hset]
     by_cases hqi:q.1 = i
     ·have:=huniq q hq hqi
      subst this
      exact absurd hdq hd
     ·simp [hqi]
  obtain ⟨β,hI⟩:=hInv
  have hrun:calmD P Γ (runI pre' s0) o (fun u=>u = v)→o.wp P a w (wpAny P .any ops Q fuel (listed.setIfInBounds i true)) Q:=fun h=>by
   rw [← hcongr] at h
   refine calm_wp hΓ hI (fun hb'=>?_) hdN h hnext
   obtain ⟨d,h1,h2⟩:=hfz _ hit hb'
   refine ⟨d,h1,?_⟩
   rintro (⟨cs,hcs⟩ | ⟨n,hn⟩ | ⟨k,cs,hk,c,hc',hn⟩)
   ·exact hN0 d h2 (.inl ⟨cs,by rw [← hbx]; exact hcs⟩)
   ·rw [hlk] at hn
    rcases selL_or (l:=its) (p:=fun i=>listed.getD i false) (x:=n) (base:=look s0.slots n) with h3 | ⟨q,hq,hlq,h3⟩
    ·rw [h3] at hn; exact hN0 d h2 (.inr (.inl ⟨n,hn⟩))
    ·rw [h3] at hn
     have hqd:=chain_ids its s0 hc q hq d h2 hn
     rw [e'] at hq
     rcases List.mem_append.1 hq with hq | hq
     ·exact (hpw3 q hq (i,o,v) (List.mem_cons_self ..)).2.1 d hqd h1
     ·rcases List.mem_cons.1 hq with rfl | hq
      ·exact hjun' hlq
      ·exact (hpw2.1 q hq).2.1 d h1 hqd
   ·exact hN0 d h2 (.inr (.inr ⟨k,cs,by rw [← hbx]; exact hk,c,hc',hn⟩))
  unfold wpOp
  rw [hoj]
  show if _ then _ else _
  cases hg:o.guard with
  | none =>
   unfold StepV at hstep
   rw [hg] at hstep
   rw [if_pos (by simp [Region.wanted,hg])]
   exact .inl (hrun hstep)
  | some p =>
   obtain ⟨gj,want⟩:=p
   unfold StepV at hstep
   rw [hg] at hstep
   obtain ⟨og,d,hgj,hgd,hstep⟩:=hstep
   have hd:look s.slots d = look (runI pre' s0).slots d:=hread d (by
    simp only [Oper.looksAt,hg,List.mem_append]
    refine .inr ?_
    have:ops[gj]? = some og:=by simpa using hgj
    simp [this,hgd])
   rcases hstep with ⟨h3,h4⟩ | ⟨h3,h4⟩
   ·have hgk : guardK N true s d want (fun _ => True) (fun _ => False) := by
     unfold guardK; rw [lookK_eq,hd,h3]
     cases want<;>trivial
    rcases guard_ok hI hgj hgd hgk with ⟨_,_,hy,_⟩ | ⟨_,_,_,h⟩
    ·rw [if_pos (by simp [Region.wanted,hg]; exact hy)]
     exact .inl (hrun h4)
    ·exact h.elim
   ·have hgk : guardK N true s d want (fun _ => False) (fun _ => True) := by
     unfold guardK; rw [lookK_eq,hd]
     rcases h3 with h3 | h3
     ·rw [h3]; cases want<;>trivial
     ·rw [h3]; trivial
    rcases guard_ok hI hgj hgd hgk with ⟨_,_,_,h⟩ | ⟨_,_,hy,_⟩
    ·exact h.elim
    ·rw [if_neg (by simp [Region.wanted,hg]; exact hy)]
     subst h4
     obtain ⟨s2,k1,k2⟩:=putIm_ok hI (Stp.refl _ w) (stPut_mk (K:=fun s'=>s' = putO s o.dst (.tup [])) hdN rfl) (undef_rel _ _)
     exact hnext _ _ (k1 ▸ ⟨β,k2⟩)

/-! ### a region's plan -/
inductive OT where
 | fin
 | finR
 | non
 | opt (i:Nat) (k alt:OT)
inductive Ph where
 | tree (n:Nat) (S:List Nat) (t:OT)
 | take (i:Nat)
 | one (i:Nat)
 | blk (B:List Nat) (fz:List Nat:=[])
 | blkE (B fz:List Nat) (e n:Nat) (S:List Nat) (t1 t2:OT)
 | two (i j:Nat)
 | twoT (i j t:Nat)
def phLen:Ph→Nat
 | .tree n _ _=>n
 | .blk B _=>B.length
 | .blkE B _ _ n _ _ _=>B.length + n
 | .two _ _=>2
 | .twoT _ _ _=>3
 | _=>1
def gStepK (N:Nat) (ops:List Oper) (o:Oper) (known:List Nat) (s:St) (run:(List Nat)→St→Prop) (skip:(List Nat)→St→Prop):Prop :=
 match o.guard with
 | none=>run known s
 | some (j,want)=>nthK ops j fun oj=>optK oj.dst fun d=>guardK N (inB j known) s d want (run (j::known)) (skip (j::known))
def noGuard (o:Oper) (K:Prop):Prop:=match o.guard with
 | none=>K
 | some _=>False
def vcOT (P:Program) (Γ:Ctx) (N:Nat) (ops:List Oper) (T:St):OT→St→Prop
 | .fin,s=>Wk s T
 | .finR,s=>∃ rn,renStK rn s fun s=>Wk s T
 | .non,_=>True
 | .opt i k alt,s=>(nthK ops i fun o=>noGuard o (opK P Γ N o s fun s=>vcOT P Γ N ops T k s))∧vcOT P Γ N ops T alt s
def heads:OT→List Nat
 | .opt i _ alt=>i::heads alt
 | _=>[]
def eqL:List Nat→List Nat→Bool
 | [],[]=>true
 | a::r,b::r'=>Nat.beq a b && eqL r r'
 | _,_=>false
theorem eqL_eq:∀ {l m:List Nat},eqL l m = true→l = m
 | [],[],_=>rfl
 | [],_::_,h=>nomatch h
 | _::_,[],h=>nomatch h
 | a::r,b::r',h=>by
  simp only [eqL,Bool.and_eq_true] at h
  rw [Nat.eq_of_beq_eq_true h.1,eqL_eq h.2]
def headOT (ops:Array Oper) (listed:Array Bool):OT→Bool
 | .fin=>true
 | .finR=>true
 | .non=>false
 | t=>eqL (Region.ready .any ops listed) (heads t)
def okOT (ops:Array Oper) (full:Array Bool):Nat→Array Bool→OT→Bool
 | n,listed,.fin=>Nat.beq n 0 && decide (listed = full)
 | n,listed,.finR=>Nat.beq n 0 && decide (listed = full)
 | _,_,.non=>true
 | n,listed,.opt i k alt=>(match n with
  | 0=>false
  | m + 1=>headOT ops (listed.setIfInBounds i true) k && okOT ops full m (listed.setIfInBounds i true) k) && okOT ops full n listed alt
def unnwK (N:Nat) (d:Nat) (s:St) (K:St→Prop):Prop:=lookK s.slots d fun v=>match v with
 | .ob i j (.nw zs)=>chkK (Nat.beq i d) (chkK (Nat.beq j d) (chkK (Nat.blt d N) (ofValsK zs fun cs=>mapVK (killK d) s.slots fun sl=>mapBK (killK d) s.boxes fun b=>setLK b d cs fun b=>setLK sl d (.pt d 0) fun sl=>K ⟨sl,b⟩)))
 | _=>K s
def unnwAllK (N:Nat):List Nat→St→(St→Prop)→Prop
 | [],s,K=>K s
 | d::r,s,K=>unnwK N d s fun s=>unnwAllK N r s K
theorem InvB.unnw (h:InvB W0 F X N s β a w) {d:Nat} {zs:List Value} (hd:d < N) (hv:look s.slots d = .ob d d (.nw zs)):InvB W0 F X N (((s.map (SX.kill d)).setBox d (ofVals zs)).put d (.pt d 0)) β a w:=by
 obtain ⟨b,T,h1,h2,h3,h4⟩:ObAt β (Own X s β) w d d (.nw zs) (a.tmps.getD d undef):=by have:=h.slots d; rw [hv] at this; exact this
 have hdN:Nm s d:=.inr (.inl ⟨d,by rw [hv]; simp [ids,ids0]⟩)
 have hNm:∀ m,Nm (((s.map (SX.kill d)).setBox d (ofVals zs)).put d (.pt d 0)) m→Nm s m:=by
  rintro m (⟨cs,hc⟩ | ⟨q,hq⟩ | ⟨k,cs,hk,c,hc,hm⟩)
  ·simp only [St.put,St.setBox,lookB_setL,St.map,lookB_mapB] at hc
   split at hc
   ·rename_i e; exact e ▸ hdN
   ·obtain ⟨cs0,k1,_⟩:=Option.map_eq_some_iff.1 hc
    exact .inl ⟨cs0,k1⟩
  ·simp only [St.put,St.setBox,look_setL] at hq
   split at hq
   ·have:m = d:=by simpa [ids,ids0] using hq
    exact this ▸ hdN
   ·simp only [St.map,look_mapV _ (kill_x d)] at hq
    exact .inr (.inl ⟨q,(kill_ids d _ m hq).1⟩)
  ·simp only [St.put,St.setBox,lookB_setL,St.map,lookB_mapB] at hk
   split at hk
   ·injection hk with hk
    subst hk
    rw [ofVals_ids zs c hc] at hm; cases hm
   ·obtain ⟨cs0,k1,rfl⟩:=Option.map_eq_some_iff.1 hk
    rw [mapC_eq] at hc
    obtain ⟨c',hc',rfl⟩:=List.mem_map.1 hc
    exact .inr (.inr ⟨k,cs0,k1,c',hc',(kill_ids d _ m hm).1⟩)
 have hO:∀ k,Own X (((s.map (SX.kill d)).setBox d (ofVals zs)).put d (.pt d 0)) β k→Own X s β k:=fun k hk=>hk.imp id fun ⟨n,hn,hb⟩=>⟨n,hNm n hn,hb⟩
 have key:∀ {v:AV} {u:Value},Rel β (Own X s β) w v u→Rel β (Own X (((s.map (SX.kill d)).setBox d (ofVals zs)).put d (.pt d 0)) β) w (SX.kill d v) u:=fun {v u} hr=>by
  rcases (kill_cases d v).1 with e | e
  ·rw [e]; exact hr.mono hO
  ·rw [e]; exact Rel.x
 refine h.upd (Stp.refl (fun _=>False) w) (fun _ _ h=>h.elim) (fun m=>?_) (fun m cs hcs=>?_) (fun k m g hk hm=>h.inj k m g (hNm k hk) (hNm m hm)) (fun m g hm hg=>h.own m g (hNm m hm) hg) rfl rfl (fun m cs g hc hp=>?_)
 ·simp only [St.put,look_setL]
  split
  ·rename_i e
   subst e
   exact Rel.rel0 (v:=a.tmps.getD d undef) (av:=.pt d 0) ⟨b,h1,h2⟩
  ·simp only [St.setBox,St.map,look_mapV _ (kill_x d)]
   exact key (h.slots m)
 ·simp only [St.put,St.setBox,lookB_setL,St.map,lookB_mapB] at hcs
  split at hcs
  ·rename_i e
   subst e
   injection hcs with hcs
   subst hcs
   exact ⟨b,zs.toArray,T,h1,h3,ofVals_all2 _ _ h4⟩
  ·obtain ⟨cs0,k1,rfl⟩:=Option.map_eq_some_iff.1 hcs
   obtain ⟨g,us,e,k2,k3,k4⟩:=h.boxes m cs0 k1
   refine ⟨g,us,e,k2,k3,?_⟩
   rw [mapC_eq]
   refine ⟨by simpa using k4.1,fun j c v hc hv=>?_⟩
   rw [List.getElem?_map,Option.map_eq_some_iff] at hc
   obtain ⟨c',hc',rfl⟩:=hc
   exact ⟨key (k4.2 j c' v hc' hv).1,(k4.2 j c' v hc' hv).2⟩
 ·simp only [St.put,St.setBox,lookB_setL,St.map,lookB_mapB] at hc
  split at hc
  ·rename_i e
   subst e
   rw [h.pinN d hd] at hp; cases hp
  ·obtain ⟨cs0,k1,_⟩:=Option.map_eq_some_iff.1 hc
   exact h.pin m cs0 g k1 hp
theorem unnwAll_ok (l:List Nat):∀ {s:St} {K:St→Prop},InvB W0 F X N s β a w→unnwAllK N l s K→∃ s',K s'∧InvB W0 F X N s' β a w:=by
 induction l with
 | nil=>intro s K hI h; exact ⟨s,h,hI⟩
 | cons d r ih =>
  intro s K hI h
  simp only [unnwAllK,unnwK,lookK_eq] at h
  split at h
  ·rename_i i j zs hv
   obtain ⟨h1,h⟩:=(chkK_iff _ _).1 h
   obtain ⟨h2,h⟩:=(chkK_iff _ _).1 h
   obtain ⟨h3,h⟩:=(chkK_iff _ _).1 h
   have h1:=Nat.eq_of_beq_eq_true h1
   have h2:=Nat.eq_of_beq_eq_true h2
   subst h1
   subst h2
   rw [ofValsK_eq,mapVK_eq (killK_eq _),mapBK_eq (killK_eq _)] at h
   simp only [setLK_eq] at h
   exact ih (hI.unnw (by rw [Nat.blt_eq] at h3; exact h3) hv) h
  ·exact ih hI h
def vcPlan (P:Program) (Γ:Ctx) (N:Nat) (ops:List Oper):List Ph→List Nat→St→(St→Prop)→Prop
 | [],_,s,Q=>Q s
 | .tree _ _ t::r,known,s,Q=>∃ T:St,vcOT P Γ N ops T t s∧vcPlan P Γ N ops r known T Q
 | .take i :: r, known, s, Q => nthK ops i fun o => gStepK N ops o known s (fun known s => valK Γ s o.op fun v => stPutK N s o.dst v fun s => vcPlan P Γ N ops r known s Q)
   (fun known s=>stPutK N s o.dst (.tup []) fun s=>vcPlan P Γ N ops r known s Q)
 | .one i :: r, known, s, Q => nthK ops i fun o => gStepK N ops o known s (fun known s => opK P Γ N o s fun s => vcPlan P Γ N ops r known s Q)
   (fun known s=>stPutK N s o.dst (.tup []) fun s=>vcPlan P Γ N ops r known s Q)
 | .two i j :: r, known, s, Q => ∃ T : St,
   (nthK ops i fun o=>nthK ops j fun o'=>noGuard o (noGuard o' (opK P Γ N o s fun s=>opK P Γ N o' s fun s=>Wk s T))) ∧
   (nthK ops j fun o=>nthK ops i fun o'=>noGuard o (noGuard o' (opK P Γ N o s fun s=>opK P Γ N o' s fun s=>Wk s T)))∧vcPlan P Γ N ops r known T Q
 | .twoT i j t :: r, known, s, Q => ∃ T : St,
   (nthK ops i fun o=>nthK ops j fun o'=>nthK ops t fun ot=>noGuard o (noGuard o' (noGuard ot (opK P Γ N o s fun s=>valK Γ s ot.op fun v=>stPutK N s ot.dst v fun s=>opK P Γ N o' s fun s=>Wk s T)))) ∧
   (nthK ops i fun o=>nthK ops j fun o'=>nthK ops t fun ot=>noGuard o (noGuard o' (noGuard ot (opK P Γ N o' s fun s=>opK P Γ N o s fun s=>valK Γ s ot.op fun v=>stPutK N s ot.dst v fun s=>Wk s T))))∧vcPlan P Γ N ops r known T Q
 | .blk B fz::r,known,s,Q=>frzAllK fz s fun s=>vcBlk P Γ N fz ops B known s fun s=>unnwAllK N fz s fun s=>vcPlan P Γ N ops r known s Q
 | .blkE B fz e _ _ t1 t2 :: r, known, s, Q => ∃ T : St, (frzAllK fz s fun s => vcBlk P Γ N fz ops B known s fun s =>
   (unnwAllK N fz s fun s=>vcOT P Γ N ops T t1 s)∧vcBlk P Γ N fz ops [e] [] s fun s=>unnwAllK N fz s fun s=>vcOT P Γ N ops T t2 s)∧vcPlan P Γ N ops r known T Q

def ppairB (ops:Array Oper) (e t:Nat × Oper):Bool :=
 !(Nat.beq e.1 t.1) && (match e.2.dst with
   | some d=>!(match t.2.dst with | some d'=>Nat.beq d d' | none=>false)
   | none=>true) &&
 (aft t.2 e.1 || ((match e.2.dst with
  | some d=>!(inB d (t.2.looksAt ops))
  | none=>true) && (match t.2.dst with
  | some d=>!(inB d (e.2.looksAt ops))
  | none=>true)))
def pairsB (ops:Array Oper):List (Nat × Oper)→Bool
 | []=>true
 | e::r=>r.all (ppairB ops e) && pairsB ops r
def prevB (listed:Array Bool):List Nat→List (Nat × Oper)→Bool
 | _,[]=>true
 | seen,(i,o)::r=>(o.after.all fun e=>!Region.binds .any e || listed.getD e.on false || inB e.on seen) && prevB listed (i::seen) r
def lastBB (oj:Oper):List (Nat × Oper)→Bool
 | []=>true
 | q::r=>(aft oj q.1 || r.any fun q'=>aft q'.2 q.1) && lastBB oj r
def pick (ops:Array Oper):List Nat→Option (List (Nat × Oper))
 | []=>some []
 | i::r=>match ops[i]?,pick ops r with
  | some o,some l=>some ((i,o)::l)
  | _,_=>none
def blkB (ops:Array Oper) (listed:Array Bool) (B:List Nat) (nB:Nat):Bool :=
 match pick ops B with
 | none=>false
 | some l=>(B.all fun i=>!(listed.getD i true)) && pairsB ops l && prevB listed [] l &&
  (List.range ops.size).all fun j=>listed.getD j true || inB j B || match ops[j]? with
   | some oj=>lastBB oj (l.take nB) || (List.range ops.size).any fun j'=>aft oj j' && !(listed.getD j' false) && !(inB j' B)
   | none=>true
def fzOK (fz:List Nat) (o:Oper):Bool:=match o.op with
 | .buildSlice _ _ _=>match o.dst with | some d=>inB d fz | none=>false
 | .alloc _=>match o.dst with | some d=>inB d fz | none=>false
 | _=>true
def planB (ops:Array Oper):Array Bool→List Ph→Bool
 | listed,[]=>(Region.ready .any ops listed).isEmpty
 | listed,.tree n S t::r=>headOT ops listed t && okOT ops (setAll listed S) n listed t && planB ops (setAll listed S) r
 | listed,.take i::r=>(Region.ready .any ops listed).contains i && Region.free .any ops listed i && planB ops (listed.setIfInBounds i true) r
 | listed,.one i::r=>(match Region.ready .any ops listed with
  | [j]=>Nat.beq i j
  | _=>false) && planB ops (listed.setIfInBounds i true) r
 | listed,.two i j::r=>(match Region.ready .any ops listed with
  | [i',j']=>Nat.beq i i' && Nat.beq j j'
  | _=>false) && (match Region.ready .any ops (listed.setIfInBounds i true) with
  | [j']=>Nat.beq j j'
  | _=>false) && (match Region.ready .any ops (listed.setIfInBounds j true) with
  | [i']=>Nat.beq i i'
  | _=>false) && planB ops ((listed.setIfInBounds i true).setIfInBounds j true) r
 | listed,.twoT i j t::r=>(match Region.ready .any ops listed with
  | [i',j']=>Nat.beq i i' && Nat.beq j j'
  | _=>false) && ((Region.ready .any ops (listed.setIfInBounds i true)).contains t && Region.free .any ops (listed.setIfInBounds i true) t) &&
  (match Region.ready .any ops ((listed.setIfInBounds i true).setIfInBounds t true) with
  | [j']=>Nat.beq j j'
  | _=>false) && (match Region.ready .any ops (listed.setIfInBounds j true) with
  | [i']=>Nat.beq i i'
  | _=>false) && ((Region.ready .any ops ((listed.setIfInBounds j true).setIfInBounds i true)).contains t && Region.free .any ops ((listed.setIfInBounds j true).setIfInBounds i true) t) &&
  decide (((listed.setIfInBounds i true).setIfInBounds t true).setIfInBounds j true = ((listed.setIfInBounds j true).setIfInBounds i true).setIfInBounds t true) && planB ops (((listed.setIfInBounds i true).setIfInBounds t true).setIfInBounds j true) r
 | listed,.blkE B fz e n S t1 t2::r=>(blkB ops listed (B++[e]) B.length && (B++[e]).all fun i=>match ops[i]? with | some o=>fzOK fz o | none=>false) &&
  (headOT ops (setAll listed B) t1 && okOT ops (setAll listed (B++S)) n (setAll listed B) t1) && (headOT ops (setAll listed (B++[e])) t2 && okOT ops (setAll listed (B++S)) (n - 1) (setAll listed (B++[e])) t2) && Nat.ble 1 n && planB ops (setAll listed (B++S)) r
 | listed,.blk B fz::r=>(blkB ops listed B B.length && B.all fun i=>match ops[i]? with | some o=>fzOK fz o | none=>false) && planB ops (setAll listed B) r
def planOK (ops:Array Oper) (pl:List Ph):Bool:=Region.noSelect ops && planB ops (Array.replicate ops.size false) pl && decide ((pl.map phLen).sum≤ops.size)

theorem pick_spec {B:List Nat}:∀ {l:List (Nat × Oper)},pick ops B = some l→∀ its:List Item,its.map (·.1) = B→(∀ it ∈ its,ops[it.1]? = some it.2.1)→its.map (fun q=>(q.1,q.2.1)) = l:=by
 induction B with
 | nil =>
  intro l h its h1 _
  injection h with h; subst h
  cases its with
  | nil=>rfl
  | cons _ _=>cases h1
 | cons i r ih =>
  intro l h its h1 h2
  cases its with
  | nil=>cases h1
  | cons q t =>
   obtain ⟨i',o,v⟩:=q
   simp only [List.map_cons,List.cons.injEq] at h1
   obtain ⟨rfl,h1⟩:=h1
   have h3:=h2 _ (List.mem_cons_self ..)
   have h3':ops[i']? = some o:=h3
   simp only [pick,h3'] at h
   cases hp:pick ops r with
   | none=>rw [hp] at h; cases h
   | some l' =>
    rw [hp] at h
    injection h with h
    subst h
    simp only [List.map_cons]
    rw [ih hp t h1 fun it hit=>h2 it (List.mem_cons_of_mem _ hit)]
theorem pairs_spec {its:List Item} (h:pairsB ops (its.map fun q=>(q.1,q.2.1)) = true):its.Pairwise (PairOK ops):=by
 induction its with
 | nil=>exact List.Pairwise.nil
 | cons e r ih =>
  simp only [List.map_cons,pairsB,Bool.and_eq_true,List.all_eq_true] at h
  refine List.Pairwise.cons (fun t ht=>?_) (ih h.2)
  have:=h.1 (t.1,t.2.1) (List.mem_map.2 ⟨t,ht,rfl⟩)
  simp only [ppairB,Bool.and_eq_true,Bool.or_eq_true] at this
  obtain ⟨⟨h1,h2⟩,h3⟩:=this
  refine ⟨fun e'=>by rw [e'] at h1; simp at h1,fun d hd hd'=>by rw [hd,hd'] at h2; simp at h2,h3.imp id fun h4=>⟨fun d hd hm=>?_,fun d hd hm=>?_⟩⟩
  ·have:=h4.1; rw [hd] at this; simp only [Bool.not_eq_true'] at this
   rw [inB_iff.2 hm] at this; cases this
  ·have:=h4.2; rw [hd] at this; simp only [Bool.not_eq_true'] at this
   rw [inB_iff.2 hm] at this; cases this
theorem prev_spec {listed : Array Bool} (its : List Item) : ∀ seen, prevB listed seen (its.map fun q => (q.1, q.2.1)) = true →
  ∀ pre q post,its = pre++q::post→∀ e ∈ q.2.1.after,Region.binds .any e = true→listed.getD e.on false = true∨e.on ∈ seen∨∃ r ∈ pre,r.1 = e.on:=by
 induction its with
 | nil=>intro seen _ pre q post e; cases pre<;>cases e
 | cons t r ih =>
  intro seen h pre q post e ed hed hbd
  simp only [List.map_cons,prevB,Bool.and_eq_true] at h
  cases pre with
  | nil =>
   simp only [List.nil_append,List.cons.injEq] at e
   obtain ⟨rfl,rfl⟩:=e
   have:=Array.all_eq_true_iff_forall_mem.1 h.1 ed hed
   simp only [Bool.or_eq_true,Bool.not_eq_true',hbd,Bool.true_eq_false,false_or] at this
   rcases this with h1 | h1
   ·exact .inl h1
   ·exact .inr (.inl (inB_iff.1 h1))
  | cons p pre =>
   simp only [List.cons_append,List.cons.injEq] at e
   obtain ⟨rfl,e⟩:=e
   rcases ih _ h.2 pre q post e ed hed hbd with h1 | h1 | ⟨r',h1,h2⟩
   ·exact .inl h1
   ·rcases List.mem_cons.1 h1 with h1 | h1
    ·exact .inr (.inr ⟨t,List.mem_cons_self .., h1.symm⟩)
    ·exact .inr (.inl h1)
   ·exact .inr (.inr ⟨r',List.mem_cons_of_mem _ h1,h2⟩)
theorem last_spec {oj:Oper} {its:List Item} (h:lastBB oj (its.map fun q=>(q.1,q.2.1)) = true):lastB oj its:=by
 induction its with
 | nil=>trivial
 | cons q r ih =>
  simp only [List.map_cons,lastBB,Bool.and_eq_true,Bool.or_eq_true] at h
  refine ⟨h.1.imp id fun h1=>?_,ih h.2⟩
  obtain ⟨x,h2,h3⟩:=List.any_eq_true.1 h1
  obtain ⟨q',h4,rfl⟩:=List.mem_map.1 h2
  exact ⟨q',h4,h3⟩
theorem blkB_spec {listed:Array Bool} {B:List Nat} {nB:Nat} (hsz:listed.size = ops.size) (h:blkB ops listed B nB = true) {its:List Item} (h1:its.map (·.1) = B) (h2:∀ it ∈ its,ops[it.1]? = some it.2.1):BlkOK ops listed its (its.take nB):=by
 unfold blkB at h
 cases hp:pick ops B with
 | none=>rw [hp] at h; cases h
 | some l =>
  rw [hp] at h
  have e:=pick_spec hp its h1 h2
  subst e
  simp only [Bool.and_eq_true,List.all_eq_true,List.mem_range] at h
  obtain ⟨⟨⟨h3,h4⟩,h5⟩,h6⟩:=h
  refine ⟨hsz,fun q hq=>?_,h2,pairs_spec h4,fun pre q post e ed hed hbd=>?_,fun j oj hoj hun hno=>?_⟩
  ·have:=h3 q.1 (by rw [← h1]; exact List.mem_map.2 ⟨q,hq,rfl⟩)
   simpa using this
  ·rcases prev_spec its [] h5 pre q post e ed hed hbd with h | h | h
   ·exact .inl h
   ·cases h
   ·exact .inr h
  ·have:=h6 j (Array.getElem?_eq_some_iff.1 hoj).1
   simp only [Bool.or_eq_true,hun,Bool.false_eq_true,false_or,hoj] at this
   rcases this with h7 | h7
   ·rw [← h1] at h7
    obtain ⟨q,hq,hqe⟩:=List.mem_map.1 (inB_iff.1 h7)
    exact absurd hqe (hno q hq)
   ·rcases h7 with h7 | h7
    ·exact .inl (last_spec (by rw [List.map_take]; exact h7))
    ·obtain ⟨j',_,h8⟩:=List.any_eq_true.1 h7
     simp only [Bool.and_eq_true,Bool.not_eq_true'] at h8
     refine .inr ⟨j',h8.1.1,h8.1.2,fun q hq e=>?_⟩
     have:=inB_iff (j:=j') (l:=B)
     rw [h8.2] at this
     have h9:j' ∈ B:=by rw [← h1,← e]; exact List.mem_map.2 ⟨q,hq,rfl⟩
     exact absurd (this.2 h9) (by simp)

theorem gStep_cases {o : Oper} {opl : List Oper} {known : List Nat} {run skip : List Nat → St → Prop} (hI : InvB W0 F X N s β a w) (h : gStepK N opl o known s run skip) :
  (∃ k s',InvB W0 F X N s' β a w∧Region.wanted o (yielded opl.toArray a.tmps) = true∧run k s')∨(∃ k s',InvB W0 F X N s' β a w∧Region.wanted o (yielded opl.toArray a.tmps) = false∧skip k s'):=by
 unfold gStepK at h
 cases hg:o.guard with
 | none=>rw [hg] at h; exact .inl ⟨known,s,hI,by simp [Region.wanted,hg],h⟩
 | some p =>
  obtain ⟨j,want⟩:=p
  rw [hg] at h
  obtain ⟨oj,hj,h⟩:=(nthK_iff _ _ _).1 h
  obtain ⟨d,hd,h⟩:=(optK_iff _ _).1 h
  rcases guard_ok hI hj hd h with ⟨s',h1,h2,h3⟩ | ⟨s',h1,h2,h3⟩
  ·exact .inl ⟨_,s',h1,by simp [Region.wanted,hg,h2],h3⟩
  ·exact .inr ⟨_,s',h1,by simp [Region.wanted,hg]; exact h2,h3⟩

theorem of_frzAll (fz:List Nat):∀ (s:St) (d:Nat),Nm (frzAll fz s) d→Nm s d:=by
 induction fz with
 | nil=>intro s d h; exact h
 | cons n r ih=>intro s d h; exact (Nm.of_frz (ih _ _ h)).1
theorem not_frzAll (fz:List Nat):∀ (s:St) (d:Nat),d ∈ fz→¬ Nm (frzAll fz s) d:=by
 induction fz with
 | nil=>intro s d h; cases h
 | cons n r ih =>
  intro s d h
  rcases List.mem_cons.1 h with rfl | h
  ·intro hm; exact not_frz s d (of_frzAll r _ _ hm)
  ·exact ih _ d h

theorem ot_ok (hΓ : Γ.good P) {Q' : Exit → Act → World → Prop} {full : Array Bool} {T : St} {fuel : Nat} (hfin : ∀ a w, Inv W0 F X N T a w → wpAny P .any ops Q' fuel full a w) (t : OT) :
  ∀ (n:Nat) (listed:Array Bool) (s:St) (a:Act) (w:World),okOT ops full n listed t = true→vcOT P Γ N ops.toList T t s→Inv W0 F X N s a w →
   (t = .fin∨t = .finR→wpAny P .any ops Q' (fuel + n) listed a w)∧∀ i ∈ heads t,∃ m,n = m + 1∧wpOp P ops Q' i (wpAny P .any ops Q' (fuel + m) (listed.setIfInBounds i true)) a w:=by
 induction t with
 | fin =>
  intro n listed s a w h1 h ⟨β,hI⟩
  refine ⟨fun _=>?_,fun i hi=>nomatch hi⟩
  simp only [okOT,Bool.and_eq_true,decide_eq_true_eq] at h1
  have hn:=Nat.eq_of_beq_eq_true h1.1
  subst hn
  rw [h1.2]
  exact hfin a w ⟨β,hI.wk h⟩
 | finR =>
  intro n listed s a w h1 h ⟨β,hI⟩
  refine ⟨fun _=>?_,fun i hi=>nomatch hi⟩
  simp only [okOT,Bool.and_eq_true,decide_eq_true_eq] at h1
  have hn:=Nat.eq_of_beq_eq_true h1.1
  subst hn
  rw [h1.2]
  obtain ⟨rn,h⟩:=h
  obtain ⟨s1,β1,h,hI1⟩:=renSt_ok rn hI h
  exact hfin a w ⟨β1,hI1.wk h⟩
 | non =>
  intro n listed s a w h1 h hI
  exact ⟨(fun e=>by rcases e with e | e<;>cases e),fun i hi=>nomatch hi⟩
 | opt i k alt ihk iha =>
  intro n listed s a w h1 h hI
  refine ⟨(fun e=>by rcases e with e | e<;>cases e),fun j hj=>?_⟩
  simp only [okOT,Bool.and_eq_true] at h1
  obtain ⟨hK,hA⟩:=h
  rcases List.mem_cons.1 hj with rfl | hj
  ·cases n with
   | zero=>exact absurd h1.1 Bool.false_ne_true
   | succ m =>
    refine ⟨m,rfl,?_⟩
    have h1:=h1.1
    simp only [Bool.and_eq_true] at h1
    obtain ⟨o,ho,hK⟩:=(nthK_iff _ _ _).1 hK
    have ho':ops[j]? = some o:=by simpa using ho
    cases hg:o.guard with
    | some _=>unfold noGuard at hK; rw [hg] at hK; exact hK.elim
    | none =>
     unfold noGuard at hK
     rw [hg] at hK
     obtain ⟨β,hI⟩:=hI
     unfold wpOp
     rw [ho']
     show if _ then _ else _
     rw [if_pos (by simp [Region.wanted,hg])]
     refine .inl (op_ok hΓ hI hK fun s1 a1 w1 k1 hI1=>?_)
     obtain ⟨q1,q2⟩:=ihk m _ s1 a1 w1 h1.2 k1 hI1
     cases k with
     | fin=>exact q1 (.inl rfl)
     | finR=>exact q1 (.inr rfl)
     | non=>exact absurd h1.1 Bool.false_ne_true
     | opt i' k' alt' =>
      have hr:Region.ready .any ops (listed.setIfInBounds j true) = heads (.opt i' k' alt'):=eqL_eq h1.1
      obtain ⟨m',hm,_⟩:=q2 i' (List.mem_cons_self ..)
      subst hm
      rw [← Nat.add_assoc]
      refine wpAny_all hr (by simp [heads]) fun p hp=>?_
      obtain ⟨m2,hm2,hw⟩:=q2 p hp
      obtain rfl:m' = m2:=by omega
      exact hw
  ·exact (iha n listed s a w h1.2 hA hI).2 j hj
theorem ot_any (hΓ : Γ.good P) {Q' : Exit → Act → World → Prop} {full : Array Bool} {T : St} {fuel : Nat} (hfin : ∀ a w, Inv W0 F X N T a w → wpAny P .any ops Q' fuel full a w) (t : OT) {n : Nat} {listed : Array Bool} {s : St} {a : Act} {w : World}
  (h0:headOT ops listed t = true) (h1:okOT ops full n listed t = true) (hT:vcOT P Γ N ops.toList T t s) (hI:Inv W0 F X N s a w):wpAny P .any ops Q' (fuel + n) listed a w:=by
 have q:=ot_ok hΓ hfin t n listed s a w h1 hT hI
 cases t with
 | fin=>exact q.1 (.inl rfl)
 | finR=>exact q.1 (.inr rfl)
 | non=>exact absurd h0 Bool.false_ne_true
 | opt i k alt =>
  have hr:Region.ready .any ops listed = heads (.opt i k alt):=eqL_eq h0
  obtain ⟨m,hm,_⟩:=q.2 i (List.mem_cons_self ..)
  rw [hm,← Nat.add_assoc]
  refine wpAny_all hr (by simp [heads]) fun p hp=>?_
  obtain ⟨m2,hm2,hw⟩:=q.2 p hp
  obtain rfl:m = m2:=by omega
  exact hw
theorem chain_app {fz:List Nat} {opl:List Oper} (l l':List Item):∀ s,Chain P Γ N fz opl l s→Chain P Γ N fz opl l' (runI l s)→Chain P Γ N fz opl (l++l') s:=by
 induction l with
 | nil=>intro s _ h; exact h
 | cons q r ih=>obtain ⟨i,o,v⟩:=q; intro s h h'; exact ⟨h.1,h.2.1,h.2.2.1,ih _ h.2.2.2 h'⟩
theorem runI_app (l l':List Item):∀ s,runI (l++l') s = runI l' (runI l s):=by
 induction l with
 | nil=>intro s; rfl
 | cons q r ih=>obtain ⟨i,o,v⟩:=q; intro s; exact ih _
theorem cnt_len (l:List Item) (p:Nat→Bool):cnt l p≤l.length:=by
 induction l with
 | nil=>exact Nat.le_refl _
 | cons q r ih=>simp only [cnt,List.length_cons]; split<;>omega
theorem plan_ok (hΓ : Γ.good P) {Q : St → Prop} {Q' : Exit → Act → World → Prop} (hQ : ∀ s a w, Q s → Inv W0 F X N s a w → Q' .normal a w) (hpan : ∀ c a a' w, Q' (.panic c) a w → Q' (.panic c) a' w) (hsel : Region.noSelect ops = true) (pl : List Ph) :
  ∀ (listed:Array Bool) (known:List Nat) (s:St) (fuel:Nat) (a:Act) (w:World),listed.size = ops.size→planB ops listed pl = true→(pl.map phLen).sum≤fuel →
   vcPlan P Γ N ops.toList pl known s Q→Inv W0 F X N s a w→wpAny P .any ops Q' fuel listed a w:=by
 induction pl with
 | nil =>
  intro listed known s fuel a w _ h1 _ h hI
  exact wpAny_done (List.isEmpty_iff.1 h1) (hQ s a w h hI) fuel
 | cons ph r ih =>
  intro listed known s fuel a w hsz h1 h2 h ⟨β,hI⟩
  cases ph with
  | tree n S t =>
   simp only [List.map_cons,List.sum_cons,phLen] at h2
   simp only [planB,Bool.and_eq_true] at h1
   obtain ⟨T,hT,hrest⟩:=(show ∃ T:St,vcOT P Γ N ops.toList T t s∧vcPlan P Γ N ops.toList r known T Q from h)
   have q:=ot_ok hΓ (Q':=Q') (fuel:=fuel - n) (fun a w hI=>ih _ _ _ _ _ _ ((setAll_size _ _).trans hsz) h1.2 (by omega) hrest hI) t n listed s a w h1.1.2 hT ⟨β,hI⟩
   rw [show fuel = fuel - n + n by omega]
   cases t with
   | fin=>exact q.1 (.inl rfl)
   | finR=>exact q.1 (.inr rfl)
   | non=>exact absurd h1.1.1 Bool.false_ne_true
   | opt i k alt =>
    have hr:Region.ready .any ops listed = heads (.opt i k alt):=eqL_eq h1.1.1
    obtain ⟨m,hm,_⟩:=q.2 i (List.mem_cons_self ..)
    rw [show fuel - n + n = (fuel - n + m) + 1 by omega]
    refine wpAny_all hr (by simp [heads]) fun p hp=>?_
    obtain ⟨m2,hm2,hw⟩:=q.2 p hp
    obtain rfl:m = m2:=by omega
    exact hw
  | take i =>
   simp only [List.map_cons,List.sum_cons,phLen] at h2
   obtain ⟨fuel,rfl⟩:∃ k,fuel = k + 1:=⟨fuel - 1,by omega⟩
   simp only [planB,Bool.and_eq_true] at h1
   obtain ⟨o,ho,h⟩:=(nthK_iff _ _ _).1 h
   have ho':ops[i]? = some o:=by simpa using ho
   have go:∀ {v u:_} {known':List Nat} {s1:St},InvB W0 F X N s1 β a w→Rel β (Own X s1 β) w v u→(∀ n ∈ ids v,Nm s1 n)→stPutK N s1 o.dst v (fun s=>vcPlan P Γ N ops.toList r known' s Q)→Yields P ops o u a→wpAny P .any ops Q' (fuel + 1) listed a w:=by
    intro v u known' s1 hI1 hr hids hK hy
    obtain ⟨s2,k1,k2⟩:=put_ok hI1 hK hr hids
    exact wpAny_take ho' hsel h1.1.2 h1.1.1 (fun c a w h=>hpan c _ _ w h) hy (ih _ _ _ _ _ _ (by simpa using hsz) h1.2 (by omega) k1 ⟨β,k2⟩)
   rcases gStep_cases hI h with ⟨k,s1,hI1,hw,h⟩ | ⟨k,s1,hI1,hw,h⟩
   ·obtain ⟨v,u,k1,k2,k3,k4⟩:=val_ok_all hΓ hI1 h
    exact go hI1 k2 k3 k1 (.inl ⟨by simpa using hw,k4⟩)
   ·exact go hI1 (Rel.im (undef_rel _ _)) (by intro n hn; cases hn) h (.inr ⟨by simpa using hw,rfl⟩)
  | one i =>
   simp only [List.map_cons,List.sum_cons,phLen] at h2
   obtain ⟨fuel,rfl⟩:∃ k,fuel = k + 1:=⟨fuel - 1,by omega⟩
   simp only [planB,Bool.and_eq_true] at h1
   obtain ⟨o,ho,h⟩:=(nthK_iff _ _ _).1 h
   have ho':ops[i]? = some o:=by simpa using ho
   have hr:Region.ready .any ops listed = [i]:=by
    have h3:=h1.1
    generalize Region.ready .any ops listed = rd at h3
    match rd with
    | []=>cases h3
    | [j]=>rw [Nat.eq_of_beq_eq_true h3]
    | _::_::_=>cases h3
   refine wpAny_all hr (by simp) fun j hj=>?_
   rw [List.mem_singleton] at hj
   rw [hj]
   unfold wpOp
   rw [ho']
   show if _ then _ else _
   rcases gStep_cases hI h with ⟨k,s1,hI1,hw,h⟩ | ⟨k,s1,hI1,hw,h⟩
   ·rw [if_pos (by simpa using hw)]
    exact .inl (op_ok hΓ hI1 h fun s' a' w' k1 k2=>ih _ _ _ _ _ _ (by simpa using hsz) h1.2 (by omega) k1 k2)
   ·rw [if_neg (by simpa using hw)]
    obtain ⟨s2,k1,k2⟩:=putIm_ok hI1 (Stp.refl _ w) h (undef_rel _ _)
    exact ih _ _ _ _ _ _ (by simpa using hsz) h1.2 (by omega) k1 ⟨β,k2⟩
  | two i j =>
   simp only [List.map_cons,List.sum_cons,phLen] at h2
   obtain ⟨fuel,rfl⟩:∃ k,fuel = k + 2:=⟨fuel - 2,by omega⟩
   simp only [planB,Bool.and_eq_true] at h1
   obtain ⟨⟨⟨hr,hri⟩,hrj⟩,h1⟩:=h1
   have hr:Region.ready .any ops listed = [i,j]:=by
    generalize Region.ready .any ops listed = rd at hr
    match rd with
    | []=>cases hr
    | [_]=>cases hr
    | [a,b]=>simp only [Bool.and_eq_true] at hr; rw [Nat.eq_of_beq_eq_true hr.1,Nat.eq_of_beq_eq_true hr.2]
    | _::_::_::_=>cases hr
   have hri:Region.ready .any ops (listed.setIfInBounds i true) = [j]:=by
    generalize Region.ready .any ops (listed.setIfInBounds i true) = rd at hri
    match rd with
    | []=>cases hri
    | [a]=>rw [Nat.eq_of_beq_eq_true hri]
    | _::_::_=>cases hri
   have hrj:Region.ready .any ops (listed.setIfInBounds j true) = [i]:=by
    generalize Region.ready .any ops (listed.setIfInBounds j true) = rd at hrj
    match rd with
    | []=>cases hrj
    | [a]=>rw [Nat.eq_of_beq_eq_true hrj]
    | _::_::_=>cases hrj
   obtain ⟨T,hij,hji,hrest⟩:=(show ∃ T:St,_∧_∧vcPlan P Γ N ops.toList r known T Q from h)
   have hcomm:(listed.setIfInBounds j true).setIfInBounds i true = (listed.setIfInBounds i true).setIfInBounds j true:=by
    by_cases hne:j = i
    ·rw [hne]
    ·exact Array.setIfInBounds_comm _ _ hne
   have go : ∀ {p q : Nat}, (nthK ops.toList p fun o => nthK ops.toList q fun o' => noGuard o (noGuard o' (opK P Γ N o s fun s => opK P Γ N o' s fun s => Wk s T))) →
     Region.ready .any ops (listed.setIfInBounds p true) = [q]→(listed.setIfInBounds p true).setIfInBounds q true = (listed.setIfInBounds i true).setIfInBounds j true→wpOp P ops Q' p (wpAny P .any ops Q' (fuel + 1) (listed.setIfInBounds p true)) a w:=by
    intro p q hK hrq hcm
    obtain ⟨o,ho,hK⟩:=(nthK_iff _ _ _).1 hK
    obtain ⟨o',ho2,hK⟩:=(nthK_iff _ _ _).1 hK
    have ho':ops[p]? = some o:=by simpa using ho
    have ho2':ops[q]? = some o':=by simpa using ho2
    cases hg:o.guard with
    | some _=>unfold noGuard at hK; rw [hg] at hK; exact hK.elim
    | none =>
     cases hg2:o'.guard with
     | some _=>unfold noGuard at hK; rw [hg,hg2] at hK; exact hK.elim
     | none =>
      unfold noGuard at hK
      rw [hg,hg2] at hK
      unfold wpOp
      rw [ho']
      show if _ then _ else _
      rw [if_pos (by simp [Region.wanted,hg])]
      refine .inl (op_ok hΓ hI hK fun s1 a1 w1 k1 ⟨β1,hI1⟩=>?_)
      refine wpAny_all hrq (by simp) fun k hk=>?_
      rw [List.mem_singleton] at hk
      subst hk
      unfold wpOp
      rw [ho2']
      show if _ then _ else _
      rw [if_pos (by simp [Region.wanted,hg2])]
      refine .inl (op_ok hΓ hI1 k1 fun s2 a2 w2 k2 ⟨β2,hI2⟩=>?_)
      rw [hcm]
      exact ih _ _ _ _ _ _ (by simpa using hsz) h1 (by omega) hrest ⟨β2,hI2.wk k2⟩
   refine wpAny_all hr (by simp) fun k hk=>?_
   rcases List.mem_cons.1 hk with rfl | hk
   ·exact go hij hri rfl
   ·rw [List.mem_singleton] at hk
    subst hk
    exact go hji hrj hcomm
  | twoT i j t =>
   simp only [List.map_cons,List.sum_cons,phLen] at h2
   obtain ⟨fuel,rfl⟩:∃ k,fuel = k + 3:=⟨fuel - 3,by omega⟩
   simp only [planB,Bool.and_eq_true,decide_eq_true_eq] at h1
   obtain ⟨⟨⟨⟨⟨⟨hr,ht1⟩,hr2⟩,hr3⟩,ht2⟩,hcm⟩,h1⟩:=h1
   have one:∀ {rd:List Nat} {q:Nat},(match rd with | [q']=>Nat.beq q q' | _=>false) = true→rd = [q]:=by
    intro rd q h
    match rd with
    | []=>cases h
    | [a]=>rw [Nat.eq_of_beq_eq_true h]
    | _::_::_=>cases h
   have hr:Region.ready .any ops listed = [i,j]:=by
    generalize Region.ready .any ops listed = rd at hr
    match rd with
    | []=>cases hr
    | [_]=>cases hr
    | [a,b]=>simp only [Bool.and_eq_true] at hr; rw [Nat.eq_of_beq_eq_true hr.1,Nat.eq_of_beq_eq_true hr.2]
    | _::_::_::_=>cases hr
   have hr2:=one hr2
   have hr3:=one hr3
   obtain ⟨T,hA,hB,hrest⟩:=(show ∃ T:St,_∧_∧vcPlan P Γ N ops.toList r known T Q from h)
   have ung : ∀ {K : Oper → Oper → Oper → Prop}, (nthK ops.toList i fun o => nthK ops.toList j fun o' => nthK ops.toList t fun ot => noGuard o (noGuard o' (noGuard ot (K o o' ot)))) →
     ∃ o o' ot,ops[i]? = some o∧ops[j]? = some o'∧ops[t]? = some ot∧o.guard = none∧o'.guard = none∧ot.guard = none∧K o o' ot:=by
    intro K hK
    obtain ⟨o,ho,hK⟩:=(nthK_iff _ _ _).1 hK
    obtain ⟨o',ho2,hK⟩:=(nthK_iff _ _ _).1 hK
    obtain ⟨ot,ho3,hK⟩:=(nthK_iff _ _ _).1 hK
    unfold noGuard at hK
    cases hg:o.guard with
    | some _=>rw [hg] at hK; exact hK.elim
    | none=>cases hg2:o'.guard with
     | some _=>rw [hg,hg2] at hK; exact hK.elim
     | none=>cases hg3:ot.guard with
      | some _=>rw [hg,hg2,hg3] at hK; exact hK.elim
      | none=>rw [hg,hg2,hg3] at hK; exact ⟨o,o',ot,by simpa using ho,by simpa using ho2,by simpa using ho3,by first | exact hg | rfl,by first | exact hg2 | rfl,by first | exact hg3 | rfl,hK⟩
   have run:∀ {p:Nat} {o:Oper} {s:St} {β:Nat→Option Nat} {a:Act} {w:World} {K:St→Prop} {nx:Act→World→Prop},ops[p]? = some o→o.guard = none→InvB W0 F X N s β a w→opK P Γ N o s K→(∀ s' a' w',K s'→Inv W0 F X N s' a' w'→nx a' w')→wpOp P ops Q' p nx a w:=by
    intro p o s β a w K nx ho hg hI hK hn
    unfold wpOp
    rw [ho]
    show if _ then _ else _
    rw [if_pos (by simp [Region.wanted,hg])]
    exact .inl (op_ok hΓ hI hK hn)
   have tak : ∀ {li : Array Bool} {ot : Oper} {s : St} {a : Act} {w : World} {f : Nat} {K : St → Prop}, ops[t]? = some ot → ot.guard = none → Region.free .any ops li t = true → (Region.ready .any ops li).contains t = true → Inv W0 F X N s a w →
     (valK Γ s ot.op fun v=>stPutK N s ot.dst v K)→(∀ s' a' w',K s'→Inv W0 F X N s' a' w'→wpAny P .any ops Q' f (li.setIfInBounds t true) a' w')→wpAny P .any ops Q' (f + 1) li a w:=by
    intro li ot s a w f K ho hg hfr hrd ⟨β,hI⟩ hK hn
    obtain ⟨v,u,k1,k2,k3,k4⟩:=val_ok_all hΓ hI hK
    obtain ⟨s2,k5,k6⟩:=put_ok hI k1 k2 k3
    exact wpAny_take ho hsel hfr hrd (fun c a w h=>hpan c _ _ w h) (.inl ⟨by simp [Region.wanted,hg],k4⟩) (hn _ _ _ k5 ⟨β,k6⟩)
   have fin:∀ s' a' w',Wk s' T→Inv W0 F X N s' a' w'→wpAny P .any ops Q' fuel (((listed.setIfInBounds i true).setIfInBounds t true).setIfInBounds j true) a' w':=fun s' a' w' k2 ⟨β2,hI2⟩ =>
    ih _ _ _ _ _ _ (by simpa using hsz) h1 (by omega) hrest ⟨β2,hI2.wk k2⟩
   refine wpAny_all hr (by simp) fun k hk=>?_
   rcases List.mem_cons.1 hk with rfl | hk
   ·obtain ⟨o,o',ot,e1,e2,e3,g1,g2,g3,hK⟩:=ung hA
    refine run e1 g1 hI hK fun s1 a1 w1 k1 hI1=>?_
    refine tak e3 g3 ht1.2 ht1.1 hI1 k1 fun s2 a2 w2 k2 ⟨β2,hI2⟩=>?_
    refine wpAny_all hr2 (by simp) fun k hk=>?_
    rw [List.mem_singleton] at hk
    subst hk
    exact run e2 g2 hI2 k2 fun s3 a3 w3 k3 hI3=>fin _ _ _ k3 hI3
   ·rw [List.mem_singleton] at hk
    subst hk
    obtain ⟨o,o',ot,e1,e2,e3,g1,g2,g3,hK⟩:=ung hB
    refine run e2 g2 hI hK fun s1 a1 w1 k1 ⟨β1,hI1⟩=>?_
    refine wpAny_all hr3 (by simp) fun k hk=>?_
    rw [List.mem_singleton] at hk
    subst hk
    refine run e1 g1 hI1 k1 fun s2 a2 w2 k2 hI2=>?_
    refine tak e3 g3 ht2.2 ht2.1 hI2 k2 fun s3 a3 w3 k3 hI3=>?_
    rw [← hcm]
    exact fin _ _ _ k3 hI3
  | blk B fz =>
   simp only [List.map_cons,List.sum_cons,phLen] at h2
   simp only [planB,Bool.and_eq_true] at h1
   have h:frzAllK fz s fun s=>vcBlk P Γ N fz ops.toList B known s fun s=>unnwAllK N fz s fun s=>vcPlan P Γ N ops.toList r known s Q:=h
   rw [frzAllK_eq] at h
   have hI:=hI.frzAll fz
   have hN0:∀ d ∈ fz,¬ Nm (frzAll fz s) d:=fun d hd hm=>not_frzAll fz s d hd hm
   obtain ⟨its,k1,k2,k3,t,k4,k5⟩:=blk_chain B known _ h _ (Eqv.refl _)
   have hb:=blkB_spec hsz h1.1.1 k1 (fun it hit=>by simpa using k2 it hit)
   have hlen:its.length = B.length:=by rw [← k1]; simp
   rw [List.take_of_length_le (Nat.le_of_eq hlen)] at hb
   refine blk_ok hΓ (itE:=[]) (List.append_nil its).symm (Nat.zero_le _) hb k3 (fun q hq ho=>?_) hN0 (f:=(r.map phLen).sum) (fun fuel a w hf hI=>?_) (fun h=>absurd rfl h) its.length fuel listed _ a w (cnt_len _ _) (by omega) hsz (fun _ _=>rfl) (fun q hq hl=>?_) rfl (fun x=>?_) ⟨β,hI⟩
   ·have h3:=List.all_eq_true.1 h1.1.2 q.1 (by rw [← k1]; exact List.mem_map.2 ⟨q,hq,rfl⟩)
    rcases ho with ⟨tt,len,ps,ho⟩ | ⟨tt,ho⟩
    all_goals simp only [hb.at' q hq,fzOK,ho] at h3
    all_goals cases hd:q.2.1.dst with
    | none=>rw [hd] at h3; cases h3
    | some d=>rw [hd] at h3; exact ⟨d,rfl,inB_iff.1 h3⟩
   ·rw [k1]
    obtain ⟨β,hI⟩:=hI
    obtain ⟨s9,k6,hI9⟩:=unnwAll_ok fz (Eqv.inv hI k4) k5
    exact ih _ _ _ _ _ _ ((setAll_size _ _).trans hsz) h1.2 hf k6 ⟨β,hI9⟩
   ·have:=hb.un q hq
    rw [getD_dflt (by rw [hsz]; exact (Array.getElem?_eq_some_iff.1 (hb.at' q hq)).1) true false,hl] at this
    cases this
   ·refine (selL_skip fun q hq hl=>?_).symm
    have:=hb.un q hq
    rw [getD_dflt (by rw [hsz]; exact (Array.getElem?_eq_some_iff.1 (hb.at' q hq)).1) true false] at this
    rw [show listed.getD q.1 false = true from hl] at this
    cases this
  | blkE B fz e n S t1 t2 =>
   simp only [List.map_cons,List.sum_cons,phLen] at h2
   simp only [planB,Bool.and_eq_true] at h1
   obtain ⟨⟨⟨⟨⟨h1a,h1b⟩,h1c⟩,h1d⟩,h1e⟩,h1f⟩:=h1
   have h1e:=Nat.le_of_ble_eq_true h1e
   obtain ⟨T,h,hrest⟩:=(show ∃ T:St,(frzAllK fz s fun s=>vcBlk P Γ N fz ops.toList B known s fun s =>
    (unnwAllK N fz s fun s=>vcOT P Γ N ops.toList T t1 s)∧vcBlk P Γ N fz ops.toList [e] [] s fun s=>unnwAllK N fz s fun s=>vcOT P Γ N ops.toList T t2 s)∧vcPlan P Γ N ops.toList r known T Q from h)
   rw [frzAllK_eq] at h
   have hI:=hI.frzAll fz
   have hN0:∀ d ∈ fz,¬ Nm (frzAll fz s) d:=fun d hd hm=>not_frzAll fz s d hd hm
   obtain ⟨itB,k1,k2,k3,t,k4,k5,k5'⟩:=blk_chain B known _ h _ (Eqv.refl _)
   obtain ⟨itE,m1,m2,m3,t',m4,m5⟩:=blk_chain [e] [] _ k5' _ k4
   have hlE:itE.length = 1:=by have:=congrArg List.length m1; simpa using this
   have hlB:itB.length = B.length:=by rw [← k1]; simp
   have hm:(itB++itE).map (·.1) = B++[e]:=by rw [List.map_append,k1,m1]
   have hb:=blkB_spec hsz h1a hm (fun it hit=>by
    rcases List.mem_append.1 hit with hit | hit
    ·simpa using k2 it hit
    ·simpa using m2 it hit)
   rw [← hlB,List.take_left] at hb
   have hfull:∀ fuel a w,(r.map phLen).sum≤fuel→Inv W0 F X N T a w→wpAny P .any ops Q' fuel (setAll listed (B++S)) a w:=fun fuel a w hf hI=>ih _ _ _ _ _ _ ((setAll_size _ _).trans hsz) h1f hf hrest hI
   refine blk_ok hΓ rfl (by omega) hb (chain_app itB itE _ k3 m3) (fun q hq ho=>?_) hN0 (f:=(r.map phLen).sum + (n - 1)) (fun fuel a w hf hI=>?_) (fun _ fuel a w hf hI=>?_) (itB++itE).length fuel listed _ a w (cnt_len _ _) (by rw [List.length_append,hlE,hlB]; omega) hsz (fun _ _=>rfl) (fun q hq hl=>?_) rfl (fun x=>?_) ⟨β,hI⟩
   ·have h3:=List.all_eq_true.1 h1b q.1 (by rw [← hm]; exact List.mem_map.2 ⟨q,hq,rfl⟩)
    rcases ho with ⟨tt,len,ps,ho⟩ | ⟨tt,ho⟩
    all_goals simp only [hb.at' q hq,fzOK,ho] at h3
    all_goals cases hd:q.2.1.dst with
    | none=>rw [hd] at h3; cases h3
    | some d=>rw [hd] at h3; exact ⟨d,rfl,inB_iff.1 h3⟩
   ·rw [hm]
    obtain ⟨β,hI⟩:=hI
    rw [runI_app] at hI
    obtain ⟨s9,k6,hI9⟩:=unnwAll_ok fz (Eqv.inv hI m4) m5
    rw [show fuel = (fuel - (n - 1)) + (n - 1) by omega]
    exact ot_any hΓ (fun a w hI=>hfull _ a w (by omega) hI) t2 h1d.1 h1d.2 k6 ⟨β,hI9⟩
   ·rw [k1]
    obtain ⟨β,hI⟩:=hI
    obtain ⟨s9,k6,hI9⟩:=unnwAll_ok fz (Eqv.inv hI k4) k5
    rw [show fuel = (fuel - n) + n by omega]
    exact ot_any hΓ (fun a w hI=>hfull _ a w (by omega) hI) t1 h1c.1 h1c.2 k6 ⟨β,hI9⟩
   ·have:=hb.un q hq
    rw [getD_dflt (by rw [hsz]; exact (Array.getElem?_eq_some_iff.1 (hb.at' q hq)).1) true false,hl] at this
    cases this
   ·refine (selL_skip fun q hq hl=>?_).symm
    have:=hb.un q hq
    rw [getD_dflt (by rw [hsz]; exact (Array.getElem?_eq_some_iff.1 (hb.at' q hq)).1) true false] at this
    rw [show listed.getD q.1 false = true from hl] at this
    cases this

theorem draw_ok (hΓ : Γ.good P) {Q : St → Prop} {Q' : Exit → Act → World → Prop} (hQ : ∀ s a w, Q s → Inv W0 F X N s a w → Q' .normal a w) {pl : List Ph} (hpl : planOK ops pl = true) {id : Nat}
  (h:vcPlan P Γ N ops.toList pl [] s Q) (hI:Inv W0 F X N s a w):(Code.region id ops true).wp P Q' a w:=by
 simp only [planOK,Bool.and_eq_true,decide_eq_true_eq] at hpl
 obtain ⟨⟨h1,h2⟩,h3⟩:=hpl
 obtain ⟨β,hI⟩:=hI
 have hdr:Inv W0 F X N s a { w with drawn:=w.drawn + 1 }:=⟨β,hI.grow ⟨rfl,rfl,rfl,Nat.le_refl _,fun _ _ _=>rfl⟩⟩
 refine wp_mono (Q:=fun e a w=>e = .normal∧Q' .normal a w) (wp_region_any hΓ.mixed (plan_ok hΓ (fun s a w h hI=>⟨rfl,hQ s a w h hI⟩) (fun c a a' w h=>by cases h.1) h1 pl _ [] s ops.size a _ (by simp) h2 h3 h hdr)) fun e a w ⟨e1,e2⟩=>by subst e1; exact e2
end
end Go.SX
end
section
namespace Go.SX
variable [Globs]
section
variable {P:Program} {N:Nat} {Γ:Ctx} {W0:World} {F:Fr} {X:Nat→Prop} {s:St} {β:Nat→Option Nat} {a:Act} {w:World}

def nlVecK (N:Nat):List (Nat × Nat × Ty)→St→(St→Prop)→Prop
 | [],s,K=>K s
 | (n,id,τ)::r,s,K=>stFrzK id s fun s=>lookK s.slots n fun v=>match v with
  | .nl=>stPutK N s (some n) (.vec id τ []) fun s=>nlVecK N r s K
  | .vec id' τ' l=>bif Nat.beq id' id then stPutK N s (some n) (.vec id' τ' l) fun s=>nlVecK N r s K else False
  | _=>False
theorem InvB.nlVec (hI:InvB W0 F X N s β a w) {n id:Nat} (hv:look s.slots n = .nl) (hfree:¬ Nm s id) (τ:Ty):InvB W0 F X N (s.put n (.vec id τ [])) (setβ β id none) a w:=by
 have hNm:∀ m,Nm (s.put n (.vec id τ [])) m→m = id∨(Nm s m∧m≠id):=by
  intro m hm
  by_cases e:m = id
  ·exact .inl e
  ·refine .inr ⟨?_,e⟩
   rcases hm with ⟨cs,h⟩ | ⟨q,h⟩ | ⟨b,cs,h,c,hc,hk⟩
   ·exact .inl ⟨cs,h⟩
   ·simp only [St.put,look_setL] at h
    split at h
    ·simp [SX.ids,ids0] at h; exact absurd h e
    ·exact .inr (.inl ⟨q,h⟩)
   ·exact .inr (.inr ⟨b,cs,h,c,hc,hk⟩)
 have hβ:∀ m,Nm s m→setβ β id none m = β m:=fun m hm=>by unfold setβ; rw [if_neg]; rintro rfl; exact hfree hm
 have hO:∀ k,k < w.heap.size→Own X (s.put n (.vec id τ [])) (setβ β id none) k→Own X s β k:=by
  rintro k _ (hX | ⟨m,hm,hb⟩)
  ·exact .inl hX
  rcases hNm m hm with rfl | ⟨hm,_⟩
  ·simp [setβ] at hb
  ·exact .inr ⟨m,hm,(hβ m hm) ▸ hb⟩
 have hk:∀ {av:AV} {v:Value},(∀ m ∈ SX.ids av,Nm s m)→Rel β (Own X s β) w av v→Rel (setβ β id none) (Own X (s.put n (.vec id τ [])) (setβ β id none)) w av v:=fun hav hrel =>
  hI.keep (Stp.refl (fun _=>False) w) (fun _ _ h=>h.elim) hO hrel (fun m hm=>hβ m (hav m hm)) (fun _ _ _ _=>rfl)
 refine hI.upd (Stp.refl (fun _=>False) w) (fun _ _ h=>h.elim) (fun m=>?_) (fun m cs hcs=>?_) (fun m k g hm hk h1 h2=>?_) (fun m g hm hg=>?_) rfl rfl (fun m cs g hc hp=>(hβ m (.inl ⟨cs,hc⟩)).trans (hI.pin m cs g hc hp))
 ·simp only [St.put,look_setL]
  by_cases e:n = m
  ·subst e
   simp only [if_true]
   have:=hI.slots n
   rw [hv] at this
   exact .inl ⟨rfl,this.inv_nl,by simp [setβ]⟩
  ·simp only [e,if_false]
   exact hk (fun k hk=>.inr (.inl ⟨m,hk⟩)) (hI.slots m)
 ·obtain ⟨g,us,e,h1,h2,h3⟩:=hI.boxes m cs hcs
  exact ⟨g,us,e,(hβ m (.inl ⟨cs,hcs⟩)).trans h1,h2,h3.mono fun j c v hc hr=>⟨hk (fun k hk=>.inr (.inr ⟨m,cs,hcs,c,List.mem_of_getElem? hc,hk⟩)) hr.1,hr.2⟩⟩
 ·rcases hNm m hm with rfl | ⟨hm,_⟩
  ·simp [setβ] at h1
  ·rcases hNm k hk with rfl | ⟨hk,_⟩
   ·simp [setβ] at h2
   ·rw [hβ m hm] at h1; rw [hβ k hk] at h2; exact hI.inj m k g hm hk h1 h2
 ·rcases hNm m hm with rfl | ⟨hm,_⟩
  ·simp [setβ] at hg
  ·rw [hβ m hm] at hg; exact hI.own m g hm hg

/-! ### the code -/
def LoopVC (N:Nat) (body:(Exit→St→Prop)→St→Prop) (Q:Exit→St→Prop) (s:St):Prop :=
 ∃ (cv:List (Nat × Nat × Ty)) (cb:List (Nat × Nat × Nat × Ty)) (rn:List (Nat × Nat)),nlVecK N cv s fun s=>nlBoxK cb s fun s=>renStK rn s fun s=>∃ (σ:Type) (I:σ→Prop) (S:σ→St) (μ:σ→Nat) (x:σ),I x∧Wk s (S x) ∧
  ∀ x,I x→body (fun e s'=>match e with
   | .normal=>∃ (rn:List (Nat × Nat)),renStK rn s' fun s'=>∃ x',I x'∧Wk s' (S x')∧μ x' < μ x
   | e=>Q e s') (S x)
def keepL {α:Type} (L:List Nat):List (Nat × α)→List (Nat × α)
 | []=>[]
 | (n,v)::r=>bif inB n L then (n,v)::keepL L r else keepL L r
def keepLK {α:Type} (L:List Nat):List (Nat × α)→(List (Nat × α)→Prop)→Prop
 | [],K=>K []
 | (n,v)::r,K=>bif inB n L then keepLK L r fun r'=>K ((n,v)::r') else keepLK L r K
theorem keepLK_eq {α:Type} (L:List Nat) (l:List (Nat × α)):∀ K,keepLK L l K = K (keepL L l):=by
 induction l with
 | nil=>intro K; rfl
 | cons p r ih=>intro K; obtain ⟨n,v⟩:=p; simp only [keepLK,keepL]; cases inB n L<;>simp [ih]
theorem look_keepL (L:List Nat) (l:List (Nat × AV)) (n:Nat):look (keepL L l) n = look l n∨look (keepL L l) n = .x:=by
 induction l with
 | nil=>exact .inl rfl
 | cons p r ih =>
  obtain ⟨m,v⟩:=p
  simp only [keepL]
  cases hL:inB m L with
  | true =>
   simp only [cond_true,look]
   cases hb:Nat.beq m n with
   | true=>exact .inl rfl
   | false=>exact ih
  | false =>
   simp only [cond_false,look]
   cases hb:Nat.beq m n with
   | true =>
    have:=Nat.eq_of_beq_eq_true hb
    subst this
    refine .inr ?_
    clear ih hb
    induction r with
    | nil=>rfl
    | cons q t ih =>
     obtain ⟨k,u⟩:=q
     simp only [keepL]
     cases hk:inB k L with
     | true =>
      have hne:k≠m:=fun e=>by rw [e,hL] at hk; cases hk
      simp only [cond_true,look,nbeq_ne hne,cond_false]
      exact ih
     | false=>exact ih
   | false=>exact ih
theorem lookB_keepL (L:List Nat) (l:List (Nat × List AV)) (n:Nat) (cs:List AV) (h:lookB (keepL L l) n = some cs):lookB l n = some cs:=by
 have key:inB n L = true→lookB (keepL L l) n = lookB l n:=by
  intro hn
  induction l with
  | nil=>rfl
  | cons p r ih =>
   obtain ⟨m,v⟩:=p
   simp only [keepL]
   cases hb:Nat.beq m n with
   | true =>
    have:=Nat.eq_of_beq_eq_true hb
    subst this
    simp [hn,lookB]
   | false =>
    have ih':=ih (by
     cases hL:inB m L with
     | true=>rw [keepL,hL,cond_true] at h; simp only [lookB,hb,cond_false] at h; exact h
     | false=>rw [keepL,hL,cond_false] at h; exact h)
    cases hL:inB m L with
    | true=>simp only [cond_true,lookB,hb,cond_false]; exact ih'
    | false=>simp only [cond_false,lookB,hb]; exact ih'
 cases hn:inB n L with
 | true=>rw [← key hn]; exact h
 | false =>
  exfalso
  clear key
  induction l with
  | nil=>cases h
  | cons p r ih =>
   obtain ⟨m,v⟩:=p
   simp only [keepL] at h
   cases hL:inB m L with
   | true =>
    have hne:m≠n:=fun e=>by rw [e,hn] at hL; cases hL
    rw [hL,cond_true] at h
    simp only [lookB,nbeq_ne hne,cond_false] at h
    exact ih h
   | false=>rw [hL,cond_false] at h; exact ih h
def stKeepK (L:List Nat) (s:St) (K:St→Prop):Prop:=match s with | ⟨sl,b⟩=>keepLK L sl fun sl=>keepLK L b fun b=>K ⟨sl,b⟩
theorem keep_ok (hI:InvB W0 F X N s β a w) {L:List Nat} {K:St→Prop} (h:stKeepK L s K):∃ s',K s'∧InvB W0 F X N s' β a w:=by
 obtain ⟨sl,b⟩:=s
 simp only [stKeepK,keepLK_eq] at h
 refine ⟨_,h,hI.less (Stp.refl _ _) ?_ (fun n=>?_) (fun n cs=>lookB_keepL L b n cs) rfl rfl⟩
 ·rintro n (⟨cs,hc⟩ | ⟨m,hm⟩ | ⟨k,cs,hk,c,hc,hn⟩)
  ·exact .inl ⟨cs,lookB_keepL L b n cs hc⟩
  ·rcases look_keepL L sl m with h1 | h1
   ·exact .inr (.inl ⟨m,by rw [← h1]; exact hm⟩)
   ·rw [h1] at hm; cases hm
  ·exact .inr (.inr ⟨k,cs,lookB_keepL L b k cs hk,c,hc,hn⟩)
 ·rcases look_keepL L sl n with h1 | h1
  ·exact ⟨n,.inl ⟨h1,rfl⟩⟩
  ·exact ⟨n,.inr (.inl (by rw [h1]; exact .x _))⟩

def vc (P:Program) (Γ:Ctx) (N:Nat) (L:List Nat):Code→(Exit→St→Prop)→St→Prop
 | .skip,Q,s=>Q .normal s
 | .region _ ops draw,Q,s=>match draw with
  | false=>vcOps P Γ N ops.toList ops.toList [] s fun s=>stKeepK L s (Q .normal)
  | true=>∃ pl,planOK ops pl = true∧vcPlan P Γ N ops.toList pl [] s fun s=>stKeepK L s (Q .normal)
 | .seq x y,Q,s=>vc P Γ N L x (fun e s'=>match e with
  | .normal=>vc P Γ N L y Q s'
  | e=>Q e s') s
 | .cond c x y,Q,s=>evK s c fun v=>match v with
  | .b t=>(t = true→vc P Γ N L x Q s)∧(t = false→vc P Γ N L y Q s)
  | _=>False
 | .block id c,Q,s=>vc P Γ N L c (fun e s'=>match e with
  | .exit id'=>bif Nat.beq id' id then Q .normal s' else Q (.exit id') s'
  | e=>Q e s') s
 | .exit id,Q,s=>Q (.exit id) s
 | .ret,Q,s=>Q .ret s
 | .label _,Q,s=>Q .normal s
 | .loop c,Q,s=>LoopVC N (vc P Γ N L c) Q s
 | .scope c,Q,s=>vc P Γ N L c (fun e s'=>match e with
  | .goto _=>False
  | e=>Q e s') s
 | _,_,_=>False

theorem lub (p:Nat→Prop) (h:∃ n,p n):∃ n,p n∧∀ m,p m→n≤m:=by
 obtain ⟨n,hn⟩:=h
 induction n using Nat.strongRecOn with
 | _ n ih =>
  by_cases hex:∃ m,m < n∧p m
  ·obtain ⟨m,hm,hpm⟩:=hex
   exact ih m hm hpm
  ·exact ⟨n,hn,fun m hm=>Nat.le_of_not_lt fun hlt=>hex ⟨m,hlt,hm⟩⟩
open Classical in
noncomputable def sInfN (p:Nat→Prop):Nat:=if h:∃ n,p n then Classical.choose (lub p h) else 0
theorem sInfN_mem {p:Nat→Prop} (h:∃ n,p n):p (sInfN p):=by
 unfold sInfN; rw [dif_pos h]; exact (Classical.choose_spec (lub p h)).1
theorem sInfN_le {p:Nat→Prop} {n:Nat} (h:p n):sInfN p≤n:=by
 unfold sInfN; rw [dif_pos ⟨n,h⟩]; exact (Classical.choose_spec (lub p ⟨n,h⟩)).2 n h
theorem wp_loop' {P : Program} {c : Code} {Q : Exit → Act → World → Prop} {σ : Type} (A : σ → Act → World → Prop) (μ : σ → Nat)
  (round:∀ x a w,A x a w→c.wp P (Exit.then (fun a' w'=>∃ x',A x' a' w'∧μ x' < μ x) Q) a w) {x:σ} {a:Act} {w:World} (h:A x a w):(Code.loop c).wp P Q a w:=by
 let I:Act→World→Prop:=fun a w=>∃ x,A x a w
 let least:Act→World→Nat:=fun a w=>sInfN fun n=>∃ x,A x a w∧μ x = n
 exact wp_loop I least ⟨x,h⟩ fun a w hI=>by
  obtain ⟨y,hy,hmin⟩:∃ y,A y a w∧μ y = least a w:=by
   obtain ⟨x,hx⟩:=hI
   have:=sInfN_mem (p:=fun n=>∃ x,A x a w∧μ x = n) ⟨μ x,x,hx,rfl⟩
   exact this
  refine wp_mono (round y a w hy) fun e a' w' hq=>?_
  cases e with
  | normal =>
   obtain ⟨x',h1,h2⟩:=hq
   refine ⟨⟨x',h1⟩,?_⟩
   have h3:least a' w'≤μ x':=sInfN_le (p:=fun n=>∃ x,A x a' w'∧μ x = n) ⟨x',h1,rfl⟩
   show least a' w' < least a w
   omega
  | _=>exact hq
theorem nlVec_ok (cv:List (Nat × Nat × Ty)):∀ {s:St} {β:Nat→Option Nat} {K:St→Prop},InvB W0 F X N s β a w→nlVecK N cv s K→∃ s' β',K s'∧InvB W0 F X N s' β' a w:=by
 induction cv with
 | nil=>intro s β K hI h; exact ⟨s,β,h,hI⟩
 | cons p r ih =>
  intro s β K hI h
  obtain ⟨n,id,τ⟩:=p
  have h:stFrzK id s fun s=>lookK s.slots n fun v=>match v with
   | .nl=>stPutK N s (some n) (.vec id τ []) fun s=>nlVecK N r s K
   | .vec id' τ' l=>bif Nat.beq id' id then stPutK N s (some n) (.vec id' τ' l) fun s=>nlVecK N r s K else False
   | _=>False:=h
  rw [stFrzK_eq,lookK_eq] at h
  have hI1:=hI.frz id
  cases hv:look (s.frz id).slots n with
  | nl =>
   rw [hv] at h
   have h:stPutK N (s.frz id) (some n) (.vec id τ []) fun s=>nlVecK N r s K:=h
   rw [stPutK_some] at h
   cases hb:Nat.blt n N with
   | false=>rw [hb] at h; exact h.elim
   | true =>
    rw [hb,cond_true] at h
    exact ih (hI1.nlVec hv (not_frz s id) τ) h
  | vec id' τ' l =>
   rw [hv] at h
   have h:bif Nat.beq id' id then stPutK N (s.frz id) (some n) (.vec id' τ' l) fun s=>nlVecK N r s K else False:=h
   cases hb:Nat.beq id' id with
   | false=>rw [hb] at h; exact h.elim
   | true =>
    have:=Nat.eq_of_beq_eq_true hb
    subst this
    exfalso
    exact not_frz s id' (.inr (.inl ⟨n,by rw [hv]; simp [SX.ids,ids0]⟩))
  | _=>rw [hv] at h; exact h.elim

theorem vc_ok (hΓ:Γ.good P) {L:List Nat} (c:Code):∀ (Q:Exit→St→Prop) (Q':Exit→Act→World→Prop) (s:St) (a:Act) (w:World),(∀ e s a w,Q e s→Inv W0 F X N s a w→Q' e a w)→vc P Γ N L c Q s→Inv W0 F X N s a w→c.wp P Q' a w:=by
 induction c with
 | skip=>intro Q Q' s a w hQ h hI; exact wp_skip (hQ _ _ _ _ h hI)
 | region id ops draw =>
  intro Q Q' s a w hQ h hI
  cases draw with
  | true =>
   obtain ⟨pl,hpl,h⟩:=(show ∃ pl,planOK ops pl = true∧vcPlan P Γ N ops.toList pl [] s fun s=>stKeepK L s (Q .normal) from h)
   exact draw_ok hΓ (fun s a w hk ⟨β,hI⟩=>by
    obtain ⟨s',h1,h2⟩:=keep_ok hI hk
    exact hQ .normal s' a w h1 ⟨β,h2⟩) hpl h hI
  | false=>exact wp_region_list (by
   have:=vcOps_ok hΓ (Q':=Q') (fun s a w hk ⟨β,hI⟩=>by
    obtain ⟨s',h1,h2⟩:=keep_ok hI hk
    exact hQ .normal s' a w h1 ⟨β,h2⟩) ops.toList [] s a w h hI
   simpa using this)
 | seq x y ihx ihy =>
  intro Q Q' s a w hQ h hI
  refine wp_seq (ihx _ _ s a w (fun e s' a' w' hq hI'=>?_) h hI)
  cases e with
  | normal=>exact ihy Q Q' s' a' w' hQ hq hI'
  | _=>exact hQ _ _ _ _ hq hI'
 | cond c x y ihx ihy =>
  intro Q Q' s a w hQ h hI
  have h:evK s c fun v=>match v with
   | .b t=>(t = true→vc P Γ N L x Q s)∧(t = false→vc P Γ N L y Q s)
   | _=>False:=h
  rw [evK_eq] at h
  obtain ⟨β,hI⟩:=hI
  have hr:=(ev_rel hI c).1
  cases hv:ev s c with
  | b t =>
   rw [hv] at h hr
   exact wp_cond_split hr.inv_b (fun ht=>ihx Q Q' s a w hQ (h.1 ht) ⟨β,hI⟩) (fun ht=>ihy Q Q' s a w hQ (h.2 ht) ⟨β,hI⟩)
  | _=>rw [hv] at h; exact h.elim
 | block id c ih =>
  intro Q Q' s a w hQ h hI
  refine wp_block (ih _ _ s a w (fun e s' a' w' hq hI'=>?_) h hI)
  cases e with
  | exit id' =>
   have hq:bif Nat.beq id' id then Q .normal s' else Q (.exit id') s':=hq
   cases hb:Nat.beq id' id with
   | true =>
    rw [hb] at hq
    have hq1:Q .normal s':=hq
    have e:=Nat.eq_of_beq_eq_true hb
    subst e
    simp only [Exit.inBlock,if_true]
    exact hQ _ _ _ _ hq1 hI'
   | false =>
    rw [hb] at hq
    have hne:id'≠id:=fun e=>by subst e; rw [Nat.beq_refl] at hb; cases hb
    simp only [Exit.inBlock,hne,if_false]; exact hQ _ _ _ _ hq hI'
  | _=>exact hQ _ _ _ _ hq hI'
 | loop c ih =>
  intro Q Q' s a w hQ h ⟨β,hI⟩
  obtain ⟨cv,cb,rn,h⟩:=(show LoopVC N (vc P Γ N L c) Q s from h)
  obtain ⟨s00,β00,h,hI00⟩:=nlVec_ok cv hI h
  obtain ⟨s0,β0,h,hI0⟩:=nlBox_ok cb hI00 h
  obtain ⟨s1,β1,⟨σ,I,S,μ,x,hix,hwk,hround⟩,hI1⟩:=renSt_ok rn hI0 h
  refine wp_loop' (fun x a w=>I x∧Inv W0 F X N (S x) a w) μ (fun x a w hIx=>?_) (x:=x) ⟨hix,β1,hI1.wk hwk⟩
  refine ih _ _ (S x) a w (fun e s' a' w' hq hI'=>?_) (hround x hIx.1) hIx.2
  cases e with
  | normal =>
   obtain ⟨rn,hq⟩:=hq
   obtain ⟨β',hI'⟩:=hI'
   obtain ⟨s2,β2,⟨x',h0,h1,h2⟩,hI2⟩:=renSt_ok rn hI' hq
   exact ⟨x',⟨h0,β2,hI2.wk h1⟩,h2⟩
  | _=>exact hQ _ _ _ _ hq hI'
 | exit id=>intro Q Q' s a w hQ h hI; exact wp_exit (hQ _ _ _ _ h hI)
 | ret=>intro Q Q' s a w hQ h hI; exact wp_ret (hQ _ _ _ _ h hI)
 | label l=>intro Q Q' s a w hQ h hI; exact wp_label (hQ _ _ _ _ h hI)
 | scope c ih =>
  intro Q Q' s a w hQ h hI
  refine wp_scope_straight (ih _ _ s a w (fun e s' a' w' hq hI'=>?_) h hI)
  cases e with
  | goto l=>exact (show False from hq).elim
  | _=>exact hQ _ _ _ _ hq hI'
 | _=>intro Q Q' s a w hQ h hI; exact h.elim
end
end Go.SX
end
section
namespace Go.SX
variable [Globs]
section
variable {P:Program} {N:Nat} {Γ:Ctx} {W0:World} {F:Fr} {X:Nat→Prop} {s:St} {β:Nat→Option Nat} {a:Act} {w:World}

def slotVecsK:List (Nat × AV)→(List Nat→Prop)→Prop
 | [],K=>K []
 | (_,.vec id _ _)::r,K=>slotVecsK r fun l=>K (id::l)
 | (_,.vs id _ _ _)::r,K=>slotVecsK r fun l=>K (id::l)
 | _::r,K=>slotVecsK r K
def slotVecs:List (Nat × AV)→List Nat
 | []=>[]
 | (_,.vec id _ _)::r=>id::slotVecs r
 | (_,.vs id _ _ _)::r=>id::slotVecs r
 | _::r=>slotVecs r
theorem slotVecsK_eq (l:List (Nat × AV)):∀ K,slotVecsK l K = K (slotVecs l):=by
 induction l with
 | nil=>intro K; rfl
 | cons p r ih=>intro K; obtain ⟨n,v⟩:=p; cases v<;>simp [slotVecsK,slotVecs,ih]
def boxVecsK:List (Nat × List AV)→(List Nat→Prop)→Prop
 | [],K=>K []
 | (_,l)::r,K=>vecsOfK l fun ids=>boxVecsK r fun l=>K (ids++l)
def boxVecs:List (Nat × List AV)→List Nat
 | []=>[]
 | (_,l)::r=>vecsOf l++boxVecs r
theorem boxVecsK_eq (l:List (Nat × List AV)):∀ K,boxVecsK l K = K (boxVecs l):=by
 induction l with
 | nil=>intro K; rfl
 | cons p r ih=>intro K; obtain ⟨n,v⟩:=p; simp [boxVecsK,boxVecs,vecsOfK_eq,ih]

def resK (Γ:Ctx) (s:St):ResultVar→(AV→Prop)→Prop
 | .tmp t,K=>lookK s.slots t fun v=>chkK (imB v) (chkK (fnArgs [v]) (K v))
 | .cell a t,K=>lookK s.slots a fun p=>loadVK Γ s t p fun v=>chkK (imB v) (chkK (fnArgs [v]) (K v))
def resAllK (Γ:Ctx) (s:St):List ResultVar→(List AV→Prop)→Prop
 | [],K=>K []
 | r::t,K=>resK Γ s r fun v=>resAllK Γ s t fun l=>K (v::l)
def oneTup:List AV→AV
 | [v]=>v
 | l=>.tup l
def retK (Γ:Ctx) (s:St) (rs:List ResultVar) (K:AV→Prop):Prop :=
 slotVecsK s.slots fun i1=>boxVecsK s.boxes fun i2=>frzAllK (i1++i2) s fun s=>resAllK Γ s rs fun l=>K (oneTup l)

def resOf (tmps:Array Value):ResultVar→Sem Value
 | .tmp t=>pure (tmps.getD t undef)
 | .cell a t=>do loadVar t (← asAddr (tmps.getD a undef))
theorem res_ok (hΓ:Γ.good P) (hI:InvB W0 F X N s β a w) {r:ResultVar} {K:AV→Prop} (h:resK Γ s r K):∃ v u,K v∧Im (Own X s β) w v u∧(resOf a.tmps r).run P w = .ok u w:=by
 cases r with
 | tmp t =>
  have h:lookK s.slots t fun v=>chkK (imB v) (chkK (fnArgs [v]) (K v)):=h
  rw [lookK_eq] at h
  obtain ⟨h1,h⟩:=(chkK_iff _ _).1 h
  obtain ⟨h2,h⟩:=(chkK_iff _ _).1 h
  exact ⟨_,_,h,im_of_rel (hI.slots t) h1 h2,rfl⟩
 | cell ad t =>
  have h:lookK s.slots ad fun p=>loadVK Γ s t p fun v=>chkK (imB v) (chkK (fnArgs [v]) (K v)):=h
  rw [lookK_eq] at h
  let o : Oper := { dst := none, op := .load t (.tmp ad), type := 0, pos := "", after := #[], guard := none }
  obtain ⟨v,u,h1,h2,_,h4⟩:=load_ok hΓ.ok hI (o:=o) (x:=.tmp ad) rfl (hI.slots ad) (fun n hn=>.inr (.inl ⟨ad,hn⟩)) h
  obtain ⟨h5,h1⟩:=(chkK_iff _ _).1 h1
  obtain ⟨h6,h1⟩:=(chkK_iff _ _).1 h1
  refine ⟨v,u,h1,im_of_rel h2 h5 h6,?_⟩
  have hp:=hI.slots ad
  -- a pointer lies there
  have hptr:∃ x,a.tmps.getD ad undef = .pointer (some x):=by
   cases hv:look s.slots ad with
   | pt n off=>rw [hv] at hp; obtain ⟨g,_,e⟩:=hp; exact ⟨_,e⟩
   | rp cs=>rw [hv] at hp; obtain ⟨g,off,e,_⟩:=Im.inv_rp hp; exact ⟨_,e⟩
   | vp id τ l n off=>rw [hv] at hp; obtain ⟨_,⟨g,_,e⟩,_⟩:=hp; exact ⟨_,e⟩
   | ob i i2 ob =>
    rw [hv] at h hp
    cases ob with
    | gp L k row n=>obtain ⟨_,⟨g,_,e⟩,_⟩:=hp; exact ⟨_,e⟩
    | _=>exact (show False from h).elim
   | _=>rw [hv] at h; exact h.elim
  obtain ⟨x,hx⟩:=hptr
  have h4':(Instr.loadAt t (a.tmps.getD ad undef)).run P w = .ok u w:=by
   simp only [execOp,o,Act.eval,Sem.run_bind] at h4
   cases hr:(Instr.loadAt t (a.tmps.getD ad undef)).run P w with
   | ok q w'=>rw [hr] at h4; simp at h4; obtain ⟨e1,e2⟩:=h4; subst e1 e2; rfl
   | halt q w'=>rw [hr] at h4; simp at h4
  rw [hx] at h4'
  simp only [resOf,hx]
  simpa [Instr.loadAt,Instr.sureAddr,asAddr] using h4'
theorem resAll_ok (hΓ:Γ.good P) (hI:InvB W0 F X N s β a w) (rs:List ResultVar):∀ {K:List AV→Prop},resAllK Γ s rs K→∃ vs us,K vs∧All2 (Im (Own X s β) w) vs us∧(rs.mapM (resOf a.tmps)).run P w = .ok us w:=by
 induction rs with
 | nil=>intro K h; exact ⟨[],[],h,All2.nil _,rfl⟩
 | cons r t ih =>
  intro K h
  obtain ⟨v,u,h,h1,h2⟩:=res_ok hΓ hI (show resK Γ s r fun v=>resAllK Γ s t fun l=>K (v::l) from h)
  obtain ⟨vs,us,h3,h4,h5⟩:=ih h
  refine ⟨v::vs,u::us,h3,All2.cons h1 h4,?_⟩
  rw [List.mapM_cons]
  simp only [Sem.run_bind,h2,Result.andThen_ok]
  rw [h5]
  rfl
theorem results_eq (fn:Func) (tmps:Array Value):results fn tmps = (do let vs ← fn.results.mapM (resOf tmps); pure (if h:vs.size = 1 then vs[0] else .tuple vs)):=by
 unfold results
 congr 1
theorem resOneK_ok (hΓ:Γ.good P) (hI:InvB W0 F X N s β a w) {fn:Func} {K:AV→Prop} (h:resAllK Γ s fn.results.toList fun l=>K (oneTup l)):∃ v u,K v∧Im (Own X s β) w v u∧(results fn a.tmps).run P w = .ok u w:=by
 obtain ⟨vs,us,h1,h2,h3⟩:=resAll_ok hΓ hI _ h
 have hrun:(results fn a.tmps).run P w = .ok (if h:us.toArray.size = 1 then us.toArray[0] else .tuple us.toArray) w:=by
  rw [results_eq,Array.mapM_eq_mapM_toList]
  simp only [Sem.run_bind,Sem.run_map,h3,Result.andThen_ok,Sem.run_pure]
 rcases us with _ | ⟨u,_ | ⟨u',r⟩⟩
 ·have:=h2.1
  have hv:vs = []:=List.eq_nil_of_length_eq_zero (by simpa using this)
  subst hv
  exact ⟨.tup [],.tuple #[],h1,.tup [] [] rfl (by simp),by rw [hrun]; rfl⟩
 ·obtain ⟨v, rfl⟩ : ∃ v, vs = [v] := by
   have:=h2.1
   match vs,this with
   | [v],_=>exact ⟨v,rfl⟩
  exact ⟨v,u,h1,h2.head,by rw [hrun]; rfl⟩
 ·obtain ⟨v, v', t, rfl⟩ : ∃ v v' t, vs = v :: v' :: t := by
   have:=h2.1
   match vs,this with
   | v::v'::t,_=>exact ⟨v,v',t,rfl⟩
  refine ⟨.tup (v::v'::t),.tuple (u::u'::r).toArray,h1,.tup _ _ h2.1 h2.2,?_⟩
  rw [hrun,dif_neg (by simp)]
theorem ret_ok (hΓ:Γ.good P) (hI:InvB W0 F X N s β a w) {fn:Func} {K:AV→Prop} (h:retK Γ s fn.results.toList K):∃ v u,K v∧Im X w v u∧(results fn a.tmps).run P w = .ok u w:=by
 unfold retK at h
 rw [slotVecsK_eq,boxVecsK_eq,frzAllK_eq] at h
 obtain ⟨v,u,h1,h2,h3⟩:=resOneK_ok hΓ (hI.frzAll (slotVecs s.slots++boxVecs s.boxes)) (K:=K) h
 exact ⟨v,u,h1,h2.mono fun k hk=>.inl hk,h3⟩

def postK (Γ:Ctx) (rs:List ResultVar) (R:AV→Prop) (e:Exit) (s:St):Prop :=
 match e with
 | .normal=>retK Γ s rs R
 | .ret=>retK Γ s rs R
 | _=>False

theorem pspec_of_vc (hΓ : Γ.good P) {f : FuncId} {fn : Func} {c : Code} (hf : P.funcs[f]? = some fn) (hb : fn.body = some c) (hcall : ∀ (vs : Array Value) (w : World), (callFunc f vs).run P w = .ok (.enter f vs) w)
  {rs:Array ResultVar} (hrs:fn.results = rs) (hN:fn.ntmps = N) {args:List AV} {r:AV} {L:List Nat} (hlen:args.length≤N)
  (hvc:vc P Γ N L c (postK Γ rs.toList (fun v=>v = r)) ⟨argSlots 0 args,[]⟩):PSpec P f args r:=by
 refine ⟨hcall,fun O w vs hO hG hargs=>?_⟩
 refine calls_of_wp hf hb ?_
 have hsz:vs.length = args.length:=hargs.1.symm
 have hI:InvB w Fr.none O N ⟨argSlots 0 args,[]⟩ (fun _=>none) { tmps:=vs.toArray++Array.replicate (fn.ntmps - vs.toArray.size) undef,defers:=[] } w:=by
  have hNm:∀ n,¬ Nm ⟨argSlots 0 args,[]⟩ n:=by
   rintro n (⟨cs,h⟩ | ⟨m,h⟩ | ⟨b,cs,h,_⟩)
   ·cases h
   ·have:=look_args args 0 m
    rw [Nat.zero_add] at this
    simp only [this] at h
    by_cases hm:m < args.length
    ·rw [List.getD_eq_getElem?_getD,List.getElem?_eq_getElem hm] at h
     have:=(hargs.2 m _ _ (List.getElem?_eq_getElem hm) (List.getElem?_eq_getElem (by rw [hsz]; exact hm))).ids_nil
     rw [show (some args[m]).getD AV.x = args[m] from rfl,this] at h
     cases h
    ·rw [List.getD_eq_getElem?_getD,List.getElem?_eq_none (by omega)] at h
     simp [ids,ids0] at h
   ·cases h
  refine ⟨Stp.refl _ _,fun n=>?_,?_,fun n cs h=>(by cases h),fun n m g hn=>absurd hn (hNm n),fun n g hn=>absurd hn (hNm n),rfl,fun k hk=>⟨hO k hk,id⟩,fun n cs g h=>(by cases h),fun _ _=>rfl,hG.step (Stp.refl (fun _=>False) w) (fun _ _ h=>h.elim) fun k _ hk=>hk.elim id fun h=>h.elim⟩
  ·have h1:=look_args args 0 n
   rw [Nat.zero_add] at h1
   show Rel _ _ _ (look (argSlots 0 args) n) _
   rw [h1]
   by_cases hm:n < args.length
   ·have hmv:n < vs.length:=by rw [hsz]; exact hm
    have h2:=hargs.2 n _ _ (List.getElem?_eq_getElem hm) (List.getElem?_eq_getElem hmv)
    rw [List.getD_eq_getElem?_getD,List.getElem?_eq_getElem hm]
    have h3:(vs.toArray++Array.replicate (fn.ntmps - vs.toArray.size) undef).getD n undef = vs[n]:=by
     rw [Array.getD_eq_getD_getElem?,Array.getElem?_append_left (by simpa using hmv)]
     simp [hmv]
    rw [h3]
    refine Rel.im (h2.mono fun k hk=>?_)
    rcases hk with hk | ⟨m,hm',_⟩
    ·exact hk
    ·exact absurd hm' (hNm m)
   ·rw [List.getD_eq_getElem?_getD,List.getElem?_eq_none (by omega)]
    exact Rel.x
  ·show (vs.toArray++Array.replicate (fn.ntmps - vs.toArray.size) undef).size = N
   simp only [Array.size_append,List.size_toArray,Array.size_replicate,hN,hsz]
   omega
 refine vc_ok (W0:=w) (F:=Fr.none) (X:=O) hΓ c _ _ _ _ _ (fun e s a w' hq ⟨β,hI'⟩=>?_) hvc ⟨_,hI⟩
 have key:retK Γ s rs.toList (fun v=>v = r)→a.defers = []∧∃ v,(results fn a.tmps).run P w' = .ok v w'∧∃ v',Ending.returned v = .returned v'∧Stp (fun _=>False) w w'∧Im O w' r v':=by
  intro h
  rw [← hrs] at h
  obtain ⟨v,u,rfl,h1,h2⟩:=ret_ok hΓ hI' h
  exact ⟨hI'.defers,u,h2,u,rfl,hI'.ext,h1⟩
 cases e with
 | normal=>exact key hq
 | ret=>exact key hq
 | _=>exact hq.elim

/-! ### contracts that write what they are handed -/
def resBK (Γ:Ctx) (s:St):ResultVar→(AV→Prop)→Prop
 | .tmp t,K=>lookK s.slots t K
 | .cell a t,K=>lookK s.slots a fun p=>loadVK Γ s t p K
def resBAllK (Γ:Ctx) (s:St):List ResultVar→(List AV→Prop)→Prop
 | [],K=>K []
 | r::t,K=>resBK Γ s r fun v=>resBAllK Γ s t fun l=>K (v::l)
def oneTupB:List AV→AV
 | .ag 0 (c::cs)::v::r=>.ag (cs.length + 1) (c::cs++v::r)
 | l=>oneTup l
def okR:List AV→Bool
 | .ag 0 (_::_)::v::r=>gr0All (v::r)
 | [.ag 0 _]=>true
 | l=>noFn l
theorem okR_cases {vs:List AV} (h:okR vs = true):(∃ c cs v r,vs = .ag 0 (c::cs)::v::r∧gr0All (v::r) = true)∨(oneTupB vs = oneTup vs∧(vs.length≠1→noFn vs = true)):=by
 unfold okR at h
 split at h
 ·exact .inl ⟨_,_,_,_,rfl,h⟩
 ·rename_i cs
  exact .inr ⟨by cases cs<;>rfl,fun h=>absurd rfl h⟩
 ·rename_i h1 _
  refine .inr ⟨?_,fun _=>h⟩
  unfold oneTupB
  split
  ·exact absurd rfl (h1 _ _ _ _)
  ·rfl
def endK (Γ:Ctx) (rs:List ResultVar) (r:AV) (boxes':List (Nat × List AV)) (s:St):Prop :=
 ∃ rn,renStK rn s fun s=>resBAllK Γ s rs fun l=>chkK (okR l) (oneTupB l = r)∧wkB s boxes'
def postBK (Γ:Ctx) (rs:List ResultVar) (r:AV) (boxes':List (Nat × List AV)) (e:Exit) (s:St):Prop :=
 match e with
 | .normal=>endK Γ rs r boxes' s
 | .ret=>endK Γ rs r boxes' s
 | _=>False

theorem resB_ok (hΓ:Γ.good P) (hI:InvB W0 F X N s β a w) {r:ResultVar} {K:AV→Prop} (h:resBK Γ s r K):∃ v u,K v∧Rel β (Own X s β) w v u∧(∀ n ∈ ids v,Nm s n)∧(resOf a.tmps r).run P w = .ok u w:=by
 cases r with
 | tmp t =>
  have h:lookK s.slots t K:=h
  rw [lookK_eq] at h
  exact ⟨_,_,h,hI.slots t,fun n hn=>.inr (.inl ⟨t,hn⟩),rfl⟩
 | cell ad t =>
  have h:lookK s.slots ad fun p=>loadVK Γ s t p K:=h
  rw [lookK_eq] at h
  let o : Oper := { dst := none, op := .load t (.tmp ad), type := 0, pos := "", after := #[], guard := none }
  obtain ⟨v,u,h1,h2,h3,h4⟩:=load_ok hΓ.ok hI (o:=o) (x:=.tmp ad) rfl (hI.slots ad) (fun n hn=>.inr (.inl ⟨ad,hn⟩)) h
  refine ⟨v,u,h1,h2,h3,?_⟩
  have hp:=hI.slots ad
  have hptr:∃ x,a.tmps.getD ad undef = .pointer (some x):=by
   cases hv:look s.slots ad with
   | pt n off=>rw [hv] at hp; obtain ⟨g,_,e⟩:=hp; exact ⟨_,e⟩
   | rp cs=>rw [hv] at hp; obtain ⟨g,off,e,_⟩:=Im.inv_rp hp; exact ⟨_,e⟩
   | vp id τ l n off=>rw [hv] at hp; obtain ⟨_,⟨g,_,e⟩,_⟩:=hp; exact ⟨_,e⟩
   | ob i i2 ob =>
    rw [hv] at h hp
    cases ob with
    | gp L k row n=>obtain ⟨_,⟨g,_,e⟩,_⟩:=hp; exact ⟨_,e⟩
    | _=>exact (show False from h).elim
   | _=>rw [hv] at h; exact h.elim
  obtain ⟨x,hx⟩:=hptr
  have h4':(Instr.loadAt t (a.tmps.getD ad undef)).run P w = .ok u w:=by
   simp only [execOp,o,Act.eval,Sem.run_bind] at h4
   cases hr:(Instr.loadAt t (a.tmps.getD ad undef)).run P w with
   | ok q w'=>rw [hr] at h4; simp at h4; obtain ⟨e1,e2⟩:=h4; subst e1 e2; rfl
   | halt q w'=>rw [hr] at h4; simp at h4
  rw [hx] at h4'
  simp only [resOf,hx]
  simpa [Instr.loadAt,Instr.sureAddr,asAddr] using h4'
theorem resBAll_ok (hΓ:Γ.good P) (hI:InvB W0 F X N s β a w) (rs:List ResultVar):∀ {K:List AV→Prop},resBAllK Γ s rs K→∃ vs us,K vs∧All2 (Rel β (Own X s β) w) vs us∧(∀ c ∈ vs,∀ n ∈ ids c,Nm s n)∧(rs.mapM (resOf a.tmps)).run P w = .ok us w:=by
 induction rs with
 | nil=>intro K h; exact ⟨[],[],h,All2.nil _,(by intro c hc; cases hc),rfl⟩
 | cons r t ih =>
  intro K h
  obtain ⟨v,u,h,h1,h0,h2⟩:=resB_ok hΓ hI (show resBK Γ s r fun v=>resBAllK Γ s t fun l=>K (v::l) from h)
  obtain ⟨vs,us,h3,h4,h6,h5⟩:=ih h
  refine ⟨v::vs,u::us,h3,All2.cons h1 h4,fun c hc=>?_,?_⟩
  ·rcases List.mem_cons.1 hc with rfl | hc
   ·exact h0
   ·exact h6 c hc
  rw [List.mapM_cons]
  simp only [Sem.run_bind,h2,Result.andThen_ok]
  rw [h5]
  rfl
theorem end_ok (hΓ : Γ.good P) (hN : 1 ≤ N) (hI : InvB W0 F X N s β a w) {fn : Func} {r : AV} {boxes' : List (Nat × List AV)} (h : endK Γ fn.results.toList r boxes' s) :
  ∃ u β',(results fn a.tmps).run P w = .ok u w∧InvB W0 { F with dfr:=[] } X 1 ⟨[(0,r)],boxes'⟩ β' ⟨#[u],[]⟩ w:=by
 obtain ⟨rn,h⟩:=h
 obtain ⟨s1,β1,h,hI1⟩:=renSt_ok rn hI h
 obtain ⟨vs,us,⟨h1,hwk⟩,h3,h4,h5⟩:=resBAll_ok hΓ hI1 _ h
 obtain ⟨hnf,rfl⟩:=(chkK_iff _ _).1 h1
 have hrun:(results fn a.tmps).run P w = .ok (if h:us.toArray.size = 1 then us.toArray[0] else .tuple us.toArray) w:=by
  rw [results_eq,Array.mapM_eq_mapM_toList]
  simp only [Sem.run_bind,Sem.run_map,h5,Result.andThen_ok,Sem.run_pure]
 -- the result as one value
 have hone:∃ u,(if h:us.toArray.size = 1 then us.toArray[0] else .tuple us.toArray) = u∧Rel β1 (Own X s1 β1) w (oneTupB vs) u∧∀ n ∈ ids (oneTupB vs),Nm s1 n:=by
  rcases okR_cases hnf with ⟨c,cs,v,r,rfl,hnf⟩ | ⟨he,hnf⟩
  ·obtain ⟨u0,us0,rfl,⟨ws,hw,hw2,hw3⟩,h6⟩:=h3.cons_inv
   have hl:us0.length = (v::r).length:=h6.1.symm
   have hg:∀ (j:Nat) d u,(v::r)[j]? = some d→us0[j]? = some u→Rel0 β1 (Own X s1 β1) w d u∧u.oneCell' = true:=fun j d u hd hu=>by
    have hr:=h6.2 j d u hd hu
    have hg0:=gr0All_mem hnf (List.mem_of_getElem? hd)
    cases d<;>first | (cases hg0; done) | exact ⟨hr,by first | (obtain rfl:=hr.inv_i; rfl) | (obtain rfl:=hr.inv_b; rfl) | (obtain ⟨rfl,_⟩:=hr.inv_s; rfl)⟩
   have hwl:ws.length = cs.length + 1:=by have:=hw2.1; simpa using this.symm
   refine ⟨_,rfl,⟨ws++us0,?_,⟨by rw [List.length_append,List.length_append,hw2.1,hl],fun j d u hd hu=>?_⟩,fun u hu=>?_⟩,fun n hn=>?_⟩
   ·have hl2:us0.length = r.length + 1:=by rw [hl,List.length_cons]
    rw [dif_neg (by simp only [List.size_toArray,List.length_cons]; omega),hw]
    simp [shape,← hwl]
   ·by_cases hj:j < ws.length
    ·rw [List.getElem?_append_left hj] at hu
     rw [List.getElem?_append_left (by rw [hw2.1]; exact hj)] at hd
     exact hw2.2 j d u hd hu
    ·rw [List.getElem?_append_right (by omega)] at hu
     rw [List.getElem?_append_right (by rw [hw2.1]; omega),hw2.1] at hd
     exact (hg _ d u hd hu).1
   ·rcases List.mem_append.1 hu with hu | hu
    ·exact hw3 u hu
    ·obtain ⟨j,hj,rfl⟩:=List.getElem_of_mem hu
     exact (hg j _ _ (List.getElem?_eq_getElem (by rw [← hl]; exact hj)) (List.getElem?_eq_getElem hj)).2
   ·obtain ⟨d,hd,hdn⟩:=List.mem_flatMap.1 (show n ∈ (c::cs++v::r).flatMap ids0 from hn)
    rcases List.mem_append.1 hd with hd | hd
    ·exact h4 _ (List.mem_cons_self ..) n (List.mem_flatMap.2 ⟨d,hd,hdn⟩)
    ·have hg0:=gr0All_mem hnf hd
     cases d<;>first | (cases hg0; done) | (cases hdn; done)
  rw [he]
  have htup:vs.length≠1→Rel β1 (Own X s1 β1) w (.tup vs) (.tuple us.toArray)∧∀ n ∈ ids (.tup vs),Nm s1 n:=fun hl1=>by
   have hnf:=hnf hl1
   have hno:∀ l:List AV,noFn l = true→∀ v ∈ l,noFn [v] = true:=by
    intro l
    induction l with
    | nil=>intro _ v hv; cases hv
    | cons y r ih =>
     intro hl v hv
     have hy:noFn r = true∧noFn [y] = true:=by cases y<;>first | exact ⟨hl,rfl⟩ | exact absurd (show false = true from hl) (by simp)
     rcases List.mem_cons.1 hv with e | hv
     ·rw [e]; exact hy.2
     ·exact ih hy.1 v hv
   refine ⟨⟨us,rfl,h3.1,fun j c u hc hu=>?_⟩,fun n hn=>?_⟩
   ·have hr:=h3.2 j c u hc hu
    have hf:=hno vs hnf c (List.mem_of_getElem? hc)
    cases c<;>first | exact hr | cases hf
   ·obtain ⟨c,hc,hk⟩:=List.mem_flatMap.1 hn
    refine h4 c hc n ?_
    have hf:=hno vs hnf c hc
    cases c<;>first | exact hk | cases hf
  match vs,us,h3,h4,htup with
  | [],us,h3,_,htup =>
   have:us = []:=h3.nil_inv
   subst this
   exact ⟨_,rfl,htup (by simp)⟩
  | [v],us,h3,h4,_ =>
   obtain ⟨u,us',rfl,h6,h7⟩:=h3.cons_inv
   have:us' = []:=h7.nil_inv
   subst this
   exact ⟨u,rfl,h6,h4 v (List.mem_cons_self ..)⟩
  | v::v'::t,us,h3,_,htup =>
   have hl:us.length≠1:=by have:=h3.1; simp at this; omega
   exact ⟨_,by rw [dif_neg (by simpa using hl)],htup (by simp)⟩
 obtain ⟨u,hu,hr,hrn⟩:=hone
 refine ⟨u,β1,by rw [hrun,hu],?_⟩
 have hNm:∀ n,Nm ⟨[(0,oneTupB vs)],boxes'⟩ n→Nm s1 n:=by
  rintro n (⟨cs,hc⟩ | ⟨q,hq⟩ | ⟨b,cs,hb,c,hc,hn⟩)
  ·obtain ⟨us',hu',_⟩:=wkB_look hwk n cs hc
   exact .inl ⟨us',hu'⟩
  ·simp only [look] at hq
   cases hb:Nat.beq 0 q with
   | true=>rw [hb] at hq; exact hrn n hq
   | false=>rw [hb] at hq; cases hq
  ·obtain ⟨us',hu',hw⟩:=wkB_look hwk b cs hb
   obtain ⟨g,us2,e,k1,k2,k3⟩:=hI1.boxes b us' hu'
   obtain ⟨u',hu2,hn'⟩:=(wkC_rel hw k3).2 c hc n hn
   exact .inr (.inr ⟨b,us',hu',u',hu2,hn'⟩)
 have hO:∀ k,Own X ⟨[(0,oneTupB vs)],boxes'⟩ β1 k→Own X s1 β1 k:=fun k hk=>hk.imp id fun ⟨n,hn,hb⟩=>⟨n,hNm n hn,hb⟩
 refine ⟨hI1.ext,fun n=>?_,rfl,fun n cs hc=>?_,fun n m g hn hm=>hI1.inj n m g (hNm n hn) (hNm m hm),fun n g hn hg=>hI1.own n g (hNm n hn) hg,rfl,hI1.ext2,fun n cs g hc hp=>?_,fun n hn=>hI1.pinN n (by omega),hI1.gl⟩
 ·simp only [look]
  cases hb:Nat.beq 0 n with
  | true=>have:=Nat.eq_of_beq_eq_true hb; subst this; exact hr.mono hO
  | false=>exact Rel.x
 ·obtain ⟨us',hu',hw⟩:=wkB_look hwk n cs hc
  obtain ⟨g,us2,e,k1,k2,k3⟩:=hI1.boxes n us' hu'
  exact ⟨g,us2,e,k1,k2,(wkC_rel hw k3).1.mono fun _ _ _ _ hr=>⟨hr.1.mono hO,hr.2⟩⟩
 ·obtain ⟨us',hu',_⟩:=wkB_look hwk n cs hc
  exact hI1.pin n us' g hu' hp

theorem cspec_of_vc (hΓ : Γ.good P) {f : FuncId} {fn : Func} {c : Code} (hf : P.funcs[f]? = some fn) (hb : fn.body = some c) (hcall : ∀ (vs : Array Value) (w : World), (callFunc f vs).run P w = .ok (.enter f vs) w)
  {rs:Array ResultVar} (hrs:fn.results = rs) (hN:fn.ntmps = N) {args:List AV} {boxes:List (Nat × List AV)} {r:AV} {boxes':List (Nat × List AV)} {L:List Nat} (hlen:args.length≤N) (hN1:1≤N)
  (hlow:(boxNames boxes).all (fun n=>Nat.ble N n) = true) (hvc:vc P Γ N L c (postBK Γ rs.toList r boxes') ⟨argSlots 0 args,boxes⟩):CSpec P f args boxes r boxes':=by
 refine ⟨hcall,fun F X β w vs hvs hpin hI0=>?_⟩
 refine calls_of_wp hf hb ?_
 have hpad:∀ n,(vs.toArray++Array.replicate (fn.ntmps - vs.toArray.size) undef).getD n undef = vs.toArray.getD n undef∨look (argSlots 0 args) n = .x:=fun n=>by
  by_cases hm:n < vs.length
  ·left
   simp only [Array.getD_eq_getD_getElem?]
   rw [Array.getElem?_append_left (by simpa using hm)]
  ·right
   have h1:=look_args args 0 n
   rw [Nat.zero_add] at h1
   rw [h1,List.getD_eq_getElem?_getD,List.getElem?_eq_none (by omega)]
   rfl
 have hI:InvB w F X N ⟨argSlots 0 args,boxes⟩ β { tmps:=vs.toArray++Array.replicate (fn.ntmps - vs.toArray.size) undef,defers:=[] } w:=by
  refine ⟨hI0.ext,fun n=>?_,?_,hI0.boxes,hI0.inj,hI0.own,hI0.defers,hI0.ext2,hI0.pin,fun n hn=>?_,hI0.gl⟩
  ·rcases hpad n with h1 | h1
   ·show Rel _ _ _ _ ((vs.toArray++Array.replicate (fn.ntmps - vs.toArray.size) undef).getD n undef)
    rw [h1]; exact hI0.slots n
   ·show Rel _ _ _ (look (argSlots 0 args) n) _
    rw [h1]; exact Rel.x
  ·simp only [Array.size_append,List.size_toArray,Array.size_replicate,hN,hvs]
   omega
  ·cases hp:F.pin n with
   | none=>rfl
   | some g =>
    have h1:=boxNames_mem.2 (hpin n g hp)
    have:=Nat.le_of_ble_eq_true (List.all_eq_true.1 hlow n h1)
    omega
 refine vc_ok (W0:=w) (F:=F) (X:=X) hΓ c _ _ _ _ _ (fun e s a w' hq ⟨β',hI'⟩=>?_) hvc ⟨_,hI⟩
 have key:endK Γ rs.toList r boxes' s→a.defers = []∧∃ v,(results fn a.tmps).run P w' = .ok v w'∧∃ v' β'',Ending.returned v = .returned v'∧InvB w F X 1 ⟨[(0,r)],boxes'⟩ β'' ⟨#[v'],[]⟩ w':=by
  intro h
  rw [← hrs] at h
  obtain ⟨u,β'',h1,h2⟩:=end_ok hΓ hN1 hI' h
  have hd:F.dfr = []:=hI0.defers.symm
  have hF:{ F with dfr:=[] } = F:=by cases F; simp only at hd; subst hd; rfl
  rw [hF] at h2
  exact ⟨hI'.defers.trans hd,u,h1,u,β'',rfl,h2⟩
 cases e with
 | normal=>exact key hq
 | ret=>exact key hq
 | _=>exact hq.elim
end
end Go.SX
end
section
namespace Go.SX
open Go.RowKit Go.WideShapes Go.ChangeShapes
theorem Stp.below {w w':World} (h:Stp (fun _=>False) w w'):Below w.heap.size w w':=⟨h.os,h.tape,h.output,h.size,fun k hk=>h.block k hk (fun f=>f)⟩
section
variable {H:Type} {enc:TypeId × Value→H} {P:Program}
theorem post_of_below {f : Func} {s : ChangeSpec} {apart fresh handsOn again : Bool} {W W' : World} {args : Array Value} {v : Value} {ds gs : List (DataW H)} {before pa pv : List MemPlace}
  (hW:DataW.Whole enc P f.params.toList s.vars apart W args.toList ds gs before)
  (hres:∀ (b:Nat) (sp:Nat→Bool) (hd:Bool),DataW.TrodAll enc P W' b sp hd f.resultTypes.toList (v.resultList f.resultTypes.size) (s.fn H (ds++gs)).results [])
  (hargs:∀ sp:Nat→Bool,(∀ p ∈ before,sp p.block = true)→DataW.TrodAll enc P W' 0 sp true f.params.toList args.toList (s.fn H (ds++gs)).args pa)
  (hvars:∀ sp:Nat→Bool,(∀ p ∈ before,sp p.block = true)→DataW.TrodVars enc P W' sp s.vars (s.fn H (ds++gs)).vars pv)
  (hps:before = pa++pv) (hb:Below W.heap.size W W')
  (hok:∀ (j:Nat) (t:TypeId) (r:Value),f.resultTypes[j]? = some t→(v.resultList f.resultTypes.size)[j]? = some r→Value.okWide P W' .any 0 t r) :
  s.post enc P f apart fresh handsOn again W args v W':=by
 have hlt:∀ p ∈ before,p.block < W.heap.size:=fun p hp=>hW.lt p hp
 have hold:∀ p ∈ before,(fun b=>decide (b < W.heap.size)) p.block = true:=fun p hp=>by simpa using hlt p hp
 refine ⟨ds,gs,before,[],pa,pv,hW,hres _ _ _,hargs _ hold,hvars _ hold,World.keptBut_mono (fun p hp=>⟨hp,?_⟩) (hb.frame (· ∈ before)),fun _=>?_⟩
 ·rw [hps,List.mem_append] at hp
  exact Or.inr hp
 ·obtain ⟨_,_,_,_,_,hz,hn⟩:=hW
  refine ⟨hok,_,_,([]++pa)++pv,⟨[]++pa,pv,trodAll_append (hargs _ (fun _ _=>rfl)) (hres _ _ _),hvars _ (fun _ _=>rfl),rfl,?_,?_⟩,?_⟩
  ·intro b off hp
   have hin:MemPlace.cell b off ∈ before:=by rw [hps]; simpa using hp
   rw [hb.frozen (hlt _ hin)]
   exact hz b off hin
  ·intro ha
   have:=hn ha
   rw [hps] at this
   simpa using this
  ·intro p hp _
   rw [hps]
   simpa using hp
end
end Go.SX
end
section
namespace Go.SX
variable [Globs]
open Go.RowKit Go.WideShapes Go.ChangeShapes Go.Deep
theorem mapM_at {α β:Type} {f:α→Option β}:∀ {l:List α} {r:List β},l.mapM f = some r→r.length = l.length∧∀ (j:Nat) x,l[j]? = some x→f x = r[j]?:=by
 intro l
 induction l with
 | nil=>intro r h; simp at h; subst h; exact ⟨rfl,fun j x h=>by simp at h⟩
 | cons a l ih =>
  intro r h
  simp only [List.mapM_cons,Option.bind_eq_bind,Option.bind_eq_some_iff] at h
  obtain ⟨b,hb,bs,hbs,h⟩:=h
  have h:b::bs = r:=by injection h
  subst h
  obtain ⟨h1,h2⟩:=ih hbs
  refine ⟨by simp [h1],fun j x hx=>?_⟩
  cases j with
  | zero=>simp at hx; subst hx; simpa using hb
  | succ j=>simpa using h2 j x (by simpa using hx)
section
variable {H:Type} {encH:TypeId × Value→H} {P:Program} {W:World} {sp:Nat→Bool} {hd:Bool} {O:Nat→Prop}

theorem cells_get {w:World} {base:Nat} {a:Addr} {n:Nat} {cs:List Value} (h:w.cells? base a n = some cs):cs.length = n∧∀ (j:Nat) v,cs[j]? = some v→w.cell? (a.add j) = some v:=by
 unfold World.cells? at h
 split at h
 ·obtain ⟨h1,h2⟩:=mapM_at h
  rw [List.length_range] at h1
  refine ⟨h1,fun j v hv=>?_⟩
  have hj:j < n:=by rw [← h1]; exact (List.getElem?_eq_some_iff.1 hv).1
  rw [h2 j j (by simp [hj]),hv]
 ·cases h
theorem add_of {a:Addr} {n:Nat} (h:(a.add n).spot = none):a.add n = ⟨a.block,a.off + n,none⟩:=by
 unfold Addr.add at h ⊢
 split
 ·rename_i h0
  rw [if_pos h0] at h
  obtain ⟨b,o,s⟩:=a
  simp only at h
  subst h h0
  rfl
 ·rfl
theorem arg_int {t:TypeId} {k:IntKind} {fuel:Nat} {cs:List Value} {x:DataW H × List MemPlace} (ht:P.underlying t = some (.int k)) (h:DataW.trod encH P W 0 sp hd fuel t cs = some x):∃ n,cs = [.int k n]∧Im O W (.i k n) (.int k n)∧(Lit.int k n).wf = true:=by
 obtain ⟨n,h1,_,h2⟩:=DataW.trod_int ht h
 exact ⟨n,h1,.i k n,h2⟩
end
theorem wf_i64 {n:Int} (h:(Lit.int .i64 n).wf = true):(-9223372036854775808:Int)≤n∧n≤(9223372036854775807:Int):=by
 simp only [Lit.wf,Bool.and_eq_true,decide_eq_true_eq] at h; exact h
theorem wf_u64 {n:Int} (h:(Lit.int .u64 n).wf = true):(0:Int)≤n∧n≤(18446744073709551615:Int):=by
 simp only [Lit.wf,Bool.and_eq_true,decide_eq_true_eq] at h; exact h
end Go.SX
end
section
namespace Go.SX
variable [Globs]
open Go.RowKit Go.WideShapes Go.ChangeShapes Go.Deep
section
variable {H:Type} {encH:TypeId × Value→H} {P:Program} {W:World} {sp:Nat→Bool} {hd:Bool} {O:Nat→Prop}
end
end Go.SX
end
section
namespace Go.SX
variable [Globs]
open Go.RowKit Go.WideShapes Go.ChangeShapes Go.Deep
inductive VB:Val→Prop
 | mk (v:Val):(-9223372036854775808≤v.kind∧v.kind≤9223372036854775807)→(-9223372036854775808≤v.n∧v.n≤9223372036854775807)→(0≤v.f∧v.f≤18446744073709551615)→(∀ x ∈ v.l,VB x)→(∀ p ∈ v.e,VB p.2)→VB v
section
variable {H:Type} {encH:TypeId × Value→H} {P:Program} {W:World} {sp:Nat→Bool} {hd:Bool} {O:Nat→Prop}
def HasF (fs:Array Field) (i off:Nat) (t:TypeId):Prop:=∃ f,fs[i]? = some f∧f.offset = off∧f.type = t
structure VTy (P:Program) (V:TypeId) where
 (fs gs:Array Field) (K N U S L E En:TypeId)
 hV:P.underlying V = some (.struct fs)
 cV:P.cellsOf V = 6
 h0:HasF fs 0 0 K
 h1:HasF fs 1 1 N
 h2:HasF fs 2 2 U
 h3:HasF fs 3 3 S
 h4:HasF fs 4 4 L
 h5:HasF fs 5 5 E
 uK:P.underlying K = some (.int .i64)
 uN:P.underlying N = some (.int .i64)
 uU:P.underlying U = some (.int .u64)
 uS:P.underlying S = some .string
 uL:P.underlying L = some (.slice V)
 uE:P.underlying E = some (.slice En)
 c:P.cellsOf K = 1∧P.cellsOf N = 1∧P.cellsOf U = 1∧P.cellsOf S = 1∧P.cellsOf L = 1∧P.cellsOf E = 1
 hE:P.underlying En = some (.struct gs)
 cE:P.cellsOf En = 7
 g0:HasF gs 0 0 S
 g1:HasF gs 1 1 V
structure MTy (P:Program) (M:TypeId) where
 (fs:Array Field) (K Q S V:TypeId) (T:VTy P V)
 hM:P.underlying M = some (.struct fs)
 cM:P.cellsOf M = 10
 h0:HasF fs 0 0 K
 h1:HasF fs 1 1 Q
 h2:HasF fs 2 2 S
 h3:HasF fs 3 3 S
 h4:HasF fs 4 4 V
 uK:P.underlying K = some (.int .i64)
 uQ:P.underlying Q = some (.slice S)
 uS:P.underlying S = some .string
 c:P.cellsOf K = 1∧P.cellsOf Q = 1∧P.cellsOf S = 1
structure KTy (P:Program) (L:TypeId) where
 (fs:Array Field) (K Q M:TypeId) (T:MTy P M)
 hL:P.underlying L = some (.struct fs)
 cL:P.cellsOf L = 3
 h0:HasF fs 0 0 K
 h1:HasF fs 1 1 K
 h2:HasF fs 2 2 Q
 uK:P.underlying K = some (.int .i64)
 uQ:P.underlying Q = some (.slice M)
 c:P.cellsOf K = 1∧P.cellsOf Q = 1
end
end Go.SX
end
section
namespace Go.SX
open Go.RowKit Go.WideShapes Go.ChangeShapes Go.Deep
structure BulkS {H:Type} (bk:DataW H→Nat):Prop where
 sl:∀ els rest,(els.map bk).sum + 1≤bk (.slice els rest)
 ag:∀ ds,(ds.map bk).sum + 1≤bk (.agg ds)
 st:∀ b,b.length + 1≤bk (.lit (.string b))
 pos:∀ d,1≤bk d
/-! the bulk of a value -/
mutual
def bkV:Val→Nat
 | ⟨_,_,_,s,l,e⟩=>s.length + bkL l + bkE e + 7
def bkL:List Val→Nat
 | []=>0
 | x::xs=>bkV x + bkL xs
def bkE:List (Str × Val)→Nat
 | []=>0
 | x::xs=>bkP x + bkE xs
def bkP:Str × Val→Nat
 | (k,x)=>k.length + bkV x + 2
end
theorem bkL_sum (l:List Val):bkL l = (l.map bkV).sum:=by
 induction l with
 | nil=>rfl
 | cons x r ih=>rw [bkL,List.map_cons,List.sum_cons,ih]
theorem bkE_sum (l:List (Str × Val)):bkE l = (l.map bkP).sum:=by
 induction l with
 | nil=>rfl
 | cons x r ih=>rw [bkE,List.map_cons,List.sum_cons,ih]
theorem bkV_eq (v:Val):bkV v = v.s.length + (v.l.map bkV).sum + (v.e.map bkP).sum + 7:=by
 cases v
 rw [bkV,bkL_sum,bkE_sum]
theorem bkP_eq (p:Str × Val):bkP p = p.1.length + bkV p.2 + 2:=by
 cases p
 rw [bkP]
theorem sum_mem {α:Type} {m:α→Nat}:∀ {l:List α} {x:α},x ∈ l→m x≤(l.map m).sum
 | y::r,x,h=>by
  rw [List.map_cons,List.sum_cons]
  rcases List.mem_cons.1 h with rfl | h
  ·omega
  ·have:=sum_mem (m:=m) h
   omega
theorem sum_len {α:Type} {m:α→Nat} (h1:∀ x,1≤m x):∀ l:List α,l.length≤(l.map m).sum
 | []=>Nat.zero_le _
 | x::r=>by
  have:=sum_len h1 r
  have:=h1 x
  rw [List.map_cons,List.sum_cons,List.length_cons]
  omega
theorem sum_le2 {α β:Type} {m:α→Nat} {k:β→Nat}:∀ {l:List α} {r:List β},l.length = r.length→(∀ (i:Nat) x y,l[i]? = some x→r[i]? = some y→m x≤k y)→(l.map m).sum≤(r.map k).sum
 | [],_,_,_=>Nat.zero_le _
 | x::l,[],h,_=>nomatch h
 | x::l,y::r,h,hh=>by
  have h1:=hh 0 x y rfl rfl
  have h2:=sum_le2 (m:=m) (k:=k) (l:=l) (r:=r) (by simpa using h) (fun i a b ha hb=>hh (i + 1) a b (by simpa using ha) (by simpa using hb))
  rw [List.map_cons,List.sum_cons,List.map_cons,List.sum_cons]
  omega
theorem bkV_pos (v:Val):1≤bkV v:=by rw [bkV_eq]; omega
theorem bkP_pos (p:Str × Val):1≤bkP p:=by rw [bkP_eq]; omega
theorem bkV_mem {v x:Val} (h:x ∈ v.l):bkV x < bkV v:=by
 have:=sum_mem (m:=bkV) h
 rw [bkV_eq v]
 omega
theorem bkV_ent {v:Val} {p:Str × Val} (h:p ∈ v.e):bkV p.2 + p.1.length < bkV v:=by
 have:=sum_mem (m:=bkP) h
 rw [bkP_eq] at this
 rw [bkV_eq v]
 omega
theorem bkV_len (v:Val):v.s.length + v.l.length + v.e.length < bkV v:=by
 have h1:=sum_len (m:=bkV) bkV_pos v.l
 have h2:=sum_len (m:=bkP) bkP_pos v.e
 rw [bkV_eq v]
 omega
section
variable [Globs]
variable {H:Type} {encH:TypeId × Value→H} {P:Program} {W:World} {sp:Nat→Bool} {hd:Bool} {O:Nat→Prop} {bk:DataW H→Nat}
theorem arg_sliceS {t e : TypeId} {τ : Ty} {m : den τ → Nat} {R : den τ → Prop} (hbk : BulkS bk) (hO : ∀ k, ¬ O k) (ht : P.underlying t = some (.slice e)) (hc : P.cellsOf e = esz τ) {fuel : Nat}
  (hel:∀ n,n < fuel→∀ (cs:List Value) (x:DataW H × List MemPlace),DataW.trod encH P W 0 sp hd n e cs = some x→∃ y:den τ,All2 (Im O W) (enc τ y) cs∧m y≤bk x.1∧R y)
  {cs:List Value} {x:DataW H × List MemPlace} (h:DataW.trod encH P W 0 sp hd fuel t cs = some x):∃ (l:List (den τ)) (v:Value),cs = [v]∧Im O W (.rd τ l) v∧(l.map m).sum + 1≤bk x.1∧∀ y ∈ l,R y:=by
 rcases DataW.trod_slice ht h with ⟨rfl,rfl⟩ | ⟨a,len,cap,elems,rest,n,rfl,rfl,rfl,hb,hlc,hcm,hlen,hall,_,_⟩
 ·exact ⟨[],_,rfl,.rd0 τ none 0 (Nat.zero_le _),by simpa using hbk.pos _,fun y hy=>nomatch hy⟩
 by_cases h0:len = 0
 ·subst h0; exact ⟨[],_,rfl,.rd0 τ _ _ hcm,by simpa using hbk.pos _,fun y hy=>nomatch hy⟩
 have hall:∀ i,i < len→∃ (us:List Value) (y:DataW H × List MemPlace),W.cells? 0 (a.add (i * P.cellsOf e)) (P.cellsOf e) = some us∧DataW.trod encH P W 0 sp hd n e us = some y∧elems[i]? = some y:=fun i hi=>by
  have:=hall i hi
  rw [List.getElem?_eq_getElem (by omega)] at this
  obtain ⟨us,h1,h2⟩:=Option.bind_eq_some_iff.1 this
  exact ⟨us,_,h1,h2,List.getElem?_eq_getElem _⟩
 have hch:∀ i,i < len→∃ (y:den τ) (us:List Value),(All2 (Im O W) (enc τ y) us∧(∀ d,elems[i]? = some d→m y≤bk d.1)∧R y)∧us.length = esz τ∧∀ (j:Nat) v,us[j]? = some v→W.cell? ⟨a.block,a.off + (i * esz τ + j),none⟩ = some v:=by
  intro i hi
  obtain ⟨us,yy,h1,h2,hm⟩:=hall i hi
  obtain ⟨y,hy⟩:=hel n (Nat.lt_succ_self n) _ _ h2
  rw [hc] at h1
  obtain ⟨h3,h4⟩:=cells_get h1
  refine ⟨y,us,⟨hy.1,fun d hd=>?_,hy.2.2⟩,h3,fun j v hv=>?_⟩
  ·rw [hm] at hd
   injection hd with hd
   subst hd
   exact hy.2.1
  have h5:=h4 j v hv
  have hs:∀ j v,us[j]? = some v→((a.add (i * esz τ)).add j).spot = none:=fun j v hv=>World.cell?_spot (h4 j v hv)
  have hpos:=esz_pos τ
  have h00:(a.add (i * esz τ)).spot = none:=by
   have:=hs 0 (us[0]'(by omega)) (List.getElem?_eq_getElem _)
   simpa [Addr.add] using this
  have e1:=add_of h00
  rw [e1] at h5
  rw [add_none] at h5
  rw [← h5,Nat.add_assoc]
 have ys:∃ l:List (den τ),l.length = len∧∀ (i:Nat) y,l[i]? = some y→∃ us:List Value,(All2 (Im O W) (enc τ y) us∧(∀ d,elems[i]? = some d→m y≤bk d.1)∧R y)∧∀ (j:Nat) v,us[j]? = some v→W.cell? ⟨a.block,a.off + (i * esz τ + j),none⟩ = some v:=by
  have hch':=fun (i:Fin len)=>hch i.1 i.2
  refine ⟨List.ofFn fun i:Fin len=>Classical.choose (hch' i),by simp,fun i y hy=>?_⟩
  have hi:i < len:=by have:=(List.getElem?_eq_some_iff.1 hy).1; simpa using this
  rw [List.getElem?_ofFn,dif_pos hi] at hy
  injection hy with hy
  subst hy
  obtain ⟨us,h1,_,h2⟩:=Classical.choose_spec (hch' ⟨i,hi⟩)
  exact ⟨us,h1,h2⟩
 obtain ⟨l,hll,hl⟩:=ys
 refine ⟨l,_,rfl,?_,?_,fun y hy=>?_⟩
 rotate_left
 ·have h1:=hbk.sl (elems.map (·.1)) (rest.map (·.1))
  have h2:(l.map m).sum≤((elems.map (·.1)).map bk).sum:=sum_le2 (by rw [List.length_map]; omega) fun i y d hy hd=>by
   obtain ⟨us,h3,_⟩:=hl i y hy
   rw [List.getElem?_map,Option.map_eq_some_iff] at hd
   obtain ⟨d',hd',rfl⟩:=hd
   exact h3.2.1 d' hd'
  exact Nat.le_trans (Nat.succ_le_succ h2) h1
 ·obtain ⟨i,hi,rfl⟩:=List.getElem_of_mem hy
  obtain ⟨us,h1,_⟩:=hl i _ (List.getElem?_eq_getElem hi)
  exact h1.2.2
 have hane:a = ⟨a.block,a.off,none⟩:=by
  obtain ⟨us',yy,h1,h2,_⟩:=hall 0 (by omega)
  have hpos:=esz_pos τ
  rw [hc] at h1
  obtain ⟨h5,h6⟩:=cells_get h1
  have:=World.cell?_spot (h6 0 (us'[0]'(by omega)) (List.getElem?_eq_getElem _))
  simp [Addr.add] at this
  obtain ⟨b,o,s⟩:=a
  simp only at this
  subst this
  rfl
 rw [hane,← hll]
 refine .rd τ l a.block a.off cap (fun i j=>(W.cell? ⟨a.block,a.off + (i * esz τ + j),none⟩).getD undef) (hO _) (by omega) hcm (fun e=>h0 (by rw [← hll,e]; rfl)) (fun i y j av hy hav=>?_) (fun i y j av hy hav=>?_)
 ·obtain ⟨us,h1,h2⟩:=hl i y hy
  have hj:j < us.length:=by rw [← h1.1.1]; exact (List.getElem?_eq_some_iff.1 hav).1
  rw [h2 j _ (List.getElem?_eq_getElem hj)]; rfl
 ·obtain ⟨us,h1,h2⟩:=hl i y hy
  have hj:j < us.length:=by rw [← h1.1.1]; exact (List.getElem?_eq_some_iff.1 hav).1
  rw [h2 j _ (List.getElem?_eq_getElem hj)]
  exact h1.1.2 j av _ hav (List.getElem?_eq_getElem hj)
theorem one_fieldS {t : TypeId} {fs : Array Field} {fuel : Nat} {cs : List Value} {x : DataW H × List MemPlace} (ht : P.underlying t = some (.struct fs)) (h : DataW.trod encH P W 0 sp hd fuel t cs = some x) :
  ∃ (n:Nat) (ds:List (DataW H)),fuel = n + 1∧cs.length = P.cellsOf t∧x.1 = .agg ds∧ds.length = fs.size∧∀ (i off:Nat) (t':TypeId),HasF fs i off t'→∃ y,DataW.trod encH P W 0 sp hd n t' ((cs.drop off).take (P.cellsOf t')) = some y∧ds[i]? = some y.1:=by
 obtain ⟨xs,n,hn,rfl,h1,h2,h3⟩:=DataW.trod_struct ht h
 refine ⟨n,xs.map (·.1),hn,h1,rfl,by rw [List.length_map]; exact h2,fun i off t' hf=>?_⟩
 obtain ⟨f,hf,rfl,rfl⟩:=hf
 have hi:i < xs.length:=by rw [h2]; exact (Array.getElem?_eq_some_iff.1 hf).1
 rw [h3 i f hf,List.getElem?_eq_getElem hi]
 exact ⟨_,rfl,by rw [List.getElem?_map,List.getElem?_eq_getElem hi]; rfl⟩
theorem arg_strS (hbk:BulkS bk) {t:TypeId} {fuel:Nat} {cs:List Value} {x:DataW H × List MemPlace} (ht:P.underlying t = some .string) (h:DataW.trod encH P W 0 sp hd fuel t cs = some x):∃ (l:Str) (v:Value),cs = [v]∧Im O W (.s l) v∧l.length + 1≤bk x.1:=by
 obtain ⟨s,h1,h3,h2⟩:=DataW.trod_string ht h
 refine ⟨s.data.toList,.string s,h1,?_,?_⟩
 ·have:=Im.s (O:=O) (w:=W) s.data.toList (by rw [Array.length_toList]; exact h2)
  simpa using this
 ·rw [h3]; exact hbk.st _
theorem arg_valS {V:TypeId} (hbk:BulkS bk) (T:VTy P V) (hs:T.fs.size = 6) (hs2:T.gs.size = 2) (hO:∀ k,¬ O k):∀ (fuel:Nat) (cs:List Value) (x:DataW H × List MemPlace),DataW.trod encH P W 0 sp hd fuel V cs = some x→∃ y:Val,All2 (Im O W) (encVal y) cs∧bkV y≤bk x.1∧VB y:=by
 intro fuel
 induction fuel using Nat.strongRecOn with
 | _ fuel ih =>
 intro cs x h
 obtain ⟨n,ds,rfl,hl,hag,hds,hf⟩:=one_fieldS T.hV h
 rw [T.cV] at hl
 rw [hs] at hds
 obtain ⟨c0,c1,c2,c3,c4,c5⟩:=T.c
 match cs,hl,ds,hds with
 | [u0,u1,u2,u3,u4,u5],_,[d0,d1,d2,d3,d4,d5],_ =>
  obtain ⟨y0,q0,k0⟩:=hf 0 0 _ T.h0
  obtain ⟨y1,q1,k1⟩:=hf 1 1 _ T.h1
  obtain ⟨y2,q2,k2⟩:=hf 2 2 _ T.h2
  obtain ⟨y3,q3,k3⟩:=hf 3 3 _ T.h3
  obtain ⟨y4,q4,k4⟩:=hf 4 4 _ T.h4
  obtain ⟨y5,q5,k5⟩:=hf 5 5 _ T.h5
  simp only [List.getElem?_cons_zero,List.getElem?_cons_succ,Option.some.injEq] at k0 k1 k2 k3 k4 k5
  subst k0 k1 k2 k3 k4 k5
  rw [c0] at q0
  rw [c1] at q1
  rw [c2] at q2
  rw [c3] at q3
  rw [c4] at q4
  rw [c5] at q5
  obtain ⟨k,e0,i0,w0⟩:=arg_int (O:=O) T.uK q0
  obtain ⟨m,e1,i1,w1⟩:=arg_int (O:=O) T.uN q1
  obtain ⟨f,e2,i2,w2⟩:=arg_int (O:=O) T.uU q2
  obtain ⟨s,vs,e3,i3,z3⟩:=arg_strS (O:=O) hbk T.uS q3
  obtain ⟨l,vl,e4,i4,z4,r4⟩:=arg_sliceS (O:=O) (τ:=.val) (m:=bkV) (R:=VB) hbk hO T.uL T.cV (fun n' hn cs' x' hx=>ih n' (by omega) cs' x' hx) q4
  obtain ⟨es,ve,e5,i5,z5,r5⟩:=arg_sliceS (O:=O) (τ:=.ent) (m:=bkP) (R:=fun p=>VB p.2) hbk hO T.uE T.cE (fun n' hn cs' x' hx=>by
   obtain ⟨n2,ds2,rfl,hl2,hag2,hds2,hf2⟩:=one_fieldS T.hE hx
   rw [T.cE] at hl2
   rw [hs2] at hds2
   match cs',hl2,ds2,hds2 with
   | [z0,z1,z2,z3,z4,z5,z6],_,[g0,g1],_ =>
    obtain ⟨_,p0,m0⟩:=hf2 0 0 _ T.g0
    obtain ⟨_,p1,m1⟩:=hf2 1 1 _ T.g1
    simp only [List.getElem?_cons_zero,List.getElem?_cons_succ,Option.some.injEq] at m0 m1
    subst m0 m1
    rw [c3] at p0
    rw [T.cV] at p1
    obtain ⟨ks,kv,d0,j0,lk⟩:=arg_strS (O:=O) hbk T.uS p0
    obtain ⟨y,j1,hyb,hy⟩:=ih n2 (by omega) _ _ p1
    simp at d0
    subst d0
    refine ⟨(ks,y),All2.cons j0 (by simpa using j1),?_,hy⟩
    rw [hag2]
    refine Nat.le_trans ?_ (hbk.ag _)
    rw [bkP_eq]
    simp only [List.map_cons,List.map_nil,List.sum_cons,List.sum_nil]
    omega) q5
  simp at e0 e1 e2 e3 e4 e5
  subst e0 e1 e2 e3 e4 e5
  refine ⟨⟨k,m,f,s,l,es⟩,All2.cons i0 (All2.cons i1 (All2.cons i2 (All2.cons i3 (All2.cons i4 (All2.cons i5 (All2.nil _)))))),?_,.mk _ (wf_i64 w0) (wf_i64 w1) (wf_u64 w2) r4 r5⟩
  have h9:=hbk.ag [y0.1,y1.1,y2.1,y3.1,y4.1,y5.1]
  have p0:=hbk.pos y0.1
  have p1:=hbk.pos y1.1
  have p2:=hbk.pos y2.1
  rw [hag]
  refine Nat.le_trans ?_ h9
  rw [bkV_eq]
  simp only [List.map_cons,List.map_nil,List.sum_cons,List.sum_nil]
  omega
end
end Go.SX
end
section
namespace Go.Up
open Go.SX Go.Vl Go.Ut Go.Ck
theorem putE_in {l:List Ent} {k:Str} {a:Val} {p:Ent} (h:p ∈ putE l k a):p = (k,a)∨p ∈ l:=by
 unfold putE at h
 have hw:∀ q ∈ withoutE l k,q ∈ l:=fun q hq=>(List.mem_filter.1 hq).1
 rcases List.mem_append.1 h with h | h
 ·exact .inr (hw _ (List.mem_of_mem_take h))
 ·rcases List.mem_cons.1 h with h | h
  ·exact .inl h
  ·exact .inr (hw _ (List.mem_of_mem_drop h))
structure Clo (R:Nat→Val→Prop):Prop where
 parts:∀ n v,R n v→∀ x ∈ partsOf v,R n x
 mono:∀ n m v,n≤m→R n v→R m v
 mak:∀ n v l e,R n v→l.length≤n→e.length≤n→(∀ x ∈ l,R n x)→(∀ p ∈ e,R n p.2)→R n { v with l:=l,e:=e }
 len:∀ n v,R n v→v.l.length≤n∧v.e.length≤n
theorem put_len {l:List Ent} {k:Str} {a:Val}:(putE l k a).length≤l.length + 1:=by
 have h:=List.length_filter_le (fun p=>!keyIs k p) l
 unfold putE
 rw [List.length_append,List.length_cons,List.length_take,List.length_drop]
 have:(withoutE l k).length≤l.length:=h
 omega
theorem Clo.l_of {R:Nat→Val→Prop} (hR:Clo R) {n:Nat} {v:Val} (h:R n v):∀ x ∈ v.l,R n x:=fun x hx=>hR.parts n v h x (List.mem_append_left _ hx)
theorem Clo.e_of {R:Nat→Val→Prop} (hR:Clo R) {n:Nat} {v:Val} (h:R n v):∀ p ∈ v.e,R n p.2:=fun p hp=>hR.parts n v h p.2 (List.mem_append_right _ (List.mem_map.2 ⟨p,hp,rfl⟩))
theorem Clo.setE {R:Nat→Val→Prop} (hR:Clo R) {n:Nat} {v:Val} (h:R n v) {e:List Ent} (hl:e.length≤n + 1) (he:∀ p ∈ e,R (n + 1) p.2):R (n + 1) { v with e:=e } :=
 hR.mak (n + 1) v v.l e (hR.mono _ _ _ (Nat.le_succ n) h) (Nat.le_succ_of_le (hR.len n v h).1) hl (fun x hx=>hR.mono _ _ _ (Nat.le_succ n) (hR.l_of h x hx)) he
theorem Clo.setL {R:Nat→Val→Prop} (hR:Clo R) {n:Nat} {v:Val} (h:R n v) {l:List Val} (hl:l.length≤n + 1) (he:∀ x ∈ l,R (n + 1) x):R (n + 1) { v with l:=l } :=
 hR.mak (n + 1) v l v.e (hR.mono _ _ _ (Nat.le_succ n) h) hl (Nat.le_succ_of_le (hR.len n v h).2) he (fun p hp=>hR.mono _ _ _ (Nat.le_succ n) (hR.e_of h p hp))
theorem Clo.setAt {R:Nat→Val→Prop} (hR:Clo R) {n:Nat} {v w:Val} {p:PStep} (h:R n v) (hw:R (n + 1) w):R (n + 1) (setAt v p w):=by
 have hl:=hR.len n v h
 unfold Up.setAt
 split
 ·refine hR.setE h (by have:=put_len (l:=v.e) (k:=p.key) (a:=w); omega) fun q hq=>?_
  rcases putE_in hq with rfl | hq
  ·exact hw
  ·exact hR.mono _ _ _ (Nat.le_succ n) (hR.e_of h q hq)
 ·refine hR.setL h (by rw [List.length_set]; omega) fun x hx=>?_
  rcases List.mem_or_eq_of_mem_set hx with hx | rfl
  ·exact hR.mono _ _ _ (Nat.le_succ n) (hR.l_of h x hx)
  ·exact hw
theorem Clo.last {R:Nat→Val→Prop} (hR:Clo R) {n:Nat} {v:Val} {p:PStep} {o:OpR} (h:R n v) (ho:R (n + 1) o.v):R (n + 1) (lastU v p o).1:=by
 have hl:=hR.len n v h
 have hv:R (n + 1) v:=hR.mono _ _ _ (Nat.le_succ n) h
 have he:=fun q hq=>hR.mono _ _ _ (Nat.le_succ n) (hR.e_of h q hq)
 have hll:=fun q hq=>hR.mono _ _ _ (Nat.le_succ n) (hR.l_of h q hq)
 have hwl:(withoutE v.e p.key).length≤v.e.length:=List.length_filter_le _ _
 have hwm:∀ q ∈ withoutE v.e p.key,q ∈ v.e:=fun q hq=>(List.mem_filter.1 hq).1
 unfold lastU
 split
 ·split
  ·exact hv
  ·split
   ·split
    ·exact hv
    ·refine hR.setE h (by have:=put_len (l:=v.e) (k:=p.key) (a:=o.v); omega) fun q hq=>?_
     rcases putE_in hq with rfl | hq
     ·exact ho
     ·exact he q hq
   ·split
    ·exact hv
    ·refine hR.setL h (by rw [List.length_append,List.length_cons,List.length_take,List.length_drop]; omega) fun x hx=>?_
     rcases List.mem_append.1 hx with hx | hx
     ·exact hll x (List.mem_of_mem_take hx)
     ·rcases List.mem_cons.1 hx with rfl | hx
      ·exact ho
      ·exact hll x (List.mem_of_mem_drop hx)
 ·split
  ·exact hv
  ·rename_i hq
   split
   ·split
    ·exact hR.setE h (by omega) fun q hq=>he q (hwm q hq)
    ·refine hR.setL h (by rw [List.length_append,List.length_take,List.length_drop]; omega) fun x hx=>?_
     rcases List.mem_append.1 hx with hx | hx
     ·exact hll x (List.mem_of_mem_take hx)
     ·exact hll x (List.mem_of_mem_drop hx)
   ·split
    ·exact hv
    ·split
     ·exact hv
     ·refine hR.setE h (by have:=put_len (l:=withoutE v.e p.key) (k:=o.key) (a:=(partV v p).1); omega) fun q hq2=>?_
      rcases putE_in hq2 with rfl | hq2
      ·exact hR.mono _ _ _ (Nat.le_succ n) (hR.parts n v h _ (partV_in (by simpa using hq)))
      ·exact he q (hwm q hq2)
theorem Clo.upV {R:Nat→Val→Prop} (hR:Clo R) {n:Nat} {o:OpR} (ho:R (n + 1) o.v):∀ (p:List PStep) (v:Val),R n v→R (n + 1) (upV v p o).1
 | [],v,_=>by rw [Up.upV]; exact ho
 | x::r,v,h=>by
  have hv:R (n + 1) v:=hR.mono _ _ _ (Nat.le_succ n) h
  rw [Up.upV]
  split
  ·split
   ·exact hv
   ·rename_i hq
    split
    ·exact hv
    ·exact hR.setAt h (Clo.upV hR ho r _ (hR.parts n v h _ (partV_in (by simpa using hq))))
  ·exact hR.last h ho
end Go.Up
namespace Go.Up
open Go.SX Go.Vl Go.Ut Go.Ck
inductive VW (n:Nat):Val→Prop
 | mk (v:Val):(-9223372036854775808≤v.kind∧v.kind≤9223372036854775807)→(-9223372036854775808≤v.n∧v.n≤9223372036854775807)→(0≤v.f∧v.f≤18446744073709551615)→v.l.length≤n→v.e.length≤n→(∀ x ∈ v.l,VW n x)→(∀ p ∈ v.e,VW n p.2)→VW n v
theorem VW.mono {n m:Nat} (h:n≤m) {v:Val} (hv:VW n v):VW m v:=by
 induction hv with
 | mk v a b c h1 h2 _ _ i1 i2=>exact .mk v a b c (Nat.le_trans h1 h) (Nat.le_trans h2 h) i1 i2
theorem VW.vb {n:Nat} {v:Val} (hv:VW n v):VB v:=by
 induction hv with
 | mk v a b c h1 h2 _ _ i1 i2=>exact .mk v a b c i1 i2
theorem VW.part {n:Nat} {v x:Val} (hv:VW n v) (hx:x ∈ partsOf v):VW n x:=by
 cases hv with
 | mk _ _ _ _ _ _ h4 h5 =>
  rcases List.mem_append.1 hx with hx | hx
  ·exact h4 x hx
  ·obtain ⟨z,hz,rfl⟩:=List.mem_map.1 hx
   exact h5 z hz
theorem clo_vw:Clo VW:=⟨fun _ _ h x hx=>h.part hx,fun _ _ _ hle h=>h.mono hle,fun n v l e h h1 h2 h3 h4=>by cases h with | mk _ a b c=>exact .mk _ a b c h1 h2 h3 h4,fun _ _ h=>by cases h with | mk _ _ _ _ h1 h2=>exact ⟨h1,h2⟩⟩
theorem vw_of_vb {v:Val} (hv:VB v):VW (bkV v) v:=by
 induction hv with
 | mk v a b c _ _ i1 i2 =>
  have:=bkV_len v
  exact .mk v a b c (by omega) (by omega) (fun x hx=>(i1 x hx).mono (by have:=bkV_mem hx; omega)) (fun p hp=>(i2 p hp).mono (by have:=bkV_ent hp; omega))
/-! how much an update makes -/
theorem sum_filter {m:Ent→Nat} (q:Ent→Bool):∀ l:List Ent,((l.filter q).map m).sum≤(l.map m).sum
 | []=>Nat.le_refl _
 | x::r=>by
  have:=sum_filter (m:=m) q r
  rw [List.filter_cons,List.map_cons,List.sum_cons]
  split
  ·rw [List.map_cons,List.sum_cons]; omega
  ·omega
theorem sum_split {α:Type} {m:α→Nat} (l:List α) (i:Nat):((l.take i).map m).sum + ((l.drop i).map m).sum = (l.map m).sum:=by
 conv=>rhs; rw [← List.take_append_drop i l]
 rw [List.map_append,List.sum_append]
theorem put_bulk {l:List Ent} {k:Str} {a:Val}:((putE l k a).map bkP).sum≤(l.map bkP).sum + bkP (k,a):=by
 have h1:=sum_filter (m:=bkP) (fun p=>!keyIs k p) l
 have h2:=sum_split (m:=bkP) (withoutE l k) ((withoutE l k).findIdx (keyGt k))
 unfold putE
 rw [List.map_append,List.sum_append,List.map_cons,List.sum_cons]
 have h3:((withoutE l k).map bkP).sum≤(l.map bkP).sum:=h1
 omega
theorem bk_e (v:Val) (e:List Ent):bkV { v with e:=e } + (v.e.map bkP).sum = bkV v + (e.map bkP).sum:=by rw [bkV_eq,bkV_eq]; simp only; omega
theorem bk_l (v:Val) (l:List Val):bkV { v with l:=l } + (v.l.map bkV).sum = bkV v + (l.map bkV).sum:=by rw [bkV_eq,bkV_eq]; simp only; omega
theorem set_bulk {l:List Val} {i:Nat} {w:Val}:((l.set i w).map bkV).sum≤(l.map bkV).sum + bkV w:=by
 induction l generalizing i with
 | nil=>simp
 | cons x r ih =>
  cases i with
  | zero=>simp only [List.set_cons_zero,List.map_cons,List.sum_cons]; omega
  | succ i =>
   have:=ih (i:=i)
   simp only [List.set_cons_succ,List.map_cons,List.sum_cons]
   omega
theorem setAt_bulk {v w:Val} {p:PStep}:bkV (setAt v p w)≤bkV v + bkV w + p.key.length + 2:=by
 unfold Up.setAt
 split
 ·have h1:=bk_e v (putE v.e p.key w)
  have h2:=put_bulk (l:=v.e) (k:=p.key) (a:=w)
  rw [bkP_eq] at h2
  simp only at h2
  omega
 ·have h1:=bk_l v (v.l.set p.i.toNat w)
  have h2:=set_bulk (l:=v.l) (i:=p.i.toNat) (w:=w)
  omega
end Go.Up
namespace Go.Up
open Go.SX Go.Vl Go.Ut Go.Ck
theorem parts_bulk {v x:Val} (h:x ∈ partsOf v):bkV x < bkV v:=by
 rcases List.mem_append.1 h with h | h
 ·exact bkV_mem h
 ·obtain ⟨p,hp,rfl⟩:=List.mem_map.1 h
  have:=bkV_ent hp
  omega
theorem last_bulk {v:Val} {p:PStep} {o:OpR}:bkV (lastU v p o).1≤2 * bkV v + bkV o.v + p.key.length + o.key.length + 4:=by
 unfold lastU
 split
 ·split
  ·simp only; omega
  ·split
   ·split
    ·simp only; omega
    ·have h1:=bk_e v (putE v.e p.key o.v)
     have h2:=put_bulk (l:=v.e) (k:=p.key) (a:=o.v)
     rw [bkP_eq] at h2
     simp only at h2 ⊢
     omega
   ·split
    ·simp only; omega
    ·have h1:=bk_l v (v.l.take p.i.toNat++o.v::v.l.drop p.i.toNat)
     have h2:=sum_split (m:=bkV) v.l p.i.toNat
     rw [List.map_append,List.sum_append,List.map_cons,List.sum_cons] at h1
     simp only
     omega
 ·split
  ·simp only; omega
  ·rename_i hq
   split
   ·split
    ·have h1:=bk_e v (withoutE v.e p.key)
     have h2:((withoutE v.e p.key).map bkP).sum≤(v.e.map bkP).sum:=sum_filter _ _
     simp only
     omega
    ·have h1:=bk_l v (v.l.take p.i.toNat++v.l.drop (p.i.toNat + 1))
     have h2:=sum_split (m:=bkV) v.l p.i.toNat
     have h3:=sum_split (m:=bkV) (v.l.drop p.i.toNat) 1
     rw [List.drop_drop] at h3
     rw [List.map_append,List.sum_append] at h1
     simp only
     omega
   ·split
    ·simp only; omega
    ·split
     ·simp only; omega
     ·have h1:=bk_e v (putE (withoutE v.e p.key) o.key (partV v p).1)
      have h2:=put_bulk (l:=withoutE v.e p.key) (k:=o.key) (a:=(partV v p).1)
      have h3:((withoutE v.e p.key).map bkP).sum≤(v.e.map bkP).sum:=sum_filter _ _
      have h4:=parts_bulk (partV_in (v:=v) (p:=p) (by simpa using hq))
      rw [bkP_eq] at h2
      simp only at h2 ⊢
      omega
theorem up_bulk {o:OpR} {K B:Nat} (hk:o.key.length≤K):∀ (p:List PStep) (v:Val),(∀ q ∈ p,q.key.length≤100)→bkV v≤B→bkV (upV v p o).1≤(p.length + 1) * (2 * B + 110) + bkV o.v + K
 | [],v,_,_=>by rw [upV]; simp only [List.length_nil,Nat.zero_add,Nat.one_mul]; omega
 | x::r,v,h,hB=>by
  have hx:=h x (.head _)
  have e:((x::r).length + 1) * (2 * B + 110) = (r.length + 1) * (2 * B + 110) + (2 * B + 110):=by
   rw [List.length_cons,Nat.add_mul (r.length + 1) 1,Nat.one_mul]
  have ih0:=fun (w:Val) (hw:bkV w≤B)=>up_bulk hk r w (fun q hq=>h q (.tail _ hq)) hw
  rw [e]
  generalize (r.length + 1) * (2 * B + 110) = M at ih0 ⊢
  rw [upV]
  split
  ·split
   ·simp only; omega
   ·rename_i hq
    split
    ·simp only; omega
    ·have hp:=parts_bulk (partV_in (v:=v) (p:=x) (by simpa using hq))
     have ih:=ih0 (partV v x).1 (by omega)
     have h1:=setAt_bulk (v:=v) (w:=(upV (partV v x).1 r o).1) (p:=x)
     simp only
     omega
  ·have h1:=last_bulk (v:=v) (p:=x) (o:=o)
   omega
end Go.Up
end
section
namespace Go.Up
open Go.SX Go.Vl Go.Ut Go.Ck
theorem own_ok {v:Val} {a:Int} (h:ownF v a = 0):v.s.length≤4000:=by
 unfold ownF at h
 by_cases c:20≤a
 ·rw [if_pos c] at h; exact absurd h (by decide)
 ·rw [if_neg c] at h
  by_cases d:kindBad v
  ·rw [if_pos d] at h; exact absurd h (by decide)
  ·rw [if_neg d] at h
   by_cases e:4000 < v.s.length∨200 < v.l.length∨200 < v.e.length
   ·rw [if_pos e] at h; exact absurd h (by decide)
   ·omega
theorem ent_keys:∀ (e:List Ent) (q:Option Str),entF q e = 0→∀ p ∈ e,p.1.length≤100
 | x::r,q,h,p,hp=>by
  rw [entF] at h
  obtain ⟨h1,h2⟩:=orI_0 h
  rcases List.mem_cons.1 hp with rfl | hp
  ·unfold keyF at h1
   by_cases c:100 < p.1.length
   ·rw [if_pos c] at h1; exact absurd h1 (by decide)
   ·omega
  ·exact ent_keys r _ h2 p hp
theorem chkL_bulk:∀ (l:List Val) (a m m':Int),chkL l a m = (0,m')→(∀ x ∈ l,∀ k k':Int,chkV x a k = (0,k')→(bkV x:Int) + 103≤(k' - k) * 4110)→((l.map bkV).sum:Int) + 103 * (l.length:Int)≤(m' - m) * 4110
 | [],a,m,m',h,_=>by
  rw [chkL] at h
  injection h with _ h
  subst h
  simp
 | x::r,a,m,m',h,hh=>by
  rw [chkL] at h
  cases hx:chkV x a m with
  | mk e k =>
   rw [hx] at h
   simp only at h
   by_cases c:e≠0
   ·rw [if_pos c] at h
    injection h with h _
    exact absurd h c
   ·rw [if_neg c] at h
    have c:e = 0:=by simpa using c
    subst c
    have h1:=hh x (.head _) m k hx
    have h2:=chkL_bulk r a k m' h fun y hy=>hh y (.tail _ hy)
    rw [List.map_cons,List.sum_cons,List.length_cons]
    omega
theorem chkV_bulk:∀ (n:Nat) (v:Val),SizeOf.sizeOf v < n→∀ a m m':Int,chkV v a m = (0,m')→(bkV v:Int) + 103≤(m' - m) * 4110:=by
 intro n
 induction n with
 | zero=>intro v h; exact absurd h (Nat.not_lt_zero _)
 | succ n ih =>
  intro v hs a m m' h
  rw [chkV_eq] at h
  by_cases c:2000 < m + 1
  ·rw [if_pos c] at h
   injection h with h _
   exact absurd h (by decide)
  ·rw [if_neg c] at h
   by_cases d:oneF v a≠0
   ·rw [if_pos d] at h
    injection h with h _
    exact absurd h d
   ·rw [if_neg d] at h
    have d:oneF v a = 0:=by simpa using d
    obtain ⟨d1,d2⟩:=orI_0 d
    have h1:=chkL_bulk _ _ _ _ h fun x hx k k' hk=>ih x (by have:=parts_sz hx; omega) _ k k' hk
    have h2:=own_ok d1
    have h3:=ent_keys _ _ d2
    have h4:(v.e.map bkP).sum≤(v.e.map (fun p=>bkV p.2)).sum + 102 * v.e.length:=by
     have:∀ e:List Ent,(∀ p ∈ e,p.1.length≤100)→(e.map bkP).sum≤(e.map (fun p=>bkV p.2)).sum + 102 * e.length:=by
      intro e
      induction e with
      | nil=>intro _; simp
      | cons x r ih =>
       intro hh
       have h5:=ih fun p hp=>hh p (.tail _ hp)
       have h6:=hh x (.head _)
       simp only [List.map_cons,List.sum_cons,List.length_cons]
       rw [bkP_eq]
       omega
     exact this v.e h3
    have h5:((partsOf v).map bkV).sum = (v.l.map bkV).sum + (v.e.map (fun p=>bkV p.2)).sum:=by
     unfold partsOf
     rw [List.map_append,List.sum_append,List.map_map]
     rfl
    have h6:(partsOf v).length = v.l.length + v.e.length:=by unfold partsOf; rw [List.length_append,List.length_map]
    rw [bkV_eq]
    omega
theorem good_bulk {v:Val} (h:faultV v = 0):bkV v≤10000000:=by
 unfold faultV at h
 rw [chkT] at h
 simp only at h
 have hle:=chkV_le v 0 0 (by decide) (by decide)
 cases hc:chkV v 0 0 with
 | mk e m =>
  rw [hc] at h hle
  simp only at h hle
  by_cases c:e = 0
  ·subst c
   have:=chkV_bulk _ v (Nat.lt_succ_self _) 0 0 m hc
   have:=hle.2.2 rfl
   omega
  ·rw [if_pos c] at h; exact absurd h c
def allF:Val→Nat→List OpR→Val × Int × Int
 | v,_,[]=>(v,0,0)
 | v,i,o::r=>if (applyV v o).2≠0 then (zeroV,i,(applyV v o).2) else allF (applyV v o).1 (i + 1) r
def allV (v:Val) (l:List OpR):Val × Int × Int:=if faultV v≠0 then (zeroV,0,faultV v) else allF v 0 l
theorem applyV_good {v:Val} {o:OpR} (h:(applyV v o).2 = 0):faultV (applyV v o).1 = 0∧(applyV v o).1 = (upV v o.p o).1∧pathF o.p = 0:=by
 unfold applyV at h ⊢
 by_cases c:faultV v≠0
 ·rw [if_pos c] at h; exact absurd h c
 ·rw [if_neg c] at h ⊢
  by_cases d:opF o≠0
  ·rw [if_pos d] at h; exact absurd h d
  ·rw [if_neg d] at h ⊢
   have hp:pathF o.p = 0:=by
    have d:opF o = 0:=by simpa using d
    unfold opF at d
    by_cases e:o.kind < 1∨4 < o.kind
    ·rw [if_pos e] at d; exact absurd d (by decide)
    ·rw [if_neg e] at d; exact (orI_0 d).1
   by_cases e:(upV v o.p o).2≠0
   ·rw [if_pos e] at h; exact absurd h e
   ·rw [if_neg e] at h ⊢
    by_cases f:faultV (upV v o.p o).1≠0
    ·rw [if_pos f] at h; exact absurd h f
    ·rw [if_neg f]
     exact ⟨by simpa using f,rfl,hp⟩
end Go.Up
end
section
namespace Go.Df
open Go Go.SX Go.Vl Go.Ck Go.Up
set_option maxRecDepth 100000
def costO (v:Val) (o:OpR):Int:=if o.kind = 1 then nd (ledV v o.p).1 + nd o.v else if o.kind = 2 then nd o.v else if o.kind = 3 then nd (ledV v o.p).1 else if o.kind = 4 then nd (ledV v o.p).1 + nd (ledV v o.p).1 else 0
def cosF:Val→Int→List OpR→Int × Val
 | v,sum,[]=>(sum,v)
 | v,sum,o::r=>if (applyV v o).2≠0 then (0,v) else cosF (applyV v o).1 (sum + costO v o) r
theorem nd_zero:nd zeroV = 1:=by rw [nd_eq]; rfl
theorem nd_led (v:Val) (p:List PStep):nd (ledV v p).1≤nd v:=by
 have h:=ledV_keep (R:=fun x=>nd x≤nd v) (by have:=nd_pos v; show nd zeroV≤nd v; rw [nd_zero]; omega) (fun y h x hx=>by have:=(siz_parts y).2 x hx; show nd x≤nd v; have h:nd y≤nd v:=h; unfold nd at *; omega) p v (Int.le_refl _)
 exact h
theorem cost_b {v:Val} {o:OpR} (h1:nd v≤1000000000) (h2:nd o.v≤1000000000):0≤costO v o∧costO v o≤4000000000:=by
 have:=nd_led v o.p
 have:=nd_pos (ledV v o.p).1
 have:=nd_pos o.v
 unfold costO
 split
 ·omega
 split
 ·omega
 split
 ·omega
 split<;>omega
end Go.Df
end
section
namespace Go.Ck
open Go.SX Go.Vl
theorem sum_bulk:∀ l:List Val,(∀ x ∈ l,(sizV x).2≤(bkV x:Int))→sumT (l.map fun v=>(⟨v,0⟩:VPlace))≤((l.map bkV).sum:Nat)
 | [],_=>by simp [sumT]
 | x::r,h=>by
  have h1:=h x (.head _)
  have h2:=sum_bulk r fun y hy=>h y (.tail _ hy)
  rw [List.map_cons,sumT,List.map_cons,List.sum_cons]
  show (sizV x).2 + _≤_
  omega
theorem siz_bulk_n:∀ (n:Nat) (v:Val),SizeOf.sizeOf v < n→(sizV v).2≤(bkV v:Int):=by
 intro n
 induction n with
 | zero=>intro v h; exact absurd h (Nat.not_lt_zero _)
 | succ n ih =>
  intro v h
  have h1:=sum_bulk (partsOf v) fun x hx=>ih x (by have:=parts_sz hx; omega)
  have h2:=fold_sum (partsOf v) (0,1) 0
  have h3:((partsOf v).map bkV).sum≤(v.l.map bkV).sum + (v.e.map bkP).sum:=by
   unfold partsOf
   rw [List.map_append,List.sum_append,List.map_map]
   have:(v.e.map (bkV ∘ (·.2))).sum≤(v.e.map bkP).sum:=by
    generalize v.e = e
    induction e with
    | nil=>exact Nat.le_refl _
    | cons p r ih =>
     rw [List.map_cons,List.sum_cons,List.map_cons,List.sum_cons,bkP_eq]
     simp only [Function.comp]
     omega
   omega
  rw [sizV_eq,bkV_eq]
  simp only at h2 ⊢
  omega
theorem siz_bulk (v:Val):(sizV v).2≤(bkV v:Int):=siz_bulk_n _ v (Nat.lt_succ_self _)
end Go.Ck
end
section
namespace Go.Mer
open Go Go.SX Go.Vl Go.Ut Go.Ck Go.Up
set_option maxRecDepth 100000
/-! ### values that stand alike are the same -/
theorem orI_z {a b:Int} (h:orI a b = 0):a = 0∧b = 0:=by
 unfold orI at h
 split at h
 ·exact ⟨by assumption,h⟩
 ·exact absurd h (by assumption)
theorem rank_inj {a b:Int} (ha:0≤a∧a≤18446744073709551615) (hb:0≤b∧b≤18446744073709551615) (h:rank a = rank b):a = b:=by
 unfold rank at h
 split at h<;>split at h<;>omega
theorem cmpL_eq0:∀ l m:List Val,(∀ x ∈ l,∀ y ∈ m,cmpV x y = 0→x = y)→cmpL l m = 0→l = m
 | [],[],_,_=>rfl
 | [],_::_,_,h=>by rw [cmpL] at h; exact absurd h (by decide)
 | _::_,[],_,h=>by rw [cmpL] at h; exact absurd h (by decide)
 | x::l,y::m,hh,h=>by
  rw [cmpL] at h
  obtain ⟨h1,h2⟩:=orI_z h
  rw [hh x (.head _) y (.head _) h1,cmpL_eq0 l m (fun a ha b hb=>hh a (.tail _ ha) b (.tail _ hb)) h2]
theorem cmpE_eq0:∀ l m:List Ent,(∀ x ∈ l,∀ y ∈ m,cmpV x.2 y.2 = 0→x.2 = y.2)→cmpE l m = 0→l = m
 | [],[],_,_=>rfl
 | [],_::_,_,h=>by rw [cmpE] at h; exact absurd h (by decide)
 | _::_,[],_,h=>by rw [cmpE] at h; exact absurd h (by decide)
 | x::l,y::m,hh,h=>by
  rw [cmpE] at h
  obtain ⟨h1,h2⟩:=orI_z h
  rw [cmpP_eq] at h1
  obtain ⟨h3,h4⟩:=orI_z h1
  have e:x = y:=Prod.ext (cmpS_zero.1 h3) (hh x (.head _) y (.head _) h4)
  rw [e,cmpE_eq0 l m (fun a ha b hb=>hh a (.tail _ ha) b (.tail _ hb)) h2]
theorem cmpV_eq0_n:∀ (n:Nat) (a b:Val),SizeOf.sizeOf a < n→VB a→VB b→cmpV a b = 0→a = b:=by
 intro n
 induction n with
 | zero=>intro a b h; exact absurd h (Nat.not_lt_zero _)
 | succ n ih =>
  intro a b hs ha hb h
  have key:∀ x y:Val,SizeOf.sizeOf x < n→VB x→VB y→cmpV x y = 0→x = y:=fun x y h1 h2 h3 h4=>ih x y h1 h2 h3 h4
  have hl:=fun x (hx:x ∈ a.l)=>val_sz_l hx
  have he:=fun p (hp:p ∈ a.e)=>val_sz_e hp
  rw [cmpV_eq] at h
  obtain ⟨h1,h⟩:=orI_z h
  obtain ⟨h2,h⟩:=orI_z h
  obtain ⟨h3,h⟩:=orI_z h
  obtain ⟨h4,h⟩:=orI_z h
  obtain ⟨h5,h6⟩:=orI_z h
  cases ha with
  | mk _ _ _ af al ae=>cases hb with
   | mk _ _ _ bf bl be =>
    have e5:=cmpL_eq0 _ _ (fun x hx y hy=>key x y (by have:=hl x hx; omega) (al x hx) (bl y hy)) h5
    have e6:=cmpE_eq0 _ _ (fun x hx y hy=>key x.2 y.2 (by have:=he x hx; omega) (ae x hx) (be y hy)) h6
    have e3:=rank_inj af bf (cmpI_zero.1 h3)
    have e1:=cmpI_zero.1 h1
    have e2:=cmpI_zero.1 h2
    have e4:=cmpS_zero.1 h4
    cases a
    cases b
    simp only at e1 e2 e3 e4 e5 e6
    rw [e1,e2,e3,e4,e5,e6]
theorem cmpV_iff {a b:Val} (ha:VB a) (hb:VB b):cmpV a b = 0↔a = b:=⟨cmpV_eq0_n _ a b (Nat.lt_succ_self _) ha hb,fun e=>by rw [e]; exact cmpV_self b⟩
/-! ### sorted texts, each once -/
/-! ### merging -/
theorem vb_zero':VB zeroV:=.mk _ ⟨by decide,by decide⟩ ⟨by decide,by decide⟩ ⟨by decide,by decide⟩ (fun _ h=>nomatch h) (fun _ h=>nomatch h)
/-! the document's entries: the same keys -/
/-! ### how much a merging makes -/
end Go.Mer
end
