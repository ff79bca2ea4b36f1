/-
  A part of a proof: plain laws and walks, one after the other. No conditions.
-/
import Derived.Test.YtjbngfnpddhjpaaDoorMe3
import Derived.Lib.SlicesCompact
import Derived.Sort.Walk0
import Derived.IntWalk
import Derived.Lib.RuneBytes
import Derived.Laws.Bits64
import Derived.Laws.Bits64b
set_option linter.constructorNameAsVariable false
set_option linter.unusedVariables false
set_option linter.unusedSimpArgs false
set_option linter.unusedSectionVars false
section
namespace Go.Up
set_option linter.unusedSectionVars false
set_option linter.unusedSimpArgs false
set_option linter.unusedVariables false
open Go.SX Go.Vl Go.Ut Go.Ck
theorem putE_in {l:List Ent} {k:Str} {a:Val} {p:Ent} (h:p ∈ putE l k a):p = (k,a)∨p ∈ l:=by
  unfold putE at h
  have hw:∀ q ∈ withoutE l k,q ∈ l:=fun q hq=>(List.mem_filter.1 hq).1
  rcases List.mem_append.1 h with h | h
  · exact .inr (hw _ (List.mem_of_mem_take h))
  · rcases List.mem_cons.1 h with h | h
    · exact .inl h
    · exact .inr (hw _ (List.mem_of_mem_drop h))
structure Clo (R:Nat→Val→Prop):Prop where
  parts:∀ n v,R n v→∀ x ∈ partsOf v,R n x
  mono:∀ n m v,n≤m→R n v→R m v
  mak:∀ n v l e,R n v→l.length≤n→e.length≤n→(∀ x ∈ l,R n x)→(∀ p ∈ e,R n p.2)→R n { v with l:=l,e:=e }
  len:∀ n v,R n v→v.l.length≤n∧v.e.length≤n
theorem put_len {l:List Ent} {k:Str} {a:Val}:(putE l k a).length≤l.length + 1:=by
  have h:=List.length_filter_le (fun p=>!keyIs k p) l
  unfold putE
  rw [List.length_append,List.length_cons,List.length_take,List.length_drop]
  have:(withoutE l k).length≤l.length:=h
  omega
theorem Clo.l_of {R:Nat→Val→Prop} (hR:Clo R) {n:Nat} {v:Val} (h:R n v):∀ x ∈ v.l,R n x:=fun x hx=>hR.parts n v h x (List.mem_append_left _ hx)
theorem Clo.e_of {R:Nat→Val→Prop} (hR:Clo R) {n:Nat} {v:Val} (h:R n v):∀ p ∈ v.e,R n p.2:=fun p hp=>hR.parts n v h p.2 (List.mem_append_right _ (List.mem_map.2 ⟨p,hp,rfl⟩))
theorem Clo.setE {R:Nat→Val→Prop} (hR:Clo R) {n:Nat} {v:Val} (h:R n v) {e:List Ent} (hl:e.length≤n + 1) (he:∀ p ∈ e,R (n + 1) p.2):R (n + 1) { v with e:=e } :=
  hR.mak (n + 1) v v.l e (hR.mono _ _ _ (Nat.le_succ n) h) (Nat.le_succ_of_le (hR.len n v h).1) hl (fun x hx=>hR.mono _ _ _ (Nat.le_succ n) (hR.l_of h x hx)) he
theorem Clo.setL {R:Nat→Val→Prop} (hR:Clo R) {n:Nat} {v:Val} (h:R n v) {l:List Val} (hl:l.length≤n + 1) (he:∀ x ∈ l,R (n + 1) x):R (n + 1) { v with l:=l } :=
  hR.mak (n + 1) v l v.e (hR.mono _ _ _ (Nat.le_succ n) h) hl (Nat.le_succ_of_le (hR.len n v h).2) he (fun p hp=>hR.mono _ _ _ (Nat.le_succ n) (hR.e_of h p hp))
theorem Clo.last {R:Nat→Val→Prop} (hR:Clo R) {n:Nat} {v:Val} {p:PStep} {o:OpR} (h:R n v) (ho:R (n + 1) o.v):R (n + 1) (lastU v p o).1:=by
  have hl:=hR.len n v h
  have hv:R (n + 1) v:=hR.mono _ _ _ (Nat.le_succ n) h
  have he:=fun q hq=>hR.mono _ _ _ (Nat.le_succ n) (hR.e_of h q hq)
  have hll:=fun q hq=>hR.mono _ _ _ (Nat.le_succ n) (hR.l_of h q hq)
  have hwl:(withoutE v.e p.key).length≤v.e.length:=List.length_filter_le _ _
  have hwm:∀ q ∈ withoutE v.e p.key,q ∈ v.e:=fun q hq=>(List.mem_filter.1 hq).1
  unfold lastU
  split
  · split
    · exact hv
    · split
      · split
        · exact hv
        · refine hR.setE h (by have:=put_len (l:=v.e) (k:=p.key) (a:=o.v); omega) fun q hq=>?_
          rcases putE_in hq with rfl | hq
          · exact ho
          · exact he q hq
      · split
        · exact hv
        · refine hR.setL h (by rw [List.length_append,List.length_cons,List.length_take,List.length_drop]; omega) fun x hx=>?_
          rcases List.mem_append.1 hx with hx | hx
          · exact hll x (List.mem_of_mem_take hx)
          · rcases List.mem_cons.1 hx with rfl | hx
            · exact ho
            · exact hll x (List.mem_of_mem_drop hx)
  · split
    · exact hv
    · rename_i hq
      split
      · split
        · exact hR.setE h (by omega) fun q hq=>he q (hwm q hq)
        · refine hR.setL h (by rw [List.length_append,List.length_take,List.length_drop]; omega) fun x hx=>?_
          rcases List.mem_append.1 hx with hx | hx
          · exact hll x (List.mem_of_mem_take hx)
          · exact hll x (List.mem_of_mem_drop hx)
      · split
        · exact hv
        · split
          · exact hv
          · refine hR.setE h (by have:=put_len (l:=withoutE v.e p.key) (k:=o.key) (a:=(partV v p).1); omega) fun q hq2=>?_
            rcases putE_in hq2 with rfl | hq2
            · exact hR.mono _ _ _ (Nat.le_succ n) (hR.parts n v h _ (partV_in (by simpa using hq)))
            · exact he q (hwm q hq2)
end Go.Up
namespace Go.Up
open Go.SX Go.Vl Go.Ut Go.Ck
inductive VW (n:Nat):Val→Prop
  | mk (v:Val):(-9223372036854775808≤v.kind∧v.kind≤9223372036854775807)→(-9223372036854775808≤v.n∧v.n≤9223372036854775807)→(0≤v.f∧v.f≤18446744073709551615)→v.l.length≤n→v.e.length≤n→(∀ x ∈ v.l,VW n x)→(∀ p ∈ v.e,VW n p.2)→VW n v
theorem VW.mono {n m:Nat} (h:n≤m) {v:Val} (hv:VW n v):VW m v:=by
  induction hv with
  | mk v a b c h1 h2 _ _ i1 i2=>exact .mk v a b c (Nat.le_trans h1 h) (Nat.le_trans h2 h) i1 i2
theorem VW.part {n:Nat} {v x:Val} (hv:VW n v) (hx:x ∈ partsOf v):VW n x:=by
  cases hv with
  | mk _ _ _ _ _ _ h4 h5 =>
    rcases List.mem_append.1 hx with hx | hx
    · exact h4 x hx
    · obtain ⟨z,hz,rfl⟩:=List.mem_map.1 hx
      exact h5 z hz
theorem vw_of_vb {v:Val} (hv:VB v):VW (bkV v) v:=by
  induction hv with
  | mk v a b c _ _ i1 i2 =>
    have:=bkV_len v
    exact .mk v a b c (by omega) (by omega) (fun x hx=>(i1 x hx).mono (by have:=bkV_mem hx; omega)) (fun p hp=>(i2 p hp).mono (by have:=bkV_ent hp; omega))
/-! how much an update makes -/
end Go.Up
namespace Go.Up
open Go.SX Go.Vl Go.Ut Go.Ck
end Go.Up
end
section
namespace Go.Ck
set_option linter.unusedSectionVars false
set_option linter.unusedSimpArgs false
set_option linter.unusedVariables false
open Go.SX Go.Vl
theorem sum_bulk:∀ l:List Val,(∀ x ∈ l,(sizV x).2≤(bkV x:Int))→sumT (l.map fun v=>(⟨v,0⟩:VPlace))≤((l.map bkV).sum:Nat)
  | [],_=>by simp [sumT]
  | x::r,h=>by
    have h1:=h x (.head _)
    have h2:=sum_bulk r fun y hy=>h y (.tail _ hy)
    rw [List.map_cons,sumT,List.map_cons,List.sum_cons]
    show (sizV x).2 + _≤_
    omega
theorem siz_bulk_n:∀ (n:Nat) (v:Val),SizeOf.sizeOf v < n→(sizV v).2≤(bkV v:Int):=by
  intro n
  induction n with
  | zero=>intro v h; exact absurd h (Nat.not_lt_zero _)
  | succ n ih =>
    intro v h
    have h1:=sum_bulk (partsOf v) fun x hx=>ih x (by have:=parts_sz hx; omega)
    have h2:=fold_sum (partsOf v) (0,1) 0
    have h3:((partsOf v).map bkV).sum≤(v.l.map bkV).sum + (v.e.map bkP).sum:=by
      unfold partsOf
      rw [List.map_append,List.sum_append,List.map_map]
      have:(v.e.map (bkV ∘ (·.2))).sum≤(v.e.map bkP).sum:=by
        generalize v.e = e
        induction e with
        | nil=>exact Nat.le_refl _
        | cons p r ih =>
          rw [List.map_cons,List.sum_cons,List.map_cons,List.sum_cons,bkP_eq]
          simp only [Function.comp]
          omega
      omega
    rw [sizV_eq,bkV_eq]
    simp only at h2 ⊢
    omega
theorem siz_bulk (v:Val):(sizV v).2≤(bkV v:Int):=siz_bulk_n _ v (Nat.lt_succ_self _)
end Go.Ck
end
section
namespace Go.Mer
set_option linter.unusedSectionVars false
set_option linter.unusedSimpArgs false
set_option linter.unusedVariables false
open Go Go.SX Go.Vl Go.Ut Go.Ck Go.Up
set_option maxRecDepth 100000
/-! ### values that stand alike are the same -/
theorem orI_z {a b:Int} (h:orI a b = 0):a = 0∧b = 0:=by
  unfold orI at h
  split at h
  · exact ⟨by assumption,h⟩
  · exact absurd h (by assumption)
theorem rank_inj {a b:Int} (ha:0≤a∧a≤18446744073709551615) (hb:0≤b∧b≤18446744073709551615) (h:rank a = rank b):a = b:=by
  unfold rank at h
  split at h<;>split at h<;>omega
theorem cmpL_eq0:∀ l m:List Val,(∀ x ∈ l,∀ y ∈ m,cmpV x y = 0→x = y)→cmpL l m = 0→l = m
  | [],[],_,_=>rfl
  | [],_::_,_,h=>by rw [cmpL] at h; exact absurd h (by decide)
  | _::_,[],_,h=>by rw [cmpL] at h; exact absurd h (by decide)
  | x::l,y::m,hh,h=>by
    rw [cmpL] at h
    obtain ⟨h1,h2⟩:=orI_z h
    rw [hh x (.head _) y (.head _) h1,cmpL_eq0 l m (fun a ha b hb=>hh a (.tail _ ha) b (.tail _ hb)) h2]
theorem cmpE_eq0:∀ l m:List Ent,(∀ x ∈ l,∀ y ∈ m,cmpV x.2 y.2 = 0→x.2 = y.2)→cmpE l m = 0→l = m
  | [],[],_,_=>rfl
  | [],_::_,_,h=>by rw [cmpE] at h; exact absurd h (by decide)
  | _::_,[],_,h=>by rw [cmpE] at h; exact absurd h (by decide)
  | x::l,y::m,hh,h=>by
    rw [cmpE] at h
    obtain ⟨h1,h2⟩:=orI_z h
    rw [cmpP_eq] at h1
    obtain ⟨h3,h4⟩:=orI_z h1
    have e:x = y:=Prod.ext (cmpS_zero.1 h3) (hh x (.head _) y (.head _) h4)
    rw [e,cmpE_eq0 l m (fun a ha b hb=>hh a (.tail _ ha) b (.tail _ hb)) h2]
theorem cmpV_eq0_n:∀ (n:Nat) (a b:Val),SizeOf.sizeOf a < n→VB a→VB b→cmpV a b = 0→a = b:=by
  intro n
  induction n with
  | zero=>intro a b h; exact absurd h (Nat.not_lt_zero _)
  | succ n ih =>
    intro a b hs ha hb h
    have key:∀ x y:Val,SizeOf.sizeOf x < n→VB x→VB y→cmpV x y = 0→x = y:=fun x y h1 h2 h3 h4=>ih x y h1 h2 h3 h4
    have hl:=fun x (hx:x ∈ a.l)=>val_sz_l hx
    have he:=fun p (hp:p ∈ a.e)=>val_sz_e hp
    rw [cmpV_eq] at h
    obtain ⟨h1,h⟩:=orI_z h
    obtain ⟨h2,h⟩:=orI_z h
    obtain ⟨h3,h⟩:=orI_z h
    obtain ⟨h4,h⟩:=orI_z h
    obtain ⟨h5,h6⟩:=orI_z h
    cases ha with
    | mk _ _ _ af al ae=>cases hb with
      | mk _ _ _ bf bl be =>
        have e5:=cmpL_eq0 _ _ (fun x hx y hy=>key x y (by have:=hl x hx; omega) (al x hx) (bl y hy)) h5
        have e6:=cmpE_eq0 _ _ (fun x hx y hy=>key x.2 y.2 (by have:=he x hx; omega) (ae x hx) (be y hy)) h6
        have e3:=rank_inj af bf (cmpI_zero.1 h3)
        have e1:=cmpI_zero.1 h1
        have e2:=cmpI_zero.1 h2
        have e4:=cmpS_zero.1 h4
        cases a
        cases b
        simp only at e1 e2 e3 e4 e5 e6
        rw [e1,e2,e3,e4,e5,e6]
theorem cmpV_iff {a b:Val} (ha:VB a) (hb:VB b):cmpV a b = 0↔a = b:=⟨cmpV_eq0_n _ a b (Nat.lt_succ_self _) ha hb,fun e=>by rw [e]; exact cmpV_self b⟩
/-! ### sorted texts, each once -/
def Asc (l:List Str):Prop:=l.Pairwise fun a b=>a < b
theorem asc_uniq:∀ {l m:List Str},Asc l→Asc m→(∀ x,x ∈ l↔x ∈ m)→l = m
  | [],[],_,_,_=>rfl
  | [],y::m,_,_,h=>absurd ((h y).2 (.head _)) (by simp)
  | x::l,[],_,_,h=>absurd ((h x).1 (.head _)) (by simp)
  | x::l,y::m,hl,hm,h=>by
    have h1:=List.pairwise_cons.1 hl
    have h2:=List.pairwise_cons.1 hm
    have e:x = y:=by
      rcases List.mem_cons.1 ((h x).1 (.head _)) with e | e
      · exact e
      · rcases List.mem_cons.1 ((h y).2 (.head _)) with e2 | e2
        · exact e2.symm
        · exact absurd (h1.1 y e2) (List.lt_asymm (h2.1 x e))
    subst e
    rw [asc_uniq h1.2 h2.2 fun z=>?_]
    constructor
    · intro hz
      rcases List.mem_cons.1 ((h z).1 (.tail _ hz)) with e | e
      · exact absurd (h1.1 z hz) (by rw [e]; exact List.lt_irrefl _)
      · exact e
    · intro hz
      rcases List.mem_cons.1 ((h z).2 (.tail _ hz)) with e | e
      · exact absurd (h2.1 z hz) (by rw [e]; exact List.lt_irrefl _)
      · exact e
def srt (l:List Str):List Str:=l.mergeSort fun x y=>decide (x≤y)
theorem le_total' (a b:Str):(decide (a≤b) || decide (b≤a)) = true:=by
  rcases List.le_total a b with h | h<;>simp [h]
theorem srt_pw (l:List Str):(srt l).Pairwise fun a b=>a≤b:=by
  have:=List.pairwise_mergeSort (le:=fun x y:Str=>decide (x≤y)) (fun a b c h1 h2=>by
    simp only [decide_eq_true_eq] at *
    exact List.le_trans h1 h2) (fun a b=>le_total' a b) l
  exact this.imp fun h=>by simpa using h
theorem srt_mem (l:List Str) (x:Str):x ∈ srt l↔x ∈ l:=(List.mergeSort_perm l _).mem_iff
theorem srt_len (l:List Str):(srt l).length = l.length:=(List.mergeSort_perm l _).length_eq
def ksOf (l:List Str):List Str:=Lib.compact (srt l)
theorem comp_inv (zs:List Str) (hs:zs.Pairwise fun a b=>a≤b):∀ m,m≤zs.length→Asc (Lib.compactUpTo zs.toArray m)∧(∀ x,x ∈ Lib.compactUpTo zs.toArray m↔x ∈ zs.take m)∧(∀ x ∈ Lib.compactUpTo zs.toArray m,∀ h:m - 1 < zs.length,x≤zs[m - 1]):=by
  intro m
  induction m with
  | zero=>intro _; exact ⟨.nil,fun x=>by simp [Lib.compactUpTo],fun x hx=>by simp [Lib.compactUpTo] at hx⟩
  | succ m ih =>
    intro hm
    obtain ⟨h1,h2,h3⟩:=ih (by omega)
    have hlt:m < zs.length:=hm
    have eg:zs.toArray[m]! = zs[m]:=by simp [hlt]
    rw [Lib.compactUpTo_succ]
    have hle:∀ (h:m - 1 < zs.length),zs[m - 1]≤zs[m]:=fun h=>by
      rcases Nat.eq_zero_or_pos m with e | e
      · subst e; exact List.le_refl _
      · exact List.pairwise_iff_getElem.1 hs (m - 1) m h hlt (by omega)
    by_cases hk:Lib.keeps zs.toArray m = true
    · rw [if_pos hk,eg]
      have hup:∀ x ∈ Lib.compactUpTo zs.toArray m,x < zs[m]:=fun x hx=>by
        have hx3:=h3 x hx (by omega)
        have hx4:=hle (by omega)
        have hne:zs[m - 1]'(by omega)≠zs[m]:=by
          intro e
          have h0:m≠0:=fun e0=>by subst e0; simp [Lib.compactUpTo] at hx
          have:=Lib.keeps_neg (d:=zs.toArray) (m:=m) (by omega) (by rw [eg,← e]; simp [show m - 1 < zs.length by omega])
          rw [this] at hk
          cases hk
        have hlt2:zs[m - 1]'(by omega) < zs[m]:=by
          refine Classical.byContradiction fun h=>hne (List.le_antisymm hx4 (List.not_lt.1 h))
        exact List.lt_of_le_of_lt hx3 hlt2
      refine ⟨List.pairwise_append.2 ⟨h1,List.pairwise_singleton .., fun a ha b hb=>?_⟩,fun x=>?_,fun x hx h=>?_⟩
      · rw [List.mem_singleton.1 hb]; exact hup a ha
      · rw [List.take_add_one,List.mem_append,List.mem_append,h2,List.getElem?_eq_getElem hlt]; rfl
      · show x≤zs[m + 1 - 1]
        rcases List.mem_append.1 hx with hx | hx
        · exact List.le_of_lt (hup x hx)
        · rw [List.mem_singleton.1 hx]; exact List.le_refl _
    · have hk':Lib.keeps zs.toArray m = false:=by simpa using hk
      rw [if_neg hk,List.append_nil]
      have h0:m≠0:=fun e0=>by subst e0; exact hk (Lib.keeps_lt_one _ 0 (by decide))
      have he:zs[m] = zs[m - 1]'(by omega):=by
        have hq:¬ zs.toArray[m]!≠zs.toArray[m - 1]!:=fun h=>hk (Lib.keeps_pos h)
        have hq:zs.toArray[m]! = zs.toArray[m - 1]!:=by simpa using hq
        rw [eg] at hq
        rw [hq]
        simp [show m - 1 < zs.length by omega]
      refine ⟨h1,fun x=>?_,fun x hx h=>?_⟩
      · rw [h2,List.take_add_one,List.mem_append,List.getElem?_eq_getElem hlt]
        refine ⟨.inl,fun h=>h.elim id fun h=>?_⟩
        have hx:x = zs[m]:=by simpa using h
        rw [hx,he]
        exact List.mem_take_iff_getElem.2 ⟨m - 1,by omega,rfl⟩
      · show x≤zs[m + 1 - 1]
        have:=h3 x hx (by omega)
        rw [show zs[m + 1 - 1] = zs[m] from rfl,he]
        exact this
theorem ks_asc (l:List Str):Asc (ksOf l):=(comp_inv (srt l) (srt_pw l) _ (Nat.le_refl _)).1
theorem ks_mem (l:List Str) (x:Str):x ∈ ksOf l↔x ∈ l:=by
  have:=(comp_inv (srt l) (srt_pw l) _ (Nat.le_refl _)).2.1 x
  rw [List.take_length,srt_mem] at this
  exact this
/-! ### merging -/
def MbOK (m:MbR):Prop:=VB m.v
def sameM (a b:MbR):Bool:=(a.is == b.is) && (!a.is || decide (cmpV a.v b.v = 0))
def tabM (m:MbR):Bool:=m.is && m.v.kind == 6
def atM (m:MbR) (k:Str):MbR:=match m.v.e.find? (keyIs k) with
  | some p=>⟨true,p.2⟩
  | none=>⟨false,zeroV⟩
def allK (l:List MbR):List Str:=l.flatMap fun m=>m.v.e.map (·.1)
def putAll (l:List Ent) (e:List Ent):List Ent:=e.foldl (fun l p=>putE l p.1 p.2) l
def allE (l:List MbR):List Ent:=l.flatMap fun m=>m.v.e
def tblV (rs:List (Str × MbR × List (List PStep))):Val:=⟨6,0,0,[],[],rs.filterMap fun r=>if r.2.1.is then some (r.1,r.2.1.v) else none⟩
def clsV (rs:List (Str × MbR × List (List PStep))):List (List PStep):=rs.flatMap fun r=>r.2.2.map (⟨r.1,-1⟩::·)
def mrg:Nat→MbR→MbR→MbR→MbR × List (List PStep)
  | 0,_,a,_=>(a,[])
  | f + 1,c,a,b =>
    if sameM a b || sameM b c then (a,[]) else if sameM a c then (b,[]) else if !tabM c || !tabM a || !tabM b then (a,[[]])
    else let rs:=(ksOf (allK [c,a,b])).map fun k=>(k,mrg f (atM c k) (atM a k) (atM b k)); (⟨true,tblV rs⟩,clsV rs)
theorem find_mem {e:List Ent} {k:Str} {p:Ent} (h:e.find? (keyIs k) = some p):p ∈ e∧p.1 = k:=⟨List.mem_of_find?_eq_some h,by have:=List.find?_some h; simpa [keyIs] using this⟩
theorem vb_zero':VB zeroV:=.mk _ ⟨by decide,by decide⟩ ⟨by decide,by decide⟩ ⟨by decide,by decide⟩ (fun _ h=>nomatch h) (fun _ h=>nomatch h)
theorem mbok_at {m:MbR} (h:MbOK m) (k:Str):MbOK (atM m k):=by
  unfold MbOK atM
  cases hf:m.v.e.find? (keyIs k) with
  | some p =>
    cases h with
    | mk _ _ _ _ _ he=>exact he p (find_mem hf).1
  | none=>exact vb_zero'
theorem sameM_iff {a b:MbR} (ha:MbOK a) (hb:MbOK b):sameM a b = true↔a.is = b.is∧(a.is = true→a.v = b.v):=by
  unfold sameM
  rw [Bool.and_eq_true,Bool.or_eq_true,beq_iff_eq,Bool.not_eq_true',decide_eq_true_eq,cmpV_iff ha hb]
  cases a.is<;>simp
theorem sameM_tri {a b c:MbR} (ha:MbOK a) (hb:MbOK b) (hc:MbOK c) (h1:sameM a c = true) (h2:sameM b c = true):sameM a b = true:=by
  rw [sameM_iff ha hc] at h1
  rw [sameM_iff hb hc] at h2
  rw [sameM_iff ha hb]
  refine ⟨h1.1.trans h2.1.symm,fun h=>(h1.2 h).trans (h2.2 ?_).symm⟩
  rw [h2.1,← h1.1]
  exact h
/-! the document's entries: the same keys -/
theorem put_keys (l:List Ent) (k:Str) (a:Val) (x:Str):x ∈ (putE l k a).map (·.1)↔x = k∨x ∈ l.map (·.1):=by
  have h1:x ∈ (putE l k a).map (·.1)↔x = k∨x ∈ (withoutE l k).map (·.1):=by
    unfold putE
    rw [List.map_append,List.mem_append,List.map_cons,List.mem_cons]
    have h2:x ∈ (withoutE l k).map (·.1)↔x ∈ ((withoutE l k).take ((withoutE l k).findIdx (keyGt k))).map (·.1)∨x ∈ ((withoutE l k).drop ((withoutE l k).findIdx (keyGt k))).map (·.1):=by
      rw [← List.mem_append,← List.map_append,List.take_append_drop]
    rw [h2]
    constructor
    · rintro (h | h | h)
      · exact .inr (.inl h)
      · exact .inl h
      · exact .inr (.inr h)
    · rintro (h | h | h)
      · exact .inr (.inl h)
      · exact .inl h
      · exact .inr (.inr h)
  rw [h1]
  by_cases e:x = k
  · simp [e]
  · simp only [e,false_or]
    unfold withoutE
    rw [List.mem_map,List.mem_map]
    constructor
    · rintro ⟨p,hp,rfl⟩
      exact ⟨p,(List.mem_filter.1 hp).1,rfl⟩
    · rintro ⟨p,hp,rfl⟩
      exact ⟨p,List.mem_filter.2 ⟨hp,by simp [keyIs,e]⟩,rfl⟩
theorem keyGt_iff (k:Str) (p:Ent):keyGt k p = true↔k < p.1:=by
  unfold keyGt
  rw [Go.Proofs.bytesLess_eq,Bool.not_eq_true',Bool.or_eq_false_iff,decide_eq_false_iff_not,beq_eq_false_iff_ne]
  constructor
  · rintro ⟨h1,h2⟩
    exact Classical.byContradiction fun h=>h2 (List.le_antisymm (List.not_lt.1 h) (List.not_lt.1 h1))
  · intro h
    exact ⟨List.lt_asymm h,fun e=>List.lt_irrefl _ (e ▸ h)⟩
theorem asc_put {l:List Ent} (h:Asc (l.map (·.1))) (k:Str) (a:Val):Asc ((putE l k a).map (·.1)):=by
  have hw:Asc ((withoutE l k).map (·.1)):=h.sublist (List.filter_sublist.map _)
  have hne:∀ p ∈ withoutE l k,p.1≠k:=fun p hp=>by have:=(List.mem_filter.1 hp).2; simpa [keyIs] using this
  unfold putE
  generalize withoutE l k = w at *
  rw [List.map_append,List.map_cons]
  have hs:Asc ((w.take (w.findIdx (keyGt k))).map (·.1)++(w.drop (w.findIdx (keyGt k))).map (·.1)):=by rw [← List.map_append,List.take_append_drop]; exact hw
  obtain ⟨p1,p2,p3⟩:=List.pairwise_append.1 hs
  have lo:∀ x ∈ (w.take (w.findIdx (keyGt k))).map (·.1),x < k:=fun x hx=>by
    obtain ⟨p,hp,rfl⟩:=List.mem_map.1 hx
    obtain ⟨j,hj,rfl⟩:=List.mem_take_iff_getElem.1 hp
    have hg:keyGt k w[j] = false:=by
      have:=List.not_of_lt_findIdx (p:=keyGt k) (xs:=w) (i:=j) (by omega)
      simpa using this
    have hn:=hne w[j] (List.getElem_mem _)
    refine Classical.byContradiction fun h=>?_
    have:k < w[j].1:=by
      refine Classical.byContradiction fun h2=>hn (List.le_antisymm (List.not_lt.1 h2) (List.not_lt.1 h))
    rw [(keyGt_iff k _).2 this] at hg
    cases hg
  have hi:∀ x ∈ (w.drop (w.findIdx (keyGt k))).map (·.1),k < x:=fun x hx=>by
    obtain ⟨p,hp,rfl⟩:=List.mem_map.1 hx
    by_cases hlt:w.findIdx (keyGt k) < w.length
    · have h0:k < w[w.findIdx (keyGt k)].1:=(keyGt_iff k _).1 (List.findIdx_getElem (w:=hlt))
      rw [List.drop_eq_getElem_cons hlt] at hp p2
      rcases List.mem_cons.1 hp with e | hp
      · rw [e]; exact h0
      · exact List.lt_trans h0 ((List.pairwise_cons.1 p2).1 _ (List.mem_map.2 ⟨p,hp,rfl⟩))
    · rw [List.drop_eq_nil_of_le (by omega)] at hp
      cases hp
  refine List.pairwise_append.2 ⟨p1,List.pairwise_cons.2 ⟨hi,p2⟩,fun x hx y hy=>?_⟩
  rcases List.mem_cons.1 hy with e | hy
  · rw [e]; exact lo x hx
  · exact List.lt_trans (lo x hx) (hi y hy)
theorem putAll_ok:∀ (e l:List Ent),Asc (l.map (·.1))→Asc ((putAll l e).map (·.1))∧∀ x,x ∈ (putAll l e).map (·.1)↔x ∈ l.map (·.1)∨x ∈ e.map (·.1)
  | [],l,h=>⟨h,fun x=>by simp [putAll]⟩
  | p::e,l,h=>by
    have h1:=putAll_ok e (putE l p.1 p.2) (asc_put h p.1 p.2)
    refine ⟨h1.1,fun x=>?_⟩
    have h2:=h1.2 x
    rw [put_keys] at h2
    show x ∈ (putAll (putE l p.1 p.2) e).map (·.1)↔_
    rw [h2,List.map_cons,List.mem_cons]
    constructor
    · rintro ((h | h) | h)
      · exact .inr (.inl h)
      · exact .inl h
      · exact .inr (.inr h)
    · rintro (h | h | h)
      · exact .inl (.inr h)
      · exact .inl (.inl h)
      · exact .inr h
theorem keys_doc (l:List MbR):(putAll [] (allE l)).map (·.1) = ksOf (allK l):=by
  obtain ⟨h1,h2⟩:=putAll_ok (allE l) [] .nil
  refine asc_uniq h1 (ks_asc _) fun x=>?_
  rw [h2,ks_mem]
  unfold allE allK
  simp only [List.map_nil,List.not_mem_nil,false_or,List.mem_map,List.mem_flatMap]
  exact ⟨fun ⟨p,⟨m,h1,h2⟩,h3⟩=>⟨m,h1,p,h2,h3⟩,fun ⟨m,h1,p,h2,h3⟩=>⟨p,⟨m,h1,h2⟩,h3⟩⟩
theorem putAll_app (l:List Ent) (a b:List Ent):putAll l (a++b) = putAll (putAll l a) b:=List.foldl_append ..
def mrgD:Nat→MbR→MbR→MbR→MbR × List (List PStep)
  | 0,_,a,_=>(a,[])
  | f + 1,c,a,b =>
    if sameM a b then (a,[]) else if sameM a c then (b,[]) else if sameM b c then (a,[]) else if !tabM c || !tabM a || !tabM b then (a,[[]])
    else let rs:=((putAll [] (allE [c,a,b])).map (·.1)).map fun k=>(k,mrgD f (atM c k) (atM a k) (atM b k)); (⟨true,tblV rs⟩,clsV rs)
theorem mrgD_eq:∀ (f:Nat) (c a b:MbR),MbOK c→MbOK a→MbOK b→mrgD f c a b = mrg f c a b
  | 0,_,_,_,_,_,_=>rfl
  | f + 1,c,a,b,hc,ha,hb=>by
    rw [mrgD,mrg,keys_doc]
    have e:(fun k=>(k,mrgD f (atM c k) (atM a k) (atM b k))) = fun k=>(k,mrg f (atM c k) (atM a k) (atM b k)):=by
      funext k
      rw [mrgD_eq f _ _ _ (mbok_at hc k) (mbok_at ha k) (mbok_at hb k)]
    rw [e]
    have ht:=sameM_tri ha hb hc
    cases h1:sameM a b
    · cases h2:sameM a c
      · cases h3:sameM b c<;>simp
      · cases h3:sameM b c
        · simp
        · rw [h1] at ht
          exact absurd (ht h2 h3) (by decide)
    · simp
/-! ### how much a merging makes -/
def bkM (m:MbR):Nat:=if m.is then bkV m.v else 0
def atE (e:List Ent) (k:Str):Nat:=match e.find? (keyIs k) with
  | some p=>bkP p
  | none=>0
theorem atE_sum (ks:List Str) (hk:ks.Nodup):∀ e:List Ent,(ks.map (atE e)).sum≤(e.map bkP).sum
  | []=>by
    have:∀ l:List Str,(l.map (atE [])).sum = 0:=fun l=>by induction l with
      | nil=>rfl
      | cons k l ih=>rw [List.map_cons,List.sum_cons,ih]; rfl
    rw [this]; exact Nat.zero_le _
  | p::r=>by
    have ih:=atE_sum ks hk r
    rw [List.map_cons,List.sum_cons]
    have h0:∀ k,atE (p::r) k = if p.1 = k then bkP p else atE r k:=fun k=>by
      unfold atE
      rw [List.find?_cons]
      by_cases e:p.1 = k
      · rw [if_pos e,show keyIs k p = true by simp [keyIs,e]]
      · rw [if_neg e,show keyIs k p = false by simp [keyIs,e]]
    have h1:∀ l:List Str,l.Nodup→(l.map (atE (p::r))).sum≤(if p.1 ∈ l then bkP p else 0) + (l.map (atE r)).sum:=fun l=>by
      induction l with
      | nil=>intro _; simp
      | cons k l ih =>
        intro hl
        obtain ⟨hk1,hk2⟩:=List.nodup_cons.1 hl
        have ih:=ih hk2
        rw [List.map_cons,List.sum_cons,List.map_cons,List.sum_cons,h0]
        by_cases e:p.1 = k
        · rw [if_pos e,if_pos (by rw [e]; exact .head _)]
          rw [if_neg (by rw [e]; exact hk1)] at ih
          omega
        · rw [if_neg e]
          by_cases e2:p.1 ∈ l
          · rw [if_pos (.tail _ e2)]
            rw [if_pos e2] at ih
            omega
          · rw [if_neg (by simp [e,e2])]
            rw [if_neg e2] at ih
            omega
    have h2:=h1 ks hk
    split at h2<;>omega
theorem asc_nodup {l:List Str} (h:Asc l):l.Nodup:=List.Pairwise.imp (R:=fun a b=>a < b) (S:=fun a b=>a≠b) (fun {a b} hab e=>by subst e; exact List.lt_irrefl _ hab) h
theorem atM_bk (m:MbR) (k:Str):bkM (atM m k) + (if (atM m k).is then k.length + 2 else 0) = atE m.v.e k:=by
  unfold bkM atM atE
  cases hf:m.v.e.find? (keyIs k) with
  | some p =>
    simp only [if_true]
    rw [bkP_eq,(find_mem hf).2]
    omega
  | none=>rfl
theorem mrg_is:∀ (f:Nat) (c a b:MbR),(mrg f c a b).1.is = true→c.is = true∨a.is = true∨b.is = true
  | 0,c,a,b,h=>.inr (.inl h)
  | f + 1,c,a,b,h=>by
    rw [mrg] at h
    split at h
    · exact .inr (.inl h)
    split at h
    · exact .inr (.inr h)
    split at h
    · exact .inr (.inl h)
    · rename_i h3
      have:tabM c = true:=by
        cases hc:tabM c
        · rw [hc] at h3; exact absurd rfl h3
        · rfl
      unfold tabM at this
      rw [Bool.and_eq_true] at this
      exact .inl this.1
theorem tbl_bk:∀ rs:List (Str × MbR × List (List PStep)),((tblV rs).e.map bkP).sum = (rs.map fun r=>if r.2.1.is then r.1.length + 2 + bkV r.2.1.v else 0).sum
  | []=>rfl
  | r::rs=>by
    have ih:=tbl_bk rs
    have h0:(tblV (r::rs)).e = if r.2.1.is then (r.1,r.2.1.v)::(tblV rs).e else (tblV rs).e:=by
      unfold tblV
      rw [List.filterMap_cons]
      cases r.2.1.is<;>rfl
    rw [h0,List.map_cons,List.sum_cons,← ih]
    cases h:r.2.1.is
    · simp
    · rw [if_pos rfl,if_pos rfl,List.map_cons,List.sum_cons,bkP_eq]
      show r.1.length + bkV r.2.1.v + 2 + _ = _
      omega
theorem mrg_bk:∀ (f:Nat) (c a b:MbR),bkM (mrg f c a b).1≤bkM c + bkM a + bkM b
  | 0,c,a,b=>by rw [mrg]; simp only; omega
  | f + 1,c,a,b=>by
    rw [mrg]
    split
    · simp only; omega
    split
    · simp only; omega
    split
    · simp only; omega
    · rename_i h3
      have ht:tabM c = true∧tabM a = true∧tabM b = true:=by
        cases hc:tabM c<;>cases ha:tabM a<;>cases hb:tabM b<;>rw [hc,ha,hb] at h3<;>first | exact ⟨rfl,rfl,rfl⟩ | exact absurd rfl h3
      have hi:∀ m:MbR,tabM m = true→bkM m = m.v.s.length + (m.v.l.map bkV).sum + (m.v.e.map bkP).sum + 7:=fun m h=>by
        unfold tabM at h
        rw [Bool.and_eq_true] at h
        unfold bkM
        rw [if_pos h.1,bkV_eq]
      rw [hi c ht.1,hi a ht.2.1,hi b ht.2.2]
      have hn:=asc_nodup (ks_asc (allK [c,a,b]))
      generalize ksOf (allK [c,a,b]) = ks at *
      have s1:=atE_sum ks hn c.v.e
      have s2:=atE_sum ks hn a.v.e
      have s3:=atE_sum ks hn b.v.e
      have hb:bkM ⟨true,tblV (ks.map fun k=>(k,mrg f (atM c k) (atM a k) (atM b k)))⟩ = ((tblV (ks.map fun k=>(k,mrg f (atM c k) (atM a k) (atM b k)))).e.map bkP).sum + 7:=by
        unfold bkM
        rw [if_pos rfl,bkV_eq]
        show ([]:Str).length + (([]:List Val).map bkV).sum + _ + 7 = _
        rw [List.length_nil,List.map_nil,List.sum_nil,Nat.zero_add,Nat.zero_add]
      rw [hb,tbl_bk,List.map_map]
      have hs:∀ l:List Str,(l.map ((fun r:Str × MbR × List (List PStep)=>if r.2.1.is then r.1.length + 2 + bkV r.2.1.v else 0) ∘ fun k=>(k,mrg f (atM c k) (atM a k) (atM b k)))).sum≤(l.map (atE c.v.e)).sum + (l.map (atE a.v.e)).sum + (l.map (atE b.v.e)).sum:=fun l=>by
        induction l with
        | nil=>exact Nat.le_refl _
        | cons k l ih =>
          have h1:=mrg_bk f (atM c k) (atM a k) (atM b k)
          have h2:=mrg_is f (atM c k) (atM a k) (atM b k)
          have a1:=atM_bk c k
          have a2:=atM_bk a k
          have a3:=atM_bk b k
          simp only [List.map_cons,List.sum_cons,Function.comp_apply] at ih ⊢
          generalize mrg f (atM c k) (atM a k) (atM b k) = r at *
          cases hr:r.1.is
          · simp only [Bool.false_eq_true,if_false]
            omega
          · rw [if_pos rfl]
            unfold bkM at h1
            rw [hr,if_pos rfl] at h1
            have b1:(atM c k).is = true→(if (atM c k).is = true then k.length + 2 else 0) = k.length + 2:=fun h=>if_pos h
            have b2:(atM a k).is = true→(if (atM a k).is = true then k.length + 2 else 0) = k.length + 2:=fun h=>if_pos h
            have b3:(atM b k).is = true→(if (atM b k).is = true then k.length + 2 else 0) = k.length + 2:=fun h=>if_pos h
            have h1:bkV r.1.v≤bkM (atM c k) + bkM (atM a k) + bkM (atM b k):=h1
            generalize (if (atM c k).is = true then k.length + 2 else 0) = i1 at *
            generalize (if (atM a k).is = true then k.length + 2 else 0) = i2 at *
            generalize (if (atM b k).is = true then k.length + 2 else 0) = i3 at *
            rcases h2 hr with h | h | h
            · have:=b1 h; omega
            · have:=b2 h; omega
            · have:=b3 h; omega
      have:=hs ks
      omega
theorem mrg_vb:∀ (f:Nat) (c a b:MbR),MbOK c→MbOK a→MbOK b→MbOK (mrg f c a b).1
  | 0,c,a,b,_,ha,_=>ha
  | f + 1,c,a,b,hc,ha,hb=>by
    rw [mrg]
    split
    · exact ha
    split
    · exact hb
    split
    · exact ha
    · refine .mk _ ⟨by show (-9223372036854775808:Int)≤6; decide,by show (6:Int)≤9223372036854775807; decide⟩ ⟨by show (-9223372036854775808:Int)≤0; decide,by show (0:Int)≤9223372036854775807; decide⟩ ⟨by show (0:Int)≤0; decide,by show (0:Int)≤18446744073709551615; decide⟩ (fun _ h=>nomatch h) fun p hp=>?_
      obtain ⟨r,hr,he⟩:=List.mem_filterMap.1 hp
      obtain ⟨k,_,rfl⟩:=List.mem_map.1 hr
      split at he
      · cases he
        exact mrg_vb f _ _ _ (mbok_at hc k) (mbok_at ha k) (mbok_at hb k)
      · cases he
end Go.Mer
end
section
namespace Go.SX
set_option linter.unusedSectionVars false
variable [Globs]
structure VCs (P:Program) (Γ:Ctx) (N:Nat) (L:List Nat) (c:Code) (Q:Exit→St→Prop) (s:St):Prop where
  ok:∀ (W0:World) (F:Fr) (X:Nat→Prop) (Q':Exit→Act→World→Prop) (a:Act) (w:World),(∀ e s a w,Q e s→Inv W0 F X N s a w→Q' e a w)→Inv W0 F X N s a w→c.wp P Q' a w
section
variable {P:Program} {N:Nat} {Γ:Ctx} {L:List Nat} {s:St}
theorem VCs.of_vc (hΓ:Γ.good P) {c:Code} {Q:Exit→St→Prop} (h:vc P Γ N L c Q s):VCs P Γ N L c Q s:=⟨fun _ _ _ Q' a w hQ hI=>vc_ok hΓ c Q Q' s a w hQ h hI⟩
theorem VCs.seq (hΓ : Γ.good P) {x y : Code} {Q : Exit → St → Prop} (h : vc P Γ N L x (fun e s' => match e with
    | .normal=>VCs P Γ N L y Q s'
    | e=>Q e s') s):VCs P Γ N L (.seq x y) Q s:=⟨fun W0 F X Q' a w hQ hI =>
  wp_seq (vc_ok hΓ x _ _ s a w (fun e s' a' w' hq hI'=>by
    cases e with
    | normal=>exact hq.ok W0 F X Q' a' w' hQ hI'
    | _=>exact hQ _ _ _ _ hq hI') h hI)⟩
theorem VCs.cut (hΓ : Γ.good P) {x y : Code} {Q : Exit → St → Prop} (σ : Type) (I : σ → Prop) (S : σ → St) (h : vc P Γ N L x (fun e s' => match e with
    | .normal=>∃ v,I v∧Wk s' (S v)
    | e=>Q e s') s) (h2:∀ v,I v→VCs P Γ N L y Q (S v)):VCs P Γ N L (.seq x y) Q s:=⟨fun W0 F X Q' a w hQ hI =>
  wp_seq (vc_ok hΓ x _ _ s a w (fun e s' a' w' hq hI'=>by
    cases e with
    | normal =>
      obtain ⟨v,hv,hw⟩:=hq
      obtain ⟨β,hI'⟩:=hI'
      exact (h2 v hv).ok W0 F X Q' a' w' hQ ⟨β,hI'.wk hw⟩
    | _=>exact hQ _ _ _ _ hq hI') h hI)⟩
theorem VCs.block {id : Nat} {c : Code} {Q : Exit → St → Prop} (h : VCs P Γ N L c (fun e s' => match e with
    | .exit id'=>bif Nat.beq id' id then Q .normal s' else Q (.exit id') s'
    | e=>Q e s') s):VCs P Γ N L (.block id c) Q s:=⟨fun W0 F X Q' a w hQ hI=>by
  refine wp_block (h.ok W0 F X _ a w (fun e s' a' w' hq hI'=>?_) hI)
  cases e with
  | exit id' =>
    have hq:bif Nat.beq id' id then Q .normal s' else Q (.exit id') s':=hq
    cases hb:Nat.beq id' id with
    | true =>
      rw [hb] at hq
      have hq1:Q .normal s':=hq
      have e:=Nat.eq_of_beq_eq_true hb
      subst e
      simp only [Exit.inBlock,if_true]
      exact hQ _ _ _ _ hq1 hI'
    | false =>
      rw [hb] at hq
      have hne:id'≠id:=fun e=>by subst e; rw [Nat.beq_refl] at hb; cases hb
      simp only [Exit.inBlock,hne,if_false]; exact hQ _ _ _ _ hq hI'
  | _=>exact hQ _ _ _ _ hq hI'⟩
theorem VCs.cond {c:Operand} {x y:Code} {Q:Exit→St→Prop} {t:Bool} (hc:ev s c = .b t) (h1:t = true→VCs P Γ N L x Q s) (h2:t = false→VCs P Γ N L y Q s):VCs P Γ N L (.cond c x y) Q s:=⟨fun W0 F X Q' a w hQ hI=>by
  obtain ⟨β,hI⟩:=hI
  have hr:=(ev_rel hI c).1
  rw [hc] at hr
  exact wp_cond_split hr.inv_b (fun ht=>(h1 ht).ok W0 F X Q' a w hQ ⟨β,hI⟩) (fun ht=>(h2 ht).ok W0 F X Q' a w hQ ⟨β,hI⟩)⟩
theorem VCs.seqS {x y : Code} {Q : Exit → St → Prop} (h : VCs P Γ N L x (fun e s' => match e with
    | .normal=>VCs P Γ N L y Q s'
    | e=>Q e s') s):VCs P Γ N L (.seq x y) Q s:=⟨fun W0 F X Q' a w hQ hI =>
  wp_seq (h.ok W0 F X _ a w (fun e s' a' w' hq hI'=>by
    cases e with
    | normal=>exact hq.ok W0 F X Q' a' w' hQ hI'
    | _=>exact hQ _ _ _ _ hq hI') hI)⟩
theorem VCs.cutS {x y : Code} {Q : Exit → St → Prop} (σ : Type) (I : σ → Prop) (S : σ → St) (h : VCs P Γ N L x (fun e s' => match e with
    | .normal=>∃ v,I v∧Wk s' (S v)
    | e=>Q e s') s) (h2:∀ v,I v→VCs P Γ N L y Q (S v)):VCs P Γ N L (.seq x y) Q s:=⟨fun W0 F X Q' a w hQ hI =>
  wp_seq (h.ok W0 F X _ a w (fun e s' a' w' hq hI'=>by
    cases e with
    | normal =>
      obtain ⟨v,hv,hw⟩:=hq
      obtain ⟨β,hI'⟩:=hI'
      exact (h2 v hv).ok W0 F X Q' a' w' hQ ⟨β,hI'.wk hw⟩
    | _=>exact hQ _ _ _ _ hq hI') hI)⟩
theorem pspec_of_VCs (_hΓ : Γ.good P) {f : FuncId} {fn : Func} {c : Code} (hf : P.funcs[f]? = some fn) (hb : fn.body = some c) (hcall : ∀ (vs : Array Value) (w : World), (callFunc f vs).run P w = .ok (.enter f vs) w)
    {rs:Array ResultVar} (hrs:fn.results = rs) (hN:fn.ntmps = N) {args:List AV} {r:AV} (hlen:args.length≤N)
    (hvc:VCs P Γ N L c (postK Γ rs.toList (fun v=>v = r)) ⟨argSlots 0 args,[]⟩) (hΓ:Γ.good P):PSpec P f args r:=by
  refine ⟨hcall,fun O w vs hO hG hargs=>?_⟩
  refine calls_of_wp hf hb ?_
  have hsz:vs.length = args.length:=hargs.1.symm
  have hI:InvB w Fr.none O N ⟨argSlots 0 args,[]⟩ (fun _=>none) { tmps:=vs.toArray++Array.replicate (fn.ntmps - vs.toArray.size) undef,defers:=[] } w:=by
    have hNm:∀ n,¬ Nm ⟨argSlots 0 args,[]⟩ n:=by
      rintro n (⟨cs,h⟩ | ⟨m,h⟩ | ⟨b,cs,h,_⟩)
      · cases h
      · have:=look_args args 0 m
        rw [Nat.zero_add] at this
        simp only [this] at h
        by_cases hm:m < args.length
        · rw [List.getD_eq_getElem?_getD,List.getElem?_eq_getElem hm] at h
          have:=(hargs.2 m _ _ (List.getElem?_eq_getElem hm) (List.getElem?_eq_getElem (by rw [hsz]; exact hm))).ids_nil
          rw [show (some args[m]).getD AV.x = args[m] from rfl,this] at h
          cases h
        · rw [List.getD_eq_getElem?_getD,List.getElem?_eq_none (by omega)] at h
          simp [ids,ids0] at h
      · cases h
    refine ⟨Stp.refl _ _,fun n=>?_,?_,fun n cs h=>(by cases h),fun n m g hn=>absurd hn (hNm n),fun n g hn=>absurd hn (hNm n),rfl,fun k hk=>⟨hO k hk,id⟩,fun n cs g h=>(by cases h),fun _ _=>rfl,hG.step (Stp.refl (fun _=>False) w) (fun _ _ h=>h.elim) fun k _ hk=>hk.elim id fun h=>h.elim⟩
    · have h1:=look_args args 0 n
      rw [Nat.zero_add] at h1
      show Rel _ _ _ (look (argSlots 0 args) n) _
      rw [h1]
      by_cases hm:n < args.length
      · have hmv:n < vs.length:=by rw [hsz]; exact hm
        have h2:=hargs.2 n _ _ (List.getElem?_eq_getElem hm) (List.getElem?_eq_getElem hmv)
        rw [List.getD_eq_getElem?_getD,List.getElem?_eq_getElem hm]
        have h3:(vs.toArray++Array.replicate (fn.ntmps - vs.toArray.size) undef).getD n undef = vs[n]:=by
          rw [Array.getD_eq_getD_getElem?,Array.getElem?_append_left (by simpa using hmv)]
          simp [hmv]
        rw [h3]
        refine Rel.im (h2.mono fun k hk=>?_)
        rcases hk with hk | ⟨m,hm',_⟩
        · exact hk
        · exact absurd hm' (hNm m)
      · rw [List.getD_eq_getElem?_getD,List.getElem?_eq_none (by omega)]
        exact Rel.x
    · show (vs.toArray++Array.replicate (fn.ntmps - vs.toArray.size) undef).size = N
      simp only [Array.size_append,List.size_toArray,Array.size_replicate,hN,hsz]
      omega
  refine hvc.ok w Fr.none O _ _ _ (fun e s a w' hq ⟨β,hI'⟩=>?_) ⟨_,hI⟩
  have key:retK Γ s rs.toList (fun v=>v = r)→a.defers = []∧∃ v,(results fn a.tmps).run P w' = .ok v w'∧∃ v',Ending.returned v = .returned v'∧Stp (fun _=>False) w w'∧Im O w' r v':=by
    intro h
    rw [← hrs] at h
    obtain ⟨v,u,rfl,h1,h2⟩:=ret_ok hΓ hI' h
    exact ⟨hI'.defers,u,h2,u,rfl,hI'.ext,h1⟩
  cases e with
  | normal=>exact key hq
  | ret=>exact key hq
  | _=>exact hq.elim
end
end Go.SX
end
section
namespace Go.SX
set_option linter.unusedSectionVars false
variable [Globs]
def Kept (A:Nat) (a a':Act):Prop:=∀ j,j < A→a'.tmps.getD j undef = a.tmps.getD j undef
theorem Kept.refl (A:Nat) (a:Act):Kept A a a:=fun _ _=>rfl
theorem Kept.trans {A:Nat} {a b c:Act} (h:Kept A a b) (h2:Kept A b c):Kept A a c:=fun j hj=>(h2 j hj).trans (h j hj)
def dstOK (A:Nat) (o:Oper):Bool:=match o.dst with
  | none=>true
  | some d=>Nat.ble A d
theorem kept_put {A:Nat} {o:Oper} (h:dstOK A o = true) (a:Act) (v:Value):Kept A a (a.put o.dst v):=by
  intro j hj
  unfold dstOK at h
  cases hd:o.dst with
  | none=>rfl
  | some d =>
    rw [hd] at h
    have h2:A≤d:=Nat.le_of_ble_eq_true (show Nat.ble A d = true from h)
    have hne:¬ d = j:=fun e=>absurd (e ▸ h2:A≤j) (Nat.not_le_of_lt hj)
    simp only [Act.put,Array.getD_eq_getD_getElem?,Array.getElem?_setIfInBounds]
    rw [if_neg hne]
def keepsB (A:Nat):Code→Bool
  | .skip=>true
  | .region _ ops _=>ops.toList.all (dstOK A)
  | .seq x y=>keepsB A x && keepsB A y
  | .cond _ x y=>keepsB A x && keepsB A y
  | .block _ c=>keepsB A c
  | .loop c=>keepsB A c
  | .exit _=>true
  | .ret=>true
  | .label _=>true
  | _=>false
section
variable {P:Program} {N:Nat} {Γ:Ctx} {W0:World} {F:Fr} {X:Nat→Prop} {s:St} {β:Nat→Option Nat} {a:Act} {w:World} {A:Nat} {a0:Act}
def QK (A:Nat) (a0:Act) (Q:Exit→Act→World→Prop) (e:Exit) (a':Act) (w':World):Prop:=Q e a' w'∧(e = .normal→Kept A a0 a')
theorem letsOut_qk {Q:Exit→Act→World→Prop} (h:LetsOut Q):LetsOut (QK A a0 Q):=by
  obtain ⟨a,w,h⟩:=h
  exact ⟨a,w,h,fun h=>by cases h⟩
theorem wp_keep {o:Oper} {K:Act→World→Prop} {Q:Exit→Act→World→Prop} (hk:Kept A a0 a) (hd:dstOK A o = true) (hh:o.wp P a w K Q):o.wp P a w (fun a' w'=>K a' w'∧Kept A a0 a') (QK A a0 Q):=by
  unfold Oper.wp at *
  generalize (execOp a.eval o).run P w = r at *
  have hp:∀ v,Kept A a0 (a.put o.dst v):=fun v=>hk.trans (kept_put hd a v)
  cases r with
  | ok n w' =>
    cases n<;>simp only [Oper.upon] at hh ⊢
    all_goals first
      | exact ⟨hh,hp _⟩
      | exact ⟨hh,hk.trans (fun j hj=>(kept_put hd { a with defers:=_ } _ j hj))⟩
      | exact Calls.mono hh (fun e w'' he=>by cases e<;>first | exact ⟨he,hp _⟩ | exact ⟨he,fun h=>by cases h⟩ | exact letsOut_qk he)
      | exact Rows.mono hh (fun _ _ he=>⟨he,hp _⟩)
  | halt x w'=>cases x<;>simp only [Oper.upon] at hh ⊢ <;> first | exact ⟨hh,fun h=>by cases h⟩ | exact hh
theorem wpList_keep {ops:Array Oper} {Q:Exit→Act→World→Prop}:∀ (l:List Oper),(∀ o ∈ l,dstOK A o = true)→∀ (a:Act) (w:World),Kept A a0 a→wpList P ops Q l a w→wpList P ops (QK A a0 Q) l a w
  | [],_,a,w,hk,h=>⟨h,fun _=>hk⟩
  | o::r,hl,a,w,hk,h=>by
    have hd:=hl o (List.mem_cons_self ..)
    have ih:=wpList_keep (ops:=ops) (Q:=Q) r (fun o ho=>hl o (List.mem_cons_of_mem _ ho))
    unfold wpList at h ⊢
    split
    · rename_i hw
      rw [if_pos hw] at h
      rcases h with h | ⟨h1,h2⟩
      · exact .inl (Oper.wp_mono (fun a' w' h=>ih a' w' h.2 h.1) (wp_keep hk hd h))
      · exact .inr ⟨h1,letsOut_qk h2⟩
    · rename_i hw
      rw [if_neg hw] at h
      exact ih _ _ (hk.trans (kept_put hd a undef)) h
theorem wpAny_keep {ops:Array Oper} {md:Region.Mode} {Q:Exit→Act→World→Prop} (hl:∀ (i:Nat) o,ops[i]? = some o→dstOK A o = true):∀ (fuel:Nat) (listed:Array Bool) (a:Act) (w:World),Kept A a0 a→wpAny P md ops Q fuel listed a w→wpAny P md ops (QK A a0 Q) fuel listed a w
  | 0,listed,a,w,hk,h=>⟨h.1,h.2,fun _=>hk⟩
  | fuel + 1,listed,a,w,hk,h=>by
    refine ⟨fun hr=>⟨h.1 hr,fun _=>hk⟩,fun i hi=>?_⟩
    have h:=h.2 i hi
    unfold wpOp at h ⊢
    cases ho:ops[i]? with
    | none =>
      rw [ho] at h
      exact wpAny_keep hl fuel _ a w hk h
    | some o =>
      rw [ho] at h
      have hd:=hl i o ho
      simp only at h ⊢
      split
      · rename_i hw
        rw [if_pos hw] at h
        rcases h with h | ⟨h1,h2⟩
        · exact .inl (Oper.wp_mono (fun a' w' h=>wpAny_keep hl fuel _ a' w' h.2 h.1) (wp_keep hk hd h))
        · exact .inr ⟨h1,letsOut_qk h2⟩
      · rename_i hw
        rw [if_neg hw] at h
        exact wpAny_keep hl fuel _ _ w (hk.trans (kept_put hd a undef)) h
theorem vc_ok_keep (hΓ:Γ.good P) {L:List Nat} (c:Code):∀ (Q:Exit→St→Prop) (Q':Exit→Act→World→Prop) (s:St) (a:Act) (w:World),keepsB A c = true→(∀ e s a w,Q e s→Inv W0 F X N s a w→Kept A a0 a→Q' e a w)→vc P Γ N L c Q s→Inv W0 F X N s a w→Kept A a0 a→c.wp P Q' a w:=by
  induction c with
  | skip=>intro Q Q' s a w hc hQ h hI hk; exact wp_skip (hQ _ _ _ _ h hI hk)
  | region id ops draw =>
    intro Q Q' s a w hc hQ h hI hk
    have hl:∀ o ∈ ops.toList,dstOK A o = true:=List.all_eq_true.1 hc
    let Q2:Exit→Act→World→Prop:=fun e a w=>e = .normal∧∃ s',Q .normal s'∧Inv W0 F X N s' a w
    have hend:∀ e a' w',QK A a0 Q2 e a' w'→Q' e a' w':=fun e a' w' ⟨⟨he,s',h1,h2⟩,h3⟩=>by
      subst he
      exact hQ _ _ _ _ h1 h2 (h3 rfl)
    cases draw with
    | true =>
      obtain ⟨pl,hpl,h⟩:=(show ∃ pl,planOK ops pl = true∧vcPlan P Γ N ops.toList pl [] s fun s=>stKeepK L s (Q .normal) from h)
      simp only [planOK,Bool.and_eq_true,decide_eq_true_eq] at hpl
      obtain ⟨⟨h1,h2⟩,h3⟩:=hpl
      obtain ⟨β,hI⟩:=hI
      have hdr:Inv W0 F X N s a { w with drawn:=w.drawn + 1 }:=⟨β,hI.grow ⟨rfl,rfl,rfl,Nat.le_refl _,fun _ _ _=>rfl⟩⟩
      refine wp_mono (Q:=QK A a0 Q2) (wp_region_any hΓ.mixed (wpAny_keep (fun i o ho=>hl o (by rw [← Array.getElem?_toList] at ho; exact List.mem_of_getElem? ho)) _ _ _ _ hk (plan_ok hΓ (fun s a w hk ⟨β,hI⟩=>by
        obtain ⟨s',h1,h2⟩:=keep_ok hI hk
        exact ⟨rfl,s',h1,β,h2⟩) (fun c a a' w h=>by cases h.1) h1 pl _ [] s ops.size a _ (by simp) h2 h3 h hdr))) hend
    | false =>
      refine wp_mono (Q:=QK A a0 Q2) (wp_region_list (wpList_keep ops.toList hl a w hk ?_)) hend
      have:=vcOps_ok hΓ (Q':=Q2) (fun s a w hk ⟨β,hI⟩=>by
        obtain ⟨s',h1,h2⟩:=keep_ok hI hk
        exact ⟨rfl,s',h1,β,h2⟩) ops.toList [] s a w h hI
      simpa using this
  | seq x y ihx ihy =>
    intro Q Q' s a w hc hQ h hI hk
    simp only [keepsB,Bool.and_eq_true] at hc
    refine wp_seq (ihx _ _ s a w hc.1 (fun e s' a' w' hq hI' hk'=>?_) h hI hk)
    cases e with
    | normal=>exact ihy Q Q' s' a' w' hc.2 hQ hq hI' hk'
    | _=>exact hQ _ _ _ _ hq hI' hk'
  | cond c x y ihx ihy =>
    intro Q Q' s a w hc hQ h hI hk
    simp only [keepsB,Bool.and_eq_true] at hc
    have h:evK s c fun v=>match v with
      | .b t=>(t = true→vc P Γ N L x Q s)∧(t = false→vc P Γ N L y Q s)
      | _=>False:=h
    rw [evK_eq] at h
    obtain ⟨β,hI⟩:=hI
    have hr:=(ev_rel hI c).1
    cases hv:ev s c with
    | b t =>
      rw [hv] at h hr
      exact wp_cond_split hr.inv_b (fun ht=>ihx Q Q' s a w hc.1 hQ (h.1 ht) ⟨β,hI⟩ hk) (fun ht=>ihy Q Q' s a w hc.2 hQ (h.2 ht) ⟨β,hI⟩ hk)
    | _=>rw [hv] at h; exact h.elim
  | block id c ih =>
    intro Q Q' s a w hc hQ h hI hk
    refine wp_block (ih _ _ s a w hc (fun e s' a' w' hq hI' hk'=>?_) h hI hk)
    cases e with
    | exit id' =>
      have hq:bif Nat.beq id' id then Q .normal s' else Q (.exit id') s':=hq
      cases hb:Nat.beq id' id with
      | true =>
        rw [hb] at hq
        have hq1:Q .normal s':=hq
        have e:=Nat.eq_of_beq_eq_true hb
        subst e
        simp only [Exit.inBlock,if_true]
        exact hQ _ _ _ _ hq1 hI' hk'
      | false =>
        rw [hb] at hq
        have hne:id'≠id:=fun e=>by subst e; rw [Nat.beq_refl] at hb; cases hb
        simp only [Exit.inBlock,hne,if_false]; exact hQ _ _ _ _ hq hI' hk'
    | _=>exact hQ _ _ _ _ hq hI' hk'
  | loop c ih =>
    intro Q Q' s a w hc hQ h ⟨β,hI⟩ hk
    obtain ⟨cv,cb,rn,h⟩:=(show LoopVC N (vc P Γ N L c) Q s from h)
    obtain ⟨s00,β00,h,hI00⟩:=nlVec_ok cv hI h
    obtain ⟨s0,β0,h,hI0⟩:=nlBox_ok cb hI00 h
    obtain ⟨s1,β1,⟨σ,I,S,μ,x,hix,hwk,hround⟩,hI1⟩:=renSt_ok rn hI0 h
    refine wp_loop' (fun x a w=>(I x∧Inv W0 F X N (S x) a w)∧Kept A a0 a) μ (fun x a w hIx=>?_) (x:=x) ⟨⟨hix,β1,hI1.wk hwk⟩,hk⟩
    refine ih _ _ (S x) a w hc (fun e s' a' w' hq hI' hk'=>?_) (hround x hIx.1.1) hIx.1.2 hIx.2
    cases e with
    | normal =>
      obtain ⟨rn,hq⟩:=hq
      obtain ⟨β',hI'⟩:=hI'
      obtain ⟨s2,β2,⟨x',h0,h1,h2⟩,hI2⟩:=renSt_ok rn hI' hq
      exact ⟨x',⟨⟨h0,β2,hI2.wk h1⟩,hk'⟩,h2⟩
    | _=>exact hQ _ _ _ _ hq hI' hk'
  | exit id=>intro Q Q' s a w _ hQ h hI hk; exact wp_exit (hQ _ _ _ _ h hI hk)
  | ret=>intro Q Q' s a w _ hQ h hI hk; exact wp_ret (hQ _ _ _ _ h hI hk)
  | label l=>intro Q Q' s a w _ hQ h hI hk; exact wp_label (hQ _ _ _ _ h hI hk)
  | _=>intro Q Q' s a w hc; exact absurd hc (by simp [keepsB])
def postE (E:St→Prop) (e:Exit) (s:St):Prop :=
  match e with
  | .normal=>E s
  | .ret=>E s
  | _=>False
theorem cspecM_of_vcE (hΓ : Γ.good P) {f : FuncId} {fn : Func} {c : Code} (hf : P.funcs[f]? = some fn) (hb : fn.body = some c) (hcall : ∀ (vs : Array Value) (w : World), (callFunc f vs).run P w = .ok (.enter f vs) w)
    {rs:Array ResultVar} (hrs:fn.results = rs) (hN:fn.ntmps = N) {args:List AV} {boxes:List (Nat × List AV)} {r:AV} {j:Nat} {g:AV} {boxes':List (Nat × List AV)} {L:List Nat} (hlen:args.length≤N) (hN1:1≤N)
    (hlow:(boxNames boxes).all (fun n=>Nat.ble N n) = true) (hj:j < args.length) (hkeep:keepsB args.length c = true) {E:St→Prop} (hE:∀ (F:Fr) (X:Nat→Prop) (W0 w:World) (s:St) (β:Nat→Option Nat) (a:Act),InvB W0 F X N s β a w→E s→∃ u s1 β1,(results fn a.tmps).run P w = .ok u w∧Im (Own X s1 β1) w r u∧InvB W0 F X N s1 β1 a w∧look s1.slots j = g∧wkB s1 boxes')
    (hvc:vc P Γ N L c (postE E) ⟨argSlots 0 args,boxes⟩):CSpecM P f args boxes r j g boxes':=by
  refine ⟨hcall,fun F X β w vs hvs hpin hI0=>?_⟩
  refine calls_of_wp hf hb ?_
  have hget:∀ n,n < vs.length→(vs.toArray++Array.replicate (fn.ntmps - vs.toArray.size) undef).getD n undef = vs.toArray.getD n undef:=fun n hm=>by
    simp only [Array.getD_eq_getD_getElem?]
    rw [Array.getElem?_append_left (by simpa using hm)]
  have hpad:∀ n,(vs.toArray++Array.replicate (fn.ntmps - vs.toArray.size) undef).getD n undef = vs.toArray.getD n undef∨look (argSlots 0 args) n = .x:=fun n=>by
    by_cases hm:n < vs.length
    · exact .inl (hget n hm)
    · right
      have h1:=look_args args 0 n
      rw [Nat.zero_add] at h1
      rw [h1,List.getD_eq_getElem?_getD,List.getElem?_eq_none (by omega)]
      rfl
  have hI:InvB w F X N ⟨argSlots 0 args,boxes⟩ β { tmps:=vs.toArray++Array.replicate (fn.ntmps - vs.toArray.size) undef,defers:=[] } w:=by
    refine ⟨hI0.ext,fun n=>?_,?_,hI0.boxes,hI0.inj,hI0.own,hI0.defers,hI0.ext2,hI0.pin,fun n hn=>?_,hI0.gl⟩
    · rcases hpad n with h1 | h1
      · show Rel _ _ _ _ ((vs.toArray++Array.replicate (fn.ntmps - vs.toArray.size) undef).getD n undef)
        rw [h1]; exact hI0.slots n
      · show Rel _ _ _ (look (argSlots 0 args) n) _
        rw [h1]; exact Rel.x
    · simp only [Array.size_append,List.size_toArray,Array.size_replicate,hN,hvs]
      omega
    · cases hp:F.pin n with
      | none=>rfl
      | some g =>
        have h1:=boxNames_mem.2 (hpin n g hp)
        have:=Nat.le_of_ble_eq_true (List.all_eq_true.1 hlow n h1)
        omega
  refine vc_ok_keep (W0:=w) (F:=F) (X:=X) (A:=args.length) (a0:={ tmps:=vs.toArray++Array.replicate (fn.ntmps - vs.toArray.size) undef,defers:=[] }) hΓ c _ _ _ _ _ hkeep (fun e s a w' hq ⟨β',hI'⟩ hk=>?_) hvc ⟨_,hI⟩ (Kept.refl _ _)
  have key:E s→a.defers = []∧∃ v,(results fn a.tmps).run P w' = .ok v w'∧∃ v' u β'',Ending.returned v = .returned v'∧vs[j]? = some u∧Im (Own X ⟨[(0,g)],boxes'⟩ β'') w' r v'∧InvB w F X 1 ⟨[(0,g)],boxes'⟩ β'' ⟨#[u],[]⟩ w':=by
    intro h
    obtain ⟨u,s1,β1,k2,k1,hI1,h3,hwk⟩:=hE F X w w' s β' a hI' h
    have hju:a.tmps.getD j undef = vs[j]'(by omega):=by
      rw [hk j hj]
      show (vs.toArray++Array.replicate (fn.ntmps - vs.toArray.size) undef).getD j undef = _
      rw [hget j (by omega)]
      have hm:j < vs.length:=by omega
      simp [hm]
    have hd:F.dfr = []:=hI0.defers.symm
    have hr:=hI1.slots j
    rw [h3,hju] at hr
    have hrn:∀ n ∈ ids g,Nm s1 n:=fun n hn=>.inr (.inl ⟨j,by rw [h3]; exact hn⟩)
    have hNm:∀ n,Nm ⟨[(0,g)],boxes'⟩ n→Nm s1 n:=by
      rintro n (⟨cs,hc⟩ | ⟨q,hq⟩ | ⟨b,cs,hb,c,hc,hn⟩)
      · obtain ⟨us',hu',_⟩:=wkB_look hwk n cs hc
        exact .inl ⟨us',hu'⟩
      · simp only [look] at hq
        cases hb:Nat.beq 0 q with
        | true=>rw [hb] at hq; exact hrn n hq
        | false=>rw [hb] at hq; cases hq
      · obtain ⟨us',hu',hw⟩:=wkB_look hwk b cs hb
        obtain ⟨g,us2,e,k1,k2,k3⟩:=hI1.boxes b us' hu'
        obtain ⟨u',hu2,hn'⟩:=(wkC_rel hw k3).2 c hc n hn
        exact .inr (.inr ⟨b,us',hu',u',hu2,hn'⟩)
    have hO:∀ k,Own X ⟨[(0,g)],boxes'⟩ β1 k→Own X s1 β1 k:=fun k hk=>hk.imp id fun ⟨n,hn,hb⟩=>⟨n,hNm n hn,hb⟩
    refine ⟨hI'.defers.trans hd,u,k2,u,_,β1,rfl,List.getElem?_eq_getElem (by omega),k1.mono hO,?_⟩
    refine ⟨hI1.ext,fun n=>?_,rfl,fun n cs hc=>?_,fun n m g hn hm=>hI1.inj n m g (hNm n hn) (hNm m hm),fun n g hn hg=>hI1.own n g (hNm n hn) hg,hd.symm,hI1.ext2,fun n cs g hc hp=>?_,fun n hn=>hI1.pinN n (by omega),hI1.gl⟩
    · simp only [look]
      cases hb:Nat.beq 0 n with
      | true=>have:=Nat.eq_of_beq_eq_true hb; subst this; exact hr.mono hO
      | false=>exact Rel.x
    · obtain ⟨us',hu',hw⟩:=wkB_look hwk n cs hc
      obtain ⟨g,us2,e,k1,k2,k3⟩:=hI1.boxes n us' hu'
      exact ⟨g,us2,e,k1,k2,(wkC_rel hw k3).1.mono fun _ _ _ _ hr=>⟨hr.1.mono hO,hr.2⟩⟩
    · obtain ⟨us',hu',_⟩:=wkB_look hwk n cs hc
      exact hI1.pin n us' g hu' hp
  cases e with
  | normal=>exact key hq
  | ret=>exact key hq
  | _=>exact hq.elim
end
end Go.SX
end
section
namespace Go.Proofs.YtjbngfnpddhjpaaDoor
set_option linter.unusedSectionVars false
set_option linter.unusedSimpArgs false
set_option linter.unusedVariables false
open Go Go.SX Go.Sort Go.RowKit Go.Mer
set_option maxRecDepth 100000
section
variable [G:Globs]
theorem inv_turn {w w' : World} {F : Fr} {X : Nat → Prop} {β : Nat → Option Nat} {τ : Ty} {l l' : List (den τ)} {u v : Value} {g : Nat} (hI : InvB w F X 1 ⟨[(0, .vec 0 τ l)], []⟩ β ⟨#[u], []⟩ w) (hβ : β 0 = some g)
    (hs:Stp (fun k=>k = g) w w') (hv:∀ O:Nat→Prop,VecAt β O w' 0 τ l' v):InvB w F X 1 ⟨[(0,.vec 0 τ l')],[]⟩ β ⟨#[v],[]⟩ w':=by
  have hN:Nm ⟨[(0,AV.vec 0 τ l)],[]⟩ 0:=.inr (.inl ⟨0,show 0 ∈ [0] from .head _⟩)
  have hg:=hI.own 0 g hN hβ
  have hNm:∀ n,Nm ⟨[(0,AV.vec 0 τ l')],[]⟩ n→n = 0:=by
    rintro n (⟨cs,h⟩ | ⟨m,h⟩ | ⟨b,cs,h,_⟩)
    · cases h
    · simp only [SX.look] at h
      cases hb:Nat.beq 0 m with
      | true=>rw [hb] at h; simpa [ids,ids0] using h
      | false=>rw [hb] at h; cases h
    · cases h
  have hF:F.own g:=by
    rcases hg.2 with h | h
    · omega
    · exact h
  refine ⟨⟨hs.os,hs.tape,hs.output,hs.size,fun k hk ho=>hs.block k hk fun e=>ho (e ▸ hF)⟩,fun n=>?_,rfl,(fun n cs h=>(by cases h)),fun n m k hn hm _ _=>(hNm n hn).trans (hNm m hm).symm,fun n k hn hb=>?_,hI.defers,hI.ext2,(fun n cs k h=>(by cases h)),hI.pinN,hI.gl⟩
  · simp only [SX.look]
    cases hb:Nat.beq 0 n with
    | true=>have:=Nat.eq_of_beq_eq_true hb; subst this; exact hv _
    | false=>exact Rel.x
  · rw [hNm n hn,hβ] at hb
    injection hb with hb
    subst hb
    exact ⟨Nat.lt_of_lt_of_le hg.1 hs.size,.inr hF⟩
theorem row_at {α:Type} [Inhabited α] {encA:α→Value} {w:World} {g:Nat} {cur:Array Value} {e:TypeId} {fz:Nat × Nat} (h:w.heap[g]? = some (.cells cur e fz)) (d:Array α):(putRow encA w g 0 d).heap[g]? = some (.cells (putCells encA 0 d cur) e fz):=by
  unfold putRow mapBlock
  simp only [Array.getElem?_modify,if_true,h,Option.map_some,onCells]
theorem row_off {α:Type} [Inhabited α] {encA:α→Value} {w:World} {g k:Nat} (hk:k≠g) (d:Array α):(putRow encA w g 0 d).heap[k]? = w.heap[k]?:=by
  unfold putRow mapBlock
  simp only [Array.getElem?_modify]
  rw [if_neg fun e=>hk e.symm]
theorem put_at {d:Array Str} {cur:Array Value} {j:Nat} (hj:j < d.size) (hc:j < cur.size):(putCells encStr 0 d cur)[j]? = some (.string ⟨d[j].toArray⟩):=by
  unfold putCells
  rw [Array.getElem?_mapIdx,Array.getElem?_eq_getElem hc,Option.map_some,if_pos ⟨Nat.zero_le _,by omega⟩,Nat.sub_zero,getElem!_pos d j hj]
theorem row_stp {w w0:World} {g:Nat} {d:Array Str} {n:Nat} {os:Array Obj} (h:w0 = grow (putRow encStr (Sort.ahead w n) g 0 d) os):Stp (fun k=>k = g) w w0:=by
  subst h
  refine ⟨rfl,rfl,rfl,?_,fun k hk hne=>?_⟩
  · show w.heap.size≤((putRow encStr (Sort.ahead w n) g 0 d).heap++os).size
    rw [Array.size_append,size_putRow,heap_ahead]; omega
  · show ((putRow encStr (Sort.ahead w n) g 0 d).heap++os)[k]? = _
    rw [Array.getElem?_append_left (by rw [size_putRow,heap_ahead]; exact hk),row_off hne,heap_ahead]
theorem row_vec {w w0 : World} {g c : Nat} {d l' : List Str} {cur : Array Value} {e : TypeId} {n : Nat} {os : Array Obj} {β : Nat → Option Nat} (h : w0 = grow (putRow encStr (Sort.ahead w n) g 0 d.toArray) os) (hβ : β 0 = some g)
    (hh:w.heap[g]? = some (.cells cur e (0,0))) (hg:g < w.heap.size) (hc:cur.size = c * 1) (hd:d.length≤c) (hcm:c≤maxLen) (hl:l'.length≤d.length) (hpre:∀ j (h:j < l'.length),d[j]? = some l'[j]) (hs:∀ x ∈ l',x.length≤maxLen) (O:Nat→Prop) :
    VecAt β O w0 0 .str l' (.slice (some ⟨g,0,none⟩) l'.length c):=by
  subst h
  refine .inr ⟨g,c,putCells encStr 0 d.toArray cur,e,hβ,rfl,?_,Nat.le_trans hl hd,hcm,?_,fun i x j av hx hav=>?_⟩
  · show ((putRow encStr (Sort.ahead w n) g 0 d.toArray).heap++os)[g]? = _
    rw [Array.getElem?_append_left (by rw [size_putRow,heap_ahead]; exact hg)]
    exact row_at (w:=Sort.ahead w n) hh _
  · show (putCells encStr 0 d.toArray cur).size = c * 1
    unfold putCells
    rw [Array.size_mapIdx,hc]
  · have hi:i < l'.length:=(List.getElem?_eq_some_iff.1 hx).1
    cases j with
    | zero =>
      cases hav
      have hd0:=hpre i hi
      have hid:i < d.length:=by omega
      have e1:d[i] = x:=by
        rw [List.getElem?_eq_getElem hid] at hd0
        injection hd0 with hd0
        rw [List.getElem?_eq_getElem hi] at hx
        injection hx with hx
        rw [hd0,hx]
      refine ⟨.string ⟨x.toArray⟩,?_,.s x (hs x (List.mem_of_getElem? hx))⟩
      show (putCells encStr 0 d.toArray cur)[i * 1 + 0]? = _
      rw [Nat.mul_one,Nat.add_zero,put_at (by simpa using hid) (by rw [hc]; omega),List.getElem_toArray,e1]
    | succ j=>cases hav
theorem vec_holds {w : World} {g : Nat} {l : List Str} {cur : Array Value} {e : TypeId} {O : Nat → Prop} (hh : w.heap[g]? = some (.cells cur e (0, 0)))
    (hv:∀ (i:Nat) x (j:Nat) av,l[i]? = some x→(enc .str x)[j]? = some av→∃ u,cur[i * 1 + j]? = some u∧Im O w av u):Holds encStr w g 0 l.toArray∧∀ x ∈ l,x.length≤maxLen:=by
  have key:∀ j (h:j < l.length),cur[j]? = some (.string ⟨l[j].toArray⟩)∧l[j].length≤maxLen:=fun j h=>by
    obtain ⟨u,hu,him⟩:=hv j l[j] 0 _ (List.getElem?_eq_getElem h) rfl
    rw [Nat.mul_one,Nat.add_zero] at hu
    cases him with
    | s _ hl=>exact ⟨hu,hl⟩
  refine ⟨fun j hj=>?_,fun x hx=>?_⟩
  · have hj':j < l.length:=by simpa using hj
    have h1:=(key j hj').1
    refine ⟨?_,?_⟩
    · rw [cell_of_row w g _ cur e (0,0) hh,Nat.zero_add,h1,getElem!_pos _ j hj]
      rfl
    · unfold World.frozen?
      rw [hh]
      simp
  · obtain ⟨j,hj,rfl⟩:=List.getElem_of_mem hx
    exact (key j hj).2
theorem s_sort (l:List Str) (hl:l.length < 1000000000):CSpecM Tryd.prog 32 [.vec 0 .str l] [] (.tup []) 0 (.vec 0 .str (srt l)) []:=by
  refine ⟨Tryd.call32,fun F X β w vs hvs _ hI=>?_⟩
  obtain ⟨u,rfl⟩:∃ u,vs = [u]:=by
    match vs,hvs with
    | [u],_=>exact ⟨u,rfl⟩
  have hr:VecAt β _ w 0 .str l u:=hI.slots 0
  have hN:Nm ⟨argSlots 0 [AV.vec 0 .str l],[]⟩ 0:=.inr (.inl ⟨0,show 0 ∈ [0] from .head _⟩)
  rcases hr with ⟨rfl,rfl,h3⟩ | ⟨g,c,cur,e,h1,rfl,h3,h4,h5,h6,h7⟩
  · refine (Any.slices_Sort_string_none Tryd.lays190 none 0 w).mono fun e w' ⟨he,hw⟩=>?_
    subst he hw
    have e0:srt [] = []:=by unfold srt; exact List.mergeSort_nil
    rw [e0]
    exact ⟨_,_,β,rfl,rfl,.tup [] [] rfl (by simp),hI⟩
  · have hg:=(hI.own 0 g hN h1).1
    obtain ⟨hH,hs⟩:=vec_holds h3 h7
    refine (Tryd.slices_Sort_string g 0 c l w hH hg (by omega)).mono fun e w' ⟨he,n,os,hw⟩=>?_
    subst he
    have hw:w' = grow (putRow encStr (Sort.ahead w n) g 0 (srt l).toArray) os:=hw
    refine ⟨_,_,β,rfl,rfl,.tup [] [] rfl (by simp),inv_turn hI h1 (row_stp hw) fun O=>?_⟩
    have:=row_vec (l':=srt l) hw h1 h3 hg h6 (by rw [srt_len]; exact h4) h5 (Nat.le_refl _) (fun j h=>List.getElem?_eq_getElem h) (fun x hx=>hs x ((srt_mem l x).1 hx)) O
    rw [srt_len] at this
    exact this
theorem grow0 (w:World):w = grow w #[]:=by
  cases w
  simp [grow]
theorem s_compact (l:List Str) (hl:l.length < 1000000000):CSpec Tryd.prog 33 [.vec 0 .str l] [] (.vec 0 .str (Lib.compact l)) []:=by
  refine ⟨Tryd.call33,fun F X β w vs hvs _ hI=>?_⟩
  obtain ⟨u,rfl⟩:∃ u,vs = [u]:=by
    match vs,hvs with
    | [u],_=>exact ⟨u,rfl⟩
  have hr:VecAt β _ w 0 .str l u:=hI.slots 0
  have hN:Nm ⟨argSlots 0 [AV.vec 0 .str l],[]⟩ 0:=.inr (.inl ⟨0,show 0 ∈ [0] from .head _⟩)
  rcases hr with ⟨rfl,rfl,h3⟩ | ⟨g,c,cur,e,h1,rfl,h3,h4,h5,h6,h7⟩
  · refine (Tryd.slices_Compact_string_empty none 0 w).mono fun e w' ⟨he,hw⟩=>?_
    subst he hw
    exact ⟨_,β,rfl,hI⟩
  · have hg:=(hI.own 0 g hN h1).1
    obtain ⟨hH,hs⟩:=vec_holds h3 h7
    refine (Tryd.slices_Compact_string g 0 c l w hH (by omega) h4).mono fun e w' ⟨he,n,hw⟩=>?_
    subst he
    have hw:w' = grow (putRow encStr (Sort.ahead w n) g 0 (Lib.compact l++List.replicate (l.length - (Lib.compact l).length) []).toArray) #[]:=by rw [hw]; exact grow0 _
    have hcl:=Lib.compact_length_le l
    refine ⟨_,β,rfl,inv_turn hI h1 (row_stp hw) fun O=>?_⟩
    refine row_vec (l':=Lib.compact l) hw h1 h3 hg h6 (by rw [List.length_append,List.length_replicate]; omega) h5 (by rw [List.length_append]; omega) (fun j h=>by rw [List.getElem?_append_left h]; exact List.getElem?_eq_getElem h) (fun x hx=>hs x ?_) O
    unfold Lib.compact Lib.compactUpTo at hx
    obtain ⟨j,hj,rfl⟩:=List.mem_map.1 hx
    have hj:=List.mem_range.1 (List.mem_filter.1 hj).1
    rw [getElem!_pos _ j (by simpa using hj)]
    simp
end
end Go.Proofs.YtjbngfnpddhjpaaDoor
end
section
namespace Go.Proofs.YtjbngfnpddhjpaaDoor
set_option linter.unusedSectionVars false
set_option linter.unusedSimpArgs false
set_option linter.unusedVariables false
open Go Go.SX Go.Ut Go.RowKit
set_option maxRecDepth 100000
set_option maxHeartbeats 0
def HasU8 [G:Globs]:Prop:=∃ o0 o1:Obj,(0,o0) ∈ G.gl∧(1,o1) ∈ G.gl∧∀ w:World,w.heap[0]? = some o0→w.heap[1]? = some o1→Lib.Utf8Tabs 0 1 w
section
variable [G:Globs]
def decG (s:Str):Nat × Nat:=if s = [] then (65533,0) else decAt s 0
theorem s_Decode (hu:HasU8) (s:Str):PSpec Tryd.prog 52 [.s s] (.tup [.i .i32 (decG s).1,.i .i64 (decG s).2]):=by
  refine ⟨Tryd.call52,fun O w vs hO hG hargs=>?_⟩
  obtain ⟨v0,vs0,rfl,h0,h⟩:=hargs.cons_inv
  obtain rfl:=h.nil_inv
  cases h0
  obtain ⟨o0,o1,m0,m1,ht⟩:=hu
  have hT:=ht w (hG _ m0).2 (hG _ m1).2
  have hd:Lib.decodeGo ⟨s.toArray⟩ = decG s:=by
    unfold Lib.decodeGo decG
    have hsz:(⟨s.toArray⟩:ByteArray).size = s.length:=by simp [ByteArray.size]
    rw [hsz]
    by_cases h:s = []
    · subst h; rfl
    · rw [if_neg (by simpa using h),if_neg h]
      exact decAt_eq s 0
  refine (Tryd.utf8_DecodeRuneInString ⟨s.toArray⟩ w hT).mono fun e w' ⟨he,hw⟩=>?_
  subst he
  rw [hd]
  refine ⟨_,rfl,⟨hw.os,hw.tape,hw.output,hw.size,fun k hk _=>hw.block k hk⟩,.tup _ [_,_] rfl fun j av v hav hv=>?_⟩
  match j with
  | 0=>simp at hav hv; subst hav hv; exact .i _ _
  | 1=>simp at hav hv; subst hav hv; exact .i _ _
  | j + 2=>simp at hav
def codeR (s:Str):AV:=.tup [.i .i32 (code s).1,.i .i64 (code s).2]
theorem w_Next (hu:HasU8) (s:Str):vc Tryd.prog Γ 20 [0,2,3,4,5,16] (Tryd.f36.body.getD .skip) (postK Γ [.tmp 2,.tmp 3] (fun v=>v = codeR s)) ⟨argSlots 0 [.s s],[]⟩:=by
  have qd:=s_Decode hu s
  by_cases h:s = []
  · subst h
    refine Or.inl (Exists.intro _ (And.intro (qd) ?_))
    repeat (first | (focus (refine And.intro ?_ (fun h9=>?_); rotate_left 1; (focus (exfalso; revert h9; first | decide | (simp<;>omega) | (intro h9; simp at h9<;>omega))); refine fun _=>?_)) | (focus (refine And.intro (fun h9=>?_) ?_; (focus (exfalso; revert h9; first | decide | (simp<;>omega) | (intro h9; simp at h9<;>omega))); refine fun _=>?_)))
    rfl
  · have hd:decG s = decAt s 0:=by unfold decG; rw [if_neg h]
    rw [hd] at qd
    have hp:=dec_pos s 0
    by_cases hb:(decAt s 0).1 = 65533∧(decAt s 0).2 = 1
    · have hc:code s = (-1,1):=by unfold code; rw [if_neg h,if_pos hb]
      rw [hb.1,hb.2] at qd
      unfold codeR
      rw [hc]
      refine Or.inl (Exists.intro _ (And.intro (qd) ?_))
      repeat (first | (focus (refine And.intro ?_ (fun h9=>?_); rotate_left 1; (focus (exfalso; revert h9; first | decide | (simp<;>omega) | (intro h9; simp at h9<;>omega))); refine fun _=>?_)) | (focus (refine And.intro (fun h9=>?_) ?_; (focus (exfalso; revert h9; first | decide | (simp<;>omega) | (intro h9; simp at h9<;>omega))); refine fun _=>?_)))
      rfl
    · have hc:code s = (((decAt s 0).1:Int),(decAt s 0).2):=by unfold code; rw [if_neg h,if_neg hb]
      unfold codeR
      rw [hc]
      refine Or.inl (Exists.intro _ (And.intro (qd) ?_))
      refine And.intro (fun h1=>?_) (fun h1=>?_)
      · have h1:(decAt s 0).1 = 65533:=by have:=eq_of_beq h1; omega
        have h2:(decAt s 0).2≠1:=fun e=>hb ⟨h1,e⟩
        refine And.intro (fun h3=>?_) (fun h3=>?_)
        · exfalso
          have:(((decAt s 0).2:Int) < 2):=of_decide_eq_true (show decide (((decAt s 0).2:Int) < 2) = true from h3)
          omega
        · rfl
      · (focus (refine And.intro (fun h9=>?_) ?_; (focus (exfalso; revert h9; first | decide | (simp<;>omega) | (intro h9; simp at h9<;>omega))); refine fun _=>?_))
        rfl
theorem s_Next (hu:HasU8) (s:Str):PSpec Tryd.prog 36 [.s s] (codeR s) :=
  pspec_of_vc Γ_good Tryd.func36 rfl Tryd.call36 Tryd.results36 Tryd.ntmps36 (Nat.le_of_ble_eq_true rfl) (w_Next hu s)
theorem w_Scalar (n:Int):vc Tryd.prog Γ 17 [0,2] (Tryd.f51.body.getD .skip) (postK Γ [.tmp 2] (fun v=>v = .b (decide (scalar n)))) ⟨argSlots 0 [.i .i64 n],[]⟩:=by
  repeat' (refine And.intro (fun h=>?_) (fun h=>?_)<;>(try simp [-List.getD_eq_getElem?_getD,-Int.pred_toNat] at h))
  all_goals
    refine congrArg AV.b ?_
    rw [Bool.eq_iff_iff]
    simp only [cond_true,cond_false,decide_eq_true_eq,Bool.false_eq_true,true_iff,false_iff]
    unfold scalar
    first | omega | (constructor<;>intro h9<;>(try (exfalso; exact h9))<;>omega)
theorem s_Scalar (n:Int):PSpec Tryd.prog 51 [.i .i64 n] (.b (decide (scalar n))) :=
  pspec_of_vc Γ_good Tryd.func51 rfl Tryd.call51 Tryd.results51 Tryd.ntmps51 (Nat.le_of_ble_eq_true rfl) (w_Scalar n)
end
end Go.Proofs.YtjbngfnpddhjpaaDoor
end
section
namespace Go.Proofs.YtjbngfnpddhjpaaDoor
set_option linter.unusedSectionVars false
set_option linter.unusedSimpArgs false
set_option linter.unusedVariables false
open Go Go.SX Go.Ut Go.RowKit
set_option maxRecDepth 100000
set_option maxHeartbeats 0
section
variable [G:Globs]
theorem acc_bnd {s:Str} {r:Int} (h0:0≤r) (h1:r≤63):∀ (i:Nat),i≤4→(∀ j,1≤j→j < i→cont s j)→0≤acc s r i∧acc s r i≤16777215:=by
  intro i hi hc
  have key:∀ j,1≤j→j < i→128≤b8 s j∧b8 s j < 192:=hc
  match i,hi with
  | 0,_=>exact ⟨h0,by simp only [acc]; omega⟩
  | 1,_=>exact ⟨h0,by simp only [acc]; omega⟩
  | 2,_=>have k1:=key 1 (by decide) (by decide); simp only [acc]; omega
  | 3,_=>have k1:=key 1 (by decide) (by decide); have k2:=key 2 (by decide) (by decide); simp only [acc]; omega
  | 4,_=>have k1:=key 1 (by decide) (by decide); have k2:=key 2 (by decide) (by decide); have k3:=key 3 (by decide) (by decide); simp only [acc]; omega
  | i + 5,h=>exfalso; omega
theorem i32_in (n:Int) (h0:0≤n) (h1:n≤2147483647):IntKind.i32.wrap n = n:=IntWalk.i32_in n ⟨by omega,h1⟩
theorem w_Code (s:Str):vc Tryd.prog Γ 90 [0,2,3,4,5,6,7,9,13,19,30,41,55,58,70,86] (Tryd.f35.body.getD .skip) (postK Γ [.tmp 2,.tmp 3] (fun v=>v = codeR s)) ⟨argSlots 0 [.s s],[]⟩:=by
  by_cases h0:s = []
  · subst h0
    (focus (refine And.intro ?_ (fun h9=>?_); rotate_left 1; (focus (exfalso; revert h9; first | decide | (simp<;>omega) | (intro h9; simp at h9<;>omega))); refine fun _=>?_))
    rfl
  have hl:1≤s.length:=by cases s with
    | nil=>exact absurd rfl h0
    | cons c r=>simp
  have hb:=b8_rng s 0
  have hw:IntKind.i64.wrap (((s.getD (Int.toNat 0) 0).toNat:Nat):Int) = b8 s 0:=IntWalk.i64_in _ ⟨by show _≤b8 s 0; omega,by show b8 s 0≤_; omega⟩
  refine And.intro (fun h9=>absurd (eq_of_beq h9) h0) (fun _=>?_)
  rcases (show b8 s 0 < 128∨(128≤b8 s 0∧b8 s 0 < 192)∨(192≤b8 s 0∧b8 s 0 < 224)∨(224≤b8 s 0∧b8 s 0 < 240)∨(240≤b8 s 0∧b8 s 0 < 248)∨248≤b8 s 0 by omega) with hc | hc | hc | hc | hc | hc
  · refine Exists.intro [.blk [0,1,2,3,4,5]] (And.intro (by kernel_rfl) ?_)
    refine And.intro ⟨by omega,by omega⟩ ?_
    refine And.intro ⟨by omega,by omega⟩ ?_
    rw [hw]
    refine And.intro (fun _=>?_) (fun h9=>absurd (show b8 s 0 < 128 by omega) (of_decide_eq_false h9))
    rw [codeR,code1 h0 hc]
    show AV.tup [.i .i32 (IntKind.i32.wrap (b8 s 0)),.i .i64 1] = _
    rw [i32_in _ (by omega) (by omega)]
    all_goals rfl
  · have hbad:code s = (-1,1):=code_bad h0 (by omega)
    refine Exists.intro [.blk [0,1,2,3,4,5]] (And.intro (by kernel_rfl) ?_)
    refine And.intro ⟨by omega,by omega⟩ ?_
    refine And.intro ⟨by omega,by omega⟩ ?_
    rw [hw]
    refine And.intro (fun h9=>absurd (of_decide_eq_true h9) (show ¬ (b8 s 0 < 128) by omega)) (fun _=>?_)
    refine And.intro ⟨by omega,by omega⟩ ?_
    refine And.intro (fun h9=>absurd (of_decide_eq_true h9) (show ¬ (192≤b8 s 0) by omega)) (fun _=>?_)
    (focus (refine And.intro (fun h9=>?_) ?_; (focus (exfalso; revert h9; first | decide | (simp<;>omega) | (intro h9; simp at h9<;>omega))); refine fun _=>?_))
    refine And.intro ⟨by omega,by omega⟩ ?_
    refine And.intro (fun h9=>absurd (of_decide_eq_true h9) (show ¬ (224≤b8 s 0) by omega)) (fun _=>?_)
    (focus (refine And.intro (fun h9=>?_) ?_; (focus (exfalso; revert h9; first | decide | (simp<;>omega) | (intro h9; simp at h9<;>omega))); refine fun _=>?_))
    refine And.intro ⟨by omega,by omega⟩ ?_
    refine And.intro (fun h9=>absurd (of_decide_eq_true h9) (show ¬ (240≤b8 s 0) by omega)) (fun _=>?_)
    (focus (refine And.intro (fun h9=>?_) ?_; (focus (exfalso; revert h9; first | decide | (simp<;>omega) | (intro h9; simp at h9<;>omega))); refine fun _=>?_))
    rw [codeR,hbad]
    rfl
  · have hlead:lead s = (2,128,b8 s 0 - 192):=by unfold lead; rw [if_pos (by omega)]
    have hg:good s↔(2≤s.length∧(∀ i,1≤i→i < 2→cont s i)∧128≤acc s (b8 s 0 - 192) 2∧scalar (acc s (b8 s 0 - 192) 2)):=by unfold good; rw [hlead]
    have hbad:¬ good s→code s = (-1,1):=(code_many h0 (by omega) (by omega)).2
    refine Exists.intro [.blk [0,1,2,3,4,5]] (And.intro (by kernel_rfl) ?_)
    refine And.intro ⟨by omega,by omega⟩ ?_
    refine And.intro ⟨by omega,by omega⟩ ?_
    rw [hw]
    refine And.intro (fun h9=>absurd (of_decide_eq_true h9) (show ¬ (b8 s 0 < 128) by omega)) (fun _=>?_)
    refine And.intro ⟨by omega,by omega⟩ ?_
    refine And.intro (fun _=>?_) (fun h9=>absurd (show 192≤b8 s 0 by omega) (of_decide_eq_false h9))
    refine And.intro ⟨by omega,by omega⟩ ?_
    refine And.intro (fun _=>?_) (fun h9=>absurd (show b8 s 0 < 224 by omega) (of_decide_eq_false h9))
    refine And.intro ⟨by omega,by omega⟩ ?_
    intro _
    refine And.intro (fun hs=>?_) (fun hs=>?_)
    · have hs:(s.length:Int) < 2:=of_decide_eq_true hs
      show AV.tup [.i .i32 (-1),.i .i64 1] = codeR s
      rw [codeR,hbad (fun h=>by have:=(hg.1 h).1; omega)]
      all_goals rfl
    · have hs:¬ (s.length:Int) < 2:=of_decide_eq_false hs
      refine Exists.intro [] (Exists.intro [] (Exists.intro [] (Exists.intro Nat (Exists.intro (fun i=>1≤i∧i≤2∧∀ j,1≤j→j < i→cont s j) (Exists.intro (fun i=>⟨[(0,.s s),(4,.i .i64 2),(5,.i .i64 128),(6,.i .i64 (acc s (b8 s 0 - 192) i)),(7,.i .i64 i)],[]⟩) (Exists.intro (fun i=>2 - i) (Exists.intro 1 (And.intro ⟨Nat.le_refl _,by decide,fun j h1 h2=>by omega⟩ (And.intro ?_ ?_)))))))))
      · (repeat' (first | exact trivial | exact Or.inl rfl | exact Or.inr (Or.inl ⟨rfl,_,rfl⟩) | exact Or.inr (Or.inr (Or.inr ⟨_,_,_,rfl,rfl⟩)) | refine And.intro ?_ ?_))
      · rintro i ⟨hi1,hin,hcs⟩
        have hab:=acc_bnd (s:=s) (r:=(b8 s 0 - 192)) (by omega) (by omega) i (by omega) hcs
        have hbi:=b8_rng s i
        refine And.intro (fun hc=>?_) (fun hc=>?_)
        · have hc:i < 2:=by have:(i:Int) < 2:=of_decide_eq_true hc; omega
          refine And.intro ⟨by omega,by omega⟩ ?_
          refine And.intro (fun h1=>?_) (fun h1=>?_)
          · have h1:¬ b8 s i < 128:=of_decide_eq_false h1
            refine And.intro ⟨by omega,by omega⟩ ?_
            refine And.intro (fun h2=>?_) (fun h2=>?_)
            · have h2:192≤b8 s i:=of_decide_eq_true h2
              show AV.tup [.i .i32 (-1),.i .i64 1] = codeR s
              rw [codeR,hbad (fun h=>by have:=(hg.1 h).2.1 i hi1 hc; unfold cont at this; omega)]
              all_goals rfl
            · have h2:¬ 192≤b8 s i:=of_decide_eq_false h2
              have hwi:IntKind.i64.wrap (((s.getD (Int.toNat (i:Int)) 0).toNat:Nat):Int) = b8 s i:=IntWalk.i64_in _ ⟨by show _≤b8 s i; omega,by show b8 s i≤_; omega⟩
              have hacc:acc s (b8 s 0 - 192) (i + 1) = acc s (b8 s 0 - 192) i * 64 + b8 s i - 128:=by
                obtain ⟨k,rfl⟩:∃ k,i = k + 1:=⟨i - 1,by omega⟩
                rfl
              refine And.intro ⟨by omega,by omega⟩ ?_
              refine And.intro ⟨by omega,by omega⟩ ?_
              refine And.intro ⟨by rw [hwi]; omega,by rw [hwi]; omega⟩ ?_
              rw [hwi]
              refine And.intro ⟨by omega,by omega⟩ ?_
              refine And.intro ⟨by omega,by omega⟩ ?_
              have hcs':∀ j,1≤j→j < i + 1→cont s j:=fun j h3 h4=>by
                rcases Nat.lt_or_ge j i with h | h
                · exact hcs j h3 h
                · have:j = i:=by omega
                  subst this
                  exact ⟨by omega,by omega⟩
              refine Exists.intro [] (Exists.intro (i + 1) (And.intro ⟨by omega,by omega,hcs'⟩ (And.intro ?_ ?_)))
              · (repeat' (first | exact trivial | exact Or.inl rfl | exact Or.inl (congrArg (AV.i .i64) hacc.symm) | refine And.intro ?_ ?_))
              · show 2 - (i + 1) < 2 - i
                omega
          · have h1:b8 s i < 128:=of_decide_eq_true (show decide (b8 s i < 128) = true from h1)
            (focus (refine And.intro ?_ (fun h9=>?_); rotate_left 1; (focus (exfalso; revert h9; first | decide | (simp<;>omega) | (intro h9; simp at h9<;>omega))); refine fun _=>?_))
            show AV.tup [.i .i32 (-1),.i .i64 1] = codeR s
            rw [codeR,hbad (fun h=>by have:=(hg.1 h).2.1 i hi1 hc; unfold cont at this; omega)]
            all_goals rfl
        · have hc:i = 2:=by have:¬ (i:Int) < 2:=of_decide_eq_false hc; omega
          subst hc
          refine And.intro (fun h1=>?_) (fun h1=>?_)
          · have h1:¬ acc s (b8 s 0 - 192) 2 < 128:=of_decide_eq_false h1
            refine Or.inl (Exists.intro _ (And.intro (s_Scalar (acc s (b8 s 0 - 192) 2)) ?_))
            refine And.intro (fun h2=>?_) (fun h2=>?_)
            · have h2:¬ scalar (acc s (b8 s 0 - 192) 2):=by simpa using h2
              show AV.tup [.i .i32 (-1),.i .i64 1] = codeR s
              rw [codeR,hbad (fun h=>h2 (hg.1 h).2.2.2)]
              all_goals rfl
            · have h2:scalar (acc s (b8 s 0 - 192) 2):=by simpa using h2
              have hgood:good s:=hg.2 ⟨by omega,hcs,by omega,h2⟩
              have hw2:IntKind.i32.wrap (acc s (b8 s 0 - 192) 2) = acc s (b8 s 0 - 192) 2:=i32_in _ (by omega) (by unfold scalar at h2; omega)
              have hcd:=(code_many h0 (by omega) (by omega)).1 hgood
              rw [hlead] at hcd
              rw [codeR,hcd]
              show AV.tup [.i .i32 (IntKind.i32.wrap (acc s (b8 s 0 - 192) 2)),.i .i64 2] = _
              rw [hw2]
              all_goals rfl
          · have h1:acc s (b8 s 0 - 192) 2 < 128:=of_decide_eq_true (show decide (acc s (b8 s 0 - 192) 2 < 128) = true from h1)
            (focus (refine And.intro ?_ (fun h9=>?_); rotate_left 1; (focus (exfalso; revert h9; first | decide | (simp<;>omega) | (intro h9; simp at h9<;>omega))); refine fun _=>?_))
            show AV.tup [.i .i32 (-1),.i .i64 1] = codeR s
            rw [codeR,hbad (fun h=>by have:=(hg.1 h).2.2.1; omega)]
            all_goals rfl
  · have hlead:lead s = (3,2048,b8 s 0 - 224):=by unfold lead; rw [if_neg (by omega),if_pos (by omega)]
    have hg:good s↔(3≤s.length∧(∀ i,1≤i→i < 3→cont s i)∧2048≤acc s (b8 s 0 - 224) 3∧scalar (acc s (b8 s 0 - 224) 3)):=by unfold good; rw [hlead]
    have hbad:¬ good s→code s = (-1,1):=(code_many h0 (by omega) (by omega)).2
    refine Exists.intro [.blk [0,1,2,3,4,5]] (And.intro (by kernel_rfl) ?_)
    refine And.intro ⟨by omega,by omega⟩ ?_
    refine And.intro ⟨by omega,by omega⟩ ?_
    rw [hw]
    refine And.intro (fun h9=>absurd (of_decide_eq_true h9) (show ¬ (b8 s 0 < 128) by omega)) (fun _=>?_)
    refine And.intro ⟨by omega,by omega⟩ ?_
    refine And.intro (fun _=>?_) (fun h9=>absurd (show 192≤b8 s 0 by omega) (of_decide_eq_false h9))
    refine And.intro ⟨by omega,by omega⟩ ?_
    refine And.intro (fun h9=>absurd (of_decide_eq_true h9) (show ¬ (b8 s 0 < 224) by omega)) (fun _=>?_)
    refine And.intro ⟨by omega,by omega⟩ ?_
    refine And.intro (fun _=>?_) (fun h9=>absurd (show 224≤b8 s 0 by omega) (of_decide_eq_false h9))
    refine And.intro ⟨by omega,by omega⟩ ?_
    refine And.intro (fun _=>?_) (fun h9=>absurd (show b8 s 0 < 240 by omega) (of_decide_eq_false h9))
    refine And.intro ⟨by omega,by omega⟩ ?_
    intro _
    refine And.intro (fun hs=>?_) (fun hs=>?_)
    · have hs:(s.length:Int) < 3:=of_decide_eq_true hs
      show AV.tup [.i .i32 (-1),.i .i64 1] = codeR s
      rw [codeR,hbad (fun h=>by have:=(hg.1 h).1; omega)]
      all_goals rfl
    · have hs:¬ (s.length:Int) < 3:=of_decide_eq_false hs
      refine Exists.intro [] (Exists.intro [] (Exists.intro [] (Exists.intro Nat (Exists.intro (fun i=>1≤i∧i≤3∧∀ j,1≤j→j < i→cont s j) (Exists.intro (fun i=>⟨[(0,.s s),(4,.i .i64 3),(5,.i .i64 2048),(6,.i .i64 (acc s (b8 s 0 - 224) i)),(7,.i .i64 i)],[]⟩) (Exists.intro (fun i=>3 - i) (Exists.intro 1 (And.intro ⟨Nat.le_refl _,by decide,fun j h1 h2=>by omega⟩ (And.intro ?_ ?_)))))))))
      · (repeat' (first | exact trivial | exact Or.inl rfl | exact Or.inr (Or.inl ⟨rfl,_,rfl⟩) | exact Or.inr (Or.inr (Or.inr ⟨_,_,_,rfl,rfl⟩)) | refine And.intro ?_ ?_))
      · rintro i ⟨hi1,hin,hcs⟩
        have hab:=acc_bnd (s:=s) (r:=(b8 s 0 - 224)) (by omega) (by omega) i (by omega) hcs
        have hbi:=b8_rng s i
        refine And.intro (fun hc=>?_) (fun hc=>?_)
        · have hc:i < 3:=by have:(i:Int) < 3:=of_decide_eq_true hc; omega
          refine And.intro ⟨by omega,by omega⟩ ?_
          refine And.intro (fun h1=>?_) (fun h1=>?_)
          · have h1:¬ b8 s i < 128:=of_decide_eq_false h1
            refine And.intro ⟨by omega,by omega⟩ ?_
            refine And.intro (fun h2=>?_) (fun h2=>?_)
            · have h2:192≤b8 s i:=of_decide_eq_true h2
              show AV.tup [.i .i32 (-1),.i .i64 1] = codeR s
              rw [codeR,hbad (fun h=>by have:=(hg.1 h).2.1 i hi1 hc; unfold cont at this; omega)]
              all_goals rfl
            · have h2:¬ 192≤b8 s i:=of_decide_eq_false h2
              have hwi:IntKind.i64.wrap (((s.getD (Int.toNat (i:Int)) 0).toNat:Nat):Int) = b8 s i:=IntWalk.i64_in _ ⟨by show _≤b8 s i; omega,by show b8 s i≤_; omega⟩
              have hacc:acc s (b8 s 0 - 224) (i + 1) = acc s (b8 s 0 - 224) i * 64 + b8 s i - 128:=by
                obtain ⟨k,rfl⟩:∃ k,i = k + 1:=⟨i - 1,by omega⟩
                rfl
              refine And.intro ⟨by omega,by omega⟩ ?_
              refine And.intro ⟨by omega,by omega⟩ ?_
              refine And.intro ⟨by rw [hwi]; omega,by rw [hwi]; omega⟩ ?_
              rw [hwi]
              refine And.intro ⟨by omega,by omega⟩ ?_
              refine And.intro ⟨by omega,by omega⟩ ?_
              have hcs':∀ j,1≤j→j < i + 1→cont s j:=fun j h3 h4=>by
                rcases Nat.lt_or_ge j i with h | h
                · exact hcs j h3 h
                · have:j = i:=by omega
                  subst this
                  exact ⟨by omega,by omega⟩
              refine Exists.intro [] (Exists.intro (i + 1) (And.intro ⟨by omega,by omega,hcs'⟩ (And.intro ?_ ?_)))
              · (repeat' (first | exact trivial | exact Or.inl rfl | exact Or.inl (congrArg (AV.i .i64) hacc.symm) | refine And.intro ?_ ?_))
              · show 3 - (i + 1) < 3 - i
                omega
          · have h1:b8 s i < 128:=of_decide_eq_true (show decide (b8 s i < 128) = true from h1)
            (focus (refine And.intro ?_ (fun h9=>?_); rotate_left 1; (focus (exfalso; revert h9; first | decide | (simp<;>omega) | (intro h9; simp at h9<;>omega))); refine fun _=>?_))
            show AV.tup [.i .i32 (-1),.i .i64 1] = codeR s
            rw [codeR,hbad (fun h=>by have:=(hg.1 h).2.1 i hi1 hc; unfold cont at this; omega)]
            all_goals rfl
        · have hc:i = 3:=by have:¬ (i:Int) < 3:=of_decide_eq_false hc; omega
          subst hc
          refine And.intro (fun h1=>?_) (fun h1=>?_)
          · have h1:¬ acc s (b8 s 0 - 224) 3 < 2048:=of_decide_eq_false h1
            refine Or.inl (Exists.intro _ (And.intro (s_Scalar (acc s (b8 s 0 - 224) 3)) ?_))
            refine And.intro (fun h2=>?_) (fun h2=>?_)
            · have h2:¬ scalar (acc s (b8 s 0 - 224) 3):=by simpa using h2
              show AV.tup [.i .i32 (-1),.i .i64 1] = codeR s
              rw [codeR,hbad (fun h=>h2 (hg.1 h).2.2.2)]
              all_goals rfl
            · have h2:scalar (acc s (b8 s 0 - 224) 3):=by simpa using h2
              have hgood:good s:=hg.2 ⟨by omega,hcs,by omega,h2⟩
              have hw2:IntKind.i32.wrap (acc s (b8 s 0 - 224) 3) = acc s (b8 s 0 - 224) 3:=i32_in _ (by omega) (by unfold scalar at h2; omega)
              have hcd:=(code_many h0 (by omega) (by omega)).1 hgood
              rw [hlead] at hcd
              rw [codeR,hcd]
              show AV.tup [.i .i32 (IntKind.i32.wrap (acc s (b8 s 0 - 224) 3)),.i .i64 3] = _
              rw [hw2]
              all_goals rfl
          · have h1:acc s (b8 s 0 - 224) 3 < 2048:=of_decide_eq_true (show decide (acc s (b8 s 0 - 224) 3 < 2048) = true from h1)
            (focus (refine And.intro ?_ (fun h9=>?_); rotate_left 1; (focus (exfalso; revert h9; first | decide | (simp<;>omega) | (intro h9; simp at h9<;>omega))); refine fun _=>?_))
            show AV.tup [.i .i32 (-1),.i .i64 1] = codeR s
            rw [codeR,hbad (fun h=>by have:=(hg.1 h).2.2.1; omega)]
            all_goals rfl
  · have hlead:lead s = (4,65536,b8 s 0 - 240):=by unfold lead; rw [if_neg (by omega),if_neg (by omega)]
    have hg:good s↔(4≤s.length∧(∀ i,1≤i→i < 4→cont s i)∧65536≤acc s (b8 s 0 - 240) 4∧scalar (acc s (b8 s 0 - 240) 4)):=by unfold good; rw [hlead]
    have hbad:¬ good s→code s = (-1,1):=(code_many h0 (by omega) (by omega)).2
    refine Exists.intro [.blk [0,1,2,3,4,5]] (And.intro (by kernel_rfl) ?_)
    refine And.intro ⟨by omega,by omega⟩ ?_
    refine And.intro ⟨by omega,by omega⟩ ?_
    rw [hw]
    refine And.intro (fun h9=>absurd (of_decide_eq_true h9) (show ¬ (b8 s 0 < 128) by omega)) (fun _=>?_)
    refine And.intro ⟨by omega,by omega⟩ ?_
    refine And.intro (fun _=>?_) (fun h9=>absurd (show 192≤b8 s 0 by omega) (of_decide_eq_false h9))
    refine And.intro ⟨by omega,by omega⟩ ?_
    refine And.intro (fun h9=>absurd (of_decide_eq_true h9) (show ¬ (b8 s 0 < 224) by omega)) (fun _=>?_)
    refine And.intro ⟨by omega,by omega⟩ ?_
    refine And.intro (fun _=>?_) (fun h9=>absurd (show 224≤b8 s 0 by omega) (of_decide_eq_false h9))
    refine And.intro ⟨by omega,by omega⟩ ?_
    refine And.intro (fun h9=>absurd (of_decide_eq_true h9) (show ¬ (b8 s 0 < 240) by omega)) (fun _=>?_)
    refine And.intro ⟨by omega,by omega⟩ ?_
    refine And.intro (fun _=>?_) (fun h9=>absurd (show 240≤b8 s 0 by omega) (of_decide_eq_false h9))
    refine And.intro ⟨by omega,by omega⟩ ?_
    refine And.intro (fun _=>?_) (fun h9=>absurd (show b8 s 0 < 248 by omega) (of_decide_eq_false h9))
    refine And.intro ⟨by omega,by omega⟩ ?_
    intro _
    refine And.intro (fun hs=>?_) (fun hs=>?_)
    · have hs:(s.length:Int) < 4:=of_decide_eq_true hs
      show AV.tup [.i .i32 (-1),.i .i64 1] = codeR s
      rw [codeR,hbad (fun h=>by have:=(hg.1 h).1; omega)]
      all_goals rfl
    · have hs:¬ (s.length:Int) < 4:=of_decide_eq_false hs
      refine Exists.intro [] (Exists.intro [] (Exists.intro [] (Exists.intro Nat (Exists.intro (fun i=>1≤i∧i≤4∧∀ j,1≤j→j < i→cont s j) (Exists.intro (fun i=>⟨[(0,.s s),(4,.i .i64 4),(5,.i .i64 65536),(6,.i .i64 (acc s (b8 s 0 - 240) i)),(7,.i .i64 i)],[]⟩) (Exists.intro (fun i=>4 - i) (Exists.intro 1 (And.intro ⟨Nat.le_refl _,by decide,fun j h1 h2=>by omega⟩ (And.intro ?_ ?_)))))))))
      · (repeat' (first | exact trivial | exact Or.inl rfl | exact Or.inr (Or.inl ⟨rfl,_,rfl⟩) | exact Or.inr (Or.inr (Or.inr ⟨_,_,_,rfl,rfl⟩)) | refine And.intro ?_ ?_))
      · rintro i ⟨hi1,hin,hcs⟩
        have hab:=acc_bnd (s:=s) (r:=(b8 s 0 - 240)) (by omega) (by omega) i (by omega) hcs
        have hbi:=b8_rng s i
        refine And.intro (fun hc=>?_) (fun hc=>?_)
        · have hc:i < 4:=by have:(i:Int) < 4:=of_decide_eq_true hc; omega
          refine And.intro ⟨by omega,by omega⟩ ?_
          refine And.intro (fun h1=>?_) (fun h1=>?_)
          · have h1:¬ b8 s i < 128:=of_decide_eq_false h1
            refine And.intro ⟨by omega,by omega⟩ ?_
            refine And.intro (fun h2=>?_) (fun h2=>?_)
            · have h2:192≤b8 s i:=of_decide_eq_true h2
              show AV.tup [.i .i32 (-1),.i .i64 1] = codeR s
              rw [codeR,hbad (fun h=>by have:=(hg.1 h).2.1 i hi1 hc; unfold cont at this; omega)]
              all_goals rfl
            · have h2:¬ 192≤b8 s i:=of_decide_eq_false h2
              have hwi:IntKind.i64.wrap (((s.getD (Int.toNat (i:Int)) 0).toNat:Nat):Int) = b8 s i:=IntWalk.i64_in _ ⟨by show _≤b8 s i; omega,by show b8 s i≤_; omega⟩
              have hacc:acc s (b8 s 0 - 240) (i + 1) = acc s (b8 s 0 - 240) i * 64 + b8 s i - 128:=by
                obtain ⟨k,rfl⟩:∃ k,i = k + 1:=⟨i - 1,by omega⟩
                rfl
              refine And.intro ⟨by omega,by omega⟩ ?_
              refine And.intro ⟨by omega,by omega⟩ ?_
              refine And.intro ⟨by rw [hwi]; omega,by rw [hwi]; omega⟩ ?_
              rw [hwi]
              refine And.intro ⟨by omega,by omega⟩ ?_
              refine And.intro ⟨by omega,by omega⟩ ?_
              have hcs':∀ j,1≤j→j < i + 1→cont s j:=fun j h3 h4=>by
                rcases Nat.lt_or_ge j i with h | h
                · exact hcs j h3 h
                · have:j = i:=by omega
                  subst this
                  exact ⟨by omega,by omega⟩
              refine Exists.intro [] (Exists.intro (i + 1) (And.intro ⟨by omega,by omega,hcs'⟩ (And.intro ?_ ?_)))
              · (repeat' (first | exact trivial | exact Or.inl rfl | exact Or.inl (congrArg (AV.i .i64) hacc.symm) | refine And.intro ?_ ?_))
              · show 4 - (i + 1) < 4 - i
                omega
          · have h1:b8 s i < 128:=of_decide_eq_true (show decide (b8 s i < 128) = true from h1)
            (focus (refine And.intro ?_ (fun h9=>?_); rotate_left 1; (focus (exfalso; revert h9; first | decide | (simp<;>omega) | (intro h9; simp at h9<;>omega))); refine fun _=>?_))
            show AV.tup [.i .i32 (-1),.i .i64 1] = codeR s
            rw [codeR,hbad (fun h=>by have:=(hg.1 h).2.1 i hi1 hc; unfold cont at this; omega)]
            all_goals rfl
        · have hc:i = 4:=by have:¬ (i:Int) < 4:=of_decide_eq_false hc; omega
          subst hc
          refine And.intro (fun h1=>?_) (fun h1=>?_)
          · have h1:¬ acc s (b8 s 0 - 240) 4 < 65536:=of_decide_eq_false h1
            refine Or.inl (Exists.intro _ (And.intro (s_Scalar (acc s (b8 s 0 - 240) 4)) ?_))
            refine And.intro (fun h2=>?_) (fun h2=>?_)
            · have h2:¬ scalar (acc s (b8 s 0 - 240) 4):=by simpa using h2
              show AV.tup [.i .i32 (-1),.i .i64 1] = codeR s
              rw [codeR,hbad (fun h=>h2 (hg.1 h).2.2.2)]
              all_goals rfl
            · have h2:scalar (acc s (b8 s 0 - 240) 4):=by simpa using h2
              have hgood:good s:=hg.2 ⟨by omega,hcs,by omega,h2⟩
              have hw2:IntKind.i32.wrap (acc s (b8 s 0 - 240) 4) = acc s (b8 s 0 - 240) 4:=i32_in _ (by omega) (by unfold scalar at h2; omega)
              have hcd:=(code_many h0 (by omega) (by omega)).1 hgood
              rw [hlead] at hcd
              rw [codeR,hcd]
              show AV.tup [.i .i32 (IntKind.i32.wrap (acc s (b8 s 0 - 240) 4)),.i .i64 4] = _
              rw [hw2]
              all_goals rfl
          · have h1:acc s (b8 s 0 - 240) 4 < 65536:=of_decide_eq_true (show decide (acc s (b8 s 0 - 240) 4 < 65536) = true from h1)
            (focus (refine And.intro ?_ (fun h9=>?_); rotate_left 1; (focus (exfalso; revert h9; first | decide | (simp<;>omega) | (intro h9; simp at h9<;>omega))); refine fun _=>?_))
            show AV.tup [.i .i32 (-1),.i .i64 1] = codeR s
            rw [codeR,hbad (fun h=>by have:=(hg.1 h).2.2.1; omega)]
            all_goals rfl
  · have hbad:code s = (-1,1):=code_bad h0 (by omega)
    refine Exists.intro [.blk [0,1,2,3,4,5]] (And.intro (by kernel_rfl) ?_)
    refine And.intro ⟨by omega,by omega⟩ ?_
    refine And.intro ⟨by omega,by omega⟩ ?_
    rw [hw]
    refine And.intro (fun h9=>absurd (of_decide_eq_true h9) (show ¬ (b8 s 0 < 128) by omega)) (fun _=>?_)
    refine And.intro ⟨by omega,by omega⟩ ?_
    refine And.intro (fun _=>?_) (fun h9=>absurd (show 192≤b8 s 0 by omega) (of_decide_eq_false h9))
    refine And.intro ⟨by omega,by omega⟩ ?_
    refine And.intro (fun h9=>absurd (of_decide_eq_true h9) (show ¬ (b8 s 0 < 224) by omega)) (fun _=>?_)
    refine And.intro ⟨by omega,by omega⟩ ?_
    refine And.intro (fun _=>?_) (fun h9=>absurd (show 224≤b8 s 0 by omega) (of_decide_eq_false h9))
    refine And.intro ⟨by omega,by omega⟩ ?_
    refine And.intro (fun h9=>absurd (of_decide_eq_true h9) (show ¬ (b8 s 0 < 240) by omega)) (fun _=>?_)
    refine And.intro ⟨by omega,by omega⟩ ?_
    refine And.intro (fun _=>?_) (fun h9=>absurd (show 240≤b8 s 0 by omega) (of_decide_eq_false h9))
    refine And.intro ⟨by omega,by omega⟩ ?_
    refine And.intro (fun h9=>absurd (of_decide_eq_true h9) (show ¬ (b8 s 0 < 248) by omega)) (fun _=>?_)
    rw [codeR,hbad]
    rfl
theorem s_Code (s:Str):PSpec Tryd.prog 35 [.s s] (codeR s) :=
  pspec_of_vc Γ_good Tryd.func35 rfl Tryd.call35 Tryd.results35 Tryd.ntmps35 (Nat.le_of_ble_eq_true rfl) (w_Code s)
end
end Go.Proofs.YtjbngfnpddhjpaaDoor
end
section
namespace Go.Ut
set_option linter.unusedSectionVars false
set_option linter.unusedSimpArgs false
set_option linter.unusedVariables false
open Go.SX

def eb (x:Int):UInt8:=UInt8.ofNat (IntKind.u8.wrap x).toNat
end Go.Ut
end
section
namespace Go.Proofs.YtjbngfnpddhjpaaDoor
set_option linter.unusedSectionVars false
set_option linter.unusedSimpArgs false
set_option linter.unusedVariables false
open Go Go.SX Go.Ut Go.RowKit
set_option maxRecDepth 100000
set_option maxHeartbeats 0
section
variable [G:Globs]
theorem w_BadPlace (s:Str):vc Tryd.prog Γ 23 [0,2,3,4,5,9,18] (Tryd.f25.body.getD .skip) (postK Γ [.tmp 2] (fun v=>v = .i .i64 (bad s))) ⟨argSlots 0 [.s s],[]⟩:=by
  refine Exists.intro [] (Exists.intro [] (Exists.intro [] (Exists.intro Nat (Exists.intro (fun i=>i≤s.length∧badFrom s i = bad s) (Exists.intro (fun i=>⟨[(0,.s s),(3,.i .i64 i)],[]⟩) (Exists.intro (fun i=>s.length - i) (Exists.intro 0 (And.intro ⟨Nat.zero_le _,rfl⟩ (And.intro ?_ ?_)))))))))
  · (repeat' (first | exact trivial | exact Or.inl rfl | exact Or.inr (Or.inl ⟨rfl,_,rfl⟩) | exact Or.inr (Or.inr (Or.inr ⟨_,_,_,rfl,rfl⟩)) | refine And.intro ?_ ?_))
  · rintro i ⟨hi,heq⟩
    intro hml
    unfold maxLen at hml
    refine And.intro (fun hc=>?_) (fun hc=>?_)
    · have hk:i < s.length:=by have:(i:Int) < s.length:=of_decide_eq_true hc; omega
      rw [bad_step hk] at heq
      have hp:=dec_pos s i
      have hle:=dec_le hk
      have ht:(s.take (Int.toNat (s.length:Int))).drop (Int.toNat i) = s.drop i:=by simp only [Int.toNat_natCast,List.take_length]
      have qc:=s_Code (s.drop i)
      unfold codeR at qc
      rw [code_at hk] at qc
      refine And.intro ⟨by omega,by omega,Int.le_refl _⟩ ?_
      rw [ht]
      by_cases hb:(decAt s i).1 = 65533∧(decAt s i).2 = 1
      · rw [if_pos hb] at qc heq
        refine Or.inl (Exists.intro _ (And.intro (qc) ?_))
        (focus (refine And.intro ?_ (fun h9=>?_); rotate_left 1; (focus (exfalso; revert h9; first | decide | (simp<;>omega) | (intro h9; simp at h9<;>omega))); refine fun _=>?_))
        exact congrArg (AV.i .i64) heq
      · rw [if_neg hb] at qc heq
        refine Or.inl (Exists.intro _ (And.intro (qc) ?_))
        refine And.intro (fun h9=>absurd (of_decide_eq_true h9) (by simp only; omega)) (fun _=>?_)
        refine And.intro ⟨by simp only; omega,by simp only; omega⟩ ?_
        refine Exists.intro [] (Exists.intro (i + (decAt s i).2) (And.intro ⟨hle,heq⟩ (And.intro ?_ ?_)))
        · (repeat' (first | exact trivial | exact Or.inl rfl | exact Or.inr (Or.inl ⟨rfl,_,rfl⟩) | exact Or.inr (Or.inr (Or.inr ⟨_,_,_,rfl,rfl⟩)) | refine And.intro ?_ ?_))
        · show s.length - (i + (decAt s i).2) < s.length - i
          omega
    · have hk:s.length≤i:=by have:¬ (i:Int) < s.length:=of_decide_eq_false hc; omega
      rw [bad_end hk] at heq
      exact congrArg (AV.i .i64) heq
theorem s_BadPlace (s:Str):PSpec Tryd.prog 25 [.s s] (.i .i64 (bad s)) :=
  pspec_of_vc Γ_good Tryd.func25 rfl Tryd.call25 Tryd.results25 Tryd.ntmps25 (Nat.le_of_ble_eq_true rfl) (w_BadPlace s)
theorem w_Bad (hu:HasU8) (s:Str):vc Tryd.prog Γ 25 [0,2,3,4,6,8,9,10,14,23] (Tryd.f29.body.getD .skip) (postK Γ [.tmp 2] (fun v=>v = .i .i64 (bad s))) ⟨argSlots 0 [.s s],[]⟩:=by
  refine Exists.intro [] (Exists.intro [] (Exists.intro [] (Exists.intro Nat (Exists.intro (fun i=>i≤s.length∧badFrom s i = bad s) (Exists.intro (fun i=>⟨[(0,.s s),(8,.ob 8 8 (.it s i))],[]⟩) (Exists.intro (fun i=>s.length - i) (Exists.intro 0 (And.intro ⟨Nat.zero_le _,rfl⟩ (And.intro ?_ ?_)))))))))
  · (repeat' (first | exact trivial | exact Or.inl rfl | exact Or.inr (Or.inl ⟨rfl,_,rfl⟩) | exact Or.inr (Or.inr (Or.inr ⟨_,_,_,rfl,rfl⟩)) | refine And.intro ?_ ?_))
  · rintro i ⟨hi,heq⟩
    refine And.intro (fun hk=>?_) (fun hk=>?_)
    · rw [bad_step hk] at heq
      have hp:=dec_pos s i
      have hle:=dec_le hk
      have ht:(s.take (Int.toNat (s.length:Int))).drop (Int.toNat i) = s.drop i:=by simp only [Int.toNat_natCast,List.take_length]
      have qc:=s_Next hu (s.drop i)
      unfold codeR at qc
      rw [code_at hk] at qc
      (focus (refine And.intro ?_ (fun h9=>?_); rotate_left 1; (focus (exfalso; revert h9; first | decide | (simp<;>omega) | (intro h9; simp at h9<;>omega))); refine fun _=>?_))
      refine And.intro (fun h1=>?_) (fun h1=>?_)
      · have h1:(decAt s i).1 = 65533:=by have:=eq_of_beq h1; omega
        refine And.intro ⟨by omega,by omega,Int.le_refl _⟩ ?_
        rw [ht]
        by_cases hb:(decAt s i).1 = 65533∧(decAt s i).2 = 1
        · rw [if_pos hb] at qc heq
          refine Or.inl (Exists.intro _ (And.intro (qc) ?_))
          (focus (refine And.intro ?_ (fun h9=>?_); rotate_left 1; (focus (exfalso; revert h9; first | decide | (simp<;>omega) | (intro h9; simp at h9<;>omega))); refine fun _=>?_))
          exact congrArg (AV.i .i64) heq
        · rw [if_neg hb] at qc heq
          refine Or.inl (Exists.intro _ (And.intro (qc) ?_))
          have h2:(decAt s i).2≠1:=fun e=>hb ⟨h1,e⟩
          refine And.intro (fun h9=>absurd (eq_of_beq h9) (by simp only; omega)) (fun _=>?_)
          refine Exists.intro [] (Exists.intro (i + (decAt s i).2) (And.intro ⟨hle,heq⟩ (And.intro ?_ ?_)))
          · (repeat' (first | exact trivial | exact Or.inl rfl | exact Or.inr (Or.inl ⟨rfl,_,rfl⟩) | exact Or.inr (Or.inr (Or.inr ⟨_,_,_,rfl,rfl⟩)) | refine And.intro ?_ ?_))
          · show s.length - (i + (decAt s i).2) < s.length - i
            omega
      · have h1:(decAt s i).1≠65533:=by have:=ne_of_beq_false h1; omega
        rw [if_neg (fun h=>h1 h.1)] at heq
        refine Exists.intro [] (Exists.intro (i + (decAt s i).2) (And.intro ⟨hle,heq⟩ (And.intro ?_ ?_)))
        · (repeat' (first | exact trivial | exact Or.inl rfl | exact Or.inr (Or.inl ⟨rfl,_,rfl⟩) | exact Or.inr (Or.inr (Or.inr ⟨_,_,_,rfl,rfl⟩)) | refine And.intro ?_ ?_))
        · show s.length - (i + (decAt s i).2) < s.length - i
          omega
    · rw [bad_end (by omega)] at heq
      (focus (refine And.intro (fun h9=>?_) ?_; (focus (exfalso; revert h9; first | decide | (simp<;>omega) | (intro h9; simp at h9<;>omega))); refine fun _=>?_))
      exact congrArg (AV.i .i64) heq
theorem s_Bad (hu:HasU8) (s:Str):PSpec Tryd.prog 29 [.s s] (.i .i64 (bad s)) :=
  pspec_of_vc Γ_good Tryd.func29 rfl Tryd.call29 Tryd.results29 Tryd.ntmps29 (Nat.le_of_ble_eq_true rfl) (w_Bad hu s)
end
end Go.Proofs.YtjbngfnpddhjpaaDoor
end
section
namespace Go.Proofs.YtjbngfnpddhjpaaDoor
set_option linter.unusedSectionVars false
set_option linter.unusedSimpArgs false
set_option linter.unusedVariables false
open Go Go.SX
theorem rng64 {n:Int} (h1 : -9223372036854775808≤n) (h2:n≤9223372036854775807):Rng .i64 n:=⟨h1,h2⟩
theorem len_le {n:Nat} (h:n≤maxLen):n≤9223372036854775807:=by unfold maxLen at h; omega
theorem ltD {i n:Nat} (h:decide ((i:Int) < (n:Int)) = true):i < n:=by have:=of_decide_eq_true h; omega
theorem geD {i n:Nat} (hi:i≤n) (h:decide ((i:Int) < (n:Int)) = false):i = n:=by have:=of_decide_eq_false h; omega
theorem getI {τ:Ty} {l:List (den τ)} {i:Nat} (h:i < l.length):l.getD (Int.toNat (i:Int)) (dflt τ) = l[i]:=by rw [Int.toNat_natCast,List.getD_eq_getElem?_getD,List.getElem?_eq_getElem h]; rfl
theorem take_snoc {α:Type} {l:List α} {i:Nat} (h:i < l.length):l.take (i + 1) = l.take i++[l[i]]:=by rw [List.take_add_one,List.getElem?_eq_getElem h]; rfl
section
variable [G:Globs]
end
end Go.Proofs.YtjbngfnpddhjpaaDoor
end
section
namespace Go.Proofs.YtjbngfnpddhjpaaDoor
set_option linter.unusedSectionVars false
set_option linter.unusedSimpArgs false
set_option linter.unusedVariables false
open Go Go.SX Go.Ck Go.Vl Go.Ut
set_option maxRecDepth 100000
set_option maxHeartbeats 1000000
section
variable [G:Globs]
def partsR (f:Int):AV:=if (f / 4503599627370496) % 2048 = 2047 then .tup [.i .u64 0,.i .i64 0,.i .i64 (if f % 4503599627370496 = 0 then 1 else 2)] else if (f / 4503599627370496) % 2048 = 0 then .tup [.i .u64 (f % 4503599627370496),.i .i64 (-1074),.i .i64 0] else .tup [.i .u64 (f % 4503599627370496 + 4503599627370496),.i .i64 ((f / 4503599627370496) % 2048 - 1075),.i .i64 0]
theorem w_floatParts (f:Int) (h0:0≤f) (h1:f≤18446744073709551615):vc Tryd.prog Γ 28 [0,2,3,4,5,6,18,20,22] (Tryd.f24.body.getD .skip) (postK Γ [.tmp 2,.tmp 3,.tmp 4] (fun v=>v = partsR f)) ⟨argSlots 0 [.i .u64 f],[]⟩:=by
  have hq:f.tdiv 4503599627370496 = f / 4503599627370496:=Int.tdiv_eq_ediv_of_nonneg h0
  have hm:f.tmod 4503599627370496 = f % 4503599627370496:=Int.tmod_eq_emod_of_nonneg h0
  have hm2:(f / 4503599627370496).tmod 2048 = (f / 4503599627370496) % 2048:=Int.tmod_eq_emod_of_nonneg (by omega)
  have hw:IntKind.i64.wrap ((f.tdiv 4503599627370496).tmod 2048) = (f / 4503599627370496) % 2048:=by
    rw [hq,hm2]; exact IntWalk.i64_in _ ⟨by omega,by omega⟩
  have hw2:IntKind.u64.wrap (f.tmod 4503599627370496 + 4503599627370496) = f % 4503599627370496 + 4503599627370496:=by
    rw [hm]; exact IntWalk.u64_in _ ⟨by omega,by omega⟩
  refine And.intro (by decide) ?_
  refine And.intro (by decide) ?_
  refine And.intro ⟨by omega,by omega⟩ ?_
  refine And.intro (by decide) ?_
  refine And.intro (fun h=>?_) (fun h=>?_)
  · have h:(f / 4503599627370496) % 2048 = 2047:=by rw [← hw]; exact eq_of_beq h
    refine And.intro (fun h2=>?_) (fun h2=>?_)
    · have h2:f % 4503599627370496 = 0:=by rw [← hm]; exact eq_of_beq h2
      show AV.tup [.i .u64 0,.i .i64 0,.i .i64 1] = _
      rw [partsR,if_pos h,if_pos h2]
    · have h2:¬ f % 4503599627370496 = 0:=by rw [← hm]; exact ne_of_beq_false h2
      refine And.intro (fun _=>?_) (fun h3=>absurd (hw.trans h) (ne_of_beq_false h3))
      show AV.tup [.i .u64 0,.i .i64 0,.i .i64 2] = _
      rw [partsR,if_pos h,if_neg h2]
  · have h:¬ (f / 4503599627370496) % 2048 = 2047:=by rw [← hw]; exact ne_of_beq_false h
    refine And.intro (fun h2=>Bool.noConfusion h2) (fun _=>?_)
    refine And.intro (fun h3=>absurd (hw.symm.trans (eq_of_beq h3)) h) (fun _=>?_)
    refine And.intro (fun h2=>?_) (fun h2=>?_)
    · have h2:(f / 4503599627370496) % 2048 = 0:=by rw [← hw]; exact eq_of_beq h2
      show AV.tup [.i .u64 (f.tmod 4503599627370496),.i .i64 (-1074),.i .i64 0] = _
      rw [partsR,if_neg h,if_pos h2,hm]
    · have h2:¬ (f / 4503599627370496) % 2048 = 0:=by rw [← hw]; exact ne_of_beq_false h2
      refine And.intro ⟨by omega,by omega⟩ ?_
      show AV.tup [.i .u64 (IntKind.u64.wrap (f.tmod 4503599627370496 + 4503599627370496)),.i .i64 (IntKind.i64.wrap ((f.tdiv 4503599627370496).tmod 2048) - 1075),.i .i64 0] = _
      rw [partsR,if_neg h,if_neg h2,hw2,hw]
theorem s_floatParts (f:Int) (h0:0≤f) (h1:f≤18446744073709551615):PSpec Tryd.prog 24 [.i .u64 f] (partsR f) :=
  pspec_of_vc Γ_good Tryd.func24 rfl Tryd.call24 Tryd.results24 Tryd.ntmps24 (Nat.le_of_ble_eq_true rfl) (w_floatParts f h0 h1)
theorem partsR_eq (f:Int):∃ x y z,partsR f = .tup [.i .u64 x,.i .i64 y,.i .i64 z]∧(z = 2↔((f / 4503599627370496) % 2048 = 2047∧f % 4503599627370496≠0)):=by
  unfold partsR
  split
  · rename_i h
    refine ⟨_,_,_,rfl,?_⟩
    split<;>omega
  · split
    · exact ⟨_,_,_,rfl,by omega⟩
    · exact ⟨_,_,_,rfl,by omega⟩
theorem w_oneFault (a:Val) (h0:0≤a.f) (h1:a.f≤18446744073709551615):VCs Tryd.prog Γ 147 [1,2,5,6,7,8,16,44,84,98,114,118,120,121,122,123,130,134,143] (Tryd.f12.body.getD .skip) (postK Γ [.tmp 2] (fun v=>v = .i .i64 (docF a))) ⟨argSlots 0 [.agg (encVal a)],[]⟩:=by
  refine VCs.seq (by first | exact Γ_good | exact Ctx.good_kp Γ_good _) ?_
  refine VCs.cut (by first | exact Γ_good | exact Ctx.good_kp Γ_good _) Unit (fun _=>¬ (a.kind < 0∨6 < a.kind)) (fun _=>⟨[(1,.pt 1 0),(2,.i .i64 0)],[(1,encVal a)]⟩) ?_ ?_
  · (repeat' (first | (refine And.intro (fun h=>?_) (fun h=>?_)<;>(try simp [-List.getD_eq_getElem?_getD,-Int.pred_toNat] at h)<;>(try (exfalso; first | omega | contradiction))) | (refine And.intro (rng64 (by omega) (by omega)) ?_) | (refine And.intro ⟨by omega,by omega⟩ ?_) | (refine And.intro ⟨by omega,by omega,by omega⟩ ?_) | (intro _)))
    all_goals first | (exact congrArg (AV.i .i64) (docF_kind (by unfold kindBad oddF; omega))) | (refine Exists.intro () (And.intro (by omega) ?_); (repeat' (first | exact trivial | exact Or.inl rfl | exact Or.inr (Or.inl ⟨rfl,_,rfl⟩) | exact Or.inr (Or.inr (Or.inr ⟨_,_,_,rfl,rfl⟩)) | refine And.intro ?_ ?_)))
  intro _ k1
  refine VCs.cut (by first | exact Γ_good | exact Ctx.good_kp Γ_good _) Unit (fun _=>¬ ((a.kind≠1∧a.kind≠2∧a.n≠0)∨(a.kind = 1∧a.n≠0∧a.n≠1))) (fun _=>⟨[(1,.pt 1 0),(2,.i .i64 0)],[(1,encVal a)]⟩) ?_ ?_
  · (repeat' (first | (refine And.intro (fun h=>?_) (fun h=>?_)<;>(try simp [-List.getD_eq_getElem?_getD,-Int.pred_toNat] at h)<;>(try (exfalso; first | omega | contradiction))) | (refine And.intro (rng64 (by omega) (by omega)) ?_) | (refine And.intro ⟨by omega,by omega⟩ ?_) | (refine And.intro ⟨by omega,by omega,by omega⟩ ?_) | (intro _)))
    all_goals first | (exact congrArg (AV.i .i64) (docF_kind (by unfold kindBad oddF; omega))) | (refine Exists.intro () (And.intro (by omega) ?_); (repeat' (first | exact trivial | exact Or.inl rfl | exact Or.inr (Or.inl ⟨rfl,_,rfl⟩) | exact Or.inr (Or.inr (Or.inr ⟨_,_,_,rfl,rfl⟩)) | refine And.intro ?_ ?_)))
  intro _ k2
  refine VCs.cut (by first | exact Γ_good | exact Ctx.good_kp Γ_good _) Unit (fun _=>¬ ((a.kind≠3∧a.f≠0)∨(a.kind≠4∧a.s≠[])∨(a.kind≠5∧0 < a.l.length)∨(a.kind≠6∧0 < a.e.length))) (fun _=>⟨[(1,.pt 1 0),(2,.i .i64 0)],[(1,encVal a)]⟩) ?_ ?_
  · (repeat' (first | (refine And.intro (fun h=>?_) (fun h=>?_)<;>(try simp [-List.getD_eq_getElem?_getD,-Int.pred_toNat] at h)<;>(try (exfalso; first | omega | contradiction))) | (refine And.intro (rng64 (by omega) (by omega)) ?_) | (refine And.intro ⟨by omega,by omega⟩ ?_) | (refine And.intro ⟨by omega,by omega,by omega⟩ ?_) | (intro _)))
    all_goals first | (exact congrArg (AV.i .i64) (docF_kind (by unfold kindBad oddF; grind))) | (refine Exists.intro () (And.intro (by grind) ?_); (repeat' (first | exact trivial | exact Or.inl rfl | exact Or.inr (Or.inl ⟨rfl,_,rfl⟩) | exact Or.inr (Or.inr (Or.inr ⟨_,_,_,rfl,rfl⟩)) | refine And.intro ?_ ?_)))
  intro _ k3
  obtain ⟨x,y,z,hp,hz⟩:=partsR_eq a.f
  have hs:=s_floatParts a.f h0 h1
  rw [hp] at hs
  refine VCs.cut (by first | exact Γ_good | exact Ctx.good_kp Γ_good _) Unit (fun _=>¬ oddF a.f) (fun _=>⟨[(1,.pt 1 0),(2,.i .i64 0)],[(1,encVal a)]⟩) ?_ ?_
  · refine Or.inl (Exists.intro _ (And.intro (hs) ?_))
    (repeat' (first | (refine And.intro (fun h=>?_) (fun h=>?_)<;>(try simp [-List.getD_eq_getElem?_getD,-Int.pred_toNat] at h)<;>(try (exfalso; first | omega | contradiction))) | (refine And.intro (rng64 (by omega) (by omega)) ?_) | (refine And.intro ⟨by omega,by omega⟩ ?_) | (refine And.intro ⟨by omega,by omega,by omega⟩ ?_) | (intro _)))
    all_goals first | (exact congrArg (AV.i .i64) (docF_kind (by unfold kindBad oddF; omega))) | (refine Exists.intro () (And.intro (by unfold oddF; omega) ?_); (repeat' (first | exact trivial | exact Or.inl rfl | exact Or.inr (Or.inl ⟨rfl,_,rfl⟩) | exact Or.inr (Or.inr (Or.inr ⟨_,_,_,rfl,rfl⟩)) | refine And.intro ?_ ?_)))
  intro _ k4
  have hk:¬ kindBad a:=by unfold kindBad; grind
  refine VCs.cut (by first | exact Γ_good | exact Ctx.good_kp Γ_good _) Unit (fun _=>¬ (4000 < a.s.length∨200 < a.l.length∨200 < a.e.length)) (fun _=>⟨[(1,.pt 1 0),(2,.i .i64 0)],[(1,encVal a)]⟩) ?_ ?_
  · (repeat' (first | (refine And.intro (fun h=>?_) (fun h=>?_)<;>(try simp [-List.getD_eq_getElem?_getD,-Int.pred_toNat] at h)<;>(try (exfalso; first | omega | contradiction))) | (refine And.intro (rng64 (by omega) (by omega)) ?_) | (refine And.intro ⟨by omega,by omega⟩ ?_) | (refine And.intro ⟨by omega,by omega,by omega⟩ ?_) | (intro _)))
    all_goals first | (exact congrArg (AV.i .i64) (docF_large hk (by omega))) | (refine Exists.intro () (And.intro (by omega) ?_); (repeat' (first | exact trivial | exact Or.inl rfl | exact Or.inr (Or.inl ⟨rfl,_,rfl⟩) | exact Or.inr (Or.inr (Or.inr ⟨_,_,_,rfl,rfl⟩)) | refine And.intro ?_ ?_)))
  intro _ k5
  refine VCs.cut (by first | exact Γ_good | exact Ctx.good_kp Γ_good _) Unit (fun _=>¬ 0≤bad a.s) (fun _=>⟨[(1,.pt 1 0),(2,.i .i64 0)],[(1,encVal a)]⟩) ?_ ?_
  · refine Or.inl (Exists.intro _ (And.intro (s_BadPlace a.s) ?_))
    (repeat' (first | (refine And.intro (fun h=>?_) (fun h=>?_)<;>(try simp [-List.getD_eq_getElem?_getD,-Int.pred_toNat] at h)<;>(try (exfalso; first | omega | contradiction))) | (refine And.intro (rng64 (by omega) (by omega)) ?_) | (refine And.intro ⟨by omega,by omega⟩ ?_) | (refine And.intro ⟨by omega,by omega,by omega⟩ ?_) | (intro _)))
    all_goals first | (exact congrArg (AV.i .i64) (docF_text hk k5 (by omega))) | (refine Exists.intro () (And.intro (by omega) ?_); (repeat' (first | exact trivial | exact Or.inl rfl | exact Or.inr (Or.inl ⟨rfl,_,rfl⟩) | exact Or.inr (Or.inr (Or.inr ⟨_,_,_,rfl,rfl⟩)) | refine And.intro ?_ ?_)))
  intro _ k6
  refine VCs.of_vc (by first | exact Γ_good | exact Ctx.good_kp Γ_good _) ?_
  rw [docF_ent hk k5 k6]
  intro hl
  refine Exists.intro [] (Exists.intro [] (Exists.intro [] (Exists.intro Nat (Exists.intro (fun i=>i≤a.e.length∧entF none a.e = entF (keyAt a.e i) (a.e.drop i)) (Exists.intro (fun i=>⟨[(6,.s (lastK a.e i)),(120,.rd .ent a.e),(121,.i .i64 a.e.length),(122,.i .i64 i)],[]⟩) (Exists.intro (fun i=>a.e.length - i) (Exists.intro 0 (And.intro ⟨Nat.zero_le _,rfl⟩ (And.intro ?_ ?_)))))))))
  · (repeat' (first | exact trivial | exact Or.inl rfl | exact Or.inr (Or.inl ⟨rfl,_,rfl⟩) | exact Or.inr (Or.inr (Or.inr ⟨_,_,_,rfl,rfl⟩)) | refine And.intro ?_ ?_))
  · rintro i ⟨hi,he⟩
    refine And.intro (fun hz=>?_) (fun hz=>?_)
    · have hi:=ltD hz
      have hg:=getI (τ:=.ent) hi
      refine And.intro ⟨by omega,by omega⟩ ?_
      rw [hg]
      intro _
      refine And.intro (fun hq=>?_) (fun hq=>?_)
      · have hk:=keyF_large (p:=keyAt a.e i) (k:=a.e[i].1) (by have:=of_decide_eq_true hq; omega)
        rw [entF_stop hi (by rw [hk]; decide),hk] at he
        exact congrArg (AV.i .i64) he.symm
      have n1:¬ 100 < a.e[i].1.length:=by have:=of_decide_eq_false hq; omega
      refine Or.inl (Exists.intro _ (And.intro (s_BadPlace a.e[i].1) ?_))
      refine And.intro (fun hq=>?_) (fun hq=>?_)
      · have hk:=keyF_text (p:=keyAt a.e i) (k:=a.e[i].1) n1 (of_decide_eq_true hq)
        rw [entF_stop hi (by rw [hk]; decide),hk] at he
        exact congrArg (AV.i .i64) he.symm
      have n2:¬ 0≤bad a.e[i].1:=of_decide_eq_false hq
      have hlen:=len_le hl
      refine And.intro (fun hq=>?_) (fun hq=>?_)
      · have h0:0 < i:=by have:=of_decide_eq_true hq; omega
        refine And.intro (fun hq=>?_) (fun hq=>?_)
        · have hk:=keyF_order (e:=a.e) n1 n2 h0 (by simpa using (show (!Op.bytesLess (lastK a.e i) a.e[i].1) = true from hq))
          rw [entF_stop hi (by rw [hk]; decide),hk] at he
          exact congrArg (AV.i .i64) he.symm
        · have hk:=keyF_ok (e:=a.e) n1 n2 (fun _=>by simpa using (show (!Op.bytesLess (lastK a.e i) a.e[i].1) = false from hq))
          rw [entF_go hi hk] at he
          (refine And.intro (rng64 (by omega) (by omega)) ?_)
          refine Exists.intro [] (Exists.intro (i + 1) (And.intro ⟨hi,he⟩ (And.intro ?_ ?_)))
          · (repeat' (first | exact trivial | exact Or.inl rfl | exact Or.inl ((congrArg AV.s (lastK_succ hi).symm)) | refine And.intro ?_ ?_))
          · show a.e.length - (i + 1) < a.e.length - i
            omega
      · have h0:¬ 0 < i:=by have:=of_decide_eq_false hq; omega
        refine And.intro (fun hq=>Bool.noConfusion hq) (fun _=>?_)
        have hk:=keyF_ok (e:=a.e) n1 n2 (fun h=>absurd h h0)
        rw [entF_go hi hk] at he
        (refine And.intro (rng64 (by omega) (by omega)) ?_)
        refine Exists.intro [] (Exists.intro (i + 1) (And.intro ⟨hi,he⟩ (And.intro ?_ ?_)))
        · (repeat' (first | exact trivial | exact Or.inl rfl | exact Or.inl ((congrArg AV.s (lastK_succ hi).symm)) | refine And.intro ?_ ?_))
        · show a.e.length - (i + 1) < a.e.length - i
          omega
    · have hi:=geD hi hz
      rw [entF_end _ (by omega)] at he
      exact congrArg (AV.i .i64) he.symm
theorem s_oneFault (a:Val) (h0:0≤a.f) (h1:a.f≤18446744073709551615):PSpec Tryd.prog 12 [.agg (encVal a)] (.i .i64 (docF a)) :=
  pspec_of_VCs Γ_good Tryd.func12 rfl Tryd.call12 Tryd.results12 Tryd.ntmps12 (Nat.le_of_ble_eq_true rfl) (w_oneFault a h0 h1) Γ_good
end
end Go.Proofs.YtjbngfnpddhjpaaDoor
end
section
namespace Go.Proofs.YtjbngfnpddhjpaaDoor
set_option linter.unusedSectionVars false
set_option linter.unusedSimpArgs false
set_option linter.unusedVariables false
open Go Go.SX Go.Vl Go.Ck Go.Up Go.Mer
set_option maxRecDepth 100000
set_option maxHeartbeats 4000000
theorem allK_snoc (l:List MbR) {i:Nat} (h:i < l.length):allK (l.take (i + 1)) = allK (l.take i)++l[i].v.e.map (·.1):=by
  unfold allK
  rw [List.take_add_one,List.getElem?_eq_getElem h,List.flatMap_append]
  simp
theorem keys_snoc (e:List Ent) {j:Nat} (h:j < e.length):(e.take (j + 1)).map (·.1) = (e.take j).map (·.1)++[e[j].1]:=by
  rw [List.take_add_one,List.getElem?_eq_getElem h,List.map_append]
  simp
section
variable [G:Globs]
theorem w_keys (l:List MbR) (h1:l.length≤10) (h2:∀ m ∈ l,m.v.e.length≤10000000) (h3:∀ i,(allK (l.take i)).length≤i * 10000000):vc Tryd.prog Γ 33 [0,2,3,5,7,8,9,10,11,16,17,18,19] (Tryd.f22.body.getD .skip) (postK Γ [.tmp 2] (fun v=>v = .rd .str (ksOf (allK l)))) ⟨argSlots 0 [.rd .mb l],[]⟩:=by
  intro _
  refine Exists.intro [(3,3,.str)] (Exists.intro [] (Exists.intro [] (Exists.intro Nat (Exists.intro (fun i=>i≤(l).length) (Exists.intro (fun i=>(⟨[(3,.vec 3 .str (allK (l.take i))),(8,.rd .mb l),(9,.i .i64 l.length),(10,.i .i64 i)],[]⟩)) (Exists.intro (fun i=>(l).length - i) (Exists.intro 0 (And.intro (Nat.zero_le _) (And.intro ?_ ?_)))))))))
  · (repeat' (first | exact trivial | exact Or.inl rfl | exact Or.inr (Or.inl ⟨rfl,_,rfl⟩) | exact Or.inr (Or.inr (Or.inr ⟨_,_,_,rfl,rfl⟩)) | refine And.intro ?_ ?_))
  rintro i hi
  refine And.intro (fun hz=>?_) (fun hz=>?_)
  · have hi:=ltD hz
    have hg:=getI (τ:=.mb) hi
    refine And.intro ⟨by omega,by omega⟩ ?_
    rw [hg]
    intro _
    have hs:=allK_snoc l hi
    have hl:=h3 i
    have he:=h2 l[i] (List.getElem_mem _)
    have hi10:i * 10000000≤100000000:=by omega
    generalize l[i].v.e = e at *
    have hi0:=hi
    refine Exists.intro [] (Exists.intro [] (Exists.intro [] (Exists.intro Nat (Exists.intro (fun j=>j≤e.length) (Exists.intro (fun j=>⟨[(3,.vec 3 .str (allK (l.take i)++(e.take j).map (·.1))),(8,.rd .mb l),(9,.i .i64 l.length),(10,.i .i64 i),(16,.rd .ent e),(17,.i .i64 e.length),(18,.i .i64 j)],[]⟩) (Exists.intro (fun j=>e.length - j) (Exists.intro 0 (And.intro (Nat.zero_le _) (And.intro ?_ ?_)))))))))
    · (repeat' (first | exact trivial | exact Or.inl rfl | exact Or.inl ((congrArg (AV.vec 3 .str) (List.append_nil _).symm)) | refine And.intro ?_ ?_))
    rintro j hi
    refine And.intro (fun hz=>?_) (fun hz=>?_)
    · have hi:=ltD hz
      have hg:=getI (τ:=.ent) hi
      refine And.intro ⟨by omega,by omega⟩ ?_
      rw [hg]
      have hk:=keys_snoc e hi
      have hel:((e.take j).map (·.1)).length = j:=by rw [List.length_map,List.length_take]; omega
      refine And.intro (show ((allK (l.take i)++(e.take j).map (·.1)).length + [(e[j]).1].length) * 16≤140737488355328 by rw [List.length_append,hel,List.length_singleton]; omega) ?_
      (refine And.intro (rng64 (by omega) (by omega)) ?_)
      refine Exists.intro [(26,3)] (Exists.intro (_ + 1) (And.intro hi (And.intro ?_ ?_)))
      · (repeat' (first | exact trivial | exact Or.inl rfl | exact Or.inl (congrArg (AV.vec 3 .str) ((List.append_assoc _ _ _).trans (congrArg _ hk.symm))) | refine And.intro ?_ ?_))
      · (exact Nat.sub_lt_sub_left (by omega) (by omega))
    · have hj:=geD hi hz
      have hi:=hi0
      (refine And.intro (rng64 (by omega) (by omega)) ?_)
      refine Exists.intro [] (Exists.intro (_ + 1) (And.intro hi (And.intro ?_ ?_)))
      · (repeat' (first | exact trivial | exact Or.inl rfl | exact Or.inl (congrArg (AV.vec 3 .str) (show allK (l.take i)++(e.take j).map (·.1) = allK (l.take (i + 1)) by rw [hs,hj,List.take_length])) | refine And.intro ?_ ?_))
      · (exact Nat.sub_lt_sub_left (by omega) (by omega))
  · have hi:=geD hi hz
    rw [hi,List.take_length]
    have hl:=h3 l.length
    rw [List.take_length] at hl
    refine Or.inr (Or.inr (Or.inr (Or.inr (Or.inr (Exists.intro [] (Exists.intro _ (Exists.intro _ (Exists.intro _ (Exists.intro _ (Exists.intro _ (Exists.intro _ (Exists.intro _ (Exists.intro [(0,3)] (Exists.intro [3] (Exists.intro [] (And.intro (s_sort (allK l) (by omega)) ?_))))))))))))))))
    refine (And.intro rfl (And.intro rfl (And.intro rfl (And.intro rfl (And.intro rfl (And.intro (And.intro rfl trivial) ?_))))))
    refine Or.inr (Or.inl (Exists.intro [] (Exists.intro _ (Exists.intro _ (Exists.intro _ (Exists.intro _ (Exists.intro _ (Exists.intro [(0,3)] (And.intro (s_compact (srt (allK l)) (by rw [srt_len]; omega)) ?_)))))))))
    refine (And.intro rfl (And.intro rfl (And.intro rfl (And.intro rfl ?_))))
    rfl
theorem s_keys (l:List MbR) (h1:l.length≤10) (h2:∀ m ∈ l,m.v.e.length≤10000000) (h3:∀ i,(allK (l.take i)).length≤i * 10000000):PSpec Tryd.prog 22 [.rd .mb l] (.rd .str (ksOf (allK l))) :=
  pspec_of_vc Γ_good Tryd.func22 rfl Tryd.call22 Tryd.results22 Tryd.ntmps22 (Nat.le_of_ble_eq_true rfl) (w_keys l h1 h2 h3)
end
end Go.Proofs.YtjbngfnpddhjpaaDoor
end
section
namespace Go.Proofs.YtjbngfnpddhjpaaDoor
set_option linter.unusedSectionVars false
set_option linter.unusedSimpArgs false
set_option linter.unusedVariables false
open Go Go.SX Go.Vl
set_option maxRecDepth 100000
set_option maxHeartbeats 0
theorem less_ne {a b:Str} (h:Op.bytesLess a b = true):a≠b:=fun e=>by rw [e,less_irrefl] at h; cases h
theorem beq_S (a:Str):(a == a) = true:=beq_self_eq_true a
theorem shr63 {f:Int} (h0:0≤f) (h1:f≤18446744073709551615):(f.fdiv (2 ^ min (Int.toNat 63) IntKind.u64.bits) == 1) = decide (¬ f < 9223372036854775808):=by
  rw [show (2:Int) ^ min (Int.toNat 63) IntKind.u64.bits = 9223372036854775808 from rfl,Int.fdiv_eq_ediv_of_nonneg _ (by decide)]
  rw [Bool.eq_iff_iff,beq_iff_eq,decide_eq_true_eq]
  omega
theorem or63 {f:Int} (h0:0≤f) (h1:f < 9223372036854775808):bits .or .u64 f 9223372036854775808 = f + 9223372036854775808:=by
  obtain ⟨n,rfl⟩:∃ n:Nat,f = n:=⟨f.toNat,by omega⟩
  rw [show (9223372036854775808:Int) = ((2 ^ 63 * 1:Nat):Int) from rfl,bits_or_u64_nat _ _ (by omega) (by omega),Nat.or_comm,← Nat.two_pow_add_eq_or_of_lt (by omega)]
  omega
theorem xor63 {f:Int} (h0:0≤f) (h1:f≤18446744073709551615):bits .xor .u64 (if IntKind.u64.signed = true then -1 else IntKind.u64.max) f = 18446744073709551615 - f:=by
  obtain ⟨n,rfl⟩:∃ n:Nat,f = n:=⟨f.toNat,by omega⟩
  rw [show (if IntKind.u64.signed = true then (-1:Int) else IntKind.u64.max) = ((18446744073709551615:Nat):Int) from rfl,bits_xor_u64_nat _ _ (by omega) (by omega)]
  have h:(18446744073709551615 ^^^ n:Nat) = 18446744073709551615 - n:=by
    have h2:=congrArg BitVec.toNat (BitVec.allOnes_xor (x:=BitVec.ofNat 64 n))
    rw [BitVec.toNat_xor,BitVec.toNat_not,BitVec.toNat_ofNat,Nat.mod_eq_of_lt (by omega),BitVec.toNat_allOnes] at h2
    exact h2
  rw [h]
  omega
section
variable [G:Globs]
theorem w_nanI64 (a:Int):vc Tryd.prog Γ 6 [0,2] (Tryd.f53.body.getD .skip) (postK Γ [.tmp 2] (fun v=>v = .b false)) ⟨argSlots 0 [.i .i64 a],[]⟩:=by
  show _ = _
  rw [bne_self_eq_false]
  rfl
theorem s_nanI64 (a:Int):PSpec Tryd.prog 53 [.i .i64 a] (.b false) :=
  pspec_of_vc Γ_good Tryd.func53 rfl Tryd.call53 Tryd.results53 Tryd.ntmps53 (Nat.le_of_ble_eq_true rfl) (w_nanI64 a)
theorem w_cmpI64 (a b:Int):vc Tryd.prog Γ 20 [0,1,4,5,6,11,12,13,16,19] (Tryd.f39.body.getD .skip) (postK Γ [.tmp 4] (fun v=>v = .i .i64 (cmpI a b))) ⟨argSlots 0 [.i .i64 a,.i .i64 b],[]⟩:=by
  refine Or.inl (Exists.intro _ (And.intro (s_nanI64 a) ?_))
  refine Or.inl (Exists.intro _ (And.intro (s_nanI64 b) ?_))
  refine And.intro (fun h=>Bool.noConfusion h) (fun _=>?_)
  refine And.intro (fun h=>Bool.noConfusion h) (fun _=>?_)
  refine And.intro (fun h=>?_) (fun h=>?_)
  · have h:a < b:=of_decide_eq_true h
    show AV.i .i64 (-1) = AV.i .i64 (cmpI a b)
    rw [cmpI,if_neg (by omega),if_pos h]
  · have h:¬ a < b:=of_decide_eq_false h
    refine And.intro (fun h2=>?_) (fun h2=>?_)
    · have h2:b < a:=of_decide_eq_true h2
      show AV.i .i64 1 = AV.i .i64 (cmpI a b)
      rw [cmpI,if_neg (by omega),if_neg h]
    · have h2:¬ b < a:=of_decide_eq_false h2
      show AV.i .i64 0 = AV.i .i64 (cmpI a b)
      rw [cmpI,if_pos (by omega)]
theorem s_cmpI64 (a b:Int):PSpec Tryd.prog 39 [.i .i64 a,.i .i64 b] (.i .i64 (cmpI a b)) :=
  pspec_of_vc Γ_good Tryd.func39 rfl Tryd.call39 Tryd.results39 Tryd.ntmps39 (Nat.le_of_ble_eq_true rfl) (w_cmpI64 a b)
theorem w_nanJ64 (a:Int):vc Tryd.prog Γ 6 [0,2] (Tryd.f54.body.getD .skip) (postK Γ [.tmp 2] (fun v=>v = .b false)) ⟨argSlots 0 [.i .i64 a],[]⟩:=by
  show _ = _
  rw [bne_self_eq_false]
  rfl
theorem s_nanJ64 (a:Int):PSpec Tryd.prog 54 [.i .i64 a] (.b false) :=
  pspec_of_vc Γ_good Tryd.func54 rfl Tryd.call54 Tryd.results54 Tryd.ntmps54 (Nat.le_of_ble_eq_true rfl) (w_nanJ64 a)
theorem w_cmpJ64 (a b:Int):vc Tryd.prog Γ 20 [0,1,4,5,6,11,12,13,16,19] (Tryd.f40.body.getD .skip) (postK Γ [.tmp 4] (fun v=>v = .i .i64 (cmpI a b))) ⟨argSlots 0 [.i .i64 a,.i .i64 b],[]⟩:=by
  refine Or.inl (Exists.intro _ (And.intro (s_nanJ64 a) ?_))
  refine Or.inl (Exists.intro _ (And.intro (s_nanJ64 b) ?_))
  refine And.intro (fun h=>Bool.noConfusion h) (fun _=>?_)
  refine And.intro (fun h=>Bool.noConfusion h) (fun _=>?_)
  refine And.intro (fun h=>?_) (fun h=>?_)
  · have h:a < b:=of_decide_eq_true h
    show AV.i .i64 (-1) = AV.i .i64 (cmpI a b)
    rw [cmpI,if_neg (by omega),if_pos h]
  · have h:¬ a < b:=of_decide_eq_false h
    refine And.intro (fun h2=>?_) (fun h2=>?_)
    · have h2:b < a:=of_decide_eq_true h2
      show AV.i .i64 1 = AV.i .i64 (cmpI a b)
      rw [cmpI,if_neg (by omega),if_neg h]
    · have h2:¬ b < a:=of_decide_eq_false h2
      show AV.i .i64 0 = AV.i .i64 (cmpI a b)
      rw [cmpI,if_pos (by omega)]
theorem s_cmpJ64 (a b:Int):PSpec Tryd.prog 40 [.i .i64 a,.i .i64 b] (.i .i64 (cmpI a b)) :=
  pspec_of_vc Γ_good Tryd.func40 rfl Tryd.call40 Tryd.results40 Tryd.ntmps40 (Nat.le_of_ble_eq_true rfl) (w_cmpJ64 a b)
theorem w_nanU64 (a:Int):vc Tryd.prog Γ 6 [0,2] (Tryd.f55.body.getD .skip) (postK Γ [.tmp 2] (fun v=>v = .b false)) ⟨argSlots 0 [.i .u64 a],[]⟩:=by
  show _ = _
  rw [bne_self_eq_false]
  rfl
theorem s_nanU64 (a:Int):PSpec Tryd.prog 55 [.i .u64 a] (.b false) :=
  pspec_of_vc Γ_good Tryd.func55 rfl Tryd.call55 Tryd.results55 Tryd.ntmps55 (Nat.le_of_ble_eq_true rfl) (w_nanU64 a)
theorem w_cmpU64 (a b:Int):vc Tryd.prog Γ 20 [0,1,4,5,6,11,12,13,16,19] (Tryd.f41.body.getD .skip) (postK Γ [.tmp 4] (fun v=>v = .i .i64 (cmpI a b))) ⟨argSlots 0 [.i .u64 a,.i .u64 b],[]⟩:=by
  refine Or.inl (Exists.intro _ (And.intro (s_nanU64 a) ?_))
  refine Or.inl (Exists.intro _ (And.intro (s_nanU64 b) ?_))
  refine And.intro (fun h=>Bool.noConfusion h) (fun _=>?_)
  refine And.intro (fun h=>Bool.noConfusion h) (fun _=>?_)
  refine And.intro (fun h=>?_) (fun h=>?_)
  · have h:a < b:=of_decide_eq_true h
    show AV.i .i64 (-1) = AV.i .i64 (cmpI a b)
    rw [cmpI,if_neg (by omega),if_pos h]
  · have h:¬ a < b:=of_decide_eq_false h
    refine And.intro (fun h2=>?_) (fun h2=>?_)
    · have h2:b < a:=of_decide_eq_true h2
      show AV.i .i64 1 = AV.i .i64 (cmpI a b)
      rw [cmpI,if_neg (by omega),if_neg h]
    · have h2:¬ b < a:=of_decide_eq_false h2
      show AV.i .i64 0 = AV.i .i64 (cmpI a b)
      rw [cmpI,if_pos (by omega)]
theorem s_cmpU64 (a b:Int):PSpec Tryd.prog 41 [.i .u64 a,.i .u64 b] (.i .i64 (cmpI a b)) :=
  pspec_of_vc Γ_good Tryd.func41 rfl Tryd.call41 Tryd.results41 Tryd.ntmps41 (Nat.le_of_ble_eq_true rfl) (w_cmpU64 a b)
theorem w_nanS (a:Str):vc Tryd.prog Γ 6 [0,2] (Tryd.f56.body.getD .skip) (postK Γ [.tmp 2] (fun v=>v = .b false)) ⟨argSlots 0 [.s a],[]⟩:=by
  show _ = _
  rw [beq_S]
  rfl
theorem s_nanS (a:Str):PSpec Tryd.prog 56 [.s a] (.b false) :=
  pspec_of_vc Γ_good Tryd.func56 rfl Tryd.call56 Tryd.results56 Tryd.ntmps56 (Nat.le_of_ble_eq_true rfl) (w_nanS a)
theorem w_cmpStr (a b:Str):vc Tryd.prog Γ 20 [0,1,4,5,6,11,12,13,16,19] (Tryd.f43.body.getD .skip) (postK Γ [.tmp 4] (fun v=>v = .i .i64 (cmpS a b))) ⟨argSlots 0 [.s a,.s b],[]⟩:=by
  refine Or.inl (Exists.intro _ (And.intro (s_nanS a) ?_))
  refine Or.inl (Exists.intro _ (And.intro (s_nanS b) ?_))
  refine And.intro (fun h=>Bool.noConfusion h) (fun _=>?_)
  refine And.intro (fun h=>Bool.noConfusion h) (fun _=>?_)
  refine And.intro (fun h=>?_) (fun h=>?_)
  · have h:Op.bytesLess a b = true:=h
    show AV.i .i64 (-1) = AV.i .i64 (cmpS a b)
    rw [cmpS,if_neg (less_ne h),if_pos h]
  · have h:Op.bytesLess a b = false:=h
    refine And.intro (fun h2=>?_) (fun h2=>?_)
    · have h2:(!(Op.bytesLess a b || a == b)) = true:=h2
      rw [h,Bool.false_or] at h2
      have h3:a≠b:=by simpa using h2
      show AV.i .i64 1 = AV.i .i64 (cmpS a b)
      rw [cmpS,if_neg h3,if_neg (by rw [h]; decide)]
    · have h2:(!(Op.bytesLess a b || a == b)) = false:=h2
      rw [h,Bool.false_or] at h2
      have h3:a = b:=by simpa using h2
      show AV.i .i64 0 = AV.i .i64 (cmpS a b)
      rw [cmpS,if_pos h3]
theorem s_cmpStr (a b:Str):PSpec Tryd.prog 43 [.s a,.s b] (.i .i64 (cmpS a b)) :=
  pspec_of_vc Γ_good Tryd.func43 rfl Tryd.call43 Tryd.results43 Tryd.ntmps43 (Nat.le_of_ble_eq_true rfl) (w_cmpStr a b)
theorem w_or (l:List Int):vc Tryd.prog Γ 18 [0,2,3,5,6,7,8,9,14] (Tryd.f38.body.getD .skip) (postK Γ [.tmp 2] (fun v=>v = .i .i64 (firstN l))) ⟨argSlots 0 [.rd .int l],[]⟩:=by
  intro _
  refine Exists.intro [] (Exists.intro [] (Exists.intro [] (Exists.intro Nat (Exists.intro (fun k=>k≤l.length∧firstN l = firstN (l.drop k)) (Exists.intro (fun k=>⟨[(3,.i .i64 0),(6,.rd .int l),(7,.i .i64 l.length),(8,.i .i64 k)],[]⟩) (Exists.intro (fun k=>l.length - k) (Exists.intro 0 (And.intro ⟨Nat.zero_le _,rfl⟩ (And.intro ?_ ?_)))))))))
  · (repeat' (first | exact trivial | exact Or.inl rfl | exact Or.inr (Or.inl ⟨rfl,_,rfl⟩) | exact Or.inr (Or.inr (Or.inr ⟨_,_,_,rfl,rfl⟩)) | refine And.intro ?_ ?_))
  · rintro k ⟨hk,he⟩
    refine And.intro (fun hc=>?_) (fun hc=>?_)
    · have hc : k < l.length := by have : (k : Int) < (l.length : Int) := of_decide_eq_true hc
                                   omega
      have hg:l.getD (Int.toNat (k:Int)) (dflt .int) = l[k]:=by rw [Int.toNat_natCast,List.getD_eq_getElem?_getD,List.getElem?_eq_getElem hc]; rfl
      refine And.intro ⟨by omega,by omega⟩ ?_
      rw [firstN_drop hc] at he
      refine And.intro (fun hq=>?_) (fun hq=>?_)
      · have hq:l[k]≠0:=by rw [hg] at hq; simpa using hq
        rw [orI_ne hq] at he
        show AV.i .i64 (l.getD (Int.toNat (k:Int)) (dflt .int)) = AV.i .i64 (firstN l)
        rw [hg,he]
      · have hq:l[k] = 0:=by rw [hg] at hq; simpa using hq
        rw [hq,orI_zero] at he
        refine And.intro (rng64 (by omega) (by have:=len_le (by assumption:l.length≤maxLen); omega)) ?_
        refine Exists.intro [] (Exists.intro (k + 1) (And.intro ⟨hc,he⟩ (And.intro ?_ ?_)))
        · (repeat' (first | exact trivial | exact Or.inl rfl | exact Or.inr (Or.inl ⟨rfl,_,rfl⟩) | exact Or.inr (Or.inr (Or.inr ⟨_,_,_,rfl,rfl⟩)) | refine And.intro ?_ ?_))
        · show l.length - (k + 1) < l.length - k
          omega
    · have hc : k = l.length := by have : ¬ (k : Int) < (l.length : Int) := of_decide_eq_false hc
                                   omega
      subst hc
      rw [List.drop_length,firstN] at he
      exact congrArg (AV.i .i64) he.symm
theorem s_or (l:List Int):PSpec Tryd.prog 38 [.rd .int l] (.i .i64 (firstN l)) :=
  pspec_of_vc Γ_good Tryd.func38 rfl Tryd.call38 Tryd.results38 Tryd.ntmps38 (Nat.le_of_ble_eq_true rfl) (w_or l)
theorem w_rk (f:Int) (h0:0≤f) (h1:f≤18446744073709551615):vc Tryd.prog Γ 10 [0,2,5] (Tryd.f42.body.getD .skip) (postK Γ [.tmp 2] (fun v=>v = .i .u64 (rank f))) ⟨argSlots 0 [.i .u64 f],[]⟩:=by
  refine And.intro (by decide) ?_
  refine And.intro (fun h=>?_) (fun h=>?_)
  · have h:¬ f < 9223372036854775808:=of_decide_eq_true ((shr63 h0 h1).symm.trans h)
    refine congrArg (AV.i .u64) ?_
    rw [xor63 h0 h1,rank,if_neg h]
  · have h : f < 9223372036854775808 := by
      have:=of_decide_eq_false ((shr63 h0 h1).symm.trans h)
      omega
    refine congrArg (AV.i .u64) ?_
    rw [or63 h0 h,rank,if_pos h]
theorem s_rk (f:Int) (h0:0≤f) (h1:f≤18446744073709551615):PSpec Tryd.prog 42 [.i .u64 f] (.i .u64 (rank f)) :=
  pspec_of_vc Γ_good Tryd.func42 rfl Tryd.call42 Tryd.results42 Tryd.ntmps42 (Nat.le_of_ble_eq_true rfl) (w_rk f h0 h1)
theorem w_cfV (l m:List Val) (hc:∀ x ∈ l,∀ y ∈ m,PSpec Tryd.prog 31 [.agg (encVal x),.agg (encVal y)] (.i .i64 (cmpV x y))):vc Tryd.prog Γ 39 [0,1,2,6,7,8,9,10,11,12,13,14,21,31,38] (Tryd.f44.body.getD .skip) (postK Γ [.tmp 6] (fun v=>v = .i .i64 (cmpL l m))) ⟨argSlots 0 [.rd .val l,.rd .val m,.fn 31 []],[]⟩:=by
  intro hl
  refine Exists.intro [] (Exists.intro [] (Exists.intro [] (Exists.intro Nat (Exists.intro (fun k=>k≤l.length∧k≤m.length∧cmpL l m = cmpL (l.drop k) (m.drop k)) (Exists.intro (fun k=>⟨[(0,.rd .val l),(1,.rd .val m),(2,.fn 31 []),(11,.rd .val l),(12,.i .i64 l.length),(13,.i .i64 k)],[]⟩) (Exists.intro (fun k=>l.length - k) (Exists.intro 0 (And.intro ⟨Nat.zero_le _,Nat.zero_le _,rfl⟩ (And.intro ?_ ?_)))))))))
  · (repeat' (first | exact trivial | exact Or.inl rfl | exact Or.inr (Or.inl ⟨rfl,_,rfl⟩) | exact Or.inr (Or.inr (Or.inr ⟨_,_,_,rfl,rfl⟩)) | refine And.intro ?_ ?_))
  · rintro k ⟨hk,hkm,he⟩
    refine And.intro (fun hd=>?_) (fun hd=>?_)
    · have hd : k < l.length := by have : (k : Int) < (l.length : Int) := of_decide_eq_true hd
                                   omega
      have hg:l.getD (Int.toNat (k:Int)) (dflt .val) = l[k]:=by rw [Int.toNat_natCast,List.getD_eq_getElem?_getD,List.getElem?_eq_getElem hd]; rfl
      refine And.intro ⟨by omega,by omega⟩ ?_
      intro hm
      refine And.intro (fun hq=>?_) (fun hq=>?_)
      · have hq : m.length ≤ k := by have : (m.length : Int) ≤ (k : Int) := of_decide_eq_true hq
                                     omega
        rw [cmpL_short hd hq] at he
        exact congrArg (AV.i .i64) he.symm
      · have hq : k < m.length := by have : ¬ (m.length : Int) ≤ (k : Int) := of_decide_eq_false hq
                                     omega
        have hgm:m.getD (Int.toNat (k:Int)) (dflt .val) = m[k]:=by rw [Int.toNat_natCast,List.getD_eq_getElem?_getD,List.getElem?_eq_getElem hq]; rfl
        refine And.intro ⟨by omega,by omega⟩ ?_
        have hs:=hc l[k] (List.getElem_mem hd) m[k] (List.getElem_mem hq)
        rw [← hg,← hgm] at hs
        refine Or.inl (Exists.intro _ (And.intro (hs) ?_))
        rw [hg,hgm]
        rw [cmpL_drop hd hq] at he
        refine And.intro (fun hz=>?_) (fun hz=>?_)
        · have hz:cmpV l[k] m[k]≠0:=by simpa using hz
          rw [orI_ne hz] at he
          exact congrArg (AV.i .i64) he.symm
        · have hz:cmpV l[k] m[k] = 0:=by simpa using hz
          rw [hz,orI_zero] at he
          have:=len_le hl
          (refine And.intro (rng64 (by omega) (by omega)) ?_)
          refine Exists.intro [] (Exists.intro (k + 1) (And.intro ⟨hd,hq,he⟩ (And.intro ?_ ?_)))
          · (repeat' (first | exact trivial | exact Or.inl rfl | exact Or.inr (Or.inl ⟨rfl,_,rfl⟩) | exact Or.inr (Or.inr (Or.inr ⟨_,_,_,rfl,rfl⟩)) | refine And.intro ?_ ?_))
          · show l.length - (k + 1) < l.length - k
            omega
    · have hd : k = l.length := by have : ¬ (k : Int) < (l.length : Int) := of_decide_eq_false hd
                                   omega
      subst hd
      intro _
      intro hm
      refine And.intro (fun hq=>?_) (fun hq=>?_)
      · have hq : l.length < m.length := by have : (l.length : Int) < (m.length : Int) := of_decide_eq_true hq
                                            omega
        rw [cmpL_long (Nat.le_refl _) hq] at he
        exact congrArg (AV.i .i64) he.symm
      · have hq : m.length ≤ l.length := by have : ¬ (l.length : Int) < (m.length : Int) := of_decide_eq_false hq
                                            omega
        rw [cmpL_end (Nat.le_refl _) hq] at he
        exact congrArg (AV.i .i64) he.symm
theorem s_cfV (l m:List Val) (hc:∀ x ∈ l,∀ y ∈ m,PSpec Tryd.prog 31 [.agg (encVal x),.agg (encVal y)] (.i .i64 (cmpV x y))):PSpec Tryd.prog 44 [.rd .val l,.rd .val m,.fn 31 []] (.i .i64 (cmpL l m)) :=
  pspec_of_vc Γ_good Tryd.func44 rfl Tryd.call44 Tryd.results44 Tryd.ntmps44 (Nat.le_of_ble_eq_true rfl) (w_cfV l m hc)
theorem w_cfE (l m:List (Str × Val)) (hc:∀ x ∈ l,∀ y ∈ m,PSpec Tryd.prog 46 [.agg (enc .ent x),.agg (enc .ent y)] (.i .i64 (cmpP x y))):vc Tryd.prog Γ 39 [0,1,2,6,7,8,9,10,11,12,13,14,21,31,38] (Tryd.f45.body.getD .skip) (postK Γ [.tmp 6] (fun v=>v = .i .i64 (cmpE l m))) ⟨argSlots 0 [.rd .ent l,.rd .ent m,.fn 46 []],[]⟩:=by
  intro hl
  refine Exists.intro [] (Exists.intro [] (Exists.intro [] (Exists.intro Nat (Exists.intro (fun k=>k≤l.length∧k≤m.length∧cmpE l m = cmpE (l.drop k) (m.drop k)) (Exists.intro (fun k=>⟨[(0,.rd .ent l),(1,.rd .ent m),(2,.fn 46 []),(11,.rd .ent l),(12,.i .i64 l.length),(13,.i .i64 k)],[]⟩) (Exists.intro (fun k=>l.length - k) (Exists.intro 0 (And.intro ⟨Nat.zero_le _,Nat.zero_le _,rfl⟩ (And.intro ?_ ?_)))))))))
  · (repeat' (first | exact trivial | exact Or.inl rfl | exact Or.inr (Or.inl ⟨rfl,_,rfl⟩) | exact Or.inr (Or.inr (Or.inr ⟨_,_,_,rfl,rfl⟩)) | refine And.intro ?_ ?_))
  · rintro k ⟨hk,hkm,he⟩
    refine And.intro (fun hd=>?_) (fun hd=>?_)
    · have hd : k < l.length := by have : (k : Int) < (l.length : Int) := of_decide_eq_true hd
                                   omega
      have hg:l.getD (Int.toNat (k:Int)) (dflt .ent) = l[k]:=by rw [Int.toNat_natCast,List.getD_eq_getElem?_getD,List.getElem?_eq_getElem hd]; rfl
      refine And.intro ⟨by omega,by omega⟩ ?_
      intro hm
      refine And.intro (fun hq=>?_) (fun hq=>?_)
      · have hq : m.length ≤ k := by have : (m.length : Int) ≤ (k : Int) := of_decide_eq_true hq
                                     omega
        rw [cmpE_short hd hq] at he
        exact congrArg (AV.i .i64) he.symm
      · have hq : k < m.length := by have : ¬ (m.length : Int) ≤ (k : Int) := of_decide_eq_false hq
                                     omega
        have hgm:m.getD (Int.toNat (k:Int)) (dflt .ent) = m[k]:=by rw [Int.toNat_natCast,List.getD_eq_getElem?_getD,List.getElem?_eq_getElem hq]; rfl
        refine And.intro ⟨by omega,by omega⟩ ?_
        have hs:=hc l[k] (List.getElem_mem hd) m[k] (List.getElem_mem hq)
        rw [← hg,← hgm] at hs
        refine Or.inl (Exists.intro _ (And.intro (hs) ?_))
        rw [hg,hgm]
        rw [cmpE_drop hd hq] at he
        refine And.intro (fun hz=>?_) (fun hz=>?_)
        · have hz:cmpP l[k] m[k]≠0:=by simpa using hz
          rw [orI_ne hz] at he
          exact congrArg (AV.i .i64) he.symm
        · have hz:cmpP l[k] m[k] = 0:=by simpa using hz
          rw [hz,orI_zero] at he
          have:=len_le hl
          (refine And.intro (rng64 (by omega) (by omega)) ?_)
          refine Exists.intro [] (Exists.intro (k + 1) (And.intro ⟨hd,hq,he⟩ (And.intro ?_ ?_)))
          · (repeat' (first | exact trivial | exact Or.inl rfl | exact Or.inr (Or.inl ⟨rfl,_,rfl⟩) | exact Or.inr (Or.inr (Or.inr ⟨_,_,_,rfl,rfl⟩)) | refine And.intro ?_ ?_))
          · show l.length - (k + 1) < l.length - k
            omega
    · have hd : k = l.length := by have : ¬ (k : Int) < (l.length : Int) := of_decide_eq_false hd
                                   omega
      subst hd
      intro _
      intro hm
      refine And.intro (fun hq=>?_) (fun hq=>?_)
      · have hq : l.length < m.length := by have : (l.length : Int) < (m.length : Int) := of_decide_eq_true hq
                                            omega
        rw [cmpE_long (Nat.le_refl _) hq] at he
        exact congrArg (AV.i .i64) he.symm
      · have hq : m.length ≤ l.length := by have : ¬ (l.length : Int) < (m.length : Int) := of_decide_eq_false hq
                                            omega
        rw [cmpE_end (Nat.le_refl _) hq] at he
        exact congrArg (AV.i .i64) he.symm
theorem s_cfE (l m:List (Str × Val)) (hc:∀ x ∈ l,∀ y ∈ m,PSpec Tryd.prog 46 [.agg (enc .ent x),.agg (enc .ent y)] (.i .i64 (cmpP x y))):PSpec Tryd.prog 45 [.rd .ent l,.rd .ent m,.fn 46 []] (.i .i64 (cmpE l m)) :=
  pspec_of_vc Γ_good Tryd.func45 rfl Tryd.call45 Tryd.results45 Tryd.ntmps45 (Nat.le_of_ble_eq_true rfl) (w_cfE l m hc)
theorem w_cmp1 (p q:Str × Val) (hc:PSpec Tryd.prog 31 [.agg (encVal p.2),.agg (encVal q.2)] (.i .i64 (cmpV p.2 q.2))):vc Tryd.prog Γ 17 [2,3,4] (Tryd.f46.body.getD .skip) (postK Γ [.tmp 4] (fun v=>v = .i .i64 (cmpP p q))) ⟨argSlots 0 [.agg (enc .ent p),.agg (enc .ent q)],[]⟩:=by
  refine Exists.intro [.blk [0,1,2,3,4,5,6,7,8,9,10,11,12] [15]] (And.intro (by kernel_rfl) ?_)
  refine Exists.intro _ (And.intro (s_cmpStr p.1 q.1) ?_)
  refine Exists.intro _ (And.intro (hc) ?_)
  refine Exists.intro _ (And.intro (s_or [cmpS p.1 q.1,cmpV p.2 q.2]) ?_)
  refine congrArg (AV.i .i64) ?_
  rw [cmpP_eq]
  simp only [firstN,orI_right]
theorem s_cmp1 (p q:Str × Val) (hc:PSpec Tryd.prog 31 [.agg (encVal p.2),.agg (encVal q.2)] (.i .i64 (cmpV p.2 q.2))):PSpec Tryd.prog 46 [.agg (enc .ent p),.agg (enc .ent q)] (.i .i64 (cmpP p q)) :=
  pspec_of_vc Γ_good Tryd.func46 rfl Tryd.call46 Tryd.results46 Tryd.ntmps46 (Nat.le_of_ble_eq_true rfl) (w_cmp1 p q hc)
theorem w_cmpr (a b:Val) (h0:0≤a.f∧a.f≤18446744073709551615) (h1:0≤b.f∧b.f≤18446744073709551615) (hc:∀ x ∈ a.l,∀ y ∈ b.l,PSpec Tryd.prog 31 [.agg (encVal x),.agg (encVal y)] (.i .i64 (cmpV x y))) (he:∀ x ∈ a.e,∀ y ∈ b.e,PSpec Tryd.prog 46 [.agg (enc .ent x),.agg (enc .ent y)] (.i .i64 (cmpP x y))):vc Tryd.prog Γ 39 [2,3,4] (Tryd.f31.body.getD .skip) (postK Γ [.tmp 4] (fun v=>v = .i .i64 (cmpV a b))) ⟨argSlots 0 [.agg (encVal a),.agg (encVal b)],[]⟩:=by
  refine Exists.intro [.blk [0,1,2,3,4,5,6,7,8,9,10,11,12,13,14,15,16,17,18,19,20,21,22,23,24,25,26,27,28,29,30,31,32,33,34] [37]] (And.intro (by kernel_rfl) ?_)
  refine Exists.intro _ (And.intro (s_cmpI64 a.kind b.kind) ?_)
  refine Exists.intro _ (And.intro (s_cmpJ64 a.n b.n) ?_)
  refine Exists.intro _ (And.intro (s_rk a.f h0.1 h0.2) ?_)
  refine Exists.intro _ (And.intro (s_rk b.f h1.1 h1.2) ?_)
  refine Exists.intro _ (And.intro (s_cmpU64 (rank a.f) (rank b.f)) ?_)
  refine Exists.intro _ (And.intro (s_cmpStr a.s b.s) ?_)
  refine Exists.intro _ (And.intro (s_cfV a.l b.l hc) ?_)
  refine Exists.intro _ (And.intro (s_cfE a.e b.e he) ?_)
  refine Exists.intro _ (And.intro (s_or [cmpI a.kind b.kind,cmpI a.n b.n,cmpI (rank a.f) (rank b.f),cmpS a.s b.s,cmpL a.l b.l,cmpE a.e b.e]) ?_)
  refine congrArg (AV.i .i64) ?_
  rw [cmpV_eq]
  simp only [firstN,orI_right]
theorem s_cmpr (a b:Val) (h0:0≤a.f∧a.f≤18446744073709551615) (h1:0≤b.f∧b.f≤18446744073709551615) (hc:∀ x ∈ a.l,∀ y ∈ b.l,PSpec Tryd.prog 31 [.agg (encVal x),.agg (encVal y)] (.i .i64 (cmpV x y))) (he:∀ x ∈ a.e,∀ y ∈ b.e,PSpec Tryd.prog 46 [.agg (enc .ent x),.agg (enc .ent y)] (.i .i64 (cmpP x y))):PSpec Tryd.prog 31 [.agg (encVal a),.agg (encVal b)] (.i .i64 (cmpV a b)) :=
  pspec_of_vc Γ_good Tryd.func31 rfl Tryd.call31 Tryd.results31 Tryd.ntmps31 (Nat.le_of_ble_eq_true rfl) (w_cmpr a b h0 h1 hc he)
end
end Go.Proofs.YtjbngfnpddhjpaaDoor
end
section
namespace Go.Proofs.YtjbngfnpddhjpaaDoor
set_option linter.unusedSectionVars false
set_option linter.unusedSimpArgs false
set_option linter.unusedVariables false
open Go Go.SX Go.Vl
set_option maxRecDepth 100000
set_option maxHeartbeats 0
def sg (t:Bool):Int:=if t = true then -1 else 1
theorem cmpI_ne {a b:Int} (h:a≠b):cmpI a b = sg (decide (a < b)):=by
  unfold cmpI sg
  rw [if_neg h]
  simp
theorem cmpS_ne {a b:Str} (h:a≠b):cmpS a b = sg (Op.bytesLess a b):=by
  unfold cmpS sg
  rw [if_neg h]
theorem bool_ne {a b:Bool} (h:(!(a == b)) = true):a≠b:=by simpa using h
theorem bool_eq {a b:Bool} (h:(!(a == b)) = false):a = b:=by simpa using h
theorem len_ne {m n:Nat} (h:(((m:Nat):Int) != ((n:Nat):Int)) = true):m≠n:=fun e=>by subst e; simp at h
theorem len_eq {m n:Nat} (h:(((m:Nat):Int) != ((n:Nat):Int)) = false):m = n:=by
  have:(m:Int) = (n:Int):=by simpa using h
  omega
theorem sg_nz (t:Bool):sg t≠0:=by cases t<;>decide
theorem shr63z {f:Int} (h0:0≤f) (h1:f≤18446744073709551615):(f.fdiv (2 ^ min (Int.toNat 63) IntKind.u64.bits) == 0) = decide (f < 9223372036854775808):=by
  rw [show (2:Int) ^ min (Int.toNat 63) IntKind.u64.bits = 9223372036854775808 from rfl,Int.fdiv_eq_ediv_of_nonneg _ (by decide)]
  rw [Bool.eq_iff_iff,beq_iff_eq,decide_eq_true_eq]
  omega
theorem rank_low {a b:Int} (ha:0≤a∧a≤18446744073709551615) (hb:0≤b∧b≤18446744073709551615) (h:decide (a < 9223372036854775808)≠decide (b < 9223372036854775808)):cmpI (rank a) (rank b) = sg (decide (b < 9223372036854775808)):=by
  by_cases h1:a < 9223372036854775808<;>by_cases h2:b < 9223372036854775808
  · simp [h1,h2] at h
  · rw [decide_eq_false h2,rank,rank,if_pos h1,if_neg h2,cmpI_ne (by omega),decide_eq_false (by omega)]
  · rw [decide_eq_true h2,rank,rank,if_neg h1,if_pos h2,cmpI_ne (by omega),decide_eq_true (by omega)]
  · simp [h1,h2] at h
theorem rank_high {a b:Int} (ha:0≤a∧a≤18446744073709551615) (hb:0≤b∧b≤18446744073709551615) (hne:a≠b) (h:decide (a < 9223372036854775808) = decide (b < 9223372036854775808)):cmpI (rank a) (rank b) = sg (decide (a < b) == decide (a < 9223372036854775808)):=by
  by_cases h1:a < 9223372036854775808<;>by_cases h2:b < 9223372036854775808
  · rw [rank,rank,if_pos h1,if_pos h2,cmpI_ne (by omega),decide_eq_true h1]
    congr 1
    by_cases h3:a < b
    · rw [decide_eq_true h3,decide_eq_true (by omega)]; rfl
    · rw [decide_eq_false h3,decide_eq_false (by omega)]; rfl
  · simp [h1,h2] at h
  · simp [h1,h2] at h
  · rw [rank,rank,if_neg h1,if_neg h2,cmpI_ne (by omega),decide_eq_false h1]
    congr 1
    by_cases h3:a < b
    · rw [decide_eq_true h3,decide_eq_false (by omega)]; rfl
    · rw [decide_eq_false h3,decide_eq_true (by omega)]; rfl
section
variable [G:Globs]
theorem w_sgn (t:Bool):vc Tryd.prog Γ 4 [0,2,3] (Tryd.f26.body.getD .skip) (postK Γ [.tmp 2] (fun v=>v = .i .i64 (sg t))) ⟨argSlots 0 [.b t],[]⟩:=by
  refine And.intro (fun h=>?_) (fun h=>?_)
  · have h:t = true:=h
    subst h
    rfl
  · have h:t = false:=h
    subst h
    rfl
theorem s_sgn (t:Bool):PSpec Tryd.prog 26 [.b t] (.i .i64 (sg t)) :=
  pspec_of_vc Γ_good Tryd.func26 rfl Tryd.call26 Tryd.results26 Tryd.ntmps26 (Nat.le_of_ble_eq_true rfl) (w_sgn t)
theorem w_besd (a b:Val) (h0:0≤a.f∧a.f≤18446744073709551615) (h1:0≤b.f∧b.f≤18446744073709551615) (hc:∀ x ∈ a.l,∀ y ∈ b.l,PSpec Tryd.prog 13 [.agg (encVal x),.agg (encVal y)] (.i .i64 (cmpV x y))) (hp:∀ x ∈ a.e,∀ y ∈ b.e,PSpec Tryd.prog 13 [.agg (encVal x.2),.agg (encVal y.2)] (.i .i64 (cmpV x.2 y.2))):VCs Tryd.prog Γ 185 [2,3,4,5,6,7,8,9,10,15,26,37,48,63,81,96,104,124,139,168,176] (Tryd.f13.body.getD .skip) (postK Γ [.tmp 4] (fun v=>v = .i .i64 (cmpV a b))) ⟨argSlots 0 [.agg (encVal a),.agg (encVal b)],[]⟩:=by
  refine VCs.seq (by first | exact Γ_good | exact Ctx.good_kp Γ_good _) ?_
  refine VCs.seq (by first | exact Γ_good | exact Ctx.good_kp Γ_good _) ?_
  refine And.intro (fun hk=>?_) (fun hk=>?_)
  · have hk:a.kind≠b.kind:=by simpa using hk
    refine Or.inl (Exists.intro _ (And.intro (s_sgn (decide (a.kind < b.kind))) ?_))
    refine congrArg (AV.i .i64) ?_
    rw [cmpV_eq,cmpI_ne hk,orI_ne (sg_nz _)]
  have hk:a.kind = b.kind:=by simpa using hk
  refine VCs.seq (by first | exact Γ_good | exact Ctx.good_kp Γ_good _) ?_
  refine And.intro (fun hn=>?_) (fun hn=>?_)
  · have hn:a.n≠b.n:=by simpa using hn
    refine Or.inl (Exists.intro _ (And.intro (s_sgn (decide (a.n < b.n))) ?_))
    refine congrArg (AV.i .i64) ?_
    rw [cmpV_eq,hk,cmpI_self,orI_zero,cmpI_ne hn,orI_ne (sg_nz _)]
  have hn:a.n = b.n:=by simpa using hn
  refine VCs.seq (by first | exact Γ_good | exact Ctx.good_kp Γ_good _) ?_
  refine And.intro (fun hf=>?_) (fun hf=>?_)
  · have hf:a.f≠b.f:=by simpa using hf
    refine Exists.intro [.blk [0,1,2,3,4,5,6,7,8,9]] (And.intro (by kernel_rfl) ?_)
    refine And.intro (by decide) ?_
    refine And.intro (by decide) ?_
    refine And.intro (fun hd=>?_) (fun hd=>?_)
    · have hd:=bool_ne hd
      rw [shr63z h0.1 h0.2,shr63z h1.1 h1.2] at hd
      refine Or.inl (Exists.intro _ (And.intro (s_sgn (b.f.fdiv (2 ^ min (Int.toNat 63) IntKind.u64.bits) == 0)) ?_))
      refine congrArg (AV.i .i64) ?_
      rw [shr63z h1.1 h1.2,cmpV_eq,hk,cmpI_self,orI_zero,hn,cmpI_self,orI_zero,rank_low h0 h1 hd,orI_ne (sg_nz _)]
    · have hd:=bool_eq hd
      rw [shr63z h0.1 h0.2,shr63z h1.1 h1.2] at hd
      refine Or.inl (Exists.intro _ (And.intro (s_sgn (decide (a.f < b.f) == (a.f.fdiv (2 ^ min (Int.toNat 63) IntKind.u64.bits) == 0))) ?_))
      refine congrArg (AV.i .i64) ?_
      rw [shr63z h0.1 h0.2,cmpV_eq,hk,cmpI_self,orI_zero,hn,cmpI_self,orI_zero,rank_high h0 h1 hf hd,orI_ne (sg_nz _)]
  have hf:a.f = b.f:=by simpa using hf
  refine VCs.seq (by first | exact Γ_good | exact Ctx.good_kp Γ_good _) ?_
  refine And.intro (fun hs=>?_) (fun hs=>?_)
  · have hs:a.s≠b.s:=by simpa using hs
    refine Or.inl (Exists.intro _ (And.intro (s_sgn (Op.bytesLess a.s b.s)) ?_))
    refine congrArg (AV.i .i64) ?_
    rw [cmpV_eq,hk,cmpI_self,orI_zero,hn,cmpI_self,orI_zero,hf,cmpI_self,orI_zero,cmpS_ne hs,orI_ne (sg_nz _)]
  have hs:a.s = b.s:=by simpa using hs
  have hr:cmpV a b = orI (cmpL a.l b.l) (cmpE a.e b.e):=by rw [cmpV_eq,hk,cmpI_self,orI_zero,hn,cmpI_self,orI_zero,hf,cmpI_self,orI_zero,hs,cmpS_self,orI_zero]
  refine VCs.cut (by first | exact Γ_good | exact Ctx.good_kp Γ_good _) Unit (fun _=>∃ k,cmpL a.l b.l = cmpL (a.l.drop k) (b.l.drop k)∧((k = a.l.length∧k≤b.l.length)∨(k = b.l.length∧k≤a.l.length))) (fun _=>⟨[(2,.pt 2 0),(3,.pt 3 0)],[(2,encVal a),(3,encVal b)]⟩) ?_ ?_
  · refine Exists.intro [] (Exists.intro [] (Exists.intro [] (Exists.intro Nat (Exists.intro (fun k=>k≤a.l.length∧k≤b.l.length∧cmpL a.l b.l = cmpL (a.l.drop k) (b.l.drop k)) (Exists.intro (fun k=>⟨[(2,.pt 2 0),(3,.pt 3 0),(7,.i .i64 k)],[(2,encVal a),(3,encVal b)]⟩) (Exists.intro (fun k=>a.l.length - k) (Exists.intro 0 (And.intro ⟨Nat.zero_le _,Nat.zero_le _,rfl⟩ (And.intro ?_ ?_)))))))))
    · (repeat' (first | exact trivial | exact Or.inl rfl | exact Or.inr (Or.inl ⟨rfl,_,rfl⟩) | exact Or.inr (Or.inr (Or.inr ⟨_,_,_,rfl,rfl⟩)) | refine And.intro ?_ ?_))
    · rintro k ⟨hka,hkb,he⟩
      intro hla
      refine And.intro (fun hc1=>?_) (fun hc1=>?_)
      · have hc1 : k < a.l.length := by have : (k : Int) < (a.l.length : Int) := of_decide_eq_true hc1
                                        omega
        intro _
        refine And.intro (fun hc2=>?_) (fun hc2=>?_)
        · have hc2 : k < b.l.length := by have : (k : Int) < (b.l.length : Int) := of_decide_eq_true hc2
                                          omega
          have hg:a.l.getD (Int.toNat (k:Int)) (dflt .val) = a.l[k]:=by rw [Int.toNat_natCast,List.getD_eq_getElem?_getD,List.getElem?_eq_getElem hc1]; rfl
          have hgb:b.l.getD (Int.toNat (k:Int)) (dflt .val) = b.l[k]:=by rw [Int.toNat_natCast,List.getD_eq_getElem?_getD,List.getElem?_eq_getElem hc2]; rfl
          have hcall:=hc a.l[k] (List.getElem_mem hc1) b.l[k] (List.getElem_mem hc2)
          rw [← hg,← hgb] at hcall
          refine Exists.intro [.blk [0,1,2,3,4,5,6,7,8,9,10,11]] (And.intro (by kernel_rfl) ?_)
          refine And.intro ⟨by omega,by omega⟩ ?_
          refine And.intro ⟨by omega,by omega⟩ ?_
          refine Exists.intro _ (And.intro (hcall) ?_)
          rw [hg,hgb]
          rw [cmpL_drop hc1 hc2] at he
          refine And.intro (fun hz=>?_) (fun hz=>?_)
          · have hz:cmpV a.l[k] b.l[k]≠0:=by simpa using hz
            rw [orI_ne hz] at he
            refine congrArg (AV.i .i64) ?_
            rw [hr,he,orI_ne hz]
          · have hz:cmpV a.l[k] b.l[k] = 0:=by simpa using hz
            rw [hz,orI_zero] at he
            have:=len_le hla
            (refine And.intro (rng64 (by omega) (by omega)) ?_)
            refine Exists.intro [] (Exists.intro (k + 1) (And.intro ⟨hc1,hc2,he⟩ (And.intro ?_ ?_)))
            · (repeat' (first | exact trivial | exact Or.inl rfl | exact Or.inr (Or.inl ⟨rfl,_,rfl⟩) | exact Or.inr (Or.inr (Or.inr ⟨_,_,_,rfl,rfl⟩)) | refine And.intro ?_ ?_))
            · show a.l.length - (k + 1) < a.l.length - k
              omega
        · have hc2 : k = b.l.length := by have : ¬ (k : Int) < (b.l.length : Int) := of_decide_eq_false hc2
                                          omega
          refine Exists.intro () (And.intro ⟨k,he,.inr ⟨hc2,hka⟩⟩ ?_)
          (repeat' (first | exact trivial | exact Or.inl rfl | exact Or.inr (Or.inl ⟨rfl,_,rfl⟩) | exact Or.inr (Or.inr (Or.inr ⟨_,_,_,rfl,rfl⟩)) | refine And.intro ?_ ?_))
      · have hc1 : k = a.l.length := by have : ¬ (k : Int) < (a.l.length : Int) := of_decide_eq_false hc1
                                        omega
        refine And.intro (fun h9=>Bool.noConfusion h9) (fun _=>?_)
        refine Exists.intro () (And.intro ⟨k,he,.inl ⟨hc1,hkb⟩⟩ ?_)
        (repeat' (first | exact trivial | exact Or.inl rfl | exact Or.inr (Or.inl ⟨rfl,_,rfl⟩) | exact Or.inr (Or.inr (Or.inr ⟨_,_,_,rfl,rfl⟩)) | refine And.intro ?_ ?_))
  rintro _ ⟨k,he,hk2⟩
  refine VCs.seq (by first | exact Γ_good | exact Ctx.good_kp Γ_good _) ?_
  intro hla
  intro hlb
  refine And.intro (fun hz=>?_) (fun hz=>?_)
  · have hz:a.l.length≠b.l.length:=len_ne hz
    intro _
    intro _
    refine Or.inl (Exists.intro _ (And.intro (s_sgn (decide ((a.l.length:Int) < (b.l.length:Int)))) ?_))
    refine congrArg (AV.i .i64) ?_
    rcases hk2 with ⟨h2,h3⟩ | ⟨h2,h3⟩
    · rw [cmpL_long (by omega) (by omega)] at he
      rw [hr,he,decide_eq_true (by omega)]
      rfl
    · rw [cmpL_short (by omega) (by omega)] at he
      rw [hr,he,decide_eq_false (by omega)]
      rfl
  have hz:a.l.length = b.l.length:=len_eq hz
  have hr:cmpV a b = cmpE a.e b.e:=by rw [hr,he,cmpL_end (by omega) (by omega),orI_zero]
  clear he hk2 k
  refine VCs.cut (by first | exact Γ_good | exact Ctx.good_kp Γ_good _) Unit (fun _=>∃ k,cmpE a.e b.e = cmpE (a.e.drop k) (b.e.drop k)∧((k = a.e.length∧k≤b.e.length)∨(k = b.e.length∧k≤a.e.length))) (fun _=>⟨[(2,.pt 2 0),(3,.pt 3 0)],[(2,encVal a),(3,encVal b)]⟩) ?_ ?_
  · refine Exists.intro [] (Exists.intro [] (Exists.intro [] (Exists.intro Nat (Exists.intro (fun k=>k≤a.e.length∧k≤b.e.length∧cmpE a.e b.e = cmpE (a.e.drop k) (b.e.drop k)) (Exists.intro (fun k=>⟨[(2,.pt 2 0),(3,.pt 3 0),(9,.i .i64 k)],[(2,encVal a),(3,encVal b)]⟩) (Exists.intro (fun k=>a.e.length - k) (Exists.intro 0 (And.intro ⟨Nat.zero_le _,Nat.zero_le _,rfl⟩ (And.intro ?_ ?_)))))))))
    · (repeat' (first | exact trivial | exact Or.inl rfl | exact Or.inr (Or.inl ⟨rfl,_,rfl⟩) | exact Or.inr (Or.inr (Or.inr ⟨_,_,_,rfl,rfl⟩)) | refine And.intro ?_ ?_))
    · rintro k ⟨hka,hkb,he⟩
      intro hla
      refine And.intro (fun hc1=>?_) (fun hc1=>?_)
      · have hc1 : k < a.e.length := by have : (k : Int) < (a.e.length : Int) := of_decide_eq_true hc1
                                        omega
        intro _
        refine And.intro (fun hc2=>?_) (fun hc2=>?_)
        · have hc2 : k < b.e.length := by have : (k : Int) < (b.e.length : Int) := of_decide_eq_true hc2
                                          omega
          have hg:a.e.getD (Int.toNat (k:Int)) (dflt .ent) = a.e[k]:=by rw [Int.toNat_natCast,List.getD_eq_getElem?_getD,List.getElem?_eq_getElem hc1]; rfl
          have hgb:b.e.getD (Int.toNat (k:Int)) (dflt .ent) = b.e[k]:=by rw [Int.toNat_natCast,List.getD_eq_getElem?_getD,List.getElem?_eq_getElem hc2]; rfl
          have hcall:=hp a.e[k] (List.getElem_mem hc1) b.e[k] (List.getElem_mem hc2)
          rw [← hg,← hgb] at hcall
          refine Exists.intro [.blk [0,1,2,3,4,5,6,7,8,9,10,11,12]] (And.intro (by kernel_rfl) ?_)
          refine And.intro ⟨by omega,by omega⟩ ?_
          refine And.intro ⟨by omega,by omega⟩ ?_
          rw [cmpE_drop hc1 hc2,cmpP_eq] at he
          refine And.intro (fun hq=>?_) (fun hq=>?_)
          · have hq:a.e[k].1≠b.e[k].1:=by rw [hg,hgb] at hq; simpa using hq
            refine Exists.intro [.blk [0,1,2,3,4,5,6,7,8,9,10,11,12,13,14]] (And.intro (by kernel_rfl) ?_)
            refine And.intro ⟨by omega,by omega⟩ ?_
            refine And.intro ⟨by omega,by omega⟩ ?_
            refine Exists.intro _ (And.intro (s_sgn (Op.bytesLess (a.e.getD (Int.toNat (k:Int)) (dflt .ent)).1 (b.e.getD (Int.toNat (k:Int)) (dflt .ent)).1)) ?_)
            refine congrArg (AV.i .i64) ?_
            rw [hg,hgb,hr,he,cmpS_ne hq,orI_ne (sg_nz _),orI_ne (sg_nz _)]
          · have hq:a.e[k].1 = b.e[k].1:=by rw [hg,hgb] at hq; simpa using hq
            rw [hq,cmpS_self,orI_zero] at he
            refine Exists.intro [.blk [0,1,2,3,4,5,6,7,8,9,10,11,12,13]] (And.intro (by kernel_rfl) ?_)
            refine And.intro ⟨by omega,by omega⟩ ?_
            refine And.intro ⟨by omega,by omega⟩ ?_
            refine Exists.intro _ (And.intro (hcall) ?_)
            rw [hg,hgb]
            refine And.intro (fun hz=>?_) (fun hz=>?_)
            · have hz:cmpV a.e[k].2 b.e[k].2≠0:=by simpa using hz
              rw [orI_ne hz] at he
              refine congrArg (AV.i .i64) ?_
              rw [hr,he]
            · have hz:cmpV a.e[k].2 b.e[k].2 = 0:=by simpa using hz
              rw [hz,orI_zero] at he
              have:=len_le hla
              (refine And.intro (rng64 (by omega) (by omega)) ?_)
              refine Exists.intro [] (Exists.intro (k + 1) (And.intro ⟨hc1,hc2,he⟩ (And.intro ?_ ?_)))
              · (repeat' (first | exact trivial | exact Or.inl rfl | exact Or.inr (Or.inl ⟨rfl,_,rfl⟩) | exact Or.inr (Or.inr (Or.inr ⟨_,_,_,rfl,rfl⟩)) | refine And.intro ?_ ?_))
              · show a.e.length - (k + 1) < a.e.length - k
                omega
        · have hc2 : k = b.e.length := by have : ¬ (k : Int) < (b.e.length : Int) := of_decide_eq_false hc2
                                          omega
          refine Exists.intro () (And.intro ⟨k,he,.inr ⟨hc2,hka⟩⟩ ?_)
          (repeat' (first | exact trivial | exact Or.inl rfl | exact Or.inr (Or.inl ⟨rfl,_,rfl⟩) | exact Or.inr (Or.inr (Or.inr ⟨_,_,_,rfl,rfl⟩)) | refine And.intro ?_ ?_))
      · have hc1 : k = a.e.length := by have : ¬ (k : Int) < (a.e.length : Int) := of_decide_eq_false hc1
                                        omega
        refine And.intro (fun h9=>Bool.noConfusion h9) (fun _=>?_)
        refine Exists.intro () (And.intro ⟨k,he,.inl ⟨hc1,hkb⟩⟩ ?_)
        (repeat' (first | exact trivial | exact Or.inl rfl | exact Or.inr (Or.inl ⟨rfl,_,rfl⟩) | exact Or.inr (Or.inr (Or.inr ⟨_,_,_,rfl,rfl⟩)) | refine And.intro ?_ ?_))
  rintro _ ⟨k,he,hk2⟩
  refine VCs.of_vc (by first | exact Γ_good | exact Ctx.good_kp Γ_good _) ?_
  intro hla
  intro hlb
  refine And.intro (fun hz=>?_) (fun hz=>?_)
  · have hz:a.e.length≠b.e.length:=len_ne hz
    intro _
    intro _
    refine Or.inl (Exists.intro _ (And.intro (s_sgn (decide ((a.e.length:Int) < (b.e.length:Int)))) ?_))
    refine congrArg (AV.i .i64) ?_
    rcases hk2 with ⟨h2,h3⟩ | ⟨h2,h3⟩
    · rw [cmpE_long (by omega) (by omega)] at he
      rw [hr,he,decide_eq_true (by omega)]
      rfl
    · rw [cmpE_short (by omega) (by omega)] at he
      rw [hr,he,decide_eq_false (by omega)]
      rfl
  · have hz:a.e.length = b.e.length:=len_eq hz
    refine congrArg (AV.i .i64) ?_
    rw [hr,he,cmpE_end (by omega) (by omega)]
theorem s_besd (a b:Val) (h0:0≤a.f∧a.f≤18446744073709551615) (h1:0≤b.f∧b.f≤18446744073709551615) (hc:∀ x ∈ a.l,∀ y ∈ b.l,PSpec Tryd.prog 13 [.agg (encVal x),.agg (encVal y)] (.i .i64 (cmpV x y))) (hp:∀ x ∈ a.e,∀ y ∈ b.e,PSpec Tryd.prog 13 [.agg (encVal x.2),.agg (encVal y.2)] (.i .i64 (cmpV x.2 y.2))):PSpec Tryd.prog 13 [.agg (encVal a),.agg (encVal b)] (.i .i64 (cmpV a b)) :=
  pspec_of_VCs Γ_good Tryd.func13 rfl Tryd.call13 Tryd.results13 Tryd.ntmps13 (Nat.le_of_ble_eq_true rfl) (w_besd a b h0 h1 hc hp) Γ_good
theorem beside_spec:∀ (n:Nat) (a b:Val),SizeOf.sizeOf a < n→VB a→VB b→PSpec Tryd.prog 13 [.agg (encVal a),.agg (encVal b)] (.i .i64 (cmpV a b)):=by
  intro n
  induction n with
  | zero=>intro a b h; exact absurd h (Nat.not_lt_zero _)
  | succ n ih =>
    intro a b hs ha hb
    cases ha with
    | mk _ a1 a2 a3 a4 a5 =>
    cases hb with
    | mk _ b1 b2 b3 b4 b5 =>
      refine s_besd a b a3 b3 (fun x hx y hy=>ih x y ?_ (a4 x hx) (b4 y hy)) (fun x hx y hy=>ih x.2 y.2 ?_ (a5 x hx) (b5 y hy))
      · have:=val_sz_l hx; omega
      · have:=val_sz_e hx; omega
theorem s_Beside (a b:Val) (ha:VB a) (hb:VB b):PSpec Tryd.prog 13 [.agg (encVal a),.agg (encVal b)] (.i .i64 (cmpV a b)) :=
  beside_spec _ a b (Nat.lt_succ_self _) ha hb
end
end Go.Proofs.YtjbngfnpddhjpaaDoor
end
section
namespace Go.Proofs.YtjbngfnpddhjpaaDoor
set_option linter.unusedSectionVars false
set_option linter.unusedSimpArgs false
set_option linter.unusedVariables false
open Go Go.SX Go.Vl
set_option maxRecDepth 100000
set_option maxHeartbeats 0
section
variable [G:Globs]
theorem w_same (a b:Val) (ha:VB a) (hb:VB b):vc Tryd.prog Γ 9 [2,3,4] (Tryd.f6.body.getD .skip) (postK Γ [.tmp 4] (fun v=>v = .b (decide (cmpV a b = 0)))) ⟨argSlots 0 [.agg (encVal a),.agg (encVal b)],[]⟩:=by
  refine Or.inl (Exists.intro _ (And.intro (s_Beside a b ha hb) ?_))
  rfl
theorem s_same (a b:Val) (ha:VB a) (hb:VB b):PSpec Tryd.prog 6 [.agg (encVal a),.agg (encVal b)] (.b (decide (cmpV a b = 0))) :=
  pspec_of_vc Γ_good Tryd.func6 rfl Tryd.call6 Tryd.results6 Tryd.ntmps6 (Nat.le_of_ble_eq_true rfl) (w_same a b ha hb)
theorem w_fnd1 (p:Ent) (k:Str):vc Tryd.prog Γ 8 [1,2,3] (Tryd.f50.body.getD .skip) (postK Γ [.tmp 3] (fun v=>v = .b (keyIs k p))) ⟨argSlots 0 [.agg (enc .ent p),.rp [.s k]],[]⟩:=by
  rfl
theorem s_fnd1 (p:Ent) (k:Str):PSpec Tryd.prog 50 [.agg (enc .ent p),.rp [.s k]] (.b (keyIs k p)) :=
  pspec_of_vc Γ_good Tryd.func50 rfl Tryd.call50 Tryd.results50 Tryd.ntmps50 (Nat.le_of_ble_eq_true rfl) (w_fnd1 p k)
theorem w_ixE (l:List Ent) (k:Str) (q:Ent→Bool) (f:Nat) (hq:∀ x ∈ l,PSpec Tryd.prog f [.agg (enc .ent x),.rp [.s k]] (.b (q x))):vc Tryd.prog Γ 19 [0,1,4,5,7,8,9,16] (Tryd.f49.body.getD .skip) (postK Γ [.tmp 4] (fun v=>v = .i .i64 (ixI l q))) ⟨argSlots 0 [.rd .ent l,.fn f [.rp [.s k]]],[]⟩:=by
  intro hl
  refine Exists.intro [] (Exists.intro [] (Exists.intro [] (Exists.intro Nat (Exists.intro (fun i=>i≤l.length∧i≤l.findIdx q) (Exists.intro (fun i=>⟨[(0,.rd .ent l),(1,.fn f [.rp [.s k]]),(7,.i .i64 l.length),(8,.i .i64 i)],[]⟩) (Exists.intro (fun i=>l.length - i) (Exists.intro 0 (And.intro ⟨Nat.zero_le _,Nat.zero_le _⟩ (And.intro ?_ ?_)))))))))
  · (repeat' (first | exact trivial | exact Or.inl rfl | exact Or.inr (Or.inl ⟨rfl,_,rfl⟩) | exact Or.inr (Or.inr (Or.inr ⟨_,_,_,rfl,rfl⟩)) | refine And.intro ?_ ?_))
  · rintro i ⟨hi,hf⟩
    refine And.intro (fun he=>?_) (fun he=>?_)
    · have hi : i < l.length := by have : (i : Int) < (l.length : Int) := of_decide_eq_true he
                                   omega
      have hg:l.getD (Int.toNat (i:Int)) (dflt .ent) = l[i]:=by rw [Int.toNat_natCast,List.getD_eq_getElem?_getD,List.getElem?_eq_getElem hi]; rfl
      refine And.intro ⟨by omega,by omega⟩ ?_
      have hs:=hq l[i] (List.getElem_mem hi)
      rw [← hg] at hs
      refine Or.inl (Exists.intro _ (And.intro (hs) ?_))
      rw [hg]
      refine And.intro (fun hz=>?_) (fun hz=>?_)
      · have hz:q l[i] = true:=hz
        rw [ix_hit hi hf hz]
        rfl
      · have hz:q l[i] = false:=hz
        have:=len_le hl
        (refine And.intro (rng64 (by omega) (by omega)) ?_)
        refine Exists.intro [] (Exists.intro (i + 1) (And.intro ⟨hi,ix_miss hi hf hz⟩ (And.intro ?_ ?_)))
        · (repeat' (first | exact trivial | exact Or.inl rfl | exact Or.inr (Or.inl ⟨rfl,_,rfl⟩) | exact Or.inr (Or.inr (Or.inr ⟨_,_,_,rfl,rfl⟩)) | refine And.intro ?_ ?_))
        · show l.length - (i + 1) < l.length - i
          omega
    · have hi : i = l.length := by have : ¬ (i : Int) < (l.length : Int) := of_decide_eq_false he
                                   omega
      rw [ix_none (by omega)]
      rfl
theorem s_ixE (l:List Ent) (k:Str) (q:Ent→Bool) (f:Nat) (hq:∀ x ∈ l,PSpec Tryd.prog f [.agg (enc .ent x),.rp [.s k]] (.b (q x))):PSpec Tryd.prog 49 [.rd .ent l,.fn f [.rp [.s k]]] (.i .i64 (ixI l q)) :=
  pspec_of_vc Γ_good Tryd.func49 rfl Tryd.call49 Tryd.results49 Tryd.ntmps49 (Nat.le_of_ble_eq_true rfl) (w_ixE l k q f hq)
theorem w_find (l:List Ent) (k:Str):vc Tryd.prog Γ 8 [0,3,4] (Tryd.f34.body.getD .skip) (postK Γ [.tmp 4] (fun v=>v = .i .i64 (ixI l (keyIs k)))) ⟨argSlots 0 [.rd .ent l,.s k],[]⟩:=by
  refine Or.inr (Or.inr (Or.inl (Exists.intro _ (And.intro (s_ixE l k (keyIs k) 50 (fun x _=>s_fnd1 x k)) ?_))))
  rfl
theorem s_find (l:List Ent) (k:Str):PSpec Tryd.prog 34 [.rd .ent l,.s k] (.i .i64 (ixI l (keyIs k))) :=
  pspec_of_vc Γ_good Tryd.func34 rfl Tryd.call34 Tryd.results34 Tryd.ntmps34 (Nat.le_of_ble_eq_true rfl) (w_find l k)
theorem w_wout (l:List Ent) (k:Str) (hl1:l.length≤100000000):vc Tryd.prog Γ 24 [0,1,4,5,7,8,9,10,11,17] (Tryd.f27.body.getD .skip) (postK Γ [.tmp 4] (fun v=>v = .rd .ent (withoutE l k))) ⟨argSlots 0 [.rd .ent l,.s k],[]⟩:=by
  intro hl
  refine Exists.intro [(5,5,.ent)] (Exists.intro [] (Exists.intro [] (Exists.intro Nat (Exists.intro (fun i=>i≤l.length) (Exists.intro (fun i=>⟨[(1,.s k),(5,.vec 5 .ent (withoutE (l.take i) k)),(8,.rd .ent l),(9,.i .i64 l.length),(10,.i .i64 i)],[]⟩) (Exists.intro (fun i=>l.length - i) (Exists.intro 0 (And.intro (Nat.zero_le _) (And.intro ?_ ?_)))))))))
  · (repeat' (first | exact trivial | exact Or.inl rfl | exact Or.inr (Or.inl ⟨rfl,_,rfl⟩) | exact Or.inr (Or.inr (Or.inr ⟨_,_,_,rfl,rfl⟩)) | refine And.intro ?_ ?_))
  · rintro i hi
    refine And.intro (fun he=>?_) (fun he=>?_)
    · have hi : i < l.length := by have : (i : Int) < (l.length : Int) := of_decide_eq_true he
                                   omega
      have hg:l.getD (Int.toNat (i:Int)) (dflt .ent) = l[i]:=by rw [Int.toNat_natCast,List.getD_eq_getElem?_getD,List.getElem?_eq_getElem hi]; rfl
      refine And.intro ⟨by omega,by omega⟩ ?_
      refine And.intro (fun hz=>?_) (fun hz=>?_)
      · have hz:keyIs k l[i] = false:=by rw [← hg]; simpa [keyIs] using hz
        rw [hg]
        have hfl:=filter_len (l:=l) (k:=k) (i:=i)
        refine And.intro (show ((withoutE (l.take i) k).length + 1) * 104≤140737488355328 by omega) ?_
        (refine And.intro (rng64 (by omega) (by omega)) ?_)
        refine Exists.intro [(21,5)] (Exists.intro (i + 1) (And.intro hi (And.intro ?_ ?_)))
        · have e:withoutE (l.take i) k++[(l[i].1,(⟨l[i].2.kind,l[i].2.n,l[i].2.f,l[i].2.s,l[i].2.l,l[i].2.e⟩:Val))] = withoutE (l.take (i + 1)) k:=by rw [val_eta]; exact (filter_next hi hz).symm
          (repeat' (first | exact trivial | exact Or.inl rfl | exact Or.inl ((congrArg (AV.vec 5 .ent) e)) | refine And.intro ?_ ?_))
        · show l.length - (i + 1) < l.length - i
          omega
      · have hz:keyIs k l[i] = true:=by rw [← hg]; simpa [keyIs] using hz
        (refine And.intro (rng64 (by omega) (by omega)) ?_)
        refine Exists.intro [] (Exists.intro (i + 1) (And.intro hi (And.intro ?_ ?_)))
        · (repeat' (first | exact trivial | exact Or.inl rfl | exact Or.inl ((congrArg (AV.vec 5 .ent) (filter_skip hi hz).symm)) | refine And.intro ?_ ?_))
        · show l.length - (i + 1) < l.length - i
          omega
    · have hi : i = l.length := by have : ¬ (i : Int) < (l.length : Int) := of_decide_eq_false he
                                   omega
      subst hi
      rw [List.take_length]
      rfl
theorem s_wout (l:List Ent) (k:Str) (hl1:l.length≤100000000):PSpec Tryd.prog 27 [.rd .ent l,.s k] (.rd .ent (withoutE l k)) :=
  pspec_of_vc Γ_good Tryd.func27 rfl Tryd.call27 Tryd.results27 Tryd.ntmps27 (Nat.le_of_ble_eq_true rfl) (w_wout l k hl1)
end
end Go.Proofs.YtjbngfnpddhjpaaDoor
end
section
namespace Go.SX
set_option linter.unusedSectionVars false
variable [Globs]
section
variable {P:Program} {N:Nat} {Γ:Ctx} {L:List Nat} {W0:World} {F:Fr} {X:Nat→Prop} {s:St} {β:Nat→Option Nat} {a:Act} {w:World}
def RL1:AV→AV→Prop
  | .agg cs,.agg ds=>AVles cs ds
  | c,d=>AVle c d
def RLs:List AV→List AV→Prop
  | [],[]=>True
  | a::r,b::t=>RL1 a b∧RLs r t
  | _,_=>False
def RL:AV→AV→Prop
  | .tup cs,.tup ds=>RLs cs ds
  | c,d=>RL1 c d
theorem im_RL1 {O:Nat→Prop} {c d:AV} {u:Value} (h:Im O w c u) (hle:RL1 c d):Im O w d u:=by
  unfold RL1 at hle
  split at hle
  · cases h with
    | agg _ vs h1 h2 h3 =>
      have:=all_le (show All2 (Im O w) _ vs from ⟨h1,h3⟩) hle
      exact .agg _ vs this.1 h2 this.2
  · exact im_le h hle
theorem im_RLs {O:Nat→Prop}:∀ {cs ds:List AV} {us:List Value},All2 (Im O w) cs us→RLs cs ds→All2 (Im O w) ds us
  | [],[],us,h,_=>h
  | [],_::_,_,_,hle=>hle.elim
  | _::_,[],_,_,hle=>hle.elim
  | c::r,d::t,us,h,hle=>by
    obtain ⟨u,us',rfl,h1,h2⟩:=h.cons_inv
    exact All2.cons (im_RL1 h1 hle.1) (im_RLs h2 hle.2)
theorem im_RL {O:Nat→Prop} {c d:AV} {u:Value} (h:Im O w c u) (hle:RL c d):Im O w d u:=by
  unfold RL at hle
  split at hle
  · cases h with
    | tup _ vs h1 h2 =>
      have:=im_RLs (show All2 (Im O w) _ vs from ⟨h1,h2⟩) hle
      exact .tup _ vs this.1 this.2
  · exact im_RL1 h hle
theorem PSpec.arg {f:FuncId} {args args':List AV} {r:AV} (h:PSpec P f args r) (hle:RLs args' args):PSpec P f args' r :=
  ⟨h.1,fun O w vs h1 h2 h3=>h.2 O w vs h1 h2 (im_RLs h3 hle)⟩
theorem pspec_of_vcL (hΓ : Γ.good P) {f : FuncId} {fn : Func} {c : Code} (hf : P.funcs[f]? = some fn) (hb : fn.body = some c) (hcall : ∀ (vs : Array Value) (w : World), (callFunc f vs).run P w = .ok (.enter f vs) w)
    {rs:Array ResultVar} (hrs:fn.results = rs) (hN:fn.ntmps = N) {args:List AV} {r:AV} {L:List Nat} (hlen:args.length≤N)
    (hvc:vc P Γ N L c (postK Γ rs.toList (fun v=>RL v r)) ⟨argSlots 0 args,[]⟩):PSpec P f args r:=by
  refine ⟨hcall,fun O w vs hO hG hargs=>?_⟩
  refine calls_of_wp hf hb ?_
  have hsz:vs.length = args.length:=hargs.1.symm
  have hI:InvB w Fr.none O N ⟨argSlots 0 args,[]⟩ (fun _=>none) { tmps:=vs.toArray++Array.replicate (fn.ntmps - vs.toArray.size) undef,defers:=[] } w:=by
    have hNm:∀ n,¬ Nm ⟨argSlots 0 args,[]⟩ n:=by
      rintro n (⟨cs,h⟩ | ⟨m,h⟩ | ⟨b,cs,h,_⟩)
      · cases h
      · have:=look_args args 0 m
        rw [Nat.zero_add] at this
        simp only [this] at h
        by_cases hm:m < args.length
        · rw [List.getD_eq_getElem?_getD,List.getElem?_eq_getElem hm] at h
          have:=(hargs.2 m _ _ (List.getElem?_eq_getElem hm) (List.getElem?_eq_getElem (by rw [hsz]; exact hm))).ids_nil
          rw [show (some args[m]).getD AV.x = args[m] from rfl,this] at h
          cases h
        · rw [List.getD_eq_getElem?_getD,List.getElem?_eq_none (by omega)] at h
          simp [ids,ids0] at h
      · cases h
    refine ⟨Stp.refl _ _,fun n=>?_,?_,fun n cs h=>(by cases h),fun n m g hn=>absurd hn (hNm n),fun n g hn=>absurd hn (hNm n),rfl,fun k hk=>⟨hO k hk,id⟩,fun n cs g h=>(by cases h),fun _ _=>rfl,hG.step (Stp.refl (fun _=>False) w) (fun _ _ h=>h.elim) fun k _ hk=>hk.elim id fun h=>h.elim⟩
    · have h1:=look_args args 0 n
      rw [Nat.zero_add] at h1
      show Rel _ _ _ (look (argSlots 0 args) n) _
      rw [h1]
      by_cases hm:n < args.length
      · have hmv:n < vs.length:=by rw [hsz]; exact hm
        have h2:=hargs.2 n _ _ (List.getElem?_eq_getElem hm) (List.getElem?_eq_getElem hmv)
        rw [List.getD_eq_getElem?_getD,List.getElem?_eq_getElem hm]
        have h3:(vs.toArray++Array.replicate (fn.ntmps - vs.toArray.size) undef).getD n undef = vs[n]:=by
          rw [Array.getD_eq_getD_getElem?,Array.getElem?_append_left (by simpa using hmv)]
          simp [hmv]
        rw [h3]
        refine Rel.im (h2.mono fun k hk=>?_)
        rcases hk with hk | ⟨m,hm',_⟩
        · exact hk
        · exact absurd hm' (hNm m)
      · rw [List.getD_eq_getElem?_getD,List.getElem?_eq_none (by omega)]
        exact Rel.x
    · show (vs.toArray++Array.replicate (fn.ntmps - vs.toArray.size) undef).size = N
      simp only [Array.size_append,List.size_toArray,Array.size_replicate,hN,hsz]
      omega
  refine vc_ok (W0:=w) (F:=Fr.none) (X:=O) hΓ c _ _ _ _ _ (fun e s a w' hq ⟨β,hI'⟩=>?_) hvc ⟨_,hI⟩
  have key:retK Γ s rs.toList (fun v=>RL v r)→a.defers = []∧∃ v,(results fn a.tmps).run P w' = .ok v w'∧∃ v',Ending.returned v = .returned v'∧Stp (fun _=>False) w w'∧Im O w' r v':=by
    intro h
    rw [← hrs] at h
    obtain ⟨v,u,hv,h1,h2⟩:=ret_ok hΓ hI' h
    exact ⟨hI'.defers,u,h2,u,rfl,hI'.ext,im_RL h1 hv⟩
  cases e with
  | normal=>exact key hq
  | ret=>exact key hq
  | _=>exact hq.elim

end
end Go.SX
end
section
namespace Go.SX
set_option linter.unusedSectionVars false
variable [Globs]
section
variable {P:Program} {N:Nat} {Γ:Ctx} {W0:World} {F:Fr} {X:Nat→Prop} {s:St} {β:Nat→Option Nat} {a:Act} {w:World}
def endRK (Γ:Ctx) (rs:List ResultVar) (r:AV) (j:Nat) (g:AV) (boxes':List (Nat × List AV)) (s:St):Prop :=
  ∃ rn,renStK rn s fun s=>resAllK Γ s rs (fun l=>RL (oneTup l) r)∧lookK s.slots j (fun v=>v = g)∧wkB s boxes'
def postRK (Γ:Ctx) (rs:List ResultVar) (r:AV) (j:Nat) (g:AV) (boxes':List (Nat × List AV)) (e:Exit) (s:St):Prop :=
  match e with
  | .normal=>endRK Γ rs r j g boxes' s
  | .ret=>endRK Γ rs r j g boxes' s
  | _=>False
theorem cspecM_of_vcR (hΓ : Γ.good P) {f : FuncId} {fn : Func} {c : Code} (hf : P.funcs[f]? = some fn) (hb : fn.body = some c) (hcall : ∀ (vs : Array Value) (w : World), (callFunc f vs).run P w = .ok (.enter f vs) w)
    {rs:Array ResultVar} (hrs:fn.results = rs) (hN:fn.ntmps = N) {args:List AV} {boxes:List (Nat × List AV)} {r:AV} {j:Nat} {g:AV} {boxes':List (Nat × List AV)} {L:List Nat} (hlen:args.length≤N) (hN1:1≤N)
    (hlow:(boxNames boxes).all (fun n=>Nat.ble N n) = true) (hj:j < args.length) (hkeep:keepsB args.length c = true) (hvc:vc P Γ N L c (postRK Γ rs.toList r j g boxes') ⟨argSlots 0 args,boxes⟩):CSpecM P f args boxes r j g boxes':=by
  have e:postRK Γ rs.toList r j g boxes' = postE (endRK Γ rs.toList r j g boxes'):=by funext e s; cases e<;>rfl
  rw [e] at hvc
  refine cspecM_of_vcE hΓ hf hb hcall hrs hN hlen hN1 hlow hj hkeep (fun F X W0 w s β a hI h=>?_) hvc
  obtain ⟨rn,h⟩:=h
  obtain ⟨s1,β1,⟨h,h3,hwk⟩,hI1⟩:=renSt_ok rn hI h
  rw [← hrs] at h
  obtain ⟨v,u,k0,k1,k2⟩:=resOneK_ok hΓ hI1 (K:=fun v=>RL v r) h
  rw [lookK_eq] at h3
  exact ⟨u,s1,β1,k2,im_RL k1 k0,hI1,h3,hwk⟩
theorem CSpecM.nilArg {f : FuncId} {args args' : List AV} {boxes boxes' : List (Nat × List AV)} {r g : AV} {j : Nat} (h : CSpecM P f args boxes r j g boxes') (id : Nat) (τ : Ty) (hl : args'.length = args.length) (hj : j < args'.length) (hn : look (argSlots 0 args') j = .nl)
    (hf:inB id (namesV args' boxes) = false) (hw:Wk ((⟨argSlots 0 args',boxes⟩:St).put j (.vec id τ [])) ⟨argSlots 0 args,boxes⟩):CSpec P f args' boxes r boxes':=by
  refine ⟨h.1,fun F X β w vs hvs hpin hI=>?_⟩
  have hnf:¬ Nm ⟨argSlots 0 args',boxes⟩ id:=fun hm=>by
    have:=Nm_names (look_args_mem args' 0) hm
    rw [inB_iff.2 this] at hf
    cases hf
  have hI2:=(hI.nlVec (n:=j) (id:=id) hn hnf τ).wk hw
  refine (h.2 F X _ w vs (hvs.trans hl) hpin hI2).mono fun e w' hp=>?_
  obtain ⟨v,u,β',he,_,him,hP⟩:=hp
  refine ⟨v,β',he,?_⟩
  exact hP.put (d:=0) (by decide) (Rel.im him) (by rw [him.ids_nil]; intro n hn; cases hn)
end
end Go.SX
end
section
namespace Go.Proofs.YtjbngfnpddhjpaaDoor
set_option linter.unusedSectionVars false
set_option linter.unusedSimpArgs false
set_option linter.unusedVariables false
open Go Go.SX Go.Vl Go.Up
set_option maxRecDepth 100000
set_option maxHeartbeats 4000000
section
variable [G:Globs]
theorem w_cloneM (l:List PStep) (h:l.length≤1000000000):vc Tryd.prog Γ 8 [0,2,4] (Tryd.f21.body.getD .skip) (postRK Γ [.tmp 2] (.rd .pstep l) 0 (.ob 0 0 (.ln .pstep l)) []) ⟨argSlots 0 [.ob 0 0 (.ln .pstep l)],[]⟩:=by
  intro x hx
  refine And.intro (fun hq=>?_) (fun hq=>?_)
  · have hq:x = true:=hq
    have he:l = []:=by
      cases l with
      | nil=>rfl
      | cons y r=>exact absurd (hx rfl) (by rw [hq]; decide)
    subst he
    refine Exists.intro [] (And.intro ?_ (And.intro rfl trivial))
    (repeat' (first | exact trivial | exact Or.inl rfl | exact Or.inr ⟨rfl,_,rfl⟩ | refine And.intro ?_ ?_))
  · refine And.intro (show (([]:List PStep).length + l.length) * 24≤140737488355328 by simp only [List.length_nil]; omega) ?_
    refine Exists.intro [(999,7)] (And.intro ?_ (And.intro rfl trivial))
    (repeat' (first | exact trivial | exact Or.inl rfl | exact Or.inr ⟨rfl,_,rfl⟩ | refine And.intro ?_ ?_))
theorem s_cloneM (l:List PStep) (h:l.length≤1000000000):CSpecM Tryd.prog 21 [.ob 0 0 (.ln .pstep l)] [] (.rd .pstep l) 0 (.ob 0 0 (.ln .pstep l)) [] :=
  cspecM_of_vcR Γ_good Tryd.func21 rfl Tryd.call21 Tryd.results21 Tryd.ntmps21 (Nat.le_of_ble_eq_true rfl) (Nat.le_of_ble_eq_true rfl) (by rfl) (Nat.lt_of_lt_of_le (Nat.lt_succ_self _) (Nat.le_of_ble_eq_true rfl)) (by kernel_rfl) (w_cloneM l h)
end
end Go.Proofs.YtjbngfnpddhjpaaDoor
end
section
namespace Go.Proofs.YtjbngfnpddhjpaaDoor
set_option linter.unusedSectionVars false
set_option linter.unusedSimpArgs false
set_option linter.unusedVariables false
open Go Go.SX Go.Vl
set_option maxRecDepth 100000
set_option maxHeartbeats 0
section
variable [G:Globs]
theorem compare_spec:∀ (n:Nat) (a b:Val),SizeOf.sizeOf a < n→VB a→VB b→PSpec Tryd.prog 31 [.agg (encVal a),.agg (encVal b)] (.i .i64 (cmpV a b)):=by
  intro n
  induction n with
  | zero=>intro a b h; exact absurd h (Nat.not_lt_zero _)
  | succ n ih =>
    intro a b hs ha hb
    cases ha with
    | mk _ a1 a2 a3 a4 a5 =>
    cases hb with
    | mk _ b1 b2 b3 b4 b5 =>
      refine s_cmpr a b a3 b3 (fun x hx y hy=>ih x y ?_ (a4 x hx) (b4 y hy)) (fun x hx y hy=>s_cmp1 x y (ih x.2 y.2 ?_ (a5 x hx) (b5 y hy)))
      · have:=val_sz_l hx; omega
      · have:=val_sz_e hx; omega
theorem s_Compare (a b:Val) (ha:VB a) (hb:VB b):PSpec Tryd.prog 31 [.agg (encVal a),.agg (encVal b)] (.i .i64 (cmpV a b)) :=
  compare_spec _ a b (Nat.lt_succ_self _) ha hb
end
end Go.Proofs.YtjbngfnpddhjpaaDoor
end
section
namespace Go.Proofs.YtjbngfnpddhjpaaDoor
set_option linter.unusedSectionVars false
set_option linter.unusedSimpArgs false
set_option linter.unusedVariables false
open Go Go.SX Go.Vl Go.Ck Go.Up Go.Mer
set_option maxRecDepth 100000
set_option maxHeartbeats 4000000
theorem find_ix (e:List Ent) (q:Ent→Bool):e.find? q = e[e.findIdx q]?:=by
  induction e with
  | nil=>rfl
  | cons p r ih =>
    rw [List.find?_cons,List.findIdx_cons]
    cases h:q p
    · simp [ih]
    · simp
theorem at_hit {m:MbR} {k:Str} (h:0≤ixI m.v.e (keyIs k)):atM m k = ⟨true,(m.v.e.getD (ixI m.v.e (keyIs k)).toNat (dflt .ent)).2⟩:=by
  unfold atM
  unfold ixI at h ⊢
  split at h
  · rename_i hlt
    rw [if_pos hlt,find_ix,Int.toNat_natCast,List.getElem?_eq_getElem hlt,List.getD_eq_getElem?_getD,List.getElem?_eq_getElem hlt]
    rfl
  · exact absurd h (by decide)
theorem at_miss {m:MbR} {k:Str} (h:¬ 0≤ixI m.v.e (keyIs k)):atM m k = ⟨false,zeroV⟩:=by
  unfold atM
  unfold ixI at h
  split at h
  · omega
  · rename_i hlt
    rw [find_ix,List.getElem?_eq_none (by omega)]
section
variable [G:Globs]
theorem w_mTable (m:MbR):vc Tryd.prog Γ 11 [1,2] (Tryd.f20.body.getD .skip) (postK Γ [.tmp 2] (fun v=>v = .b (tabM m))) ⟨argSlots 0 [.agg (enc .mb m)],[]⟩:=by
  obtain ⟨i,v⟩:=m
  unfold tabM
  cases i
  · (repeat' (first | (refine And.intro (fun h=>?_) (fun h=>?_)<;>(try simp [-List.getD_eq_getElem?_getD,-Int.pred_toNat] at h)<;>(try (exfalso; first | omega | contradiction))) | (refine And.intro (rng64 (by omega) (by omega)) ?_) | (refine And.intro ⟨by omega,by omega⟩ ?_) | (refine And.intro ⟨by omega,by omega,by omega⟩ ?_) | (intro _)))
    rfl
  · (repeat' (first | (refine And.intro (fun h=>?_) (fun h=>?_)<;>(try simp [-List.getD_eq_getElem?_getD,-Int.pred_toNat] at h)<;>(try (exfalso; first | omega | contradiction))) | (refine And.intro (rng64 (by omega) (by omega)) ?_) | (refine And.intro ⟨by omega,by omega⟩ ?_) | (refine And.intro ⟨by omega,by omega,by omega⟩ ?_) | (intro _)))
    rfl
theorem s_mTable (m:MbR):PSpec Tryd.prog 20 [.agg (enc .mb m)] (.b (tabM m)) :=
  pspec_of_vc Γ_good Tryd.func20 rfl Tryd.call20 Tryd.results20 Tryd.ntmps20 (Nat.le_of_ble_eq_true rfl) (w_mTable m)
theorem w_mSame (a b:MbR) (ha:MbOK a) (hb:MbOK b):vc Tryd.prog Γ 23 [2,3,4] (Tryd.f19.body.getD .skip) (postK Γ [.tmp 4] (fun v=>v = .b (sameM a b))) ⟨argSlots 0 [.agg (enc .mb a),.agg (enc .mb b)],[]⟩:=by
  have hc:=s_Compare a.v b.v ha hb
  obtain ⟨i,v⟩:=a
  obtain ⟨j,w⟩:=b
  unfold sameM
  cases i<;>cases j
  all_goals (repeat' (first | (refine And.intro (fun h=>?_) (fun h=>?_)<;>(try simp [-List.getD_eq_getElem?_getD,-Int.pred_toNat] at h)<;>(try (exfalso; first | omega | contradiction))) | (refine And.intro (rng64 (by omega) (by omega)) ?_) | (refine And.intro ⟨by omega,by omega⟩ ?_) | (refine And.intro ⟨by omega,by omega,by omega⟩ ?_) | (intro _)))
  · rfl
  · rfl
  · rfl
  · refine Or.inl (Exists.intro _ (And.intro (hc) ?_))
    exact congrArg AV.b (by rw [Bool.eq_iff_iff]; simp)
theorem s_mSame (a b:MbR) (ha:MbOK a) (hb:MbOK b):PSpec Tryd.prog 19 [.agg (enc .mb a),.agg (enc .mb b)] (.b (sameM a b)) :=
  pspec_of_vc Γ_good Tryd.func19 rfl Tryd.call19 Tryd.results19 Tryd.ntmps19 (Nat.le_of_ble_eq_true rfl) (w_mSame a b ha hb)
theorem w_mAt (m:MbR) (k:Str):vc Tryd.prog Γ 22 [1,2,4,5,12] (Tryd.f23.body.getD .skip) (postK Γ [.cell 4 42] (fun v=>RL v (.agg (enc .mb (atM m k))))) ⟨argSlots 0 [.agg (enc .mb m),.s k],[]⟩:=by
  refine Or.inl (Exists.intro _ (And.intro (s_find m.v.e k) ?_))
  refine And.intro (fun h=>?_) (fun h=>?_)
  · have h:0≤ixI m.v.e (keyIs k):=of_decide_eq_true h
    rw [at_hit h]
    have hb:=ix_bound (l:=m.v.e) (q:=keyIs k) (by omega)
    refine And.intro ⟨by omega,by omega⟩ ?_
    (repeat' (first | exact trivial | exact Or.inl rfl | exact Or.inr ⟨rfl,_,rfl⟩ | refine And.intro ?_ ?_))
  · rw [at_miss (of_decide_eq_false h)]
    (repeat' (first | exact trivial | exact Or.inl rfl | exact Or.inr ⟨rfl,_,rfl⟩ | refine And.intro ?_ ?_))
theorem s_mAt (m:MbR) (k:Str):PSpec Tryd.prog 23 [.agg (enc .mb m),.s k] (.agg (enc .mb (atM m k))) :=
  pspec_of_vcL Γ_good Tryd.func23 rfl Tryd.call23 Tryd.results23 Tryd.ntmps23 (Nat.le_of_ble_eq_true rfl) (w_mAt m k)
end
end Go.Proofs.YtjbngfnpddhjpaaDoor
end
section
namespace Go.Proofs.YtjbngfnpddhjpaaDoor
set_option linter.unusedSectionVars false
set_option linter.unusedSimpArgs false
set_option linter.unusedVariables false
open Go Go.SX Go.Vl Go.Ck Go.Up Go.Mer
set_option maxRecDepth 100000
set_option maxHeartbeats 4000000
def under (p:List PStep) (l:List (List PStep)):List (List PStep):=l.map (p++·)
theorem mrg_ab (f:Nat) {c a b:MbR} (h:(sameM a b || sameM b c) = true):mrg (f + 1) c a b = (a,[]):=by rw [mrg,if_pos h]
theorem mrg_ac (f:Nat) {c a b:MbR} (h:¬ (sameM a b || sameM b c) = true) (h2:sameM a c = true):mrg (f + 1) c a b = (b,[]):=by rw [mrg,if_neg h,if_pos h2]
theorem mrg_cl (f:Nat) {c a b:MbR} (h:¬ (sameM a b || sameM b c) = true) (h2:¬ sameM a c = true) (h3:(!tabM c || !tabM a || !tabM b) = true):mrg (f + 1) c a b = (a,[[]]):=by rw [mrg,if_neg h,if_neg h2,if_pos h3]
def stp (f:Nat) (c a b:MbR) (k:Str):Str × MbR × List (List PStep):=(k,mrg f (atM c k) (atM a k) (atM b k))
theorem mrg_tb (f : Nat) {c a b : MbR} (h : ¬ (sameM a b || sameM b c) = true) (h2 : ¬ sameM a c = true) (h3 : ¬ (!tabM c || !tabM a || !tabM b) = true) :
    mrg (f + 1) c a b = (⟨true,tblV ((ksOf (allK [c,a,b])).map (stp f c a b))⟩,clsV ((ksOf (allK [c,a,b])).map (stp f c a b))):=by rw [mrg,if_neg h,if_neg h2,if_neg h3]; rfl
theorem tblV_snoc (rs:List (Str × MbR × List (List PStep))) (r:Str × MbR × List (List PStep)):(tblV (rs++[r])).e = (tblV rs).e++(if r.2.1.is = true then [(r.1,r.2.1.v)] else []):=by
  show (rs++[r]).filterMap _ = rs.filterMap _++_
  rw [List.filterMap_append]
  congr 1
  cases h:r.2.1.is<;>simp [h]
theorem clsV_snoc (rs:List (Str × MbR × List (List PStep))) (r:Str × MbR × List (List PStep)):clsV (rs++[r]) = clsV rs++r.2.2.map (⟨r.1,-1⟩::·):=by
  unfold clsV
  rw [List.flatMap_append]
  simp
theorem under_deep (p:List PStep) (s:PStep) (l:List (List PStep)):under p (l.map (s::·)) = under (p++[s]) l:=by
  unfold under
  rw [List.map_map]
  refine List.map_congr_left fun q _=>?_
  show p++s::q = (p++[s])++q
  rw [List.append_assoc]; rfl
theorem under_app (p:List PStep) (l m:List (List PStep)):under p (l++m) = under p l++under p m:=List.map_append
theorem tbl_pre (l m:List (Str × MbR × List (List PStep))):(tblV l).e.length≤(tblV (l++m)).e.length:=by
  show (l.filterMap _).length≤((l++m).filterMap _).length
  rw [List.filterMap_append,List.length_append]
  omega
theorem cls_pre (l m:List (Str × MbR × List (List PStep))):(clsV l).length≤(clsV (l++m)).length:=by
  unfold clsV
  rw [List.flatMap_append,List.length_append]
  omega
theorem bkM_at {m:MbR} (h:m.is = true) (k:Str):bkM (atM m k) < bkM m:=by
  unfold bkM atM
  rw [if_pos h]
  cases hf:m.v.e.find? (keyIs k) with
  | some p=>have:=bkV_ent (find_mem hf).1; simp only [if_true]; omega
  | none=>have:=bkV_pos m.v; simp only; rw [if_neg (by decide)]; omega
theorem bkM_len {m:MbR} (h:m.is = true):m.v.e.length≤bkM m:=by
  unfold bkM
  rw [if_pos h]
  have:=bkV_len m.v
  omega
theorem tab_is {m:MbR} (h:tabM m = true):m.is = true:=by unfold tabM at h; rw [Bool.and_eq_true] at h; exact h.1
section
variable [G:Globs]
theorem w_merg (f:Nat) (c a b:MbR) (p:List PStep) (q:List (List PStep)) (hc:MbOK c) (ha:MbOK a) (hb:MbOK b) (hbk:bkM c + bkM a + bkM b≤10000000) (hp:p.length + bkM a≤100000000) (ih:a.is = true→∀ (k:Str) (p':List PStep) (q':List (List PStep)),bkM (atM c k) + bkM (atM a k) + bkM (atM b k)≤10000000→p'.length + bkM (atM a k)≤100000000→q'.length + (mrg f (atM c k) (atM a k) (atM b k)).2.length≤1000000000→CSpecM Tryd.prog 10 [.pt 1000 0,.agg (enc .mb (atM c k)),.agg (enc .mb (atM a k)),.agg (enc .mb (atM b k)),.ob 4 4 (.ln .pstep p')] [(1000,[.vec 1001 .psteps q'])] (.agg (enc .mb (mrg f (atM c k) (atM a k) (atM b k)).1)) 4 (.ob 4 4 (.ln .pstep p')) [(1000,[.vec 1001 .psteps (q'++under p' (mrg f (atM c k) (atM a k) (atM b k)).2)])]) (hq:q.length + (mrg (f + 1) c a b).2.length≤1000000000):vc Tryd.prog Γ 97 [0,4,6,7,8,10,11,13,14,15,25,30,61,62,63,64,84,1000,1001] (Tryd.f10.body.getD .skip) (postRK Γ [.cell 10 42] (.agg (enc .mb (mrg (f + 1) c a b).1)) 4 (.ob 4 4 (.ln .pstep p)) [(1000,[.vec 1001 .psteps (q++under p (mrg (f + 1) c a b).2)])]) ⟨argSlots 0 [.pt 1000 0,.agg (enc .mb c),.agg (enc .mb a),.agg (enc .mb b),.ob 4 4 (.ln .pstep p)],[(1000,[.vec 1001 .psteps q])]⟩:=by
  have hpl:p.length≤1000000000:=by omega
  have s1:=s_mSame a b ha hb
  have s2:=s_mSame b c hb hc
  have s3:=s_mSame a c ha hc
  have t1:=s_mTable c
  have t2:=s_mTable a
  have t3:=s_mTable b
  by_cases h1:(sameM a b || sameM b c) = true
  · rw [mrg_ab f h1]
    rw [show q++under p [] = q from List.append_nil q]
    cases k1:sameM a b
    · have k2:sameM b c = true:=by rw [k1] at h1; exact h1
      rw [k1] at s1
      rw [k2] at s2
      refine Or.inl (Exists.intro _ (And.intro (s1) ?_))
      (repeat' (first | (refine And.intro (fun h=>?_) (fun h=>?_)<;>(try simp [-List.getD_eq_getElem?_getD,-Int.pred_toNat] at h)<;>(try (exfalso; first | omega | contradiction))) | (refine And.intro (rng64 (by omega) (by omega)) ?_) | (refine And.intro ⟨by omega,by omega⟩ ?_) | (refine And.intro ⟨by omega,by omega,by omega⟩ ?_) | (intro _)))
      refine Or.inl (Exists.intro _ (And.intro (s2) ?_))
      (repeat' (first | (refine And.intro (fun h=>?_) (fun h=>?_)<;>(try simp [-List.getD_eq_getElem?_getD,-Int.pred_toNat] at h)<;>(try (exfalso; first | omega | contradiction))) | (refine And.intro (rng64 (by omega) (by omega)) ?_) | (refine And.intro ⟨by omega,by omega⟩ ?_) | (refine And.intro ⟨by omega,by omega,by omega⟩ ?_) | (intro _)))
      refine Exists.intro [] (And.intro ?_ (And.intro rfl (by (repeat' (first | exact trivial | exact Or.inl rfl | exact Or.inr (Or.inl ⟨rfl,_,rfl⟩) | exact Or.inr (Or.inr (Or.inr ⟨_,_,_,rfl,rfl⟩)) | refine And.intro ?_ ?_)))))
      (repeat' (first | exact trivial | exact Or.inl rfl | exact Or.inr ⟨rfl,_,rfl⟩ | refine And.intro ?_ ?_))
    · rw [k1] at s1
      refine Or.inl (Exists.intro _ (And.intro (s1) ?_))
      (repeat' (first | (refine And.intro (fun h=>?_) (fun h=>?_)<;>(try simp [-List.getD_eq_getElem?_getD,-Int.pred_toNat] at h)<;>(try (exfalso; first | omega | contradiction))) | (refine And.intro (rng64 (by omega) (by omega)) ?_) | (refine And.intro ⟨by omega,by omega⟩ ?_) | (refine And.intro ⟨by omega,by omega,by omega⟩ ?_) | (intro _)))
      refine Exists.intro [] (And.intro ?_ (And.intro rfl (by (repeat' (first | exact trivial | exact Or.inl rfl | exact Or.inr (Or.inl ⟨rfl,_,rfl⟩) | exact Or.inr (Or.inr (Or.inr ⟨_,_,_,rfl,rfl⟩)) | refine And.intro ?_ ?_)))))
      (repeat' (first | exact trivial | exact Or.inl rfl | exact Or.inr ⟨rfl,_,rfl⟩ | refine And.intro ?_ ?_))
  have k1:sameM a b = false:=by cases k:sameM a b; rfl; rw [k] at h1; exact absurd rfl h1
  have k2:sameM b c = false:=by cases k:sameM b c; rfl; rw [k,Bool.or_true] at h1; exact absurd rfl h1
  rw [k1] at s1
  rw [k2] at s2
  refine Or.inl (Exists.intro _ (And.intro (s1) ?_))
  (repeat' (first | (refine And.intro (fun h=>?_) (fun h=>?_)<;>(try simp [-List.getD_eq_getElem?_getD,-Int.pred_toNat] at h)<;>(try (exfalso; first | omega | contradiction))) | (refine And.intro (rng64 (by omega) (by omega)) ?_) | (refine And.intro ⟨by omega,by omega⟩ ?_) | (refine And.intro ⟨by omega,by omega,by omega⟩ ?_) | (intro _)))
  refine Or.inl (Exists.intro _ (And.intro (s2) ?_))
  (repeat' (first | (refine And.intro (fun h=>?_) (fun h=>?_)<;>(try simp [-List.getD_eq_getElem?_getD,-Int.pred_toNat] at h)<;>(try (exfalso; first | omega | contradiction))) | (refine And.intro (rng64 (by omega) (by omega)) ?_) | (refine And.intro ⟨by omega,by omega⟩ ?_) | (refine And.intro ⟨by omega,by omega,by omega⟩ ?_) | (intro _)))
  refine Or.inl (Exists.intro _ (And.intro (s3) ?_))
  by_cases h2:sameM a c = true
  · rw [mrg_ac f h1 h2,show q++under p [] = q from List.append_nil q,h2]
    (repeat' (first | (refine And.intro (fun h=>?_) (fun h=>?_)<;>(try simp [-List.getD_eq_getElem?_getD,-Int.pred_toNat] at h)<;>(try (exfalso; first | omega | contradiction))) | (refine And.intro (rng64 (by omega) (by omega)) ?_) | (refine And.intro ⟨by omega,by omega⟩ ?_) | (refine And.intro ⟨by omega,by omega,by omega⟩ ?_) | (intro _)))
    refine Exists.intro [] (And.intro ?_ (And.intro rfl (by (repeat' (first | exact trivial | exact Or.inl rfl | exact Or.inr (Or.inl ⟨rfl,_,rfl⟩) | exact Or.inr (Or.inr (Or.inr ⟨_,_,_,rfl,rfl⟩)) | refine And.intro ?_ ?_)))))
    (repeat' (first | exact trivial | exact Or.inl rfl | exact Or.inr ⟨rfl,_,rfl⟩ | refine And.intro ?_ ?_))
  have k3:sameM a c = false:=Bool.eq_false_iff.2 h2
  rw [k3]
  (repeat' (first | (refine And.intro (fun h=>?_) (fun h=>?_)<;>(try simp [-List.getD_eq_getElem?_getD,-Int.pred_toNat] at h)<;>(try (exfalso; first | omega | contradiction))) | (refine And.intro (rng64 (by omega) (by omega)) ?_) | (refine And.intro ⟨by omega,by omega⟩ ?_) | (refine And.intro ⟨by omega,by omega,by omega⟩ ?_) | (intro _)))
  refine Or.inl (Exists.intro _ (And.intro (t1) ?_))
  by_cases h3:(!tabM c || !tabM a || !tabM b) = true
  · rw [mrg_cl f h1 h2 h3]
    rw [mrg_cl f h1 h2 h3] at hq
    have hq:q.length + 1≤1000000000:=hq
    cases j1:tabM c
    · (repeat' (first | (refine And.intro (fun h=>?_) (fun h=>?_)<;>(try simp [-List.getD_eq_getElem?_getD,-Int.pred_toNat] at h)<;>(try (exfalso; first | omega | contradiction))) | (refine And.intro (rng64 (by omega) (by omega)) ?_) | (refine And.intro ⟨by omega,by omega⟩ ?_) | (refine And.intro ⟨by omega,by omega,by omega⟩ ?_) | (intro _)))
      refine Exists.intro [.take 0,.take 1,.take 2,.take 3,.take 5,.tree 3 [4,6,7] (.opt 4 (.opt 6 (.opt 7 .fin .non) .non) (.opt 6 (.opt 4 (.opt 7 .fin .non) (.opt 7 (.opt 4 .fin .non) .non)) .non)),.one 8,.blk [9,10],.one 11] (And.intro (by kernel_rfl) ?_)
      refine Exists.intro ⟨[(0,.pt 1000 0),(4,.ob 4 4 (.ln .pstep p)),(6,.pt 6 0),(7,.pt 7 0),(8,.pt 8 0),(10,.pt 10 0),(44,.pt 1000 0),(48,.vec 1001 .psteps q),(51,.vec 51 .psteps [p])],[(1000,[.vec 1001 .psteps q]),(7,enc .mb a),(10,[.b false,.i .i64 0,.i .i64 0,.i .u64 0,.s [],.nl,.nl])]⟩ (And.intro ?_ ?_)
      · refine And.intro ?_ (And.intro ?_ trivial)
        · refine And.intro ?_ trivial
          refine Or.inr (Or.inr (Or.inr (Or.inr (Or.inr (Exists.intro [] (Exists.intro _ (Exists.intro _ (Exists.intro _ (Exists.intro _ (Exists.intro _ (Exists.intro _ (Exists.intro _ (Exists.intro [(0,4)] (Exists.intro [4] (Exists.intro [] (And.intro ((s_cloneM p hpl)) ?_))))))))))))))))
          refine (And.intro rfl (And.intro rfl (And.intro rfl (And.intro rfl (And.intro rfl (And.intro (And.intro rfl trivial) ?_))))))
          refine And.intro ?_ trivial
          (repeat' (first | exact trivial | exact Or.inl rfl | exact Or.inr (Or.inl ⟨rfl,_,rfl⟩) | exact Or.inr (Or.inr (Or.inr ⟨_,_,_,rfl,rfl⟩)) | refine And.intro ?_ ?_))
        · refine Or.inr (Or.inr (Or.inr (Or.inr (Or.inr (Exists.intro [] (Exists.intro _ (Exists.intro _ (Exists.intro _ (Exists.intro _ (Exists.intro _ (Exists.intro _ (Exists.intro _ (Exists.intro [(0,4)] (Exists.intro [4] (Exists.intro [] (And.intro ((s_cloneM p hpl)) ?_))))))))))))))))
          refine (And.intro rfl (And.intro rfl (And.intro rfl (And.intro rfl (And.intro rfl (And.intro (And.intro rfl trivial) ?_))))))
          refine And.intro ?_ (And.intro ?_ trivial)
          · refine And.intro ?_ trivial
            (repeat' (first | exact trivial | exact Or.inl rfl | exact Or.inr (Or.inl ⟨rfl,_,rfl⟩) | exact Or.inr (Or.inr (Or.inr ⟨_,_,_,rfl,rfl⟩)) | refine And.intro ?_ ?_))
          · refine And.intro ?_ trivial
            (repeat' (first | exact trivial | exact Or.inl rfl | exact Or.inr (Or.inl ⟨rfl,_,rfl⟩) | exact Or.inr (Or.inr (Or.inr ⟨_,_,_,rfl,rfl⟩)) | refine And.intro ?_ ?_))
      refine And.intro (show (q.length + 1) * 24≤140737488355328 by omega) ?_
      (repeat' (first | (refine And.intro (fun h=>?_) (fun h=>?_)<;>(try simp [-List.getD_eq_getElem?_getD,-Int.pred_toNat] at h)<;>(try (exfalso; first | omega | contradiction))) | (refine And.intro (rng64 (by omega) (by omega)) ?_) | (refine And.intro ⟨by omega,by omega⟩ ?_) | (refine And.intro ⟨by omega,by omega,by omega⟩ ?_) | (intro _)))
      refine Exists.intro [(52,1001)] (And.intro ?_ (And.intro rfl ?_))
      · (repeat' (first | exact trivial | exact Or.inl rfl | exact Or.inr ⟨rfl,_,rfl⟩ | refine And.intro ?_ ?_))
      · (repeat' (first | exact trivial | exact Or.inl rfl | exact Or.inl ((congrArg (fun z=>AV.vec 1001 .psteps (q++[z])) (List.append_nil p).symm)) | refine And.intro ?_ ?_))
    · (repeat' (first | (refine And.intro (fun h=>?_) (fun h=>?_)<;>(try simp [-List.getD_eq_getElem?_getD,-Int.pred_toNat] at h)<;>(try (exfalso; first | omega | contradiction))) | (refine And.intro (rng64 (by omega) (by omega)) ?_) | (refine And.intro ⟨by omega,by omega⟩ ?_) | (refine And.intro ⟨by omega,by omega,by omega⟩ ?_) | (intro _)))
      refine Or.inl (Exists.intro _ (And.intro (t2) ?_))
      cases j2:tabM a
      · (repeat' (first | (refine And.intro (fun h=>?_) (fun h=>?_)<;>(try simp [-List.getD_eq_getElem?_getD,-Int.pred_toNat] at h)<;>(try (exfalso; first | omega | contradiction))) | (refine And.intro (rng64 (by omega) (by omega)) ?_) | (refine And.intro ⟨by omega,by omega⟩ ?_) | (refine And.intro ⟨by omega,by omega,by omega⟩ ?_) | (intro _)))
        refine Exists.intro [.take 0,.take 1,.take 2,.take 3,.take 5,.tree 3 [4,6,7] (.opt 4 (.opt 6 (.opt 7 .fin .non) .non) (.opt 6 (.opt 4 (.opt 7 .fin .non) (.opt 7 (.opt 4 .fin .non) .non)) .non)),.one 8,.blk [9,10],.one 11] (And.intro (by kernel_rfl) ?_)
        refine Exists.intro ⟨[(0,.pt 1000 0),(4,.ob 4 4 (.ln .pstep p)),(6,.pt 6 0),(7,.pt 7 0),(8,.pt 8 0),(10,.pt 10 0),(44,.pt 1000 0),(48,.vec 1001 .psteps q),(51,.vec 51 .psteps [p])],[(1000,[.vec 1001 .psteps q]),(7,enc .mb a),(10,[.b false,.i .i64 0,.i .i64 0,.i .u64 0,.s [],.nl,.nl])]⟩ (And.intro ?_ ?_)
        · refine And.intro ?_ (And.intro ?_ trivial)
          · refine And.intro ?_ trivial
            refine Or.inr (Or.inr (Or.inr (Or.inr (Or.inr (Exists.intro [] (Exists.intro _ (Exists.intro _ (Exists.intro _ (Exists.intro _ (Exists.intro _ (Exists.intro _ (Exists.intro _ (Exists.intro [(0,4)] (Exists.intro [4] (Exists.intro [] (And.intro ((s_cloneM p hpl)) ?_))))))))))))))))
            refine (And.intro rfl (And.intro rfl (And.intro rfl (And.intro rfl (And.intro rfl (And.intro (And.intro rfl trivial) ?_))))))
            refine And.intro ?_ trivial
            (repeat' (first | exact trivial | exact Or.inl rfl | exact Or.inr (Or.inl ⟨rfl,_,rfl⟩) | exact Or.inr (Or.inr (Or.inr ⟨_,_,_,rfl,rfl⟩)) | refine And.intro ?_ ?_))
          · refine Or.inr (Or.inr (Or.inr (Or.inr (Or.inr (Exists.intro [] (Exists.intro _ (Exists.intro _ (Exists.intro _ (Exists.intro _ (Exists.intro _ (Exists.intro _ (Exists.intro _ (Exists.intro [(0,4)] (Exists.intro [4] (Exists.intro [] (And.intro ((s_cloneM p hpl)) ?_))))))))))))))))
            refine (And.intro rfl (And.intro rfl (And.intro rfl (And.intro rfl (And.intro rfl (And.intro (And.intro rfl trivial) ?_))))))
            refine And.intro ?_ (And.intro ?_ trivial)
            · refine And.intro ?_ trivial
              (repeat' (first | exact trivial | exact Or.inl rfl | exact Or.inr (Or.inl ⟨rfl,_,rfl⟩) | exact Or.inr (Or.inr (Or.inr ⟨_,_,_,rfl,rfl⟩)) | refine And.intro ?_ ?_))
            · refine And.intro ?_ trivial
              (repeat' (first | exact trivial | exact Or.inl rfl | exact Or.inr (Or.inl ⟨rfl,_,rfl⟩) | exact Or.inr (Or.inr (Or.inr ⟨_,_,_,rfl,rfl⟩)) | refine And.intro ?_ ?_))
        refine And.intro (show (q.length + 1) * 24≤140737488355328 by omega) ?_
        (repeat' (first | (refine And.intro (fun h=>?_) (fun h=>?_)<;>(try simp [-List.getD_eq_getElem?_getD,-Int.pred_toNat] at h)<;>(try (exfalso; first | omega | contradiction))) | (refine And.intro (rng64 (by omega) (by omega)) ?_) | (refine And.intro ⟨by omega,by omega⟩ ?_) | (refine And.intro ⟨by omega,by omega,by omega⟩ ?_) | (intro _)))
        refine Exists.intro [(52,1001)] (And.intro ?_ (And.intro rfl ?_))
        · (repeat' (first | exact trivial | exact Or.inl rfl | exact Or.inr ⟨rfl,_,rfl⟩ | refine And.intro ?_ ?_))
        · (repeat' (first | exact trivial | exact Or.inl rfl | exact Or.inl ((congrArg (fun z=>AV.vec 1001 .psteps (q++[z])) (List.append_nil p).symm)) | refine And.intro ?_ ?_))
      · have j3:tabM b = false:=by rw [j1,j2] at h3; cases k:tabM b; rfl; rw [k] at h3; exact absurd h3 (by decide)
        rw [j3] at t3
        (repeat' (first | (refine And.intro (fun h=>?_) (fun h=>?_)<;>(try simp [-List.getD_eq_getElem?_getD,-Int.pred_toNat] at h)<;>(try (exfalso; first | omega | contradiction))) | (refine And.intro (rng64 (by omega) (by omega)) ?_) | (refine And.intro ⟨by omega,by omega⟩ ?_) | (refine And.intro ⟨by omega,by omega,by omega⟩ ?_) | (intro _)))
        refine Or.inl (Exists.intro _ (And.intro (t3) ?_))
        (repeat' (first | (refine And.intro (fun h=>?_) (fun h=>?_)<;>(try simp [-List.getD_eq_getElem?_getD,-Int.pred_toNat] at h)<;>(try (exfalso; first | omega | contradiction))) | (refine And.intro (rng64 (by omega) (by omega)) ?_) | (refine And.intro ⟨by omega,by omega⟩ ?_) | (refine And.intro ⟨by omega,by omega,by omega⟩ ?_) | (intro _)))
        refine Exists.intro [.take 0,.take 1,.take 2,.take 3,.take 5,.tree 3 [4,6,7] (.opt 4 (.opt 6 (.opt 7 .fin .non) .non) (.opt 6 (.opt 4 (.opt 7 .fin .non) (.opt 7 (.opt 4 .fin .non) .non)) .non)),.one 8,.blk [9,10],.one 11] (And.intro (by kernel_rfl) ?_)
        refine Exists.intro ⟨[(0,.pt 1000 0),(4,.ob 4 4 (.ln .pstep p)),(6,.pt 6 0),(7,.pt 7 0),(8,.pt 8 0),(10,.pt 10 0),(44,.pt 1000 0),(48,.vec 1001 .psteps q),(51,.vec 51 .psteps [p])],[(1000,[.vec 1001 .psteps q]),(7,enc .mb a),(10,[.b false,.i .i64 0,.i .i64 0,.i .u64 0,.s [],.nl,.nl])]⟩ (And.intro ?_ ?_)
        · refine And.intro ?_ (And.intro ?_ trivial)
          · refine And.intro ?_ trivial
            refine Or.inr (Or.inr (Or.inr (Or.inr (Or.inr (Exists.intro [] (Exists.intro _ (Exists.intro _ (Exists.intro _ (Exists.intro _ (Exists.intro _ (Exists.intro _ (Exists.intro _ (Exists.intro [(0,4)] (Exists.intro [4] (Exists.intro [] (And.intro ((s_cloneM p hpl)) ?_))))))))))))))))
            refine (And.intro rfl (And.intro rfl (And.intro rfl (And.intro rfl (And.intro rfl (And.intro (And.intro rfl trivial) ?_))))))
            refine And.intro ?_ trivial
            (repeat' (first | exact trivial | exact Or.inl rfl | exact Or.inr (Or.inl ⟨rfl,_,rfl⟩) | exact Or.inr (Or.inr (Or.inr ⟨_,_,_,rfl,rfl⟩)) | refine And.intro ?_ ?_))
          · refine Or.inr (Or.inr (Or.inr (Or.inr (Or.inr (Exists.intro [] (Exists.intro _ (Exists.intro _ (Exists.intro _ (Exists.intro _ (Exists.intro _ (Exists.intro _ (Exists.intro _ (Exists.intro [(0,4)] (Exists.intro [4] (Exists.intro [] (And.intro ((s_cloneM p hpl)) ?_))))))))))))))))
            refine (And.intro rfl (And.intro rfl (And.intro rfl (And.intro rfl (And.intro rfl (And.intro (And.intro rfl trivial) ?_))))))
            refine And.intro ?_ (And.intro ?_ trivial)
            · refine And.intro ?_ trivial
              (repeat' (first | exact trivial | exact Or.inl rfl | exact Or.inr (Or.inl ⟨rfl,_,rfl⟩) | exact Or.inr (Or.inr (Or.inr ⟨_,_,_,rfl,rfl⟩)) | refine And.intro ?_ ?_))
            · refine And.intro ?_ trivial
              (repeat' (first | exact trivial | exact Or.inl rfl | exact Or.inr (Or.inl ⟨rfl,_,rfl⟩) | exact Or.inr (Or.inr (Or.inr ⟨_,_,_,rfl,rfl⟩)) | refine And.intro ?_ ?_))
        refine And.intro (show (q.length + 1) * 24≤140737488355328 by omega) ?_
        (repeat' (first | (refine And.intro (fun h=>?_) (fun h=>?_)<;>(try simp [-List.getD_eq_getElem?_getD,-Int.pred_toNat] at h)<;>(try (exfalso; first | omega | contradiction))) | (refine And.intro (rng64 (by omega) (by omega)) ?_) | (refine And.intro ⟨by omega,by omega⟩ ?_) | (refine And.intro ⟨by omega,by omega,by omega⟩ ?_) | (intro _)))
        refine Exists.intro [(52,1001)] (And.intro ?_ (And.intro rfl ?_))
        · (repeat' (first | exact trivial | exact Or.inl rfl | exact Or.inr ⟨rfl,_,rfl⟩ | refine And.intro ?_ ?_))
        · (repeat' (first | exact trivial | exact Or.inl rfl | exact Or.inl ((congrArg (fun z=>AV.vec 1001 .psteps (q++[z])) (List.append_nil p).symm)) | refine And.intro ?_ ?_))
  have j1:tabM c = true:=by cases k:tabM c; rw [k] at h3; exact absurd rfl h3; rfl
  have j2:tabM a = true:=by cases k:tabM a; rw [k,j1] at h3; exact absurd rfl h3; rfl
  have j3:tabM b = true:=by cases k:tabM b; rw [k,j1,j2] at h3; exact absurd rfl h3; rfl
  have hbm:=mrg_bk (f + 1) c a b
  rw [mrg_tb f h1 h2 h3] at hq hbm ⊢
  simp only at hq hbm
  have le1:=bkM_len (tab_is j1)
  have le2:=bkM_len (tab_is j2)
  have le3:=bkM_len (tab_is j3)
  have hK:=s_keys [c,a,b] (by simp) (fun m hm=>by
    simp only [List.mem_cons,List.not_mem_nil,or_false] at hm
    rcases hm with rfl | rfl | rfl<;>omega) (fun i=>by
      unfold allK
      match i with
      | 0=>simp
      | 1=>simp; omega
      | 2=>simp; omega
      | i + 3=>simp; omega)
  have ih:=ih (tab_is j2)
  generalize hks:ksOf (allK [c,a,b]) = ks at *
  have hte:(tblV (ks.map (stp f c a b))).e.length≤10000000:=by
    have h8:=bkM_len (m:=⟨true,tblV (ks.map (stp f c a b))⟩) rfl
    simp only at h8
    omega
  have hK:PSpec Tryd.prog 22 [.rd .mb [⟨c.is,⟨c.v.kind,c.v.n,c.v.f,c.v.s,c.v.l,c.v.e⟩⟩,⟨a.is,⟨a.v.kind,a.v.n,a.v.f,a.v.s,a.v.l,a.v.e⟩⟩,⟨b.is,⟨b.v.kind,b.v.n,b.v.f,b.v.s,b.v.l,b.v.e⟩⟩]] (.rd .str ks):=by rw [val_eta,val_eta,val_eta]; exact hK
  rw [j1]
  rw [j2] at t2
  rw [j3] at t3
  (repeat' (first | (refine And.intro (fun h=>?_) (fun h=>?_)<;>(try simp [-List.getD_eq_getElem?_getD,-Int.pred_toNat] at h)<;>(try (exfalso; first | omega | contradiction))) | (refine And.intro (rng64 (by omega) (by omega)) ?_) | (refine And.intro ⟨by omega,by omega⟩ ?_) | (refine And.intro ⟨by omega,by omega,by omega⟩ ?_) | (intro _)))
  refine Or.inl (Exists.intro _ (And.intro (t2) ?_))
  (repeat' (first | (refine And.intro (fun h=>?_) (fun h=>?_)<;>(try simp [-List.getD_eq_getElem?_getD,-Int.pred_toNat] at h)<;>(try (exfalso; first | omega | contradiction))) | (refine And.intro (rng64 (by omega) (by omega)) ?_) | (refine And.intro ⟨by omega,by omega⟩ ?_) | (refine And.intro ⟨by omega,by omega,by omega⟩ ?_) | (intro _)))
  refine Or.inl (Exists.intro _ (And.intro (t3) ?_))
  (repeat' (first | (refine And.intro (fun h=>?_) (fun h=>?_)<;>(try simp [-List.getD_eq_getElem?_getD,-Int.pred_toNat] at h)<;>(try (exfalso; first | omega | contradiction))) | (refine And.intro (rng64 (by omega) (by omega)) ?_) | (refine And.intro ⟨by omega,by omega⟩ ?_) | (refine And.intro ⟨by omega,by omega,by omega⟩ ?_) | (intro _)))
  refine Or.inl (Exists.intro _ (And.intro (hK) ?_))
  intro hkl
  have hkl0:=len_le hkl
  refine Exists.intro [] (Exists.intro [(11,5,92,.ent)] (Exists.intro [] (Exists.intro Nat (Exists.intro (fun i=>i≤ks.length) (Exists.intro (fun i=>⟨[(0,.pt 1000 0),(4,.ob 4 4 (.ln .pstep p)),(6,.pt 6 0),(7,.pt 7 0),(8,.pt 8 0),(10,.pt 10 0),(11,.pt 11 0),(61,.rd .str ks),(62,.i .i64 ks.length),(63,.i .i64 i)],[(1000,[.vec 1001 .psteps (q++under p (clsV ((ks.take i).map (stp f c a b))))]),(6,enc .mb c),(7,enc .mb a),(8,enc .mb b),(10,[.b false,.i .i64 0,.i .i64 0,.i .u64 0,.s [],.nl,.nl]),(11,[.i .i64 6,.i .i64 0,.i .u64 0,.s [],.nl,.vec 92 .ent (tblV ((ks.take i).map (stp f c a b))).e])]⟩) (Exists.intro (fun i=>ks.length - i) (Exists.intro 0 (And.intro (Nat.zero_le _) (And.intro ?_ ?_)))))))))
  · (repeat' (first | exact trivial | exact Or.inl rfl | exact Or.inl ((congrArg (AV.vec 1001 .psteps) (List.append_nil q).symm)) | refine And.intro ?_ ?_))
  · rintro i hi
    refine And.intro (fun hz=>?_) (fun hz=>?_)
    · have hi:=ltD hz
      have hg:=getI (τ:=.str) hi
      refine And.intro ⟨by omega,by omega⟩ ?_
      rw [hg]
      have e0:ks.take (i + 1) = ks.take i++[ks[i]]:=take_snoc hi
      have e1:(ks.take (i + 1)).map (stp f c a b) = (ks.take i).map (stp f c a b)++[stp f c a b ks[i]]:=by rw [e0,List.map_append]; rfl
      have e2:ks.map (stp f c a b) = (ks.take (i + 1)).map (stp f c a b)++(ks.drop (i + 1)).map (stp f c a b):=by rw [← List.map_append,List.take_append_drop]
      have l1:=cls_pre ((ks.take (i + 1)).map (stp f c a b)) ((ks.drop (i + 1)).map (stp f c a b))
      have l2:=tbl_pre ((ks.take (i + 1)).map (stp f c a b)) ((ks.drop (i + 1)).map (stp f c a b))
      rw [← e2] at l1 l2
      have e3:=clsV_snoc ((ks.take i).map (stp f c a b)) (stp f c a b ks[i])
      have e4:=tblV_snoc ((ks.take i).map (stp f c a b)) (stp f c a b ks[i])
      rw [← e1] at e3 e4
      have l3:(clsV ((ks.take (i + 1)).map (stp f c a b))).length = (clsV ((ks.take i).map (stp f c a b))).length + (mrg f (atM c ks[i]) (atM a ks[i]) (atM b ks[i])).2.length:=by rw [e3,List.length_append,List.length_map]; rfl
      have hst:=ih ks[i] (p++[⟨ks[i],-1⟩]) (q++under p (clsV ((ks.take i).map (stp f c a b)))) (by have:=bkM_at (tab_is j2) ks[i]; have:=bkM_at (tab_is j1) ks[i]; have:=bkM_at (tab_is j3) ks[i]; omega) (by have:=bkM_at (tab_is j2) ks[i]; rw [List.length_append,List.length_singleton]; omega) (by rw [List.length_append,under,List.length_map]; omega)
      have e5:q++under p (clsV ((ks.take i).map (stp f c a b)))++under (p++[⟨ks[i],-1⟩]) (mrg f (atM c ks[i]) (atM a ks[i]) (atM b ks[i])).2 = q++under p (clsV ((ks.take (i + 1)).map (stp f c a b))):=by rw [e3,under_app,under_deep,List.append_assoc]; rfl
      rw [e5] at hst
      refine Exists.intro [.take 0,.take 2,.take 5,.take 8,.take 10,.take 11,.blkE [1,3,4,6,7,9,12,13] [80,14] 16 3 [14,15,16] (.opt 14 (.opt 15 (.opt 16 .finR .non) (.opt 16 (.opt 15 .finR .non) .non)) (.opt 16 (.opt 14 (.opt 15 .finR .non) .non) .non)) (.opt 14 (.opt 15 .finR .non) .non),.one 17] (And.intro (by kernel_rfl) ?_)
      refine Exists.intro ⟨[(0,.pt 1000 0),(4,.ob 4 4 (.ln .pstep p)),(6,.pt 6 0),(7,.pt 7 0),(8,.pt 8 0),(10,.pt 10 0),(11,.pt 11 0),(13,.s ks[i]),(14,.pt 14 0),(61,.rd .str ks),(62,.i .i64 ks.length),(63,.i .i64 i),(82,.agg (enc .mb (mrg f (atM c ks[i]) (atM a ks[i]) (atM b ks[i])).1))],[(1000,[.vec 1001 .psteps (q++under p (clsV ((ks.take (i + 1)).map (stp f c a b))))]),(6,enc .mb c),(7,enc .mb a),(8,enc .mb b),(10,[.b false,.i .i64 0,.i .i64 0,.i .u64 0,.s [],.nl,.nl]),(11,[.i .i64 6,.i .i64 0,.i .u64 0,.s [],.nl,.vec 92 .ent (tblV ((ks.take i).map (stp f c a b))).e]),(14,[.b false,.i .i64 0,.i .i64 0,.i .u64 0,.s [],.nl,.nl])]⟩ (And.intro ?_ ?_)
      · refine Exists.intro _ (And.intro ((s_mAt c ks[i])) ?_)
        refine Exists.intro _ (And.intro ((s_mAt a ks[i])) ?_)
        refine Exists.intro _ (And.intro ((s_mAt b ks[i])) ?_)
        repeat' (first | exact trivial | (refine And.intro (show (p.length + 1) * 24≤140737488355328 by omega) (And.intro ?_ (Exists.intro [4] (And.intro rfl (And.intro (And.intro rfl trivial) ?_))))) | refine And.intro ?_ ?_)
        all_goals first
          |
            refine Or.inr (Or.inr (Or.inr (Or.inr (Or.inr (Exists.intro [] (Exists.intro _ (Exists.intro _ (Exists.intro _ (Exists.intro _ (Exists.intro _ (Exists.intro _ (Exists.intro _ (Exists.intro [(4,81),(1000,1000),(1001,1001)] (Exists.intro [] (Exists.intro [4] (And.intro (hst) ?_))))))))))))))))
            refine (And.intro rfl (And.intro rfl (And.intro rfl (And.intro rfl (And.intro rfl (And.intro rfl (And.intro trivial ?_)))))))
            refine And.intro (Exists.intro _ rfl) (And.intro (Exists.intro _ rfl) (And.intro rfl ?_))
            first | (refine Exists.intro [(81,4)] ?_; (repeat' (first | exact trivial | exact Or.inl rfl | exact Or.inr (Or.inl ⟨rfl,_,rfl⟩) | exact Or.inr (Or.inr (Or.inr ⟨_,_,_,rfl,rfl⟩)) | refine And.intro ?_ ?_)); done) | (refine And.intro ?_ trivial; refine Exists.intro [(81,4)] ?_; (repeat' (first | exact trivial | exact Or.inl rfl | exact Or.inr (Or.inl ⟨rfl,_,rfl⟩) | exact Or.inr (Or.inr (Or.inr ⟨_,_,_,rfl,rfl⟩)) | refine And.intro ?_ ?_)); done)
          |
            refine Or.inr (Or.inr (Or.inr (Or.inr (Or.inr (Exists.intro [] (Exists.intro _ (Exists.intro _ (Exists.intro _ (Exists.intro _ (Exists.intro _ (Exists.intro _ (Exists.intro _ (Exists.intro [(4,81),(1000,1000),(1001,1001)] (Exists.intro [] (Exists.intro [] (And.intro (hst) ?_))))))))))))))))
            refine (And.intro rfl (And.intro rfl (And.intro rfl (And.intro rfl (And.intro rfl (And.intro rfl (And.intro trivial ?_)))))))
            first | (refine Exists.intro [] ?_; (repeat' (first | exact trivial | exact Or.inl rfl | exact Or.inr (Or.inl ⟨rfl,_,rfl⟩) | exact Or.inr (Or.inr (Or.inr ⟨_,_,_,rfl,rfl⟩)) | refine And.intro ?_ ?_)); done) | (refine And.intro ?_ trivial; refine Exists.intro [] ?_; (repeat' (first | exact trivial | exact Or.inl rfl | exact Or.inr (Or.inl ⟨rfl,_,rfl⟩) | exact Or.inr (Or.inr (Or.inr ⟨_,_,_,rfl,rfl⟩)) | refine And.intro ?_ ?_)); done)
      · refine And.intro (fun hI=>?_) (fun hI=>?_)
        · have hI:(stp f c a b ks[i]).2.1.is = true:=hI
          rw [if_pos hI] at e4
          refine And.intro (show ((tblV ((ks.take i).map (stp f c a b))).e.length + 1) * 104≤140737488355328 by rw [e4,List.length_append] at l2; omega) ?_
          have e6:(tblV ((ks.take i).map (stp f c a b))).e++[(ks[i],(⟨(mrg f (atM c ks[i]) (atM a ks[i]) (atM b ks[i])).1.v.kind,(mrg f (atM c ks[i]) (atM a ks[i]) (atM b ks[i])).1.v.n,(mrg f (atM c ks[i]) (atM a ks[i]) (atM b ks[i])).1.v.f,(mrg f (atM c ks[i]) (atM a ks[i]) (atM b ks[i])).1.v.s,(mrg f (atM c ks[i]) (atM a ks[i]) (atM b ks[i])).1.v.l,(mrg f (atM c ks[i]) (atM a ks[i]) (atM b ks[i])).1.v.e⟩:Val))] = (tblV ((ks.take (i + 1)).map (stp f c a b))).e:=by rw [val_eta,e4]; rfl
          (refine And.intro (rng64 (by omega) (by omega)) ?_)
          refine Exists.intro [] (Exists.intro (i + 1) (And.intro hi (And.intro ?_ ?_)))
          · (repeat' (first | exact trivial | exact Or.inl rfl | exact Or.inl ((congrArg (AV.vec 92 .ent) e6)) | refine And.intro ?_ ?_))
          · (exact Nat.sub_lt_sub_left (by omega) (by omega))
        · have hI:¬ (stp f c a b ks[i]).2.1.is = true:=by rw [show (stp f c a b ks[i]).2.1.is = false from hI]; decide
          rw [if_neg hI,List.append_nil] at e4
          (refine And.intro (rng64 (by omega) (by omega)) ?_)
          refine Exists.intro [] (Exists.intro (i + 1) (And.intro hi (And.intro ?_ ?_)))
          · (repeat' (first | exact trivial | exact Or.inl rfl | exact Or.inl ((congrArg (AV.vec 92 .ent) e4.symm)) | refine And.intro ?_ ?_))
          · (exact Nat.sub_lt_sub_left (by omega) (by omega))
    · (have hi:=geD hi hz)
      subst hi
      rw [List.take_length]
      refine Exists.intro [] (And.intro ?_ (And.intro rfl (by (repeat' (first | exact trivial | exact Or.inl rfl | exact Or.inr (Or.inl ⟨rfl,_,rfl⟩) | exact Or.inr (Or.inr (Or.inr ⟨_,_,_,rfl,rfl⟩)) | refine And.intro ?_ ?_)))))
      (repeat' (first | exact trivial | exact Or.inl rfl | exact Or.inr ⟨rfl,_,rfl⟩ | refine And.intro ?_ ?_))
theorem s_merg (f:Nat) (c a b:MbR) (p:List PStep) (q:List (List PStep)) (hc:MbOK c) (ha:MbOK a) (hb:MbOK b) (hbk:bkM c + bkM a + bkM b≤10000000) (hp:p.length + bkM a≤100000000) (ih:a.is = true→∀ (k:Str) (p':List PStep) (q':List (List PStep)),bkM (atM c k) + bkM (atM a k) + bkM (atM b k)≤10000000→p'.length + bkM (atM a k)≤100000000→q'.length + (mrg f (atM c k) (atM a k) (atM b k)).2.length≤1000000000→CSpecM Tryd.prog 10 [.pt 1000 0,.agg (enc .mb (atM c k)),.agg (enc .mb (atM a k)),.agg (enc .mb (atM b k)),.ob 4 4 (.ln .pstep p')] [(1000,[.vec 1001 .psteps q'])] (.agg (enc .mb (mrg f (atM c k) (atM a k) (atM b k)).1)) 4 (.ob 4 4 (.ln .pstep p')) [(1000,[.vec 1001 .psteps (q'++under p' (mrg f (atM c k) (atM a k) (atM b k)).2)])]) (hq:q.length + (mrg (f + 1) c a b).2.length≤1000000000):CSpecM Tryd.prog 10 [.pt 1000 0,.agg (enc .mb c),.agg (enc .mb a),.agg (enc .mb b),.ob 4 4 (.ln .pstep p)] [(1000,[.vec 1001 .psteps q])] (.agg (enc .mb (mrg (f + 1) c a b).1)) 4 (.ob 4 4 (.ln .pstep p)) [(1000,[.vec 1001 .psteps (q++under p (mrg (f + 1) c a b).2)])] :=
  cspecM_of_vcR Γ_good Tryd.func10 rfl Tryd.call10 Tryd.results10 Tryd.ntmps10 (Nat.le_of_ble_eq_true rfl) (Nat.le_of_ble_eq_true rfl) (by rfl) (Nat.lt_of_lt_of_le (Nat.lt_succ_self _) (Nat.le_of_ble_eq_true rfl)) (by kernel_rfl) (w_merg f c a b p q hc ha hb hbk hp ih hq)
theorem merg_spec : ∀ (f : Nat) (c a b : MbR) (p : List PStep) (q : List (List PStep)), bkM a < f + 1 → MbOK c → MbOK a → MbOK b → bkM c + bkM a + bkM b ≤ 10000000 → p.length + bkM a ≤ 100000000 → q.length + (mrg (f + 1) c a b).2.length ≤ 1000000000 →
    CSpecM Tryd.prog 10 [.pt 1000 0,.agg (enc .mb c),.agg (enc .mb a),.agg (enc .mb b),.ob 4 4 (.ln .pstep p)] [(1000,[.vec 1001 .psteps q])] (.agg (enc .mb (mrg (f + 1) c a b).1)) 4 (.ob 4 4 (.ln .pstep p)) [(1000,[.vec 1001 .psteps (q++under p (mrg (f + 1) c a b).2)])]
  | 0, c, a, b, p, q, hf, hc, ha, hb, hbk, hp, hq => s_merg 0 c a b p q hc ha hb hbk hp (fun h => by
      have:=bkM_at h []
      omega) hq
  | f + 1, c, a, b, p, q, hf, hc, ha, hb, hbk, hp, hq => s_merg (f + 1) c a b p q hc ha hb hbk hp (fun h k p' q' h0 h1 h2 => by
      have g1:=bkM_at h k
      exact merg_spec f _ _ _ p' q' (by omega) (mbok_at hc k) (mbok_at ha k) (mbok_at hb k) h0 h1 h2) hq
end
end Go.Proofs.YtjbngfnpddhjpaaDoor
end
section
namespace Go.Proofs.YtjbngfnpddhjpaaDoor
set_option linter.unusedSectionVars false
set_option linter.unusedSimpArgs false
set_option linter.unusedVariables false
open Go Go.SX Go.Vl Go.Ck Go.Up Go.Mer
set_option maxRecDepth 100000
set_option maxHeartbeats 4000000
theorem at_some {m:MbR} {k:Str} {p:Ent} (h:m.v.e.find? (keyIs k) = some p):atM m k = ⟨true,p.2⟩:=by unfold atM; rw [h]
theorem at_none {m:MbR} {k:Str} (h:m.v.e.find? (keyIs k) = none):atM m k = ⟨false,zeroV⟩:=by unfold atM; rw [h]
section
variable [G:Globs]
theorem w_rSame (a b:MbR) (ha:MbOK a) (hb:MbOK b):vc Tryd.prog Γ 21 [2,3,4,10] (Tryd.f14.body.getD .skip) (postK Γ [.tmp 4] (fun v=>v = .b (sameM a b))) ⟨argSlots 0 [.agg (enc .mb a),.agg (enc .mb b)],[]⟩:=by
  have hc:=s_same a.v b.v ha hb
  obtain ⟨i,v⟩:=a
  obtain ⟨j,w⟩:=b
  unfold sameM
  cases i<;>cases j
  all_goals (repeat' (first | (refine And.intro (fun h=>?_) (fun h=>?_)<;>(try simp [-List.getD_eq_getElem?_getD,-Int.pred_toNat] at h)<;>(try (exfalso; first | omega | contradiction))) | (refine And.intro (rng64 (by omega) (by omega)) ?_) | (refine And.intro ⟨by omega,by omega⟩ ?_) | (refine And.intro ⟨by omega,by omega,by omega⟩ ?_) | (intro _)))
  · rfl
  · rfl
  · rfl
  · refine Or.inl (Exists.intro _ (And.intro (hc) ?_))
    exact congrArg AV.b (by simp)
theorem s_rSame (a b:MbR) (ha:MbOK a) (hb:MbOK b):PSpec Tryd.prog 14 [.agg (enc .mb a),.agg (enc .mb b)] (.b (sameM a b)) :=
  pspec_of_vc Γ_good Tryd.func14 rfl Tryd.call14 Tryd.results14 Tryd.ntmps14 (Nat.le_of_ble_eq_true rfl) (w_rSame a b ha hb)
theorem w_rEntry (m:MbR) (k:Str):vc Tryd.prog Γ 24 [1,2,4,6,9,10,11,12,18] (Tryd.f16.body.getD .skip) (postK Γ [.cell 4 34] (fun v=>RL v (.agg (enc .mb (atM m k))))) ⟨argSlots 0 [.agg (enc .mb m),.s k],[]⟩:=by
  intro hl
  have hl0:=len_le hl
  refine Exists.intro [] (Exists.intro [] (Exists.intro [] (Exists.intro Nat (Exists.intro (fun i=>i≤(m.v.e).length∧(m.v.e.find? (keyIs k) = (m.v.e.drop i).find? (keyIs k))) (Exists.intro (fun i=>⟨[(1,.s k),(4,.pt 4 0),(9,.rd .ent m.v.e),(10,.i .i64 m.v.e.length),(11,.i .i64 i)],[(4,[.b false,.i .i64 0,.i .i64 0,.i .u64 0,.s [],.nl,.nl])]⟩) (Exists.intro (fun i=>(m.v.e).length - i) (Exists.intro 0 (And.intro ⟨Nat.zero_le _,rfl⟩ (And.intro ?_ ?_)))))))))
  · (repeat' (first | exact trivial | exact Or.inl rfl | exact Or.inr (Or.inl ⟨rfl,_,rfl⟩) | exact Or.inr (Or.inr (Or.inr ⟨_,_,_,rfl,rfl⟩)) | refine And.intro ?_ ?_))
  rintro i ⟨hi,hI⟩
  refine And.intro (fun hz=>?_) (fun hz=>?_)
  · have hi:=ltD hz
    have hg:=getI (τ:=.ent) hi
    refine And.intro ⟨by omega,by omega⟩ ?_
    rw [hg]
    rw [List.drop_eq_getElem_cons hi,List.find?_cons] at hI
    refine And.intro (fun hc=>?_) (fun hc=>?_)
    · have hc:keyIs k m.v.e[i] = true:=hc
      rw [hc] at hI
      rw [at_some hI]
      (repeat' (first | exact trivial | exact Or.inl rfl | exact Or.inr ⟨rfl,_,rfl⟩ | refine And.intro ?_ ?_))
    · have hc:keyIs k m.v.e[i] = false:=hc
      rw [hc] at hI
      (refine And.intro (rng64 (by omega) (by omega)) ?_)
      refine Exists.intro [] (Exists.intro (_ + 1) (And.intro ⟨hi,hI⟩ (And.intro ?_ ?_)))
      · (repeat' (first | exact trivial | exact Or.inl rfl | exact Or.inr (Or.inl ⟨rfl,_,rfl⟩) | exact Or.inr (Or.inr (Or.inr ⟨_,_,_,rfl,rfl⟩)) | refine And.intro ?_ ?_))
      · (exact Nat.sub_lt_sub_left (by omega) (by omega))
  · (have hi:=geD hi hz)
    subst hi
    rw [List.drop_eq_nil_of_le (Nat.le_refl _)] at hI
    rw [at_none (show m.v.e.find? (keyIs k) = none from hI)]
    (repeat' (first | exact trivial | exact Or.inl rfl | exact Or.inr ⟨rfl,_,rfl⟩ | refine And.intro ?_ ?_))
theorem s_rEntry (m:MbR) (k:Str):PSpec Tryd.prog 16 [.agg (enc .mb m),.s k] (.agg (enc .mb (atM m k))) :=
  pspec_of_vcL Γ_good Tryd.func16 rfl Tryd.call16 Tryd.results16 Tryd.ntmps16 (Nat.le_of_ble_eq_true rfl) (w_rEntry m k)
end
end Go.Proofs.YtjbngfnpddhjpaaDoor
end
section
namespace Go.SX
set_option linter.unusedSectionVars false
set_option linter.unusedVariables false
set_option linter.unusedSimpArgs false
variable [Globs]
open Go.RowKit Go.WideShapes Go.ChangeShapes Go.Deep
inductive VN (n:Nat):Val→Prop
  | mk (a:Val):a.l.length≤n→a.e.length≤n→(∀ x ∈ a.l,VN n x)→(∀ p ∈ a.e,VN n p.2)→VN n a
theorem VN.mono {n m:Nat} (h:n≤m) {a:Val} (ha:VN n a):VN m a:=by
  induction ha with
  | mk a h1 h2 _ _ i1 i2=>exact .mk a (Nat.le_trans h1 h) (Nat.le_trans h2 h) i1 i2
structure Bulk {H:Type} (bk:DataW H→Nat):Prop where
  len:∀ els rest,els.length≤bk (.slice els rest)
  el:∀ els rest,∀ d ∈ els,bk d≤bk (.slice els rest)
  part:∀ ds,∀ d ∈ ds,bk d≤bk (.agg ds)
section
variable {H:Type} {encH:TypeId × Value→H} {P:Program} {W:World} {sp:Nat→Bool} {hd:Bool} {O:Nat→Prop} {bk:DataW H→Nat}
end
end Go.SX
end
section
namespace Go.Proofs.YtjbngfnpddhjpaaDoor
set_option linter.unusedSectionVars false
set_option linter.unusedSimpArgs false
set_option linter.unusedVariables false
open Go Go.SX Go.Vl
set_option maxRecDepth 100000
set_option maxHeartbeats 0
section
variable [G:Globs]
theorem w_own (a:Val) (hl:a.l.length≤100000000) (he:a.e.length≤100000000) (hc:∀ x ∈ a.l,PSpec Tryd.prog 11 [.agg (encVal x)] (.agg (encVal x))) (hp:∀ x ∈ a.e,PSpec Tryd.prog 11 [.agg (encVal x.2)] (.agg (encVal x.2))):vc Tryd.prog Γ 48 [1,2,3,4,6,8,15,16,17,18,29,30,31,32] (Tryd.f11.body.getD .skip) (postK Γ [.cell 2 26] (fun v=>v = .agg (encVal a))) ⟨argSlots 0 [.agg (encVal a)],[]⟩:=by
  refine Exists.intro [.blk [0,1,2,3,4,5]] (And.intro (by kernel_rfl) ?_)
  intro hml
  refine Exists.intro [] (Exists.intro [(1,4,47,.val)] (Exists.intro [] (Exists.intro Nat (Exists.intro (fun i=>i≤a.l.length) (Exists.intro (fun i=>⟨[(1,.pt 1 0),(2,.pt 2 0),(4,.rd .ent a.e),(15,.rd .val a.l),(16,.i .i64 a.l.length),(17,.i .i64 i)],[(1,[.i .i64 a.kind,.i .i64 a.n,.i .u64 a.f,.s a.s,.vec 47 .val (a.l.take i),.nl]),(2,[.i .i64 0,.i .i64 0,.i .u64 0,.s [],.nl,.nl])]⟩) (Exists.intro (fun i=>a.l.length - i) (Exists.intro 0 (And.intro (Nat.zero_le _) (And.intro ?_ ?_)))))))))
  · (repeat' (first | exact trivial | exact Or.inl rfl | exact Or.inr (Or.inl ⟨rfl,_,rfl⟩) | exact Or.inr (Or.inr (Or.inr ⟨_,_,_,rfl,rfl⟩)) | refine And.intro ?_ ?_))
  · rintro i hi
    refine And.intro (fun hz=>?_) (fun hz=>?_)
    · have hi : i < a.l.length := by have : (i : Int) < (a.l.length : Int) := of_decide_eq_true hz
                                     omega
      have hg:a.l.getD (Int.toNat (i:Int)) (dflt .val) = a.l[i]:=by rw [Int.toNat_natCast,List.getD_eq_getElem?_getD,List.getElem?_eq_getElem hi]; rfl
      refine And.intro ⟨by omega,by omega⟩ ?_
      have hs:=hc a.l[i] (List.getElem_mem hi)
      rw [← hg] at hs
      refine Exists.intro [.blk [0,1,2,3,4] [25],.one 5,.take 6,.one 7] (And.intro (by kernel_rfl) ?_)
      refine Exists.intro _ (And.intro (hs) ?_)
      rw [hg]
      refine And.intro (show ((a.l.take i).length + 1) * 88≤140737488355328 by rw [List.length_take]; omega) ?_
      (refine And.intro (rng64 (by omega) (by omega)) ?_)
      have e:a.l.take i++[(⟨a.l[i].kind,a.l[i].n,a.l[i].f,a.l[i].s,a.l[i].l,a.l[i].e⟩:Val)] = a.l.take (i + 1):=by rw [val_eta,List.take_add_one,List.getElem?_eq_getElem hi]; rfl
      refine Exists.intro [(26,47)] (Exists.intro (i + 1) (And.intro hi (And.intro ?_ ?_)))
      · (repeat' (first | exact trivial | exact Or.inl rfl | exact Or.inl ((congrArg (AV.vec 47 .val) e)) | refine And.intro ?_ ?_))
      · show a.l.length - (i + 1) < a.l.length - i
        omega
    · have hi : i = a.l.length := by have : ¬ (i : Int) < (a.l.length : Int) := of_decide_eq_false hz
                                     omega
      subst hi
      rw [List.take_length]
      intro hme
      refine Exists.intro [] (Exists.intro [(1,5,46,.ent)] (Exists.intro [] (Exists.intro Nat (Exists.intro (fun i=>i≤a.e.length) (Exists.intro (fun i=>⟨[(1,.pt 1 0),(2,.pt 2 0),(29,.rd .ent a.e),(30,.i .i64 a.e.length),(31,.i .i64 i)],[(1,[.i .i64 a.kind,.i .i64 a.n,.i .u64 a.f,.s a.s,.vec 47 .val a.l,.vec 46 .ent (a.e.take i)]),(2,[.i .i64 0,.i .i64 0,.i .u64 0,.s [],.nl,.nl])]⟩) (Exists.intro (fun i=>a.e.length - i) (Exists.intro 0 (And.intro (Nat.zero_le _) (And.intro ?_ ?_)))))))))
      · (repeat' (first | exact trivial | exact Or.inl rfl | exact Or.inr (Or.inl ⟨rfl,_,rfl⟩) | exact Or.inr (Or.inr (Or.inr ⟨_,_,_,rfl,rfl⟩)) | refine And.intro ?_ ?_))
      · rintro i hi
        refine And.intro (fun hz=>?_) (fun hz=>?_)
        · have hi : i < a.e.length := by have : (i : Int) < (a.e.length : Int) := of_decide_eq_true hz
                                         omega
          have hg:a.e.getD (Int.toNat (i:Int)) (dflt .ent) = a.e[i]:=by rw [Int.toNat_natCast,List.getD_eq_getElem?_getD,List.getElem?_eq_getElem hi]; rfl
          refine And.intro ⟨by omega,by omega⟩ ?_
          have hs:=hp a.e[i] (List.getElem_mem hi)
          rw [← hg] at hs
          refine Exists.intro [.blk [0,1,2,3,4,5,6,7,8] [43],.one 9,.take 10,.one 11] (And.intro (by kernel_rfl) ?_)
          refine Exists.intro _ (And.intro (hs) ?_)
          rw [hg]
          refine And.intro (show ((a.e.take i).length + 1) * 104≤140737488355328 by rw [List.length_take]; omega) ?_
          (refine And.intro (rng64 (by omega) (by omega)) ?_)
          have e:a.e.take i++[(a.e[i].1,(⟨a.e[i].2.kind,a.e[i].2.n,a.e[i].2.f,a.e[i].2.s,a.e[i].2.l,a.e[i].2.e⟩:Val))] = a.e.take (i + 1):=by rw [val_eta,List.take_add_one,List.getElem?_eq_getElem hi]; rfl
          refine Exists.intro [(44,46)] (Exists.intro (i + 1) (And.intro hi (And.intro ?_ ?_)))
          · (repeat' (first | exact trivial | exact Or.inl rfl | exact Or.inl ((congrArg (AV.vec 46 .ent) e)) | refine And.intro ?_ ?_))
          · show a.e.length - (i + 1) < a.e.length - i
            omega
        · have hi : i = a.e.length := by have : ¬ (i : Int) < (a.e.length : Int) := of_decide_eq_false hz
                                         omega
          subst hi
          rw [List.take_length]
          rfl
theorem s_own (a:Val) (hl:a.l.length≤100000000) (he:a.e.length≤100000000) (hc:∀ x ∈ a.l,PSpec Tryd.prog 11 [.agg (encVal x)] (.agg (encVal x))) (hp:∀ x ∈ a.e,PSpec Tryd.prog 11 [.agg (encVal x.2)] (.agg (encVal x.2))):PSpec Tryd.prog 11 [.agg (encVal a)] (.agg (encVal a)) :=
  pspec_of_vc Γ_good Tryd.func11 rfl Tryd.call11 Tryd.results11 Tryd.ntmps11 (Nat.le_of_ble_eq_true rfl) (w_own a hl he hc hp)
theorem own_spec:∀ (m:Nat) (a:Val),SizeOf.sizeOf a < m→VN 100000000 a→PSpec Tryd.prog 11 [.agg (encVal a)] (.agg (encVal a)):=by
  intro m
  induction m with
  | zero=>intro a h; exact absurd h (Nat.not_lt_zero _)
  | succ m ih =>
    intro a hs ha
    cases ha with
    | mk _ a1 a2 a3 a4 =>
      refine s_own a a1 a2 (fun x hx=>ih x ?_ (a3 x hx)) (fun x hx=>ih x.2 ?_ (a4 x hx))
      · have:=val_sz_l hx; omega
      · have:=val_sz_e hx; omega
theorem s_Own (a:Val) (ha:VN 100000000 a):PSpec Tryd.prog 11 [.agg (encVal a)] (.agg (encVal a)):=own_spec _ a (Nat.lt_succ_self _) ha
end
end Go.Proofs.YtjbngfnpddhjpaaDoor
end
section
namespace Go.Proofs.YtjbngfnpddhjpaaDoor
set_option linter.unusedSectionVars false
set_option linter.unusedSimpArgs false
set_option linter.unusedVariables false
open Go Go.SX Go.Vl
set_option maxRecDepth 100000
set_option maxHeartbeats 0
section
variable [G:Globs]
theorem w_with (l:List Ent) (k:Str) (a:Val) (hl1:l.length≤100000000):VCs Tryd.prog Γ 39 [0,1,5,6,7,23] (Tryd.f15.body.getD .skip) (postK Γ [.tmp 6] (fun v=>v = .rd .ent (putE l k a))) ⟨argSlots 0 [.rd .ent l,.s k,.agg (encVal a)],[]⟩:=by
  refine VCs.seq (by first | exact Γ_good | exact Ctx.good_kp Γ_good _) ?_
  refine VCs.seq (by first | exact Γ_good | exact Ctx.good_kp Γ_good _) ?_
  refine Or.inl (Exists.intro _ (And.intro (s_wout l k hl1) ?_))
  have hml:(withoutE l k).length≤l.length:=List.length_filter_le _ _
  unfold putE
  generalize withoutE l k = m at hml
  refine VCs.seq (by first | exact Γ_good | exact Ctx.good_kp Γ_good _) ?_
  refine VCs.cut (by first | exact Γ_good | exact Ctx.good_kp Γ_good _) Unit (fun _=>True) (fun _=>⟨[(0,.rd .ent m),(1,.s k),(5,.pt 5 0),(7,.i .i64 (m.findIdx (keyGt k):Nat))],[(5,encVal a)]⟩) ?_ ?_
  · refine Exists.intro [] (Exists.intro [] (Exists.intro [] (Exists.intro Nat (Exists.intro (fun i=>i≤m.length∧i≤m.findIdx (keyGt k)) (Exists.intro (fun i=>⟨[(0,.rd .ent m),(1,.s k),(5,.pt 5 0),(7,.i .i64 i)],[(5,encVal a)]⟩) (Exists.intro (fun i=>m.length - i) (Exists.intro 0 (And.intro ⟨Nat.zero_le _,Nat.zero_le _⟩ (And.intro ?_ ?_)))))))))
    · (repeat' (first | exact trivial | exact Or.inl rfl | exact Or.inr (Or.inl ⟨rfl,_,rfl⟩) | exact Or.inr (Or.inr (Or.inr ⟨_,_,_,rfl,rfl⟩)) | refine And.intro ?_ ?_))
    · rintro i ⟨hi,hf⟩
      intro _
      refine And.intro (fun hz=>?_) (fun hz=>?_)
      · have hi : i < m.length := by have : (i : Int) < (m.length : Int) := of_decide_eq_true hz
                                     omega
        have hg:m.getD (Int.toNat (i:Int)) (dflt .ent) = m[i]:=by rw [Int.toNat_natCast,List.getD_eq_getElem?_getD,List.getElem?_eq_getElem hi]; rfl
        refine And.intro ⟨by omega,by omega⟩ ?_
        refine And.intro (fun hq=>?_) (fun hq=>?_)
        · have hq : keyGt k m[i] = false := by
            rw [hg] at hq
            have hq:(Op.bytesLess m[i].1 k || m[i].1 == k) = true:=hq
            rw [keyGt,hq]; rfl
          (refine And.intro (rng64 (by omega) (by omega)) ?_)
          refine Exists.intro [] (Exists.intro (i + 1) (And.intro ⟨hi,ix_miss hi hf hq⟩ (And.intro ?_ ?_)))
          · (repeat' (first | exact trivial | exact Or.inl rfl | exact Or.inr (Or.inl ⟨rfl,_,rfl⟩) | exact Or.inr (Or.inr (Or.inr ⟨_,_,_,rfl,rfl⟩)) | refine And.intro ?_ ?_))
          · show m.length - (i + 1) < m.length - i
            omega
        · have hq : keyGt k m[i] = true := by
            rw [hg] at hq
            have hq:(Op.bytesLess m[i].1 k || m[i].1 == k) = false:=hq
            rw [keyGt,hq]; rfl
          have e:i = m.findIdx (keyGt k):=by
            have:=List.not_of_lt_findIdx (p:=keyGt k) (xs:=m) (i:=i)
            rcases Nat.lt_or_ge i (m.findIdx (keyGt k)) with h1 | h1
            · have:=this h1
              rw [hq] at this
              cases this
            · omega
          refine Exists.intro () (And.intro trivial ?_)
          (repeat' (first | exact trivial | exact Or.inl rfl | exact Or.inl ((congrArg (fun n:Nat=>AV.i .i64 n) e)) | refine And.intro ?_ ?_))
      · have hi : i = m.length := by have : ¬ (i : Int) < (m.length : Int) := of_decide_eq_false hz
                                     omega
        have e:i = m.findIdx (keyGt k):=by
          have:=List.findIdx_le_length (p:=keyGt k) (xs:=m)
          omega
        refine And.intro (fun h9=>Bool.noConfusion h9) (fun _=>?_)
        refine Exists.intro () (And.intro trivial ?_)
        (repeat' (first | exact trivial | exact Or.inl rfl | exact Or.inl ((congrArg (fun n:Nat=>AV.i .i64 n) e)) | refine And.intro ?_ ?_))
  rintro _ _
  have hle:=List.findIdx_le_length (p:=keyGt k) (xs:=m)
  generalize m.findIdx (keyGt k) = j at hle
  refine VCs.of_vc (by first | exact Γ_good | exact Ctx.good_kp Γ_good _) ?_
  refine Exists.intro [.take 0,.take 1,.take 2,.take 4,.take 9,.take 10,.take 11,.tree 4 [3,5,6,7] (.opt 3 (.opt 5 (.opt 6 (.opt 7 .fin .non) .non) .non) (.opt 5 (.opt 3 (.opt 6 (.opt 7 .fin .non) .non) (.opt 6 (.opt 3 (.opt 7 .fin .non) (.opt 7 (.opt 3 .fin .non) .non)) .non)) .non)),.one 8,.one 12,.take 13] (And.intro (by kernel_rfl) ?_)
  refine And.intro ⟨by omega,by omega,by omega⟩ ?_
  refine And.intro ⟨by omega,by omega⟩ ?_
  have hob:(List.drop (Int.toNat 0) (m.take (Int.toNat (j:Int)))).length * 104≤140737488355328:=by
    rw [List.length_drop,List.length_take]
    omega
  refine Exists.intro ⟨[(29,.vec 29 .ent (m.take j)),(33,.vec 33 .ent [(k,⟨a.kind,a.n,a.f,a.s,a.l,a.e⟩)]),(37,.rd .ent ((m.take m.length).drop j))],[]⟩ (And.intro ?_ ?_)
  · repeat' (first | exact trivial | exact hob | exact Or.inl rfl | refine And.intro ?_ ?_)
  rw [List.take_length]
  refine And.intro (show ((m.take j).length + 1) * 104≤140737488355328 by rw [List.length_take]; omega) ?_
  refine And.intro (show ((m.take j++[(k,(⟨a.kind,a.n,a.f,a.s,a.l,a.e⟩:Val))]).length + (m.drop j).length) * 104≤140737488355328 by rw [List.length_append,List.length_take,List.length_drop,List.length_singleton]; omega) ?_
  have e:m.take j++[(k,(⟨a.kind,a.n,a.f,a.s,a.l,a.e⟩:Val))]++m.drop j = m.take j++(k,a)::m.drop j:=by rw [val_eta,List.append_assoc]; rfl
  exact congrArg (AV.rd .ent) e
theorem s_with (l:List Ent) (k:Str) (a:Val) (hl1:l.length≤100000000):PSpec Tryd.prog 15 [.rd .ent l,.s k,.agg (encVal a)] (.rd .ent (putE l k a)) :=
  pspec_of_VCs Γ_good Tryd.func15 rfl Tryd.call15 Tryd.results15 Tryd.ntmps15 (Nat.le_of_ble_eq_true rfl) (w_with l k a hl1) Γ_good
end
end Go.Proofs.YtjbngfnpddhjpaaDoor
end
section
namespace Go.Proofs.YtjbngfnpddhjpaaDoor
set_option linter.unusedSectionVars false
set_option linter.unusedSimpArgs false
set_option linter.unusedVariables false
open Go Go.SX Go.Vl Go.Ck Go.Up Go.Mer
set_option maxRecDepth 100000
set_option maxHeartbeats 4000000
theorem mszB {n b:Nat} (h1:n≤1000000000) (h2:b≤100000):n * b≤140737488355328:=Nat.le_trans (Nat.mul_le_mul h1 h2) (by decide)
def stpD (f:Nat) (c a b:MbR) (p:Ent):Str × MbR × List (List PStep):=(p.1,mrgD f (atM c p.1) (atM a p.1) (atM b p.1))
theorem put_len (l:List Ent) (k:Str) (v:Val):(putE l k v).length≤l.length + 1:=by
  have h:(withoutE l k).length≤l.length:=List.length_filter_le _ _
  unfold putE
  simp only [List.length_append,List.length_cons,List.length_take,List.length_drop]
  omega
theorem putAll_len:∀ (e l:List Ent),(putAll l e).length≤l.length + e.length
  | [],l=>Nat.le_refl _
  | p::e,l=>by
    have h1:=putAll_len e (putE l p.1 p.2)
    have h2:=put_len l p.1 p.2
    show (putAll (putE l p.1 p.2) e).length≤_
    rw [List.length_cons]; omega
theorem mrgD_ab (f:Nat) {c a b:MbR} (h:sameM a b = true):mrgD (f + 1) c a b = (a,[]):=by rw [mrgD,if_pos h]
theorem mrgD_ac (f:Nat) {c a b:MbR} (h:¬ sameM a b = true) (h2:sameM a c = true):mrgD (f + 1) c a b = (b,[]):=by rw [mrgD,if_neg h,if_pos h2]
theorem mrgD_bc (f:Nat) {c a b:MbR} (h:¬ sameM a b = true) (h2:¬ sameM a c = true) (h4:sameM b c = true):mrgD (f + 1) c a b = (a,[]):=by rw [mrgD,if_neg h,if_neg h2,if_pos h4]
theorem mrgD_cl (f:Nat) {c a b:MbR} (h:¬ sameM a b = true) (h2:¬ sameM a c = true) (h4:¬ sameM b c = true) (h3:(!tabM c || !tabM a || !tabM b) = true):mrgD (f + 1) c a b = (a,[[]]):=by rw [mrgD,if_neg h,if_neg h2,if_neg h4,if_pos h3]
theorem mrgD_tb (f : Nat) {c a b : MbR} (h : ¬ sameM a b = true) (h2 : ¬ sameM a c = true) (h4 : ¬ sameM b c = true) (h3 : ¬ (!tabM c || !tabM a || !tabM b) = true) :
    mrgD (f + 1) c a b = (⟨true,tblV ((putAll [] (allE [c,a,b])).map (stpD f c a b))⟩,clsV ((putAll [] (allE [c,a,b])).map (stpD f c a b))):=by
  rw [mrgD,if_neg h,if_neg h2,if_neg h4,if_neg h3,List.map_map]; rfl
def mrgA (r:MbR × List (List PStep)):AV:=.tup [.agg (enc .mb r.1),.rd .psteps r.2]
theorem allE_snoc (l:List MbR) {i:Nat} (h:i < l.length):allE (l.take (i + 1)) = allE (l.take i)++l[i].v.e:=by
  unfold allE
  rw [List.take_add_one,List.getElem?_eq_getElem h,List.flatMap_append]
  simp
section
variable [G:Globs]
theorem w_mrgR (f:Nat) (hf:f≤10000000) (c a b:MbR) (hc:MbOK c) (ha:MbOK a) (hb:MbOK b) (hbk:bkM c + bkM a + bkM b≤10000000) (hn:(mrgD (f + 1) c a b).2.length≤1000000000) (hl:∀ y ∈ (mrgD (f + 1) c a b).2,y.length≤f + 1) (ih:tabM c = true→tabM a = true→tabM b = true→∀ (k:Str),(mrgD f (atM c k) (atM a k) (atM b k)).2.length≤1000000000→PSpec Tryd.prog 7 [.agg (enc .mb (atM c k)),.agg (enc .mb (atM a k)),.agg (enc .mb (atM b k))] (mrgA (mrgD f (atM c k) (atM a k) (atM b k)))):vc Tryd.prog Γ 124 [3,4,5,6,7,8,10,12,13,14,16,17,18,20,23,27,31,36,37,38,39,50,55,56,57,58,70,71,72,73,93,104,105,106,107] (Tryd.f7.body.getD .skip) (postK Γ [.cell 6 34,.tmp 7] (fun v=>RL v (mrgA (mrgD (f + 1) c a b)))) ⟨argSlots 0 [.agg (enc .mb c),.agg (enc .mb a),.agg (enc .mb b)],[]⟩:=by
  have s1:=s_rSame a b ha hb
  have s2:=s_rSame a c ha hc
  have s3:=s_rSame b c hb hc
  refine Or.inl (Exists.intro _ (And.intro (s1) ?_))
  by_cases h1:sameM a b = true
  · rw [mrgD_ab f h1,h1]
    (repeat' (first | (refine And.intro (fun h=>?_) (fun h=>?_)<;>(try simp [-List.getD_eq_getElem?_getD,-Int.pred_toNat] at h)<;>(try (exfalso; first | omega | contradiction))) | (refine And.intro (rng64 (by omega) (by omega)) ?_) | (refine And.intro ⟨by omega,by omega⟩ ?_) | (refine And.intro ⟨by omega,by omega,by omega⟩ ?_) | (intro _)))
    (repeat' (first | exact trivial | exact Or.inl rfl | exact Or.inr ⟨rfl,_,rfl⟩ | refine And.intro ?_ ?_))
  rw [Bool.eq_false_iff.2 h1]
  (repeat' (first | (refine And.intro (fun h=>?_) (fun h=>?_)<;>(try simp [-List.getD_eq_getElem?_getD,-Int.pred_toNat] at h)<;>(try (exfalso; first | omega | contradiction))) | (refine And.intro (rng64 (by omega) (by omega)) ?_) | (refine And.intro ⟨by omega,by omega⟩ ?_) | (refine And.intro ⟨by omega,by omega,by omega⟩ ?_) | (intro _)))
  refine Or.inl (Exists.intro _ (And.intro (s2) ?_))
  by_cases h2:sameM a c = true
  · rw [mrgD_ac f h1 h2,h2]
    (repeat' (first | (refine And.intro (fun h=>?_) (fun h=>?_)<;>(try simp [-List.getD_eq_getElem?_getD,-Int.pred_toNat] at h)<;>(try (exfalso; first | omega | contradiction))) | (refine And.intro (rng64 (by omega) (by omega)) ?_) | (refine And.intro ⟨by omega,by omega⟩ ?_) | (refine And.intro ⟨by omega,by omega,by omega⟩ ?_) | (intro _)))
    (repeat' (first | exact trivial | exact Or.inl rfl | exact Or.inr ⟨rfl,_,rfl⟩ | refine And.intro ?_ ?_))
  rw [Bool.eq_false_iff.2 h2]
  (repeat' (first | (refine And.intro (fun h=>?_) (fun h=>?_)<;>(try simp [-List.getD_eq_getElem?_getD,-Int.pred_toNat] at h)<;>(try (exfalso; first | omega | contradiction))) | (refine And.intro (rng64 (by omega) (by omega)) ?_) | (refine And.intro ⟨by omega,by omega⟩ ?_) | (refine And.intro ⟨by omega,by omega,by omega⟩ ?_) | (intro _)))
  refine Or.inl (Exists.intro _ (And.intro (s3) ?_))
  by_cases h4:sameM b c = true
  · rw [mrgD_bc f h1 h2 h4,h4]
    (repeat' (first | (refine And.intro (fun h=>?_) (fun h=>?_)<;>(try simp [-List.getD_eq_getElem?_getD,-Int.pred_toNat] at h)<;>(try (exfalso; first | omega | contradiction))) | (refine And.intro (rng64 (by omega) (by omega)) ?_) | (refine And.intro ⟨by omega,by omega⟩ ?_) | (refine And.intro ⟨by omega,by omega,by omega⟩ ?_) | (intro _)))
    (repeat' (first | exact trivial | exact Or.inl rfl | exact Or.inr ⟨rfl,_,rfl⟩ | refine And.intro ?_ ?_))
  rw [Bool.eq_false_iff.2 h4]
  (repeat' (first | (refine And.intro (fun h=>?_) (fun h=>?_)<;>(try simp [-List.getD_eq_getElem?_getD,-Int.pred_toNat] at h)<;>(try (exfalso; first | omega | contradiction))) | (refine And.intro (rng64 (by omega) (by omega)) ?_) | (refine And.intro ⟨by omega,by omega⟩ ?_) | (refine And.intro ⟨by omega,by omega,by omega⟩ ?_) | (intro _)))
  have eL:([⟨c.is,⟨c.v.kind,c.v.n,c.v.f,c.v.s,c.v.l,c.v.e⟩⟩,⟨a.is,⟨a.v.kind,a.v.n,a.v.f,a.v.s,a.v.l,a.v.e⟩⟩,⟨b.is,⟨b.v.kind,b.v.n,b.v.f,b.v.s,b.v.l,b.v.e⟩⟩]:List MbR) = [c,a,b]:=by rw [val_eta,val_eta,val_eta]
  have hno:∀ m ∈ [c,a,b],tabM m = false→(!tabM c || !tabM a || !tabM b) = true:=by
    intro m hm h
    simp only [List.mem_cons,List.not_mem_nil,or_false] at hm
    rcases hm with rfl | rfl | rfl<;>rw [h]<;>simp
  have hbl:∀ m ∈ [c,a,b],tabM m = true→m.v.e.length≤10000000:=by
    intro m hm h
    have:=bkM_len (tab_is h)
    simp only [List.mem_cons,List.not_mem_nil,or_false] at hm
    rcases hm with rfl | rfl | rfl<;>omega
  have hlen3:[c,a,b].length = 3:=rfl
  have htab:(∀ m ∈ [c,a,b],tabM m = true)→¬ (!tabM c || !tabM a || !tabM b) = true:=by
    intro h
    rw [h c (by simp),h a (by simp),h b (by simp)]
    decide
  have hcl:=mrgD_cl f h1 h2 h4
  have htb:=mrgD_tb f h1 h2 h4
  generalize hLe:[c,a,b] = L at *
  refine Exists.intro [] (Exists.intro [] (Exists.intro [(999,36)] (Exists.intro Nat (Exists.intro (fun i=>i≤L.length∧(∀ m ∈ L.take i,tabM m = true)∧(allE (L.take i)).length≤i * 10000000) (Exists.intro (fun i=>⟨[(3,.pt 3 0),(4,.pt 4 0),(5,.pt 5 0),(6,.pt 6 0),(8,.rd .ent (putAll [] (allE (L.take i)))),(36,.rd .mb L),(37,.i .i64 L.length),(38,.i .i64 i)],[(3,enc .mb c),(4,enc .mb a),(5,enc .mb b),(6,[.b false,.i .i64 0,.i .i64 0,.i .u64 0,.s [],.nl,.nl])]⟩) (Exists.intro (fun i=>L.length - i) (Exists.intro 0 (And.intro (And.intro (Nat.zero_le _) (And.intro (fun m (h:m ∈ L.take 0)=>nomatch h) (Nat.le_refl 0))) (And.intro ?_ ?_)))))))))
  · (repeat' (first | exact trivial | exact Or.inl rfl | exact Or.inl ((congrArg (AV.rd .mb) eL)) | exact Or.inl ((congrArg (fun n:Nat=>AV.i .i64 n) hlen3.symm)) | refine And.intro ?_ ?_))
    exact Or.inr (Or.inl (And.intro rfl (Exists.intro _ rfl)))
  · rintro i ⟨hi,hI,hI2⟩
    refine And.intro (fun hz=>?_) (fun hz=>?_)
    · have hi:=ltD hz
      have hg:=getI (τ:=.mb) hi
      refine And.intro ⟨by omega,by omega⟩ ?_
      rw [hg]
      have hmem:=List.getElem_mem hi
      have hT:tabM L[i] = (L[i].is && L[i].v.kind == 6):=rfl
      have hes:=allE_snoc L hi
      refine And.intro (fun hq=>?_) (fun hq=>?_)
      · have hq:(!L[i].is) = false:=hq
        refine And.intro (fun hk=>?_) (fun hk=>?_)
        · have hk:(L[i].v.kind != 6) = true:=hk
          have hf:tabM L[i] = false:=by rw [hT,Bool.and_eq_false_iff]; exact .inr (by simpa using hk)
          rw [hcl (hno _ hmem hf)]
          (repeat' (first | exact trivial | exact Or.inl rfl | exact Or.inr ⟨rfl,_,rfl⟩ | refine And.intro ?_ ?_))
        · have hk:(L[i].v.kind != 6) = false:=hk
          have hf:tabM L[i] = true:=by rw [hT,Bool.and_eq_true]; exact ⟨by simpa using hq,by simpa using hk⟩
          have hb1:=hbl _ hmem hf
          have hi0:=hi
          have hi3:i * 10000000≤20000000:=by omega
          intro _
          refine Exists.intro [] (Exists.intro [] (Exists.intro [] (Exists.intro Nat (Exists.intro (fun j=>j≤L[i].v.e.length) (Exists.intro (fun j=>⟨[(3,.pt 3 0),(4,.pt 4 0),(5,.pt 5 0),(6,.pt 6 0),(8,.rd .ent (putAll [] (allE (L.take i)++L[i].v.e.take j))),(36,.rd .mb L),(37,.i .i64 L.length),(38,.i .i64 i),(55,.rd .ent L[i].v.e),(56,.i .i64 L[i].v.e.length),(57,.i .i64 j)],[(3,enc .mb c),(4,enc .mb a),(5,enc .mb b),(6,[.b false,.i .i64 0,.i .i64 0,.i .u64 0,.s [],.nl,.nl])]⟩) (Exists.intro (fun j=>L[i].v.e.length - j) (Exists.intro 0 (And.intro (Nat.zero_le _) (And.intro ?_ ?_)))))))))
          · (repeat' (first | exact trivial | exact Or.inl rfl | exact Or.inl ((congrArg (fun l=>AV.rd .ent (putAll [] l)) (List.append_nil _).symm)) | refine And.intro ?_ ?_))
          · rintro j hi
            refine And.intro (fun hz=>?_) (fun hz=>?_)
            · have hi:=ltD hz
              have hg:=getI (τ:=.ent) hi
              refine And.intro ⟨by omega,by omega⟩ ?_
              rw [hg]
              have hpl:=putAll_len (allE (L.take i)++L[i].v.e.take j) []
              have htl:(L[i].v.e.take j).length≤j:=by rw [List.length_take]; omega
              have hW:=s_with (putAll [] (allE (L.take i)++L[i].v.e.take j)) L[i].v.e[j].1 L[i].v.e[j].2 (by rw [List.length_append,List.length_nil] at hpl; omega)
              have e7:putE (putAll [] (allE (L.take i)++L[i].v.e.take j)) L[i].v.e[j].1 L[i].v.e[j].2 = putAll [] (allE (L.take i)++L[i].v.e.take (j + 1)):=by rw [take_snoc hi,← List.append_assoc]; exact (putAll_app [] _ [_]).symm
              rw [e7] at hW
              (repeat' (first | (refine And.intro (fun h=>?_) (fun h=>?_)<;>(try simp [-List.getD_eq_getElem?_getD,-Int.pred_toNat] at h)<;>(try (exfalso; first | omega | contradiction))) | (refine And.intro (rng64 (by omega) (by omega)) ?_) | (refine And.intro ⟨by omega,by omega⟩ ?_) | (refine And.intro ⟨by omega,by omega,by omega⟩ ?_) | (intro _)))
              refine Or.inl (Exists.intro _ (And.intro (hW) ?_))
              (refine And.intro (rng64 (by omega) (by omega)) ?_)
              refine Exists.intro [] (Exists.intro (_ + 1) (And.intro hi (And.intro ?_ ?_)))
              · (repeat' (first | exact trivial | exact Or.inl rfl | exact Or.inr (Or.inl ⟨rfl,_,rfl⟩) | exact Or.inr (Or.inr (Or.inr ⟨_,_,_,rfl,rfl⟩)) | refine And.intro ?_ ?_))
              · (exact Nat.sub_lt_sub_left (by omega) (by omega))
            · have hj:=geD hi hz
              have hi:=hi0
              (refine And.intro (rng64 (by omega) (by omega)) ?_)
              refine Exists.intro [] (Exists.intro (i + 1) (And.intro ⟨hi,fun m hm=>(by rw [take_snoc hi] at hm; rcases List.mem_append.1 hm with hm | hm; exact hI m hm; rw [List.mem_singleton.1 hm]; exact hf),by rw [hes,List.length_append]; omega⟩ (And.intro ?_ ?_)))
              · (repeat' (first | exact trivial | exact Or.inl rfl | exact Or.inl ((congrArg (fun l=>AV.rd .ent (putAll [] l)) (show allE (L.take i)++L[i].v.e.take j = allE (L.take (i + 1)) by rw [hes,hj,List.take_length]))) | refine And.intro ?_ ?_))
              · (exact Nat.sub_lt_sub_left (by omega) (by omega))
      · have hq:(!L[i].is) = true:=hq
        have hf:tabM L[i] = false:=by rw [hT,Bool.and_eq_false_iff]; exact .inl (by simpa using hq)
        rw [hcl (hno _ hmem hf)]
        (repeat' (first | (refine And.intro (fun h=>?_) (fun h=>?_)<;>(try simp [-List.getD_eq_getElem?_getD,-Int.pred_toNat] at h)<;>(try (exfalso; first | omega | contradiction))) | (refine And.intro (rng64 (by omega) (by omega)) ?_) | (refine And.intro ⟨by omega,by omega⟩ ?_) | (refine And.intro ⟨by omega,by omega,by omega⟩ ?_) | (intro _)))
        (repeat' (first | exact trivial | exact Or.inl rfl | exact Or.inr ⟨rfl,_,rfl⟩ | refine And.intro ?_ ?_))
    · (have hi:=geD hi hz)
      subst hi
      rw [List.take_length] at hI hI2 ⊢
      rw [htb (htab hI)]
      rw [htb (htab hI)] at hn hl
      have htab1:=htab hI
      have ih:=ih (hI c (by rw [← hLe]; simp)) (hI a (by rw [← hLe]; simp)) (hI b (by rw [← hLe]; simp))
      have hEl:=putAll_len (allE L) []
      rw [List.length_nil] at hEl
      have hal:(allE L).length≤30000000:=by rw [hlen3] at hI2; omega
      generalize hE:putAll [] (allE L) = E at *
      intro _
      refine Exists.intro [(14,14,.psteps)] (Exists.intro [(13,5,102,.ent)] (Exists.intro [] (Exists.intro Nat (Exists.intro (fun i=>i≤E.length) (Exists.intro (fun i=>⟨[(3,.pt 3 0),(4,.pt 4 0),(5,.pt 5 0),(6,.pt 6 0),(13,.pt 13 0),(14,.vec 14 .psteps (clsV ((E.take i).map (stpD f c a b)))),(70,.rd .ent E),(71,.i .i64 E.length),(72,.i .i64 i)],[(3,enc .mb c),(4,enc .mb a),(5,enc .mb b),(6,[.b false,.i .i64 0,.i .i64 0,.i .u64 0,.s [],.nl,.nl]),(13,[.i .i64 6,.i .i64 0,.i .u64 0,.s [],.nl,.vec 102 .ent (tblV ((E.take i).map (stpD f c a b))).e])]⟩) (Exists.intro (fun i=>E.length - i) (Exists.intro 0 (And.intro (Nat.zero_le _) (And.intro ?_ ?_)))))))))
      · (repeat' (first | exact trivial | exact Or.inl rfl | exact Or.inr (Or.inl ⟨rfl,_,rfl⟩) | exact Or.inr (Or.inr (Or.inr ⟨_,_,_,rfl,rfl⟩)) | refine And.intro ?_ ?_))
      · rintro i hi
        refine And.intro (fun hz=>?_) (fun hz=>?_)
        · have hi:=ltD hz
          have hg:=getI (τ:=.ent) hi
          refine And.intro ⟨by omega,by omega⟩ ?_
          rw [hg]
          have e0:E.take (i + 1) = E.take i++[E[i]]:=take_snoc hi
          have e1:(E.take (i + 1)).map (stpD f c a b) = (E.take i).map (stpD f c a b)++[stpD f c a b E[i]]:=by rw [e0,List.map_append]; rfl
          have e2:E.map (stpD f c a b) = (E.take (i + 1)).map (stpD f c a b)++(E.drop (i + 1)).map (stpD f c a b):=by rw [← List.map_append,List.take_append_drop]
          have l1:=cls_pre ((E.take (i + 1)).map (stpD f c a b)) ((E.drop (i + 1)).map (stpD f c a b))
          rw [← e2] at l1
          have e3:clsV ((E.take (i + 1)).map (stpD f c a b)) = clsV ((E.take i).map (stpD f c a b))++(mrgD f (atM c E[i].1) (atM a E[i].1) (atM b E[i].1)).2.map (⟨E[i].1,-1⟩::·):=by rw [e1]; exact clsV_snoc _ _
          have e4:(tblV ((E.take (i + 1)).map (stpD f c a b))).e = (tblV ((E.take i).map (stpD f c a b))).e++(if (mrgD f (atM c E[i].1) (atM a E[i].1) (atM b E[i].1)).1.is = true then [(E[i].1,(mrgD f (atM c E[i].1) (atM a E[i].1) (atM b E[i].1)).1.v)] else []):=by rw [e1]; exact tblV_snoc _ _
          have l3:(clsV ((E.take (i + 1)).map (stpD f c a b))).length = (clsV ((E.take i).map (stpD f c a b))).length + (mrgD f (atM c E[i].1) (atM a E[i].1) (atM b E[i].1)).2.length:=by rw [e3,List.length_append,List.length_map]
          have l4:((tblV ((E.take i).map (stpD f c a b))).e).length≤i:=by
            have:=List.length_filterMap_le (fun r:Str × MbR × List (List PStep)=>if r.2.1.is then some (r.1,r.2.1.v) else none) ((E.take i).map (stpD f c a b))
            rw [List.length_map,List.length_take] at this
            show (List.filterMap _ _).length≤i
            omega
          have hyl:∀ y ∈ (mrgD f (atM c E[i].1) (atM a E[i].1) (atM b E[i].1)).2,y.length≤10000000:=fun y hy=>by
            have:=hl (⟨E[i].1,-1⟩::y) (List.mem_flatMap.2 ⟨stpD f c a b E[i],List.mem_map_of_mem (List.getElem_mem hi),List.mem_map_of_mem hy⟩)
            rw [List.length_cons] at this
            omega
          simp only at hn
          have hM:PSpec Tryd.prog 7 [.agg (enc .mb (atM c E[i].1)),.agg (enc .mb (atM a E[i].1)),.agg (enc .mb (atM b E[i].1))] (.tup [.agg (enc .mb (mrgD f (atM c E[i].1) (atM a E[i].1) (atM b E[i].1)).1),.rd .psteps (mrgD f (atM c E[i].1) (atM a E[i].1) (atM b E[i].1)).2]):=ih E[i].1 (by omega)
          generalize mrgD f (atM c E[i].1) (atM a E[i].1) (atM b E[i].1) = R at *
          generalize hX:clsV ((E.take i).map (stpD f c a b)) = X at *
          generalize hY:(tblV ((E.take i).map (stpD f c a b))).e = Y at *
          generalize hX1:clsV ((E.take (i + 1)).map (stpD f c a b)) = X1 at *
          generalize hY1:(tblV ((E.take (i + 1)).map (stpD f c a b))).e = Y1 at *
          refine Exists.intro [.blkE [0,1,2,3,4,5,6,7,8,9,10,11,12,13] [17] 16 4 [14,15,16,17] (.opt 14 (.opt 15 (.opt 16 (.opt 17 .fin .non) .non) (.opt 16 (.opt 15 (.opt 17 .fin .non) (.opt 17 (.opt 15 .fin .non) .non)) .non)) (.opt 15 (.opt 14 (.opt 16 (.opt 17 .fin .non) .non) (.opt 16 (.opt 14 (.opt 17 .fin .non) .non) .non)) (.opt 16 (.opt 14 (.opt 15 (.opt 17 .fin .non) (.opt 17 (.opt 15 .fin .non) .non)) (.opt 15 (.opt 14 (.opt 17 .fin .non) .non) .non)) .non))) (.opt 14 (.opt 15 (.opt 17 .fin .non) (.opt 17 (.opt 15 .fin .non) .non)) (.opt 15 (.opt 14 (.opt 17 .fin .non) .non) .non)),.one 18] (And.intro (by kernel_rfl) ?_)
          refine Exists.intro ⟨[(3,.pt 3 0),(4,.pt 4 0),(5,.pt 5 0),(6,.pt 6 0),(13,.pt 13 0),(14,.vec 14 .psteps (X)),(16,.pt 16 0),(17,.pt 17 0),(70,.rd .ent E),(71,.i .i64 E.length),(72,.i .i64 i),(91,.rd .psteps R.2)],[(3,enc .mb c),(4,enc .mb a),(5,enc .mb b),(6,[.b false,.i .i64 0,.i .i64 0,.i .u64 0,.s [],.nl,.nl]),(13,[.i .i64 6,.i .i64 0,.i .u64 0,.s [],.nl,.vec 102 .ent Y]),(16,enc .ent E[i]),(17,enc .mb R.1)]⟩ (And.intro ?_ ?_)
          · refine Exists.intro _ (And.intro ((s_rEntry c E[i].1)) ?_)
            refine Exists.intro _ (And.intro ((s_rEntry a E[i].1)) ?_)
            refine Exists.intro _ (And.intro ((s_rEntry b E[i].1)) ?_)
            refine Exists.intro _ (And.intro (hM) ?_)
            repeat' (first | exact trivial | refine And.intro ?_ ?_)
            all_goals (repeat' (first | exact trivial | exact Or.inl rfl | exact Or.inr (Or.inl ⟨rfl,_,rfl⟩) | exact Or.inr (Or.inr (Or.inr ⟨_,_,_,rfl,rfl⟩)) | refine And.intro ?_ ?_))
          refine And.intro (fun hI=>?_) (fun hI=>?_)
          · have hI:R.1.is = true:=hI
            rw [if_pos hI] at e4
            refine And.intro (show (Y.length + 1) * 104≤140737488355328 by omega) ?_
            have e6:Y++[(E[i].1,(⟨R.1.v.kind,R.1.v.n,R.1.v.f,R.1.v.s,R.1.v.l,R.1.v.e⟩:Val))] = Y1:=by rw [val_eta,e4]
            intro _
            have hi0:=hi
            refine Exists.intro [] (Exists.intro [] (Exists.intro [] (Exists.intro Nat (Exists.intro (fun j=>j≤R.2.length) (Exists.intro (fun j=>⟨[(3,.pt 3 0),(4,.pt 4 0),(5,.pt 5 0),(6,.pt 6 0),(13,.pt 13 0),(14,.vec 14 .psteps (X++(R.2.take j).map (⟨E[i].1,-1⟩::·))),(16,.pt 16 0),(70,.rd .ent E),(71,.i .i64 E.length),(72,.i .i64 i),(104,.rd .psteps R.2),(105,.i .i64 R.2.length),(106,.i .i64 j)],[(3,enc .mb c),(4,enc .mb a),(5,enc .mb b),(6,[.b false,.i .i64 0,.i .i64 0,.i .u64 0,.s [],.nl,.nl]),(13,[.i .i64 6,.i .i64 0,.i .u64 0,.s [],.nl,.vec 102 .ent Y1]),(16,enc .ent E[i])]⟩) (Exists.intro (fun j=>R.2.length - j) (Exists.intro 0 (And.intro (Nat.zero_le _) (And.intro ?_ ?_)))))))))
            · (repeat' (first | exact trivial | exact Or.inl rfl | exact Or.inl ((congrArg (AV.vec 14 .psteps) (List.append_nil _).symm)) | exact Or.inl ((congrArg (AV.vec 102 .ent) (e6))) | refine And.intro ?_ ?_))
            · rintro j hi
              refine And.intro (fun hz=>?_) (fun hz=>?_)
              · have hi:=ltD hz
                have hg:=getI (τ:=.psteps) hi
                refine And.intro ⟨by omega,by omega⟩ ?_
                rw [hg]
                have hy:=hyl _ (List.getElem_mem hi)
                have htl:(R.2.take j).length≤j:=by rw [List.length_take]; omega
                refine And.intro (show (1 + R.2[j].length) * 24≤140737488355328 by omega) ?_
                refine And.intro (mszB (by rw [List.length_append,List.length_map]; simp only [List.length_cons,List.length_nil]; omega) (Nat.le_of_ble_eq_true rfl)) ?_
                have e8:X++(R.2.take j).map (⟨E[i].1,-1⟩::·)++[⟨E[i].1,-1⟩::R.2[j]] = X++(R.2.take (j + 1)).map (⟨E[i].1,-1⟩::·):=by rw [take_snoc hi,List.map_append,List.append_assoc]; rfl
                (refine And.intro (rng64 (by omega) (by omega)) ?_)
                refine Exists.intro [(118,14)] (Exists.intro (j + 1) (And.intro hi (And.intro ?_ ?_)))
                · (repeat' (first | exact trivial | exact Or.inl rfl | exact Or.inl ((congrArg (AV.vec 14 .psteps) e8)) | refine And.intro ?_ ?_))
                · (exact Nat.sub_lt_sub_left (by omega) (by omega))
              · have hj:=geD hi hz
                have hi:=hi0
                (refine And.intro (rng64 (by omega) (by omega)) ?_)
                refine Exists.intro [] (Exists.intro (i + 1) (And.intro hi (And.intro ?_ ?_)))
                · (repeat' (first | exact trivial | exact Or.inl rfl | exact Or.inl ((congrArg (AV.vec 14 .psteps) ((show X++(R.2.take j).map (⟨E[i].1,-1⟩::·) = X1 by rw [hj,List.take_length,e3]).trans hX1.symm))) | exact Or.inl ((congrArg (AV.vec 102 .ent) hY1.symm)) | refine And.intro ?_ ?_))
                · (exact Nat.sub_lt_sub_left (by omega) (by omega))
          · have hI:¬ R.1.is = true:=by rw [show R.1.is = false from hI]; decide
            rw [if_neg hI,List.append_nil] at e4
            intro _
            have hi0:=hi
            refine Exists.intro [] (Exists.intro [] (Exists.intro [] (Exists.intro Nat (Exists.intro (fun j=>j≤R.2.length) (Exists.intro (fun j=>⟨[(3,.pt 3 0),(4,.pt 4 0),(5,.pt 5 0),(6,.pt 6 0),(13,.pt 13 0),(14,.vec 14 .psteps (X++(R.2.take j).map (⟨E[i].1,-1⟩::·))),(16,.pt 16 0),(70,.rd .ent E),(71,.i .i64 E.length),(72,.i .i64 i),(104,.rd .psteps R.2),(105,.i .i64 R.2.length),(106,.i .i64 j)],[(3,enc .mb c),(4,enc .mb a),(5,enc .mb b),(6,[.b false,.i .i64 0,.i .i64 0,.i .u64 0,.s [],.nl,.nl]),(13,[.i .i64 6,.i .i64 0,.i .u64 0,.s [],.nl,.vec 102 .ent Y1]),(16,enc .ent E[i])]⟩) (Exists.intro (fun j=>R.2.length - j) (Exists.intro 0 (And.intro (Nat.zero_le _) (And.intro ?_ ?_)))))))))
            · (repeat' (first | exact trivial | exact Or.inl rfl | exact Or.inl ((congrArg (AV.vec 14 .psteps) (List.append_nil _).symm)) | exact Or.inl ((congrArg (AV.vec 102 .ent) (e4.symm))) | refine And.intro ?_ ?_))
            · rintro j hi
              refine And.intro (fun hz=>?_) (fun hz=>?_)
              · have hi:=ltD hz
                have hg:=getI (τ:=.psteps) hi
                refine And.intro ⟨by omega,by omega⟩ ?_
                rw [hg]
                have hy:=hyl _ (List.getElem_mem hi)
                have htl:(R.2.take j).length≤j:=by rw [List.length_take]; omega
                refine And.intro (show (1 + R.2[j].length) * 24≤140737488355328 by omega) ?_
                refine And.intro (mszB (by rw [List.length_append,List.length_map]; simp only [List.length_cons,List.length_nil]; omega) (Nat.le_of_ble_eq_true rfl)) ?_
                have e8:X++(R.2.take j).map (⟨E[i].1,-1⟩::·)++[⟨E[i].1,-1⟩::R.2[j]] = X++(R.2.take (j + 1)).map (⟨E[i].1,-1⟩::·):=by rw [take_snoc hi,List.map_append,List.append_assoc]; rfl
                (refine And.intro (rng64 (by omega) (by omega)) ?_)
                refine Exists.intro [(118,14)] (Exists.intro (j + 1) (And.intro hi (And.intro ?_ ?_)))
                · (repeat' (first | exact trivial | exact Or.inl rfl | exact Or.inl ((congrArg (AV.vec 14 .psteps) e8)) | refine And.intro ?_ ?_))
                · (exact Nat.sub_lt_sub_left (by omega) (by omega))
              · have hj:=geD hi hz
                have hi:=hi0
                (refine And.intro (rng64 (by omega) (by omega)) ?_)
                refine Exists.intro [] (Exists.intro (i + 1) (And.intro hi (And.intro ?_ ?_)))
                · (repeat' (first | exact trivial | exact Or.inl rfl | exact Or.inl ((congrArg (AV.vec 14 .psteps) ((show X++(R.2.take j).map (⟨E[i].1,-1⟩::·) = X1 by rw [hj,List.take_length,e3]).trans hX1.symm))) | exact Or.inl ((congrArg (AV.vec 102 .ent) hY1.symm)) | refine And.intro ?_ ?_))
                · (exact Nat.sub_lt_sub_left (by omega) (by omega))
        · (have hi:=geD hi hz)
          subst hi
          rw [List.take_length]
          (repeat' (first | (refine And.intro (fun h=>?_) (fun h=>?_)<;>(try simp [-List.getD_eq_getElem?_getD,-Int.pred_toNat] at h)<;>(try (exfalso; first | omega | contradiction))) | (refine And.intro (rng64 (by omega) (by omega)) ?_) | (refine And.intro ⟨by omega,by omega⟩ ?_) | (refine And.intro ⟨by omega,by omega,by omega⟩ ?_) | (intro _)))
          (repeat' (first | exact trivial | exact Or.inl rfl | exact Or.inr ⟨rfl,_,rfl⟩ | refine And.intro ?_ ?_))
theorem s_mrgR (f:Nat) (hf:f≤10000000) (c a b:MbR) (hc:MbOK c) (ha:MbOK a) (hb:MbOK b) (hbk:bkM c + bkM a + bkM b≤10000000) (hn:(mrgD (f + 1) c a b).2.length≤1000000000) (hl:∀ y ∈ (mrgD (f + 1) c a b).2,y.length≤f + 1) (ih:tabM c = true→tabM a = true→tabM b = true→∀ (k:Str),(mrgD f (atM c k) (atM a k) (atM b k)).2.length≤1000000000→PSpec Tryd.prog 7 [.agg (enc .mb (atM c k)),.agg (enc .mb (atM a k)),.agg (enc .mb (atM b k))] (mrgA (mrgD f (atM c k) (atM a k) (atM b k)))):PSpec Tryd.prog 7 [.agg (enc .mb c),.agg (enc .mb a),.agg (enc .mb b)] (mrgA (mrgD (f + 1) c a b)) :=
  pspec_of_vcL Γ_good Tryd.func7 rfl Tryd.call7 Tryd.results7 Tryd.ntmps7 (Nat.le_of_ble_eq_true rfl) (w_mrgR f hf c a b hc ha hb hbk hn hl ih)
end
end Go.Proofs.YtjbngfnpddhjpaaDoor
end
section
namespace Go.Mer
set_option linter.unusedSectionVars false
set_option linter.unusedSimpArgs false
set_option linter.unusedVariables false
open Go Go.SX Go.Vl Go.Ut Go.Ck Go.Up
set_option maxRecDepth 100000
theorem sum_cons3 (f g h:Str→Nat) (q:Str→Nat):∀ l:List Str,(∀ k ∈ l,q k≤f k + g k + h k)→(l.map q).sum≤(l.map f).sum + (l.map g).sum + (l.map h).sum
  | [],_=>Nat.le_refl _
  | k::l,hh=>by
    have h1:=hh k (.head _)
    have h2:=sum_cons3 f g h q l fun x hx=>hh x (.tail _ hx)
    simp only [List.map_cons,List.sum_cons]
    omega
theorem cls_len:∀ rs:List (Str × MbR × List (List PStep)),(clsV rs).length = (rs.map fun r=>r.2.2.length).sum
  | []=>rfl
  | r::rs=>by
    have ih:=cls_len rs
    unfold clsV at ih ⊢
    rw [List.flatMap_cons,List.length_append,List.length_map,ih,List.map_cons,List.sum_cons]
theorem bkM_atE (m:MbR) (k:Str):bkM (atM m k)≤atE m.v.e k:=by
  have:=atM_bk m k
  omega
theorem mrg_cls:∀ (f:Nat) (c a b:MbR),(mrg f c a b).2.length≤bkM c + bkM a + bkM b
  | 0,c,a,b=>by rw [mrg]; exact Nat.zero_le _
  | f + 1,c,a,b=>by
    rw [mrg]
    split
    · exact Nat.zero_le _
    rename_i h1
    split
    · exact Nat.zero_le _
    split
    · have hq : sameM a b = false := by
        cases h:sameM a b
        · rfl
        · rw [h] at h1; exact absurd rfl h1
      show 1≤_
      unfold bkM
      have pa:=bkV_pos a.v
      have pb:=bkV_pos b.v
      by_cases ea:a.is = true
      · rw [if_pos ea]; omega
      · by_cases eb:b.is = true
        · rw [if_pos eb]; omega
        · unfold sameM at hq
          rw [Bool.eq_false_iff.2 ea,Bool.eq_false_iff.2 eb] at hq
          exact absurd (show (true && true) = false from hq) (by decide)
    · rename_i h3
      have ht:tabM c = true∧tabM a = true∧tabM b = true:=by
        cases hc:tabM c<;>cases ha:tabM a<;>cases hb:tabM b<;>rw [hc,ha,hb] at h3<;>first | exact ⟨rfl,rfl,rfl⟩ | exact absurd rfl h3
      have hi:∀ m:MbR,tabM m = true→(m.v.e.map bkP).sum≤bkM m:=fun m h=>by
        unfold tabM at h
        rw [Bool.and_eq_true] at h
        unfold bkM
        rw [if_pos h.1,bkV_eq]
        omega
      have i1:=hi c ht.1
      have i2:=hi a ht.2.1
      have i3:=hi b ht.2.2
      have hn:=asc_nodup (ks_asc (allK [c,a,b]))
      generalize ksOf (allK [c,a,b]) = ks at *
      have s1:=atE_sum ks hn c.v.e
      have s2:=atE_sum ks hn a.v.e
      have s3:=atE_sum ks hn b.v.e
      show (clsV _).length≤_
      rw [cls_len,List.map_map]
      have:=sum_cons3 (atE c.v.e) (atE a.v.e) (atE b.v.e) ((fun r:Str × MbR × List (List PStep)=>r.2.2.length) ∘ fun k=>(k,mrg f (atM c k) (atM a k) (atM b k))) ks fun k _=>by
        have h:=mrg_cls f (atM c k) (atM a k) (atM b k)
        have a1:=bkM_atE c k
        have a2:=bkM_atE a k
        have a3:=bkM_atE b k
        show (mrg f (atM c k) (atM a k) (atM b k)).2.length≤_
        omega
      omega
theorem mrg_deep:∀ (f:Nat) (c a b:MbR),∀ y ∈ (mrg f c a b).2,y.length≤f
  | 0,c,a,b,y,h=>by rw [mrg] at h; cases h
  | f + 1,c,a,b,y,h=>by
    rw [mrg] at h
    split at h
    · cases h
    split at h
    · cases h
    split at h
    · rw [List.mem_singleton.1 h]; exact Nat.zero_le _
    · obtain ⟨r,hr,hy⟩:=List.mem_flatMap.1 h
      obtain ⟨k,_,rfl⟩:=List.mem_map.1 hr
      obtain ⟨z,hz,rfl⟩:=List.mem_map.1 hy
      have:=mrg_deep f _ _ _ z hz
      rw [List.length_cons]
      omega
/-! ### the whole -/
def chk1 (a:Val):Int:=(chkV a 0 0).1
def badV:List Val→Int
  | []=>0
  | a::r=>if chk1 a≠0 then chk1 a else badV r
def mergeV (c a b:Val):Val × List (List PStep) × Int :=
  if badV [c,a,b]≠0 then (zeroV,[],badV [c,a,b]) else
    if 0 < (mrg (bkV a + 1) ⟨true,c⟩ ⟨true,a⟩ ⟨true,b⟩).2.length then (zeroV,(mrg (bkV a + 1) ⟨true,c⟩ ⟨true,a⟩ ⟨true,b⟩).2,13)
    else if chk1 (mrg (bkV a + 1) ⟨true,c⟩ ⟨true,a⟩ ⟨true,b⟩).1.v≠0 then (zeroV,[],chk1 (mrg (bkV a + 1) ⟨true,c⟩ ⟨true,a⟩ ⟨true,b⟩).1.v)
    else ((mrg (bkV a + 1) ⟨true,c⟩ ⟨true,a⟩ ⟨true,b⟩).1.v,[],0)
theorem bkM_v {v:Val}:bkM ⟨true,v⟩ = bkV v:=if_pos rfl
theorem mrg_top (c a b : Val) (hc : VB c) (ha : VB a) (hb : VB b) : VB (mrg (bkV a + 1) ⟨true, c⟩ ⟨true, a⟩ ⟨true, b⟩).1.v ∧ (mrg (bkV a + 1) ⟨true, c⟩ ⟨true, a⟩ ⟨true, b⟩).2.length ≤ bkV c + bkV a + bkV b ∧
    bkM (mrg (bkV a + 1) ⟨true,c⟩ ⟨true,a⟩ ⟨true,b⟩).1≤bkV c + bkV a + bkV b:=by
  refine ⟨mrg_vb _ _ _ _ hc ha hb,?_,?_⟩
  · have:=mrg_cls (bkV a + 1) ⟨true,c⟩ ⟨true,a⟩ ⟨true,b⟩
    rw [bkM_v,bkM_v,bkM_v] at this
    exact this
  · have:=mrg_bk (bkV a + 1) ⟨true,c⟩ ⟨true,a⟩ ⟨true,b⟩
    rw [bkM_v,bkM_v,bkM_v] at this
    exact this
theorem mrg_there:∀ (f:Nat) (c a b:Val),(mrg f ⟨true,c⟩ ⟨true,a⟩ ⟨true,b⟩).1.is = true
  | 0,_,_,_=>by rw [mrg]
  | f + 1,c,a,b=>by
    rw [mrg]
    split
    · rfl
    split
    · rfl
    split
    · rfl
    · rfl
end Go.Mer
end
