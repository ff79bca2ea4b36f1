/-
  A part of a proof: plain laws and walks, one after the other. No conditions.
-/
import Derived.Test.YtiijpgmpnijidaaGreatDoorSe1
import Derived.Lib.ConvBytes
import Derived.Laws.IdiomStrings
import Derived.Lib.QuoteLoop
import Derived.Lib.TrimUEq
import Derived.Laws.AppendOwn
import Derived.IntWalk
import Derived.Lib.OthersKept
import Derived.MapKept
set_option linter.constructorNameAsVariable false
set_option linter.unusedVariables false
set_option linter.unusedSimpArgs false
set_option linter.unusedSectionVars false
section
namespace Go.SX
variable [Globs]
/-! ### lists -/
theorem ox {α : Type} {l m : List α} {p : Nat} (h : p + m.length<=l.length) (k : Nat) :
  (l.take p++m++l.drop (p + m.length))[k]? = if p<=k/\k < p + m.length then m[k - p]? else l[k]?:=by
 have hl:(l.take p).length = p:=by simp; omega
 by_cases h1:k < p
 ·rw [List.append_assoc,List.getElem?_append_left (by omega),List.getElem?_take,if_pos h1,if_neg (by omega)]
 ·by_cases h2:k < p + m.length
  ·rw [if_pos ⟨by omega,h2⟩,List.append_assoc,List.getElem?_append_right (by omega),hl,List.getElem?_append_left (by omega)]
  ·rw [if_neg (by omega),List.getElem?_append_right (by simp; omega),List.getElem?_drop]
   congr 1
   simp
   omega
theorem C1 {α:Type} (m:List α):∀ (l:List α) (p:Nat),p + m.length<=l.length->nD l p m = l.take p++m++l.drop (p + m.length):=by
 intro l
 induction l with
 | nil=>intro p h; cases p<;>simp_all [nD]
 | cons a r ih =>
  intro p h
  cases p with
  | zero=>simp [nD]
  | succ p =>
   simp only [nD]
   rw [ih p (by simp at h; omega)]
   simp [show p + 1 + m.length = p + m.length + 1 by omega]
theorem eV.get {a b:List AV} (h:eV a b) {j:Nat} {e:AV} (he:b[j]? = some e):∃ c,a[j]? = some c/\vJ c e:=by
 induction a generalizing b j with
 | nil=>cases b with
  | nil=>simp at he
  | cons _ _=>exact h.elim
 | cons z r ih=>cases b with
  | nil=>exact h.elim
  | cons y t =>
   cases j with
   | zero=>simp at he; subst he; exact ⟨z,rfl,h.1⟩
   | succ j=>exact ih h.2 (by simpa using he)

section
variable {P:Program} {N:Nat} {Γ:Ctx} {W0:World} {F:Fr} {X:Nat->Prop} {s:St} {β:Nat->Option Nat} {a:Act} {w:World}

def mQ (τ:Ty) (off:Nat) (cs:List AV) (x:den τ):Option (den τ):=dec τ (nD (enc τ x) off cs)
theorem aU.BB {O : Nat -> Prop} {w' : World} {id : Nat} {τ : Ty} {l : List (den τ)} {v : Value} (h : aU β O w id τ l v) {g : Nat} {cur : Array Value} {e : TypeId} (hg : β id = some g)
  (hh:w.heap[g]? = some (.cells cur e (0,0))) {n off:Nat} {cs:List AV} {us:List Value} (Ct:off + cs.length<=aX τ) (cZ:All2 (Im O w) cs us) (tS:n * aX τ + off + us.length<=cur.size)
  (Ul:w'.heap[g]? = some (.cells (cur.toList.take (n * aX τ + off)++us++cur.toList.drop (n * aX τ + off + us.length)).toArray e (0,0))) {x':den τ} (hx:mQ τ off cs (l.getD n (aD τ)) = some x')
  (lP:∀ av u,Im O w av u->Im O w' av u):aU β O w' id τ (l.set n x') v:=by
 rcases h with ⟨_,_,h3⟩ | ⟨g',c,cur',e',h1,h2,h3,h4,h5,h6,h7⟩
 ·rw [hg] at h3; cases h3
 rw [hg] at h1; injection h1 with h1; subst h1
 rw [hh] at h3; injection h3 with h3; injection h3 with h3 TR; subst h3 TR
 have Zl:us.length<=cur.toList.length:=by simp; omega
 have x9:=ox (l:=cur.toList) (m:=us) (p:=n * aX τ + off) (by simpa using tS)
 refine .inr ⟨g,c,_,e,hg,by simpa using h2,Ul,by simpa using h4,h5,?_,fun i x j av hi hj=>?_⟩
 ·simp
  rw [<- h6]
  omega
 ·have V1:j < aX τ:=by rw [<- eh τ x]; exact (List.getElem?_eq_some_iff.1 hj).1
  simp only [List.getElem?_toArray,x9]
  by_cases ix:i = n
  ·subst ix
   have YP:i < l.length:=by
    have:=(List.getElem?_eq_some_iff.1 hi).1
    simpa using this
   rw [List.getElem?_set_self YP] at hi
   injection hi with hi
   subst hi
   have hle:=lj hx
   obtain ⟨c0,sn,Uu⟩:=hle.get hj
   rw [C1 cs _ off (by rw [eh]; exact Ct),ox (by rw [eh]; exact Ct)] at sn
   by_cases YS:off<=j/\j < off + cs.length
   ·rw [if_pos YS] at sn
    rw [if_pos ⟨by omega,by rw [<- cZ.1]; omega⟩]
    have hlt:j - off < us.length:=by rw [<- cZ.1]; omega
    rw [show i * aX τ + j - (i * aX τ + off) = j - off by omega,List.getElem?_eq_getElem hlt]
    exact ⟨_,rfl,lP _ _ (D0 (cZ.2 _ _ _ sn (List.getElem?_eq_getElem hlt)) Uu)⟩
   ·rw [if_neg YS] at sn
    rw [if_neg (by rw [<- cZ.1]; omega)]
    have hl:l[i]? = some (l.getD i (aD τ)):=by rw [List.getD_eq_getElem?_getD,List.getElem?_eq_getElem YP]; rfl
    obtain ⟨u,hu,dw⟩:=h7 i _ j c0 hl sn
    exact ⟨u,by simpa using hu,lP _ _ (D0 dw Uu)⟩
  ·rw [List.getElem?_set_ne (fun e=>ix e.symm)] at hi
   obtain ⟨u,hu,dw⟩:=h7 i x j av hi hj
   rw [if_neg ?_]
   ·exact ⟨u,by simpa using hu,lP _ _ dw⟩
   ·rw [<- cZ.1]
    intro ⟨h8,h9⟩
    rcases Nat.lt_or_gt_of_ne ix with gQ | gQ
    ·have:(i + 1) * aX τ<=n * aX τ:=Nat.mul_le_mul_right _ gQ
     rw [Nat.add_mul] at this
     omega
    ·have:(n + 1) * aX τ<=i * aX τ:=Nat.mul_le_mul_right _ gQ
     rw [Nat.add_mul] at this
     omega

def qX (id i i2 n off:Nat) (τ:Ty) (cs:List AV):Ob->AV
 | .vw σ l x y => bif Nat.beq i id then (bif Nat.beq i2 id then (bif decide (σ = τ) then (match mQ σ off cs (l.getD n (aD σ)) with
   | some z=>.ob i i2 (.vw σ (l.set n z) x y)
   | none=>.x) else .x) else .x) else .x
 | .gr L k row => bif Nat.beq i id then .x else (bif decide (τ = .int) then (match mQ .int off cs (row.getD n (aD .int)) with
   | some z=>.ob i i2 (.gr L k (row.set n z))
   | none=>.x) else .x)
 | _=>.x
def ir (id n off:Nat) (τ:Ty) (cs:List AV):AV->AV
 | .vec i σ l => bif Nat.beq i id then (bif decide (σ = τ) then (match mQ σ off cs (l.getD n (aD σ)) with
   | some x=>.vec i σ (l.set n x)
   | none=>.x) else .x) else .vec i σ l
 | .vs i σ l k => bif Nat.beq i id then (bif decide (σ = τ) then (match mQ σ off cs (l.getD n (aD σ)) with
   | some x=>.vs i σ (l.set n x) k
   | none=>.x) else .x) else .vs i σ l k
 | .vp i σ l m o => bif Nat.beq i id then (bif decide (σ = τ) then (match mQ σ off cs (l.getD n (aD σ)) with
   | some x=>.vp i σ (l.set n x) m o
   | none=>.x) else .x) else .vp i σ l m o
 | .fn f ak=>bif cr id (ak.flatMap aw) then .x else .fn f ak
 | .bc l=>bif cr id (l.flatMap aw) then .x else .bc l
 | .ag k l=>bif cr id (l.flatMap aw) then .x else .ag k l
 | .ob i i2 o=>bif cr id [i,i2] then qX id i i2 n off τ cs o else .ob i i2 o
 | v=>v
def AY {α:Type}:Option α->(α->Prop)->Prop->Prop
 | some x,K,_=>K x
 | none,_,H=>H
def EL (id i i2 n off:Nat) (τ:Ty) (cs:List AV):Ob->(AV->Prop)->Prop
 | .vw σ l x y,K=>bif Nat.beq i id then (bif Nat.beq i2 id then (bif decide (σ = τ) then AY (mQ σ off cs (l.getD n (aD σ))) (fun z=>K (.ob i i2 (.vw σ (l.set n z) x y))) (K .x) else K .x) else K .x) else K .x
 | .gr L k row,K=>bif Nat.beq i id then K .x else (bif decide (τ = .int) then AY (mQ .int off cs (row.getD n (aD .int))) (fun z=>K (.ob i i2 (.gr L k (row.set n z)))) (K .x) else K .x)
 | _,K=>K .x
theorem KW (id i i2 n off:Nat) (τ:Ty) (cs:List AV) (o:Ob) (K:AV->Prop):EL id i i2 n off τ cs o K = K (qX id i i2 n off τ cs o):=by
 cases o with
 | vw σ l x y =>
  simp only [EL,qX]
  cases Nat.beq i id<;>cases Nat.beq i2 id<;>cases decide (σ = τ)<;>(try rfl)
  simp only [cond_true]
  cases mQ σ off cs (l.getD n (aD σ))<;>rfl
 | gr L k row =>
  simp only [EL,qX]
  cases Nat.beq i id<;>cases decide (τ = .int)<;>(try rfl)
  simp only [cond_true,cond_false]
  cases mQ .int off cs (row.getD n (aD .int))<;>rfl
 | _=>rfl
theorem KX (id i i2 n off:Nat) (τ:Ty) (cs:List AV) (o:Ob) (m:Nat) (h:m ∈ ids (qX id i i2 n off τ cs o)):m ∈ ids (.ob i i2 o):=by
 cases o with
 | vw σ l x y =>
  simp only [qX] at h
  cases h1:Nat.beq i id<;>cases h2:Nat.beq i2 id<;>cases h3:decide (σ = τ)<;>simp only [h1,h2,h3,cond_true,cond_false] at h<;>(try exact h)<;>(try (simp [ids,aw] at h; done))
  split at h
  ·exact h
  ·simp [ids,aw] at h
 | gr L k row =>
  simp only [qX] at h
  cases h1:Nat.beq i id<;>cases h3:decide (τ = .int)<;>simp only [h1,h3,cond_true,cond_false] at h<;>(try exact h)<;>(try (simp [ids,aw] at h; done))
  split at h
  ·exact h
  ·simp [ids,aw] at h
 | _=>simp [qX,ids,aw] at h
def nT (id n off:Nat) (τ:Ty) (cs:List AV):AV->(AV->Prop)->Prop
 | .vec i σ l,K=>bif Nat.beq i id then (bif decide (σ = τ) then AY (mQ σ off cs (l.getD n (aD σ))) (fun x=>K (.vec i σ (l.set n x))) (K .x) else K .x) else K (.vec i σ l)
 | .vs i σ l k,K=>bif Nat.beq i id then (bif decide (σ = τ) then AY (mQ σ off cs (l.getD n (aD σ))) (fun x=>K (.vs i σ (l.set n x) k)) (K .x) else K .x) else K (.vs i σ l k)
 | .vp i σ l m o,K=>bif Nat.beq i id then (bif decide (σ = τ) then AY (mQ σ off cs (l.getD n (aD σ))) (fun x=>K (.vp i σ (l.set n x) m o)) (K .x) else K .x) else K (.vp i σ l m o)
 | .fn f ak,K=>bif cr id (ak.flatMap aw) then K .x else K (.fn f ak)
 | .bc l,K=>bif cr id (l.flatMap aw) then K .x else K (.bc l)
 | .ag k l,K=>bif cr id (l.flatMap aw) then K .x else K (.ag k l)
 | .ob i i2 o,K=>bif cr id [i,i2] then EL id i i2 n off τ cs o K else K (.ob i i2 o)
 | v,K=>K v
theorem BF (id n off:Nat) (τ:Ty) (cs:List AV) (v:AV) (K:AV->Prop):nT id n off τ cs v K = K (ir id n off τ cs v):=by
 cases v with
 | vec i σ l =>
  simp only [nT,ir]
  cases Nat.beq i id<;>cases decide (σ = τ)<;>(try rfl)
  simp only [cond_true]
  cases mQ σ off cs (l.getD n (aD σ))<;>rfl
 | vs i σ l k =>
  simp only [nT,ir]
  cases Nat.beq i id<;>cases decide (σ = τ)<;>(try rfl)
  simp only [cond_true]
  cases mQ σ off cs (l.getD n (aD σ))<;>rfl
 | vp i σ l m o =>
  simp only [nT,ir]
  cases Nat.beq i id<;>cases decide (σ = τ)<;>(try rfl)
  simp only [cond_true]
  cases mQ σ off cs (l.getD n (aD σ))<;>rfl
 | fn f ak=>simp only [nT,ir]; cases cr id (ak.flatMap aw)<;>rfl
 | bc l=>simp only [nT,ir]; cases cr id (l.flatMap aw)<;>rfl
 | ag k l=>simp only [nT,ir]; cases cr id (l.flatMap aw)<;>rfl
 | ob i i2 o =>
  simp only [nT,ir]
  cases cr id [i,i2] with
  | true=>exact KW ..
  | false=>rfl
 | _=>rfl
theorem KV (id n off:Nat) (τ:Ty) (cs:List AV) (av:AV) (m:Nat) (h:m ∈ ids (ir id n off τ cs av)):m ∈ ids av:=by
 cases av with
 | vec i σ l =>
  simp only [ir] at h
  cases h1:Nat.beq i id<;>cases h2:decide (σ = τ)<;>simp only [h1,h2,cond_true,cond_false] at h<;>(try exact h)<;>(try (simp [ids,aw] at h; done))
  split at h
  ·exact h
  ·simp [ids,aw] at h
 | vs i σ l k =>
  simp only [ir] at h
  cases h1:Nat.beq i id<;>cases h2:decide (σ = τ)<;>simp only [h1,h2,cond_true,cond_false] at h<;>(try exact h)<;>(try (simp [ids,aw] at h; done))
  split at h
  ·exact h
  ·simp [ids,aw] at h
 | vp i σ l k o =>
  simp only [ir] at h
  cases h1:Nat.beq i id<;>cases h2:decide (σ = τ)<;>simp only [h1,h2,cond_true,cond_false] at h<;>(try exact h)<;>(try (simp [ids,aw] at h; done))
  split at h
  ·exact h
  ·simp [ids,aw] at h
 | fn f ak=>simp only [ir] at h; cases h1:cr id (ak.flatMap aw)<;>simp only [h1,cond_true,cond_false] at h<;>first | exact h | simp [ids,aw] at h
 | bc ak=>simp only [ir] at h; cases h1:cr id (ak.flatMap aw)<;>simp only [h1,cond_true,cond_false] at h<;>first | exact h | simp [ids,aw] at h
 | ag k ak=>simp only [ir] at h; cases h1:cr id (ak.flatMap aw)<;>simp only [h1,cond_true,cond_false] at h<;>first | exact h | simp [ids,aw] at h
 | ob i i2 o=>simp only [ir] at h; cases h1:cr id [i,i2]<;>simp only [h1,cond_true,cond_false] at h<;>first | exact h | exact KX _ _ _ _ _ _ _ _ _ h
 | _=>exact h

theorem ao.BB (h : ao W0 F X N s β a w) {id g : Nat} (hN : Nm s id) (hg : β id = some g) {w' : World} (hst : ca (fun k => k = g) w w') (f : AV -> AV) (YM : f .x = .x)
  (hf:∀ av v,(∀ n ∈ ids av,Nm s n)->Rel β (Own X s β) w av v->Rel β (Own X s β) w' (f av) v) (bt:∀ av m,m ∈ ids (f av)->m ∈ ids av\/Nm s m) :
  ao W0 F X N ((s.map f).bj id) β a w':=by
 have qu:∀ n cs,ax ((s.map f).bj id).boxes n = some cs->n≠id/\∃ cs',ax s.boxes n = some cs'/\cs = cs'.map f:=by
  intro n cs hc
  simp only [St.bj,St.map,bV,aV] at hc
  split at hc
  ·cases hc
  ·rename_i da
   obtain ⟨cs',h1,rfl⟩:=Option.map_eq_some_iff.1 hc
   exact ⟨fun e=>da e.symm,cs',h1,bz _ _⟩
 have bP:∀ n,Nm ((s.map f).bj id) n->Nm s n:=by
  rintro n (⟨cs,h⟩ | ⟨m,h⟩ | ⟨b,cs,h,c,hc,hn⟩)
  ·obtain ⟨_,cs',h1,_⟩:=qu _ _ h
   exact .inl ⟨cs',h1⟩
  ·simp only [St.bj,St.map,bH f YM] at h
   exact (bt _ _ h).elim (fun h=>.inr (.inl ⟨m,h⟩)) (fun h=>h)
  ·obtain ⟨_,cs',h1,rfl⟩:=qu _ _ h
   obtain ⟨c',dv,rfl⟩:=List.mem_map.1 hc
   exact (bt _ _ hn).elim (fun hn=>.inr (.inr ⟨b,cs',h1,c',dv,hn⟩)) (fun h=>h)
 have hO:∀ k,Own X ((s.map f).bj id) β k->Own X s β k:=fun k hk=>hk.imp _root_.id fun ⟨n,hn,hb⟩=>⟨n,bP n hn,hb⟩
 refine h.yS hst (fun k _ e=>⟨id,hN,e ▸ hg⟩) (fun n=>?_) (fun n cs cZ=>?_) (fun n m g hn hm=>h.inj n m g (bP n hn) (bP m hm)) (fun n g' hn kL=>?_) rfl rfl (fun n cs g' hc hp=>by
  obtain ⟨_,cs',h1,_⟩:=qu _ _ hc
  exact h.fP n cs' g' h1 hp)
 ·simp only [St.bj,St.map,bH f YM]
  exact (hf _ _ (fun k hk=>.inr (.inl ⟨n,hk⟩)) (h.aj n)).mono hO
 ·obtain ⟨da,cs',h1,rfl⟩:=qu _ _ cZ
  obtain ⟨g',us,e,h2,h3,h4⟩:=h.boxes n cs' h1
  have Mt:Nm s n:=.inl ⟨cs',h1⟩
  refine ⟨g',us,e,h2,(hst.block g' (h.own n g' Mt h2).1 (fun e=>da ?_)).trans h3,by simpa using h4.1,fun j c v hc hv=>?_⟩
  ·subst e; exact h.inj n id g' Mt hN h2 hg
  ·rw [List.getElem?_map,Option.map_eq_some_iff] at hc
   obtain ⟨c',dv,rfl⟩:=hc
   exact ⟨(hf _ _ (fun k hk=>.inr (.inr ⟨n,cs',h1,c',List.mem_of_getElem? dv,hk⟩)) (h4.2 j c' v dv hv).1).mono hO,(h4.2 j c' v dv hv).2⟩
 ·obtain ⟨h1,h2⟩:=h.own n g' (bP n hn) kL
  exact ⟨Nat.lt_of_lt_of_le h1 hst.size,h2⟩

def vq (s:St) (id:Nat) (τ:Ty) (n off cells:Nat) (v:AV) (K:St->Prop):Prop :=
 l7 v fun cs=>aC (Nat.beq cs.length cells) (aC (Nat.ble (off + cells) (aX τ)) (cU cs fun cs =>
  mA (nT id n off τ cs) s.aj fun sl=>mz (nT id n off τ cs) s.boxes fun b=>mf b id fun b=>K ⟨sl,b⟩))
theorem C3 (hI : ao W0 F X N s β a w) {o : Oper} {t : TypeId} {x y : Operand} (ho : o.op = .store t x y) {ti : TI} (cw : ti.ok P t) {id n off : Nat} {τ : Ty} {l : List (den τ)}
  (hx:Rel β (Own X s β) w (.vp id τ l n off) (a.eval x)) (bP:Nm s id) {v:AV}
  (hy:Rel β (Own X s β) w v (a.eval y)) (bt:∀ n ∈ ids v,Nm s n) {K:St->Prop} (h:vq s id τ n off ti.cells v K) :
  ∃ s' w',K s'/\ao W0 F X N s' β a w'/\(execOp a.eval o).run P w = .ok .skip w':=by
 obtain ⟨cs,h,h1,h2,h3⟩:=oY hy bt h
 simp only [af] at h
 obtain ⟨hc,Ct,h⟩:=h
 rw [ij,iE (BF id n off τ _),iD (BF id n off τ _),kH] at h
 have hc:=Nat.eq_of_beq_eq_true hc
 have Ct:=Nat.le_of_ble_eq_true Ct
 obtain ⟨h0,⟨g,hg,hp⟩,v',Iz⟩:=hx
 have X5:=Iz
 rcases X5 with ⟨rfl,_,_⟩ | ⟨g',c,cur,e,h4,h5,h6,h7,h8,h9,gQ⟩
 ·simp at h0
 rw [hg] at h4; injection h4 with h4; subst h4
 have sq:All2 (Im (Own X s β) w) (fH cs) (a.eval y).cells.toList:=nr (h1.mono fun _ _ _ _ h=>h.1)
 have hlen:cs.length = (a.eval y).cells.size:=by rw [h1.1]; simp
 have tS:n * aX τ + off + (a.eval y).cells.size<=cur.size:=by
  have:(n + 1) * aX τ<=c * aX τ:=Nat.mul_le_mul_right _ (by omega)
  rw [Nat.add_mul] at this
  omega
 have bu:=lK (w:=w) cw h6 (off:=n * aX τ + off) (v:=a.eval y) (by rw [<- hlen]; exact hc) tS h3
 have hst:=ca.setRow w g (cur.toList.take (n * aX τ + off)++(a.eval y).cells.toList++cur.toList.drop (n * aX τ + off + (a.eval y).cells.size)).toArray
 have Ul:=setRow_heap w g cur (cur.toList.take (n * aX τ + off)++(a.eval y).cells.toList++cur.toList.drop (n * aX τ + off + (a.eval y).cells.size)).toArray e _ h6
 have TZ:∀ k,k < w.heap.size->k = g->Own X s β k:=fun k _ e=>.inr ⟨id,bP,e ▸ hg⟩
 have DT:∀ av u,Im (Own X s β) w av u->Im (Own X s β) (w.setRow g (cur.toList.take (n * aX τ + off)++(a.eval y).cells.toList++cur.toList.drop (n * aX τ + off + (a.eval y).cells.size)).toArray) av u :=
  fun av u dw=>dw.step hst TZ (fun _ _ h=>h)
 have As : ∀ {m : List (den τ)} {u : Value} {x' : den τ}, aU β (Own X s β) w id τ m u -> mQ τ off (fH cs) (m.getD n (aD τ)) = some x' ->
   aU β (Own X s β) (w.setRow g (cur.toList.take (n * aX τ + off)++(a.eval y).cells.toList++cur.toList.drop (n * aX τ + off + (a.eval y).cells.size)).toArray) id τ (m.set n x') u:=fun hv hx =>
  hv.BB hg h6 (us:=(a.eval y).cells.toList) (by rw [sq.1]; simp; omega) sq (by simpa using tS) (by simpa using Ul) hx DT
 have ea : ∀ {av : AV} {v : Value}, (∀ k ∈ ids av, Nm s k) -> id ∉ dT av -> Rel β (Own X s β) w av v ->
   Rel β (Own X s β) (w.setRow g (cur.toList.take (n * aX τ + off)++(a.eval y).cells.toList++cur.toList.drop (n * aX τ + off + (a.eval y).cells.size)).toArray) av v:=fun ck UE ba =>
  ba.step hst TZ (fun _ _ h=>h) (fun _ _=>rfl) (fun m hm g' kL=>hst.block g' (hI.own m g' (ck m (cN hm)) kL).1 (fun e=>UE (by
   subst e; rw [hI.inj id m g' bP (ck m (cN hm)) hg kL]; exact hm)))
 refine ⟨_,_,h,hI.BB (f:=ir id n off τ (fH cs)) bP hg hst rfl (fun av u ck ba=>?_) (fun av m h=>.inl (KV id n off τ _ av m h)),by simp [execOp,ho,hp,Instr.storeAt,Instr.sureAddr,bu]⟩
 cases av with
 | vec i σ m =>
  by_cases hi:i = id
  ·subst hi
   simp only [ir,Nat.beq_refl,cond_true]
   by_cases DZ:σ = τ
   ·subst DZ
    simp only [decide_true,cond_true]
    split
    ·rename_i x' MP; exact As ba MP
    ·exact Rel.x
   ·simp only [DZ,decide_false,cond_false]; exact Rel.x
  ·simp only [ir,dQ hi,cond_false]
   exact ea ck (by simp [dT,fp]; exact fun e=>hi e.symm) ba
 | vs i σ m k =>
  by_cases hi:i = id
  ·subst hi
   simp only [ir,Nat.beq_refl,cond_true]
   by_cases DZ:σ = τ
   ·subst DZ
    simp only [decide_true,cond_true]
    split
    ·rename_i x' MP
     obtain ⟨k0,k1,k2,k3⟩:=ba
     exact ⟨by simpa using k0,k1,As k2 MP,k3⟩
    ·exact Rel.x
   ·simp only [DZ,decide_false,cond_false]; exact Rel.x
  ·simp only [ir,dQ hi,cond_false]
   exact ea ck (by simp [dT,fp]; exact fun e=>hi e.symm) ba
 | vp i σ m k o' =>
  by_cases hi:i = id
  ·subst hi
   simp only [ir,Nat.beq_refl,cond_true]
   by_cases DZ:σ = τ
   ·subst DZ
    simp only [decide_true,cond_true]
    split
    ·rename_i x' MP
     obtain ⟨k0,k1,u',k2⟩:=ba
     exact ⟨by simpa using k0,k1,u',As k2 MP⟩
    ·exact Rel.x
   ·simp only [DZ,decide_false,cond_false]; exact Rel.x
  ·simp only [ir,dQ hi,cond_false]
   exact ea ck (by simp [dT,fp]; exact fun e=>hi e.symm) ba
 | fn f ak =>
  simp only [ir]
  cases ix:cr id (ak.flatMap aw) with
  | true=>exact Rel.x
  | false=>exact ea ck (fun hm=>by rw [(b7 id (ak.flatMap aw)).2 (cN hm)] at ix; cases ix) ba
 | bc ak =>
  simp only [ir]
  cases ix:cr id (ak.flatMap aw) with
  | true=>exact Rel.x
  | false=>exact ea ck (fun hm=>by rw [(b7 id (ak.flatMap aw)).2 (cN hm)] at ix; cases ix) ba
 | ag k ak =>
  simp only [ir]
  cases ix:cr id (ak.flatMap aw) with
  | true=>exact Rel.x
  | false=>exact ea ck (fun hm=>by rw [(b7 id (ak.flatMap aw)).2 (cN hm)] at ix; cases ix) ba
 | ob i i2 o =>
  simp only [ir]
  cases ix:cr id [i,i2] with
  | true =>
   cases o with
   | vw σ m x y =>
    by_cases hi:i = id
    ·subst hi
     by_cases Ai:i2 = i
     ·subst Ai
      simp only [qX,Nat.beq_refl,cond_true]
      by_cases DZ:σ = τ
      ·subst DZ
       simp only [decide_true,cond_true]
       split
       ·rename_i x' MP
        obtain ⟨g1,c1,k1,k2,k3,k4,k5,k6⟩:=(show fG β (Own X s β) w i2 i2 (.vw σ m x y) u from ba)
        exact ⟨g1,c1,k1,k2,k3,by simpa using k4,k5,by simpa using As k6 MP⟩
       ·exact Rel.x
      ·simp only [DZ,decide_false,cond_false]; exact Rel.x
     ·simp only [qX,Nat.beq_refl,cond_true,dQ Ai,cond_false]; exact Rel.x
    ·simp only [qX,dQ hi,cond_false]; exact Rel.x
   | gr L k row =>
    by_cases hi:i = id
    ·subst hi; simp only [qX,Nat.beq_refl,cond_true]; exact Rel.x
    ·simp only [qX,dQ hi,cond_false,cond_true]
     by_cases DZ:τ = .int
     ·subst DZ
      simp only [decide_true,cond_true]
      split
      ·rename_i x' MP
       have Ai:i2 = id:=by
        have:=(b7 id [i,i2]).1 ix
        simp only [List.mem_cons,List.not_mem_nil,or_false] at this
        exact (this.resolve_left fun e=>hi e.symm).symm
       subst Ai
       obtain ⟨g1,c1,cur1,e1,k1,k2,k3,k4,k5,k6,k7,k8⟩:=(show qe β (Own X s β) w i i2 L k row u from ba)
       have hgg:g1≠g:=fun e=>by subst e; exact hi (hI.inj i i2 g1 (ck i (by simp [ids,aw])) bP k1 hg)
       refine ⟨g1,c1,cur1,e1,k1,k2,(hst.block g1 (hI.own i g1 (ck i (by simp [ids,aw])) k1).1 hgg).trans k3,k4,k5,k6,fun j l hj da=>?_,fun hk=>?_⟩
       ·obtain ⟨y,hy,dw⟩:=k7 j l hj da
        exact ⟨y,hy,DT _ _ dw⟩
       ·obtain ⟨y,hy,hv⟩:=k8 hk
        exact ⟨y,hy,As hv MP⟩
      ·exact Rel.x
     ·simp only [DZ,decide_false,cond_false]; exact Rel.x
   | _=>exact Rel.x
  | false=>exact ea ck (fun hm=>by rw [(b7 id [i,i2]).2 hm] at ix; cases ix) ba
 | _=>exact ea ck (fun h=>nomatch h) ba

/-! ### a row of the call's own is put into an own slice of lists -/
def KS (id r n:Nat) (row:List Int):(σ:Ty)->List (den σ)->AV
 | .ints,l=>.ob id r (.gr l n row)
 | _,_=>.x
def oz (id r n:Nat) (row:List Int):AV->AV
 | .vec i σ l=>bif Nat.beq i id then KS id r n row σ l else .vec i σ l
 | v=>bif cr id (dT v) then .x else v
def Sk (id r n:Nat) (row:List Int):(σ:Ty)->List (den σ)->(AV->Prop)->Prop
 | .ints,l,K=>K (.ob id r (.gr l n row))
 | _,_,K=>K .x
def nS (id r n:Nat) (row:List Int):AV->(AV->Prop)->Prop
 | .vec i σ l,K=>bif Nat.beq i id then Sk id r n row σ l K else K (.vec i σ l)
 | v,K=>bif cr id (dT v) then K .x else K v
theorem BA (id r n:Nat) (row:List Int) (v:AV) (K:AV->Prop):nS id r n row v K = K (oz id r n row v):=by
 cases v with
 | vec i σ l =>
  simp only [nS,oz]
  cases Nat.beq i id with
  | true=>cases σ<;>rfl
  | false=>rfl
 | i k n=>rfl
 | b x=>rfl
 | s x=>rfl
 | nl=>rfl
 | rd τ l=>rfl
 | rp cs=>rfl
 | pt m o=>rfl
 | agg cs=>rfl
 | np=>rfl
 | er e=>rfl
 | x=>rfl
 | vp i τ l m o=>simp only [nS,oz]; cases cr id (dT (.vp i τ l m o))<;>rfl
 | bc cs=>simp only [nS,oz]; cases cr id (dT (.bc cs))<;>rfl
 | fn f cs=>simp only [nS,oz]; cases cr id (dT (.fn f cs))<;>rfl
 | vs i τ l k=>simp only [nS,oz]; cases cr id (dT (.vs i τ l k))<;>rfl
 | ag k cs=>simp only [nS,oz]; cases cr id (dT (.ag k cs))<;>rfl
 | ob i i2 o=>simp only [nS,oz]; cases cr id (dT (.ob i i2 o))<;>rfl
theorem KT (id r n:Nat) (row:List Int) (av:AV) (m:Nat) (h:m ∈ ids (oz id r n row av)):m ∈ ids av\/m = r:=by
 have gen:∀ v:AV,m ∈ ids (bif cr id (dT v) then .x else v)->m ∈ ids v:=fun v h=>by
  cases hb:cr id (dT v)<;>rw [hb] at h
  ·exact h
  ·simp [ids,aw] at h
 cases av with
 | vec i σ l =>
  simp only [oz] at h
  cases hb:Nat.beq i id<;>rw [hb] at h
  ·exact .inl h
  ·have:=Nat.eq_of_beq_eq_true hb
   subst this
   cases σ<;>first | (simp [KS,ids,aw] at h; done) | skip
   simp only [cond_true,KS,ids,aw,List.mem_cons,List.not_mem_nil,or_false] at h
   rcases h with rfl | rfl
   ·exact .inl (by simp [ids,aw])
   ·exact .inr rfl
 | _=>exact .inl (gen _ h)
def vo (s:St) (id r n:Nat) (row:List Int) (cells:Nat) (K:St->Prop):Prop :=
 aC (Nat.beq cells 1) (aC (!(Nat.beq id r)) (mA (nS id r n row) s.aj fun sl=>mz (nS id r n row) s.boxes fun b=>mf b id fun b=>K ⟨sl,b⟩))
theorem C2 (hI : ao W0 F X N s β a w) {o : Oper} {t : TypeId} {x y : Operand} (ho : o.op = .store t x y) {ti : TI} (cw : ti.ok P t) {id n r : Nat} {l : List (List Int)} {row : List Int}
  (hx:Rel β (Own X s β) w (.vp id .ints l n 0) (a.eval x)) (bP:Nm s id) (hy:Rel β (Own X s β) w (.vec r .int row) (a.eval y)) (Yy:Nm s r) {K:St->Prop} (h:vo s id r n row ti.cells K) :
  ∃ s' w',K s'/\ao W0 F X N s' β a w'/\(execOp a.eval o).run P w = .ok .skip w':=by
 obtain ⟨hc,h⟩:=(af _ _).1 h
 obtain ⟨da,h⟩:=(af _ _).1 h
 have da:id≠r:=fun e=>by subst e; rw [Nat.beq_refl] at da; cases da
 rw [iE (BA id r n row),iD (BA id r n row),kH] at h
 have hc:=Nat.eq_of_beq_eq_true hc
 obtain ⟨h0,⟨g,hg,hp⟩,v',Iz⟩:=hx
 have X5:=Iz
 rcases X5 with ⟨rfl,_,_⟩ | ⟨g',c,cur,e,h4,h5,h6,h7,h8,h9,gQ⟩
 ·simp at h0
 rw [hg] at h4; injection h4 with h4; subst h4
 have hv:aU β (Own X s β) w r .int row (a.eval y):=hy
 have Ib:(a.eval y).cells = #[a.eval y]/\(a.eval y).oneCell' = true:=by
  have hv1:=hv
  rcases hv1 with ⟨_,e,_⟩ | ⟨_,_,_,_,_,e,_⟩<;>rw [e]<;>exact ⟨rfl,rfl⟩
 have h9:cur.size = c:=by simpa [aX] using h9
 have tS:n * 1 + 0 + 1<=cur.size:=by omega
 have bu:=lK (w:=w) cw h6 (off:=n) (v:=a.eval y) (by rw [Ib.1]; simpa using hc.symm) (by rw [Ib.1]; simp; omega) (by rw [Ib.1]; intro z hz; simp at hz; subst hz; exact Ib.2)
 rw [Ib.1] at bu
 have hst:=ca.setRow w g (cur.toList.take n++[a.eval y]++cur.toList.drop (n + 1)).toArray
 have Ul:=setRow_heap w g cur (cur.toList.take n++[a.eval y]++cur.toList.drop (n + 1)).toArray e _ h6
 have TZ:∀ k,k < w.heap.size->k = g->Own X s β k:=fun k _ e=>.inr ⟨id,bP,e ▸ hg⟩
 have DT:∀ av u,Im (Own X s β) w av u->Im (Own X s β) (w.setRow g (cur.toList.take n++[a.eval y]++cur.toList.drop (n + 1)).toArray) av u :=
  fun av u dw=>dw.step hst TZ (fun _ _ h=>h)
 have ea : ∀ {av : AV} {v : Value}, (∀ k ∈ ids av, Nm s k) -> id ∉ dT av -> Rel β (Own X s β) w av v ->
   Rel β (Own X s β) (w.setRow g (cur.toList.take n++[a.eval y]++cur.toList.drop (n + 1)).toArray) av v:=fun ck UE ba =>
  ba.step hst TZ (fun _ _ h=>h) (fun _ _=>rfl) (fun m hm g' kL=>hst.block g' (hI.own m g' (ck m (cN hm)) kL).1 (fun e=>UE (by
   subst e; rw [hI.inj id m g' bP (ck m (cN hm)) hg kL]; exact hm)))
 have XU:aU β (Own X s β) (w.setRow g (cur.toList.take n++[a.eval y]++cur.toList.drop (n + 1)).toArray) r .int row (a.eval y) :=
  ea (av := .vec r .int row) (fun k hk => by have : k = r := by simpa [ids, aw] using hk
                                             subst this; exact Yy) (by simpa [dT,fp] using da) hv
 have x9:=ox (l:=cur.toList) (m:=[a.eval y]) (p:=n) (by simp; omega)
 refine ⟨_,_,h,hI.BB (f:=oz id r n row) bP hg hst rfl (fun av u ck ba=>?_) (fun av m h=>(KT id r n row av m h).imp_right fun (e:m = r)=>e ▸ Yy),by
  have hp:a.eval x = .pointer (some ⟨g,n,none⟩):=by simpa [aX] using hp
  simp only [execOp,ho,hp,Instr.storeAt,Instr.sureAddr]
  simp [bu]⟩
 have gen:∀ v:AV,v = av->oz id r n row v = (bif cr id (dT v) then .x else v)->Rel β (Own X s β) (w.setRow g (cur.toList.take n++[a.eval y]++cur.toList.drop (n + 1)).toArray) (oz id r n row av) u:=fun v e1 e2=>by
  subst e1
  rw [e2]
  cases hb:cr id (dT v) with
  | true=>exact Rel.x
  | false=>exact ea ck (fun hm=>by rw [(b7 id (dT v)).2 hm] at hb; cases hb) ba
 cases av with
 | vec i σ m =>
  by_cases hi:i = id
  ·subst hi
   simp only [oz,Nat.beq_refl,cond_true]
   cases σ with
   | ints =>
    rcases (show aU β (Own X s β) w i .ints m u from ba) with ⟨_,_,q⟩ | ⟨g2,c2,cur2,e2,k1,k2,k3,k4,k5,k6,k7⟩
    ·rw [hg] at q; cases q
    rw [hg] at k1; injection k1 with k1; subst k1
    rw [h6] at k3; injection k3 with k3; injection k3 with k3 k3'; subst k3 k3'
    refine ⟨g,c2,_,e,hg,k2,Ul,k4,k5,?_,fun j x hj YR=>?_,fun hn=>⟨a.eval y,?_,XU⟩⟩
    ·have k6:cur.size = c2:=by simpa [aX] using k6
     simp
     omega
    ·obtain ⟨z,hz,dw⟩:=k7 j x 0 (.rd .int x) hj rfl
     refine ⟨z,?_,DT _ _ dw⟩
     simp only [List.getElem?_toArray]
     have:=x9 j
     simp only [List.length_cons,List.length_nil,Nat.zero_add] at this
     rw [this,if_neg (by omega)]
     simpa [aX] using hz
    ·simp only [List.getElem?_toArray]
     have:=x9 n
     simp only [List.length_cons,List.length_nil,Nat.zero_add] at this
     rw [this,if_pos (by omega)]
     simp
   | _=>exact Rel.x
  ·simp only [oz,dQ hi,cond_false]
   exact ea ck (by simp [dT,fp]; exact fun e=>hi e.symm) ba
 | _=>exact gen _ rfl rfl
end
end Go.SX
end
section
namespace Go.SX
variable [Globs]
section
variable {P:Program} {N:Nat} {Γ:Ctx} {W0:World} {F:Fr} {X:Nat->Prop} {s:St} {β:Nat->Option Nat} {a:Act} {w:World}

theorem FY {P : Program} {w : World} (f : Value -> ByteArray -> Sem (ForInStep ByteArray)) (l : List Int) (hf : ∀ n b, f (.int .u8 n) b = pure (.yield (b.push (UInt8.ofNat n.toNat)))) : ∀ (b : ByteArray),
  Sem.run P (forIn (l.map fun n=>Value.int .u8 n) b f) w = .ok ⟨(b.data.toList++l.map FN).toArray⟩ w:=by
 induction l with
 | nil=>intro b; simp
 | cons n l ih =>
  intro b
  simp only [List.map_cons,List.forIn_cons,hf,Sem.run_bind,Sem.run_pure,Result.andThen_ok]
  rw [ih]
  simp [ByteArray.push,FN]
theorem E4 {P:Program} {O:Nat->Prop} {l:List Int} {v:Value} (h:Im O w (.rd .u8 l) v) (w':World) (hw:w'.heap = w.heap):(Conv.bytesToString v).run P w' = .ok (.string ⟨(l.map FN).toArray⟩) w':=by
 obtain ⟨A,c,us,rfl,h1,h2,h3⟩:=fA h
 have Cw:us = l.map fun n=>Value.int .u8 n:=by
  have hf:∀ (l:List Int),flat .u8 l = l.map fun n=>AV.i .u8 n:=by
   intro l; induction l with
   | nil=>rfl
   | cons n l ih=>simp only [flat,List.flatMap_cons,List.map_cons] at ih ⊢; rw [ih]; rfl
  rw [hf] at h1
  have h1:All2 (Im O w) (l.map fun n=>AV.i .u8 n) us:=h1
  clear h h2 h3 hf
  induction l generalizing us with
  | nil=>exact h1.iz
  | cons n l ih =>
   obtain ⟨u,us',rfl,h4,h5⟩:=h1.cons_inv
   cases h4
   rw [ih _ h5 h5]; rfl
 cases A with
 | none =>
  have:l = []:=by
   have h3:=h3 w' hw
   cases l with
   | nil=>rfl
   | cons n l=>exfalso; cases h
  subst this
  rfl
 | some A =>
  have h3:=h3 w' hw
  have h3:(loadCells A (l.length * aX .u8)).run P w' = .ok us.toArray w':=h3
  have h4:(loadCells A l.length).run P w' = .ok us.toArray w':=by simpa [aX] using h3
  rw [Cw] at h4
  simp only [Conv.bytesToString,Sem.run_bind,h4,Result.andThen_ok]
  simp only [List.forIn_toArray]
  rw [FY]
  ·simp
  ·intro n b; rfl
theorem zD {sd d : TD} {v : AV} {K : AV -> Prop} (h : lg Γ sd d v K) :
  o6 d v K\/(∃ e l,sd = .slice e/\d = .str/\(v = .rd .u8 l\/∃ id,v = .vec id .u8 l)/\cp Γ e fun te=>aC (D2 te.desc) (K (.s (l.map FN)))) \/
   ∃ e l,d = .slice e/\v = .s l/\aC (gZ sd) (cp Γ e fun te=>xT te.desc l K):=by
 unfold lg at h
 split at h
 ·exact .inr (.inl ⟨_,_,rfl,rfl,.inl rfl,h⟩)
 ·exact .inr (.inl ⟨_,_,rfl,rfl,.inr ⟨_,rfl⟩,h⟩)
 ·exact .inr (.inr ⟨_,_,rfl,rfl,h⟩)
 ·exact .inl h
theorem E5 (w:World) (e:TypeId) (s:ByteArray):ca (fun _=>False) w (Lib.bytesWorld w e s) :=
 ⟨rfl,rfl,rfl,by rw [Lib.bytesWorld_size]; omega,fun k hk _=>Lib.bytesWorld_at_old w e s k hk⟩
theorem CR (s:aH):∀ (f i:Nat) (acc:Array Value),(Conv.runesFrom ⟨s.toArray⟩ f i acc) = acc++((fY s f i).map fun n=>Value.int .i32 n).toArray:=by
 have bO:(⟨s.toArray⟩:ByteArray).size = s.length:=by simp [ByteArray.size]
 have Qp:∀ p,Utf8.decode ⟨s.toArray⟩ p = aP s p:=fun p=>by rw [Lib.decode_N]; simp [aP]
 intro f
 induction f with
 | zero=>intro i acc; simp [Conv.runesFrom,fY]
 | succ f ih =>
  intro i acc
  unfold Conv.runesFrom fY
  rw [bO]
  split
  ·simp only [Qp]
   rw [ih]
   simp
  ·simp
theorem Bd (s:aH):Conv.runesFrom ⟨s.toArray⟩ (⟨s.toArray⟩:ByteArray).size 0 #[] = ((cK s).map fun n=>Value.int .i32 n).toArray:=by
 rw [CR]
 simp [cK,ByteArray.size]
theorem CQ (s:aH):∀ (f i:Nat),(fY s f i).length<=f:=by
 intro f
 induction f with
 | zero=>intro i; simp [fY]
 | succ f ih =>
  intro i
  unfold fY
  split
  ·have:=ih (i + (aP s i).2); simp; omega
  ·simp
theorem F9 (s:aH):(cK s).length<=s.length:=CQ s _ _
theorem Ht (aY : Γ.ok P) (hO : ∀ k, Own X s β k -> k < w.heap.size) {o : Oper} {src dst e : TypeId} {x : Operand} (ho : o.op = .convert src dst x) {ts ti : TI} (QI : ts.ok P src) (cw : ti.ok P dst) {l : aH} {v : AV} (hv : v = .s l) (hr : Rel β (Own X s β) w v (a.eval x)) (hd : ti.desc = .slice e) {K : AV -> Prop}
  (h:aC (gZ ts.desc) (cp Γ e fun te=>xT te.desc l K)) :
  ∃ r u w',K r/\ca (fun _=>False) w w'/\(execOp a.eval o).run P w = .ok (.value u) w'/\Im (Own X s β) w' r u:=by
 subst hv
 obtain ⟨hst,h⟩:=(af _ _).1 h
 have k1:=Kl QI hst
 obtain ⟨te,gO,h⟩:=bq aY h
 obtain ⟨d2,k3,k4⟩:=cw.desc
 rw [hd] at k4
 obtain rfl:=(show d2 = .slice e from k4)
 obtain ⟨d3,k5,k6⟩:=gO.desc
 obtain ⟨hlen,hx⟩:l.length<=maxLen/\a.eval x = .string ⟨l.toArray⟩:=by
  have hr:Im (Own X s β) w (.s l) (a.eval x):=hr
  generalize a.eval x = xv at hr
  cases hr with
  | s _ h=>exact ⟨h,rfl⟩
 have y8:te.desc = .int .u8\/te.desc = .int .i32:=by
  cases hd:te.desc with
  | int k=>rw [hd] at h; cases k<;>first | exact .inl rfl | exact .inr rfl | exact h.elim
  | _=>rw [hd] at h; exact h.elim
 rcases y8 with y8 | y8
 ·rw [y8] at k6 h
  obtain rfl:=(show d3 = .int .u8 from k6)
  have h:K (.rd .u8 (l.map fun b=>(b.toNat:Int))):=h
  refine ⟨_,.slice (some ⟨w.heap.size,0,none⟩) l.length (grownCap w l.length 0 e),Lib.bytesWorld w e ⟨l.toArray⟩,h,E5 _ _ _,?_,?_⟩
  ·have:=Lib.run_convert_string_bytes (P:=P) w src dst e ⟨l.toArray⟩ k1 k3 k5
   rw [<- hx] at this
   simp only [execOp,ho,Sem.run_bind,this,Result.andThen_ok,Sem.run_pure]
   rfl
  ·by_cases hl:l = []
   ·subst hl
    exact .uR .u8 _ _ (grownCap_le_maxLen w 0 0 e (Nat.zero_le _))
   ·have DW:¬ Own X s β w.heap.size:=fun h=>Nat.lt_irrefl _ (hO _ h)
    have:=Im.rd (O:=Own X s β) (w:=Lib.bytesWorld w e ⟨l.toArray⟩) .u8 (l.map fun b=>(b.toNat:Int)) w.heap.size 0 (grownCap w l.length 0 e) (fun i _=>.int .u8 ((l.getD i 0).toNat:Int)) DW (by simpa using grownCap_ge w l.length 0 e) (grownCap_le_maxLen w _ 0 e hlen) (by simpa using hl)
     (fun i y j av hy ck=>by
      obtain ⟨hi,rfl⟩:=List.getElem?_eq_some_iff.1 hy
      have hi:i < l.length:=by simpa using hi
      obtain ⟨hj,rfl⟩:=List.getElem?_eq_some_iff.1 ck
      have hj:j = 0:=by simp [enc] at hj; exact hj
      subst hj
      have:=Lib.bytesWorld_cell w e ⟨l.toArray⟩ i (by simpa [ByteArray.size] using hi)
      simpa [aX] using this)
     (fun i y j av hy ck=>by
      obtain ⟨hi,rfl⟩:=List.getElem?_eq_some_iff.1 hy
      have hi:i < l.length:=by simpa using hi
      obtain ⟨hj,rfl⟩:=List.getElem?_eq_some_iff.1 ck
      have hj:j = 0:=by simp [enc] at hj; exact hj
      subst hj
      have hg:l.getD i 0 = l[i]:=by simp [List.getD,hi]
      rw [hg]
      simp only [enc,List.getElem_map,List.getElem_cons_zero]
      exact .i .u8 _)
    simpa using this
 ·rw [y8] at k6 h
  obtain rfl:=(show d3 = .int .i32 from k6)
  obtain ⟨h46,h⟩:=(show l.length<=70368744177664/\K (.rd .rune (cK l)) from h)
  have hrl:=F9 l
  have hle:(cK l).length<=maxLen:=Nat.le_trans hrl hlen
  have bO:(((cK l).map fun n=>Value.int .i32 n).toArray).size = (cK l).length:=by simp
  have bu:=run_runes_of_string (P:=P) w src dst e ⟨l.toArray⟩ k1 k3 k5 (by rw [Bd,bO]; omega)
  rw [Bd,bO,<- hx] at bu
  refine ⟨_,.slice (some ⟨w.heap.size,0,none⟩) (cK l).length (grownCap w (cK l).length 0 e),w.drew.alloc (.cells (((cK l).map fun n=>Value.int .i32 n).toArray++Array.replicate (grownCap w (cK l).length 0 e - (cK l).length) (.int .i32 0)) e),h,(ca.drew w).trans (ca.alloc w.drew _) (fun _ _ h=>h),?_,?_⟩
  rotate_left 1
  ·have DW:¬ Own X s β w.heap.size:=fun h=>Nat.lt_irrefl _ (hO _ h)
   by_cases hl:cK l = []
   ·rw [hl]
    exact .uR .rune _ _ (grownCap_le_maxLen w 0 0 e (Nat.zero_le _))
   ·refine Im.rd .rune (cK l) w.heap.size 0 (grownCap w (cK l).length 0 e) (fun i _=>.int .i32 ((cK l).getD i 0)) DW (by simpa using grownCap_ge w (cK l).length 0 e) (grownCap_le_maxLen w _ 0 e hle) hl (fun i y j av hy ck=>?_) (fun i y j av hy ck=>?_)
    ·obtain ⟨hi,rfl⟩:=List.getElem?_eq_some_iff.1 hy
     obtain ⟨hj,rfl⟩:=List.getElem?_eq_some_iff.1 ck
     have hj:j = 0:=by simp [enc] at hj; exact hj
     subst hj
     have hc:(w.drew.alloc (.cells (((cK l).map fun n=>Value.int .i32 n).toArray++Array.replicate (grownCap w (cK l).length 0 e - (cK l).length) (.int .i32 0)) e)).heap[w.heap.size]? = some (.cells (((cK l).map fun n=>Value.int .i32 n).toArray++Array.replicate (grownCap w (cK l).length 0 e - (cK l).length) (.int .i32 0)) e (0,0)):=heap_alloc_new w.drew _
     have Ai:i < (((cK l).map fun n=>Value.int .i32 n).toArray).size:=by simpa using hi
     simp only [World.cell?,hc,Nat.zero_add,aX,Nat.mul_one,Nat.add_zero]
     simp [Array.getElem?_append,hi,List.getD_eq_getElem?_getD]
    ·obtain ⟨hi,rfl⟩:=List.getElem?_eq_some_iff.1 hy
     obtain ⟨hj,rfl⟩:=List.getElem?_eq_some_iff.1 ck
     have hj:j = 0:=by simp [enc] at hj; exact hj
     subst hj
     have hg:(cK l).getD i 0 = (cK l)[i]:=by simp [List.getD,hi]
     rw [hg]
     exact .i .i32 _
  ·simp only [execOp,ho,Sem.run_bind,bu,Result.andThen_ok,Sem.run_pure]
theorem Hr (aY : Γ.ok P) {o : Oper} {src dst : TypeId} {x : Operand} (ho : o.op = .convert src dst x) {ts ti : TI} (QI : ts.ok P src) (cw : ti.ok P dst) {v : AV} (hr : Rel β (Own X s β) w v (a.eval x)) {K : AV -> Prop}
  (h:lg Γ ts.desc ti.desc v K):sN P X s β a w o K\/∃ e l,ti.desc = .slice e/\v = .s l/\aC (gZ ts.desc) (cp Γ e fun te=>xT te.desc l K):=by
 rcases zD h with h | ⟨e,l,h1,h2,h3,h⟩ | h
 ·obtain ⟨d,hd,_⟩:=QI.desc
  obtain ⟨v',u,k1,k2,k3,k4⟩:=DC ho cw hr h ⟨d,hd⟩
  exact .inl ⟨v',u,k1,k2,k3,k4 w⟩
 rotate_left
 ·exact .inr h
 obtain ⟨te,gO,h⟩:=bq aY h
 obtain ⟨We,h⟩:=(af _ _).1 h
 have dw:Im (fun _=>False) w (.rd .u8 l) (a.eval x):=by
  rcases h3 with rfl | ⟨id,rfl⟩
  ·exact (show Im _ _ _ _ from hr).mono fun _ h=>h.elim
  ·exact aU.freeze hr fun _ h=>h.elim
 obtain ⟨de,k1,k2⟩:=QI.desc
 rw [h1] at k2
 obtain rfl:=(show de = .slice e from k2)
 obtain ⟨de,k3,k4⟩:=cw.desc
 rw [h2] at k4
 obtain rfl:=(show de = .string from k4)
 obtain ⟨de,k5,k6⟩:=gO.desc
 have y8:te.desc = .int .u8:=by
  cases hd:te.desc with
  | int k=>rw [hd] at We; cases k<;>first | rfl | cases We
  | _=>rw [hd] at We; cases We
 rw [y8] at k6
 obtain rfl:=(show de = .int .u8 from k6)
 have hlen:l.length<=maxLen:=by
  generalize a.eval x = xv at dw
  cases dw with
  | uR=>exact Nat.zero_le _
  | rd _ _ g off c u hg hc hm da gR dw=>omega
 refine .inl (.im h (.s _ (by simpa using hlen)) ?_)
 have hx:∃ A n c,a.eval x = .slice A n c:=by obtain ⟨A,c,_,h5,_⟩:=fA (P:=P) dw; exact ⟨_,_,_,h5⟩
 obtain ⟨A,n,c,hx⟩:=hx
 have hb:=E4 (P:=P) dw w rfl
 rw [hx] at hb
 simp [execOp,ho,hx,convert,run_underlying k1,run_underlying k3,run_underlying k5,hb]
theorem Hq {sd d:TD} {v:AV} {K:AV->Prop} (h:o6 d v K):lg Γ sd d v K:=by
 unfold lg
 split
 ·exact h.elim
 ·exact h.elim
 ·exact h.elim
 ·exact h
end
end Go.SX
end
section
namespace Go.SX
variable [Globs]
section
variable {P:Program} {N:Nat} {Γ:Ctx} {W0:World} {F:Fr} {X:Nat->Prop} {s:St} {β:Nat->Option Nat} {a:Act} {w:World}

def PB (Γ:Ctx) (N:Nat) (s:St) (t:TypeId) (x y:Operand) (dst:Option Nat) (K:St->Prop):Prop :=
 jU dst fun d=>dx d s fun s=>bG s x fun a=>bG s y fun b=>nL a fun n=>nL b fun m=>cp Γ t fun ti=>cW ti.desc fun e=>cp Γ e fun te=>PM te.ty fun τ =>
  aC (Nat.beq te.cells (aX τ)) (aC (Nat.beq te.zero.length (aX τ)) ((0<=n/\n<=m/\m<=1099511627776/\m.toNat * te.bytes<=140737488355328)/\eW te.zero fun zs=>jU (dec τ zs) fun z=>dh d s fun s=>al N s (some d) (.vec d τ (List.replicate n.toNat z)) K))
theorem Dj {O : Nat -> Prop} {τ : Ty} {zs : List Value} {z : den τ} (hz : dec τ (dW zs) = some z) (hl : zs.length = aX τ) (n : Nat) :
  All2 (Im O w) (flat τ (List.replicate n z)) ((List.range (n * aX τ)).map fun i=>zs.toArray[i % zs.toArray.size]!):=by
 have hle:=lj hz
 have pj:=gq τ
 have dw:All2 (Im O w) (enc τ z) zs:=by
  refine l4 ?_ hle
  clear hz hle hl
  induction zs with
  | nil=>exact All2.nil _
  | cons v r ih=>exact All2.cons (kP _ _ _) ih
 refine ⟨by rw [cx]; simp,fun k av u hk hu=>?_⟩
 obtain ⟨i,j,x,rfl,hx,hj⟩:=xZ hk
 have V1:j < aX τ:=by rw [<- eh τ x]; exact (List.getElem?_eq_some_iff.1 hj).1
 have hxz:x = z:=List.eq_of_mem_replicate (List.mem_of_getElem? hx)
 subst hxz
 rw [List.getElem?_map,Option.map_eq_some_iff] at hu
 obtain ⟨q,hq,rfl⟩:=hu
 have GG:q = i * aX τ + j:=by
  have h1:=(List.getElem?_eq_some_iff.1 hq)
  obtain ⟨h2,h3⟩:=h1
  rw [List.getElem_range] at h3
  exact h3.symm
 subst GG
 have QA:(i * aX τ + j) % zs.toArray.size = j:=by
  rw [List.size_toArray,hl,Nat.add_comm,Nat.add_mul_mod_self_right,Nat.mod_eq_of_lt V1]
 rw [QA]
 have YU:j < zs.length:=by omega
 have x9:zs.toArray[j]! = zs[j]:=by simp [YU]
 rw [x9]
 exact dw.2 j av _ hj (List.getElem?_eq_getElem YU)
theorem F1 {f:Nat->Value} {a b j:Nat} {u:Value} (h:a<=b) (hu:((List.range a).map f)[j]? = some u):(((List.range b).map f).toArray)[j]? = some u:=by
 have hj:j < a:=by have:=(List.getElem?_eq_some_iff.1 hu).1; simpa using this
 rw [List.getElem?_toArray,List.getElem?_map,List.getElem?_range (by omega)]
 rw [List.getElem?_map,List.getElem?_range hj] at hu
 exact hu
theorem M4 (aY : Γ.ok P) (hI : ao W0 F X N s β a w) {o : Oper} {t : TypeId} {x y : Operand} (ho : o.op = .makeSlice t x y) {K : St -> Prop} (h : PB Γ N s t x y o.dst K)
  {next:Act->World->Prop} {Q:Exit->Act->World->Prop} (hn:∀ s' a' w',K s'->Inv W0 F X N s' a' w'->next a' w'):o.wp P a w next Q:=by
 obtain ⟨d,hd,h⟩:=(cn _ _).1 (show jU o.dst fun d=>_ from h)
 rw [cO,aE,aE] at h
 have dg:=hI.cy d
 obtain ⟨k1,n,hx,h⟩:=tZ h (aF dg x).1
 obtain ⟨k2,m,hy,h⟩:=tZ h (aF dg y).1
 obtain ⟨ti,cw,h⟩:=bq aY h
 obtain ⟨e,h,hu⟩:=kV cw h
 obtain ⟨te,gO,h⟩:=bq aY h
 obtain ⟨τ,hτ,h⟩:=(lM _ _).1 h
 obtain ⟨bO,hA⟩:=(af _ _).1 h
 obtain ⟨BU,hB⟩:=(af _ _).1 hA
 obtain ⟨⟨h0,QD,h1,h2⟩,hC⟩:=hB
 rw [eF] at hC
 obtain ⟨z,hz,hK⟩:=(cn _ _).1 hC
 have bO:=Nat.eq_of_beq_eq_true bO
 have BU:=Nat.eq_of_beq_eq_true BU
 rw [fi] at hK
 cases jS:Nat.blt d N with
 | false=>rw [bZ,jS] at hK; exact hK.elim
 | true =>
  rw [bZ,jS,cond_true] at hK
  rw [Nat.blt_eq] at jS
  have XF:n.toNat * aX τ<=m.toNat * aX τ:=Nat.mul_le_mul_right _ (by omega)
  have Xv:m.toNat<=maxLen:=by unfold maxLen; omega
  obtain ⟨zv,QN,vQ⟩:=gO.zeroValue w
  have fV:=dg.qF (Ow:=fun _=>False) (id1:=d) (b:=some w.heap.size) (u:=.slice (some ⟨w.heap.size,0,none⟩) n.toNat m.toNat) (τ:=τ) (l:=List.replicate n.toNat z) jS (fun _=>rfl)
   (ca.alloc w (.cells ((List.range (m.toNat * aX τ)).map fun i=>te.zero.toArray[i % te.zero.toArray.size]!).toArray e)) (fun _ h=>h.elim)
   (fun g hg=>by injection hg with hg; subst hg; exact ⟨by simp,.inr (Nat.le_refl _)⟩) (fun O' Aa=>by
    have:=oD (d:=d) (β:=ay β d (some w.heap.size)) (c:=m.toNat) (cur:=((List.range (m.toNat * aX τ)).map fun i=>te.zero.toArray[i % te.zero.toArray.size]!).toArray) (e:=e) (by simp [ay]) (heap_alloc_new w _) (by simp; omega) Xv (by simp)
     (Dj (O:=O') (w:=w.alloc (.cells ((List.range (m.toNat * aX τ)).map fun i=>te.zero.toArray[i % te.zero.toArray.size]!).toArray e)) hz BU n.toNat) (fun j u hu=>F1 XF hu)
    simpa using this)
  refine eI (u:=.slice (some ⟨w.heap.size,0,none⟩) n.toNat m.toNat) (w':=w.alloc (.cells ((List.range (m.toNat * aX τ)).map fun i=>te.zero.toArray[i % te.zero.toArray.size]!).toArray e)) ?_ (by rw [hd]; exact hn _ _ _ hK ⟨_,fV⟩)
  have UX:IntKind.i64.wrap n = n:=by
   exact IntWalk.i64_in n ⟨by omega,by omega⟩
  have QL:IntKind.i64.wrap m = m:=by
   exact IntWalk.i64_in m ⟨by omega,by omega⟩
  have YC:¬ ((te.bytes:Int) * n > 2 ^ 48):=by
   have e1:((n.toNat * te.bytes:Nat):Int) = (te.bytes:Int) * n:=by rw [Int.natCast_mul,Int.toNat_of_nonneg h0,Int.mul_comm]
   have e3:n.toNat * te.bytes<=m.toNat * te.bytes:=Nat.mul_le_mul_right _ (by omega)
   rw [<- e1]
   show ¬ _ > (281474976710656:Int)
   omega
  have Zw:¬ ((te.bytes:Int) * m > 2 ^ 48):=by
   have e1:((m.toNat * te.bytes:Nat):Int) = (te.bytes:Int) * m:=by rw [Int.natCast_mul,Int.toNat_of_nonneg (by omega),Int.mul_comm]
   have e2:((m.toNat * te.bytes:Nat):Int)<=140737488355328:=by omega
   rw [<- e1]
   show ¬ _ > (281474976710656:Int)
   omega
  have lO:¬ (m.toNat * te.bytes > roomBytes):=by show ¬ (m.toNat * te.bytes > 2 ^ 47); omega
  obtain ⟨i,zz,za,Ai,hi3,Xh,Xi⟩:=gO.info
  have X0:(typeInfo e).run P w = .ok i w:=by simp [typeInfo,za]
  simp only [execOp,ho,Instr.makeSlice,Sem.run_bind,run_underlying hu,Result.andThen_ok,hx,hy,asInt,asIntOf,Sem.run_pure,X0,UX,QL,hi3,askRoom,lO]
  rw [if_neg (by simp only [Bool.or_eq_true,decide_eq_true_eq]; omega)]
  simp only [if_false,Sem.run_bind,Sem.run_pure,Result.andThen_ok,gO.sizeOf w]
  rw [bO]
  have e0:∀ f:Nat->Value,((List.range (m.toNat * aX τ)).map f).toArray = (Array.range (m.toNat * aX τ)).map f:=by intro f; apply Array.ext'; simp
  rw [e0]
  by_cases IB:m.toNat * aX τ = 0
  ·have er:∀ f:Nat->Value,Array.map f (Array.range 0) = #[]:=fun f=>by simp
   simp only [IB,if_true,Sem.run_bind,Sem.run_pure,Result.andThen_ok,er]
   simp [newRow,newObj]
   rfl
  ·simp only [IB,if_false,Sem.run_bind,QN,Sem.run_pure,Result.andThen_ok,vQ]
   simp [newRow,newObj]
   rfl
end
end Go.SX
end
section
namespace Go.SX
variable [Globs]
section
variable {P:Program} {N:Nat} {Γ:Ctx} {W0:World} {F:Fr} {X:Nat->Prop} {s:St} {β:Nat->Option Nat} {a:Act} {w:World}

def db (id aR:Nat) (o:Ob):AV->AV
 | .ob i i2 o'=>bif Nat.beq i id then (bif Nat.beq i2 aR then (bif o'.n8 then .x else .ob i i2 o) else .x) else bif cr id [i,i2] then .x else bif cr aR [i,i2] then .x else .ob i i2 o'
 | .pt n x=>bif cr n [id,aR] then .x else .pt n x
 | .vec n τ l=>bif cr n [id,aR] then .x else .vec n τ l
 | .vp n τ l m x=>bif cr n [id,aR] then .x else .vp n τ l m x
 | .vs n τ l k=>bif cr n [id,aR] then .x else .vs n τ l k
 | v=>v
theorem Ad (id aR:Nat) (o:Ob) (v:AV):bQ [db id aR o v] = bQ [v]:=by
 cases v with
 | pt n x=>simp only [db]; cases cr n [id,aR]<;>rfl
 | vec n τ l=>simp only [db]; cases cr n [id,aR]<;>rfl
 | vp n τ l m x=>simp only [db]; cases cr n [id,aR]<;>rfl
 | vs n τ l k=>simp only [db]; cases cr n [id,aR]<;>rfl
 | ob i i2 o'=>simp only [db]; cases Nat.beq i id<;>cases Nat.beq i2 aR<;>cases cr id [i,i2]<;>cases cr aR [i,i2]<;>cases o'.n8<;>rfl
 | _=>rfl
def iM (id aR:Nat) (o:Ob):AV->AV
 | .fn f ak=>.fn f (ez (db id aR o) ak)
 | .bc cs=>.bc (ez (db id aR o) cs)
 | .ag k cs=>.ag k (ez (db id aR o) cs)
 | v=>db id aR o v
def ky (id aR:Nat) (o:Ob):AV->(AV->Prop)->Prop
 | .ob i i2 o',K=>bif Nat.beq i id then (bif Nat.beq i2 aR then (bif o'.n8 then K .x else K (.ob i i2 o)) else K .x) else bif cr id [i,i2] then K .x else bif cr aR [i,i2] then K .x else K (.ob i i2 o')
 | .pt n x,K=>bif cr n [id,aR] then K .x else K (.pt n x)
 | .vec n τ l,K=>bif cr n [id,aR] then K .x else K (.vec n τ l)
 | .vp n τ l m x,K=>bif cr n [id,aR] then K .x else K (.vp n τ l m x)
 | .vs n τ l k,K=>bif cr n [id,aR] then K .x else K (.vs n τ l k)
 | v,K=>K v
theorem nH (id aR:Nat) (o:Ob) (v:AV) (K:AV->Prop):ky id aR o v K = K (db id aR o v):=by
 cases v with
 | ob i i2 o' =>
  simp only [ky,db]
  cases Nat.beq i id<;>cases Nat.beq i2 aR<;>cases cr id [i,i2]<;>cases cr aR [i,i2]<;>cases o'.n8<;>rfl
 | pt n x=>simp only [ky,db]; cases cr n [id,aR]<;>rfl
 | vec n τ l=>simp only [ky,db]; cases cr n [id,aR]<;>rfl
 | vp n τ l m x=>simp only [ky,db]; cases cr n [id,aR]<;>rfl
 | vs n τ l k=>simp only [ky,db]; cases cr n [id,aR]<;>rfl
 | _=>rfl
def vy (id aR:Nat) (o:Ob):AV->(AV->Prop)->Prop
 | .fn f ak,K=>lR (ky id aR o) ak fun ak=>K (.fn f ak)
 | .bc cs,K=>lR (ky id aR o) cs fun cs=>K (.bc cs)
 | .ag k cs,K=>lR (ky id aR o) cs fun cs=>K (.ag k cs)
 | v,K=>ky id aR o v K
theorem BD (id aR:Nat) (o:Ob) (v:AV) (K:AV->Prop):vy id aR o v K = K (iM id aR o v):=by
 cases v with
 | fn f ak=>simp only [vy,iM,gE (nH id aR o)]
 | bc ak=>simp only [vy,iM,gE (nH id aR o)]
 | ag k ak=>simp only [vy,iM,gE (nH id aR o)]
 | _=>simp only [vy,iM,nH]
theorem jv (id aR:Nat) (o:Ob) (v:AV) (m:Nat) (h:m ∈ aw (db id aR o v)):m ∈ aw v:=by
 cases v with
 | ob i i2 o' =>
  simp only [db] at h
  cases h1:Nat.beq i id<;>cases h2:Nat.beq i2 aR<;>cases h3:cr id [i,i2]<;>cases h4:cr aR [i,i2]<;>cases h5:o'.n8<;>simp only [h1,h2,h3,h4,h5,cond_true,cond_false] at h<;>first | exact h | (simp [aw] at h; done)
 | pt n x=>simp only [db] at h; cases h1:cr n [id,aR]<;>simp only [h1,cond_true,cond_false] at h<;>first | exact h | (simp [aw] at h; done)
 | vec n τ l=>simp only [db] at h; cases h1:cr n [id,aR]<;>simp only [h1,cond_true,cond_false] at h<;>first | exact h | (simp [aw] at h; done)
 | vp n τ l k x=>simp only [db] at h; cases h1:cr n [id,aR]<;>simp only [h1,cond_true,cond_false] at h<;>first | exact h | (simp [aw] at h; done)
 | vs n τ l k=>simp only [db] at h; cases h1:cr n [id,aR]<;>simp only [h1,cond_true,cond_false] at h<;>first | exact h | (simp [aw] at h; done)
 | _=>exact h
theorem BE (id aR:Nat) (o:Ob) (v:AV) (m:Nat) (h:m ∈ ids (iM id aR o v)):m ∈ ids v:=by
 have key:∀ l:List AV,m ∈ (ez (db id aR o) l).flatMap aw->m ∈ l.flatMap aw:=by
  intro l hl
  rw [bz] at hl
  obtain ⟨c,hc,hm⟩:=List.mem_flatMap.1 hl
  obtain ⟨c',dv,rfl⟩:=List.mem_map.1 hc
  exact List.mem_flatMap.2 ⟨c',dv,jv _ _ _ _ _ hm⟩
 cases v with
 | fn f ak=>exact key ak h
 | bc ak=>exact key ak h
 | ag k ak=>exact key ak h
 | pt n x=>exact jv id aR o (.pt n x) m (by cases h1:cr n [id,aR]<;>simpa [iM,db,h1,ids] using h)
 | vec n τ l=>exact jv id aR o (.vec n τ l) m (by cases h1:cr n [id,aR]<;>simpa [iM,db,h1,ids] using h)
 | vp n τ l k x=>exact jv id aR o (.vp n τ l k x) m (by cases h1:cr n [id,aR]<;>simpa [iM,db,h1,ids] using h)
 | vs n τ l k=>exact jv id aR o (.vs n τ l k) m (by cases h1:cr n [id,aR]<;>simpa [iM,db,h1,ids] using h)
 | ob i i2 o' =>
  have e:ids (iM id aR o (.ob i i2 o')) = aw (db id aR o (.ob i i2 o')):=by
   simp only [iM,db]
   cases Nat.beq i id<;>cases Nat.beq i2 aR<;>cases cr id [i,i2]<;>cases cr aR [i,i2]<;>cases o'.n8<;>rfl
  rw [e] at h
  exact jv id aR o (.ob i i2 o') m h
 | _=>exact h

theorem ao.C6 (h : ao W0 F X N s β a w) {id aR : Nat} (hN : Nm s id) (Mr : Nm s aR) {b2 : Option Nat} {w' : World} (hst : ca (fun k => β id = some k \/ β aR = some k) w w')
  (nK:ay β aR b2 id = β id) (GC:∀ g,b2 = some g->g < w'.heap.size/\(β aR = some g\/w.heap.size<=g)) {o':Ob} {v0:Value}
  (DX:∀ o1 v,o1.n8 = false->fG β (Own X s β) w id aR o1 v->v = v0)
  (rU:∀ O':Nat->Prop,(∀ k,k < w.heap.size->O' k->Own X s β k)->fG (ay β aR b2) O' w' id aR o' v0) :
  ao W0 F X N (((s.map (iM id aR o')).bj id).bj aR) (ay β aR b2) a w':=by
 have qu:∀ n cs,ax (((s.map (iM id aR o')).bj id).bj aR).boxes n = some cs->n≠id/\n≠aR/\∃ cs',ax s.boxes n = some cs'/\cs = cs'.map (iM id aR o'):=by
  intro n cs hc
  simp only [St.bj,St.map,bV,aV] at hc
  split at hc
  ·cases hc
  ·rename_i FA
   split at hc
   ·cases hc
   ·rename_i da
    obtain ⟨cs',h1,rfl⟩:=Option.map_eq_some_iff.1 hc
    exact ⟨fun e=>da e.symm,fun e=>FA e.symm,cs',h1,bz _ _⟩
 have bP:∀ n,Nm (((s.map (iM id aR o')).bj id).bj aR) n->Nm s n:=by
  rintro n (⟨cs,h⟩ | ⟨m,h⟩ | ⟨b,cs,h,c,hc,hn⟩)
  ·obtain ⟨_,_,cs',h1,_⟩:=qu _ _ h
   exact .inl ⟨cs',h1⟩
  ·simp only [St.bj,St.map,bH (iM id aR o') rfl] at h
   exact .inr (.inl ⟨m,BE _ _ _ _ _ h⟩)
  ·obtain ⟨_,_,cs',h1,rfl⟩:=qu _ _ h
   obtain ⟨c',dv,rfl⟩:=List.mem_map.1 hc
   exact .inr (.inr ⟨b,cs',h1,c',dv,BE _ _ _ _ _ hn⟩)
 have cG:∀ n,n≠aR->ay β aR b2 n = β n:=fun n hn=>by unfold ay; rw [if_neg hn]
 have Mx:ay β aR b2 aR = b2:=by simp [ay]
 have hO:∀ k,k < w.heap.size->Own X (((s.map (iM id aR o')).bj id).bj aR) (ay β aR b2) k->Own X s β k:=by
  rintro k hk (hX | ⟨n,hn,hb⟩)
  ·exact .inl hX
  ·by_cases e:n = aR
   ·subst e
    rw [Mx] at hb
    rcases (GC k hb).2 with h1 | h1
    ·exact .inr ⟨_,Mr,h1⟩
    ·omega
   ·exact .inr ⟨n,bP n hn,(cG n e) ▸ hb⟩
 have hw:∀ k,k < w.heap.size->(β id = some k\/β aR = some k)->oK s β k:=fun k _ hk=>hk.elim (fun h=>⟨id,hN,h⟩) fun h=>⟨aR,Mr,h⟩
 have tP:∀ n g,Nm s n->n≠id->n≠aR->β n = some g->w'.heap[g]? = w.heap[g]?:=fun n g hn h1 h2 hg =>
  hst.block g (h.own n g hn hg).1 fun ho=>ho.elim (fun e=>h1 (h.inj n id g hn hN hg e)) fun e=>h2 (h.inj n aR g hn Mr hg e)
 have ea : ∀ {av : AV} {v : Value}, (∀ n ∈ aw av, Nm s n /\ n ≠ id /\ n ≠ aR) -> cj β (Own X s β) w av v ->
   cj (ay β aR b2) (Own X (((s.map (iM id aR o')).bj id).bj aR) (ay β aR b2)) w' av v:=fun ck ba =>
  ba.step hst (fun k hk ho=>.inr (hw k hk ho)) hO (fun n hn=>cG n (ck n hn).2.2) (fun n hn g hg=>tP n g (ck n (iu hn)).1 (ck n (iu hn)).2.1 (ck n (iu hn)).2.2 hg)
 have Cp:∀ av v,(∀ n ∈ aw av,Nm s n)->cj β (Own X s β) w av v->cj (ay β aR b2) (Own X (((s.map (iM id aR o')).bj id).bj aR) (ay β aR b2)) w' (db id aR o' av) v:=by
  intro av v ck ba
  have hx:∀ u,cj (ay β aR b2) (Own X (((s.map (iM id aR o')).bj id).bj aR) (ay β aR b2)) w' .x u:=fun u=>Im.x u
  have one:∀ n,aw av = [n]->cr n [id,aR] = false->∀ n ∈ aw av,Nm s n/\n≠id/\n≠aR:=by
   intro n he hn m hm
   have Il:=hm
   rw [he] at hm
   obtain rfl:=List.mem_singleton.1 hm
   refine ⟨ck _ Il,fun e=>?_,fun e=>?_⟩
   ·rw [(b7 m [id,aR]).2 (by simp [e])] at hn; cases hn
   ·rw [(b7 m [id,aR]).2 (by simp [e])] at hn; cases hn
  cases av with
  | ob i i2 o1 =>
   simp only [db]
   cases h1:Nat.beq i id with
   | true =>
    have:=Nat.eq_of_beq_eq_true h1; subst this
    cases h2:Nat.beq i2 aR with
    | true =>
     have:=Nat.eq_of_beq_eq_true h2; subst this
     cases h5:o1.n8 with
     | true=>exact hx _
     | false =>
      rw [DX o1 v h5 ba]
      exact rU _ hO
    | false=>exact hx _
   | false =>
    cases h3:cr id [i,i2] with
    | true=>exact hx _
    | false =>
     cases h4:cr aR [i,i2] with
     | true=>exact hx _
     | false =>
      refine ea (fun n hn=>⟨ck n hn,fun e=>?_,fun e=>?_⟩) ba
      ·rw [(b7 id [i,i2]).2 (by rw [<- e]; exact hn)] at h3; cases h3
      ·rw [(b7 aR [i,i2]).2 (by rw [<- e]; exact hn)] at h4; cases h4
  | pt n x =>
   simp only [db]
   cases h1:cr n [id,aR] with
   | true=>exact hx _
   | false=>exact ea (one n rfl h1) ba
  | vec n τ l =>
   simp only [db]
   cases h1:cr n [id,aR] with
   | true=>exact hx _
   | false=>exact ea (one n rfl h1) ba
  | vp n τ l m x =>
   simp only [db]
   cases h1:cr n [id,aR] with
   | true=>exact hx _
   | false=>exact ea (one n rfl h1) ba
  | vs n τ l k =>
   simp only [db]
   cases h1:cr n [id,aR] with
   | true=>exact hx _
   | false=>exact ea (one n rfl h1) ba
  | _=>exact ea (fun n hn=>nomatch hn) ba
 have Xb : ∀ (ak : List AV) (vs : List Value), (∀ n ∈ ak.flatMap aw, Nm s n) -> All2 (cj β (Own X s β) w) ak vs ->
   All2 (cj (ay β aR b2) (Own X (((s.map (iM id aR o')).bj id).bj aR) (ay β aR b2)) w') (ez (db id aR o') ak) vs:=by
  intro ak vs hc ei
  rw [bz]
  refine ⟨by simpa using ei.1,fun j c v hj hv=>?_⟩
  rw [List.getElem?_map,Option.map_eq_some_iff] at hj
  obtain ⟨c',dv,rfl⟩:=hj
  exact Cp c' v (fun n hn=>hc n (List.mem_flatMap.2 ⟨c',List.mem_of_getElem? dv,hn⟩)) (ei.2 j c' v dv hv)
 have hf:∀ av v,(∀ n ∈ ids av,Nm s n)->Rel β (Own X s β) w av v->Rel (ay β aR b2) (Own X (((s.map (iM id aR o')).bj id).bj aR) (ay β aR b2)) w' (iM id aR o' av) v:=by
  intro av v ck ba
  cases av with
  | fn f ak=>obtain ⟨vs,h1,h2⟩:=ba; exact ⟨vs,h1.trans (tv (mn (Ad id aR o') ak).symm f vs),Xb ak vs ck h2⟩
  | bc ak=>obtain ⟨vs,h1,h2⟩:=ba; exact ⟨vs,h1,Xb ak vs ck h2⟩
  | ag k ak=>obtain ⟨vs,h1,h2,h3⟩:=ba; exact ⟨vs,h1,Xb ak vs ck h2,h3⟩
  | ob i i2 o1=>exact Rel.jk (Cp (.ob i i2 o1) v ck ba)
  | pt n x=>exact Rel.jk (Cp (.pt n x) v ck ba)
  | vec n τ l=>exact Rel.jk (Cp (.vec n τ l) v ck ba)
  | vp n τ l m x=>exact Rel.jk (Cp (.vp n τ l m x) v ck ba)
  | vs n τ l k=>exact Rel.jk (Cp (.vs n τ l k) v ck ba)
  | i k n=>exact Rel.jk (Cp (.i k n) v ck ba)
  | b t=>exact Rel.jk (Cp (.b t) v ck ba)
  | s l=>exact Rel.jk (Cp (.s l) v ck ba)
  | nl=>exact Rel.jk (Cp .nl v ck ba)
  | rd τ l=>exact Rel.jk (Cp (.rd τ l) v ck ba)
  | rp cs=>exact Rel.jk (Cp (.rp cs) v ck ba)
  | agg cs=>exact Rel.jk (Cp (.agg cs) v ck ba)
  | np=>exact Rel.jk (Cp .np v ck ba)
  | er e=>exact Rel.jk (Cp (.er e) v ck ba)
  | x=>exact Rel.x
 refine h.yS hst hw (fun n=>?_) (fun n cs cZ=>?_) (fun n m g hn hm h1 h2=>?_) (fun n g hn hg=>?_) rfl rfl (fun n cs g hc hp=>?_)
 ·simp only [St.bj,St.map,bH (iM id aR o') rfl]
  exact hf _ _ (fun k hk=>.inr (.inl ⟨n,hk⟩)) (h.aj n)
 ·obtain ⟨da,FA,cs',h1,rfl⟩:=qu _ _ cZ
  obtain ⟨g,us,e,h2,h3,h4⟩:=h.boxes n cs' h1
  have Mt:Nm s n:=.inl ⟨cs',h1⟩
  refine ⟨g,us,e,(cG n FA).trans h2,(tP n g Mt da FA h2).trans h3,by simpa using h4.1,fun j c v hc hv=>?_⟩
  rw [List.getElem?_map,Option.map_eq_some_iff] at hc
  obtain ⟨c',dv,rfl⟩:=hc
  exact ⟨hf _ _ (fun k hk=>.inr (.inr ⟨n,cs',h1,c',List.mem_of_getElem? dv,hk⟩)) (h4.2 j c' v dv hv).1,(h4.2 j c' v dv hv).2⟩
 ·have aux : ∀ m g, Nm s m -> m ≠ aR -> b2 = some g -> β m = some g -> False := by
   intro m g hm da WZ Fy
   rcases (GC g WZ).2 with h3 | h3
   ·exact da (h.inj m aR g hm Mr Fy h3)
   ·have:=(h.own m g hm Fy).1; omega
  by_cases e1:n = aR<;>by_cases e2:m = aR
  ·rw [e1,e2]
  ·subst e1; rw [Mx] at h1; rw [cG m e2] at h2; exact (aux m g (bP m hm) e2 h1 h2).elim
  ·subst e2; rw [Mx] at h2; rw [cG n e1] at h1; exact (aux n g (bP n hn) e1 h2 h1).elim
  ·rw [cG n e1] at h1; rw [cG m e2] at h2; exact h.inj n m g (bP n hn) (bP m hm) h1 h2
 ·by_cases e1:n = aR
  ·subst e1
   rw [Mx] at hg
   refine ⟨(GC g hg).1,?_⟩
   rcases (GC g hg).2 with h3 | h3
   ·exact (h.own _ g Mr h3).2
   ·exact .inl (Nat.le_trans h.ext.size h3)
  ·rw [cG n e1] at hg
   obtain ⟨h1,h2⟩:=h.own n g (bP n hn) hg
   exact ⟨Nat.lt_of_lt_of_le h1 hst.size,h2⟩
 ·obtain ⟨_,FA,cs',h1,_⟩:=qu _ _ hc
  exact (cG n FA).trans (h.fP n cs' g h1 hp)

theorem ao.Ee (h : ao W0 F X N s β a w) {d d2 : Nat} (hd : d < N) (bB : ¬ Nm s d) (Cq : ¬ Nm s d2) {w' : World} (hs : ca (fun _ => False) w w') {g : Nat} (S2 : w.heap.size<=g) (rT : g < w'.heap.size)
  {o:Ob} {u:Value} (hv:∀ O':Nat->Prop,fG (ay (ay β d2 none) d (some g)) O' w' d d2 o u) :
  ao W0 F X N (s.put d (.ob d d2 o)) (ay (ay β d2 none) d (some g)) (a.put (some d) u) w':=by
 have bP:∀ n,Nm (s.put d (.ob d d2 o)) n->n = d\/n = d2\/(Nm s n/\n≠d/\n≠d2):=by
  intro n hn
  by_cases e1:n = d
  ·exact .inl e1
  by_cases e2:n = d2
  ·exact .inr (.inl e2)
  refine .inr (.inr ⟨?_,e1,e2⟩)
  rcases hn with ⟨cs,h⟩ | ⟨q,h⟩ | ⟨b,cs,h,c,hc,hn⟩
  ·exact .inl ⟨cs,h⟩
  ·simp only [St.put,bI] at h
   split at h
   ·simp [ids,aw] at h; rcases h with h | h
    ·exact absurd h e1
    ·exact absurd h e2
   ·exact .inr (.inl ⟨q,h⟩)
  ·exact .inr (.inr ⟨b,cs,h,c,hc,hn⟩)
 have cG:∀ n,n≠d->n≠d2->ay (ay β d2 none) d (some g) n = β n:=fun n h1 h2=>by unfold ay; rw [if_neg h1,if_neg h2]
 have MT:ay (ay β d2 none) d (some g) d = some g:=by simp [ay]
 have DY:∀ k,ay (ay β d2 none) d (some g) d2 = some k->k = g:=fun k hk=>by
  unfold ay at hk
  split at hk
  ·injection hk with hk; exact hk.symm
  ·rw [if_pos rfl] at hk; cases hk
 have hO:∀ k,k < w.heap.size->Own X (s.put d (.ob d d2 o)) (ay (ay β d2 none) d (some g)) k->Own X s β k:=by
  rintro k hk (hX | ⟨n,hn,hb⟩)
  ·exact .inl hX
  rcases bP n hn with rfl | rfl | ⟨hn,h1,h2⟩
  ·rw [MT] at hb; injection hb with hb; omega
  ·have:=DY k hb; omega
  ·exact .inr ⟨n,hn,(cG n h1 h2) ▸ hb⟩
 have hk:∀ {av:AV} {v:Value},(∀ n ∈ ids av,Nm s n)->Rel β (Own X s β) w av v->Rel (ay (ay β d2 none) d (some g)) (Own X (s.put d (.ob d d2 o)) (ay (ay β d2 none) d (some g))) w' av v:=fun ck ba =>
  h.AD hs (fun _ _ h=>h.elim) hO ba (fun n hn=>cG n (fun e=>bB (e ▸ ck n hn)) (fun e=>Cq (e ▸ ck n hn))) (fun n hn g' kL=>hs.block g' (h.own n g' (ck n (cN hn)) kL).1 (fun h=>h))
 refine h.yS hs (fun _ _ h=>h.elim) (fun n=>?_) (fun n cs cZ=>?_) (fun n m k hn hm h1 h2=>?_) (fun n k hn jq=>?_) (size_put _ _ _) (fT _ _ _) (fun n cs k hc hp=>(cG n (fun e=>bB (e ▸ .inl ⟨cs,hc⟩)) (fun e=>Cq (e ▸ .inl ⟨cs,hc⟩))).trans (h.fP n cs k hc hp))
 ·rw [eM a d _ (by rw [h.size]; exact hd)]
  simp only [St.put,bI]
  by_cases qw:d = n
  ·simp only [qw,if_true]; subst qw; exact hv _
  ·simp only [qw,if_false]; exact hk (fun k hk=>.inr (.inl ⟨n,hk⟩)) (h.aj n)
 ·obtain ⟨g',us,e,h1,h2,h3⟩:=h.boxes n cs cZ
  have hN:Nm s n:=.inl ⟨cs,cZ⟩
  exact ⟨g',us,e,(cG n (fun e=>bB (e ▸ hN)) (fun e=>Cq (e ▸ hN))).trans h1,(hs.block g' (h.own n g' hN h1).1 (fun h=>h)).trans h2,
   h3.mono fun j c v hc ba=>⟨hk (fun k hk=>.inr (.inr ⟨n,cs,cZ,c,List.mem_of_getElem? hc,hk⟩)) ba.1,ba.2⟩⟩
 ·have aux:∀ m,Nm s m->β m = some g->False:=fun m hm Fy=>by have:=(h.own m g hm Fy).1; omega
  rcases bP n hn with e1 | e1 | ⟨n1,n2,n3⟩<;>rcases bP m hm with e2 | e2 | ⟨m1,m2,m3⟩
  ·rw [e1,e2]
  ·subst e1 e2
   by_cases e:n = m
   ·exact e
   ·exfalso; unfold ay at h2; rw [if_neg (fun e'=>e e'.symm),if_pos rfl] at h2; cases h2
  ·subst e1; rw [MT] at h1; rw [cG m m2 m3] at h2; injection h1 with h1; subst h1; exact (aux m m1 h2).elim
  ·subst e1 e2
   by_cases e:n = m
   ·exact e
   ·exfalso; unfold ay at h1; rw [if_neg e,if_pos rfl] at h1; cases h1
  ·rw [e1,e2]
  ·subst e1; have:=DY k h1; subst this; rw [cG m m2 m3] at h2; exact (aux m m1 h2).elim
  ·subst e2; rw [MT] at h2; rw [cG n n2 n3] at h1; injection h2 with h2; subst h2; exact (aux n n1 h1).elim
  ·subst e2; have:=DY k h2; subst this; rw [cG n n2 n3] at h1; exact (aux n n1 h1).elim
  ·rw [cG n n2 n3] at h1; rw [cG m m2 m3] at h2; exact h.inj n m k n1 m1 h1 h2
 ·rcases bP n hn with rfl | rfl | ⟨n1,n2,n3⟩
  ·rw [MT] at jq; injection jq with jq; subst jq; exact ⟨rT,.inl (Nat.le_trans h.ext.size S2)⟩
  ·have:=DY k jq; subst this; exact ⟨rT,.inl (Nat.le_trans h.ext.size S2)⟩
  ·rw [cG n n2 n3] at jq
   obtain ⟨h1,h2⟩:=h.own n k n1 jq
   exact ⟨Nat.lt_of_lt_of_le h1 hs.size,h2⟩
end
end Go.SX
end
section
namespace Go.SX
variable [Globs]
section
variable {P:Program} {N:Nat} {Γ:Ctx} {W0:World} {F:Fr} {X:Nat->Prop} {s:St} {β:Nat->Option Nat} {a:Act} {w:World}

def jY {σ:Ty} (τ:Ty) (l:List (den σ)) (K:List (den τ)->Prop):Prop:=if h:σ = τ then K (h ▸ l) else False
theorem gX {σ τ:Ty} {l:List (den σ)} {K:List (den τ)->Prop} (h:jY τ l K):∃ e:σ = τ,K (e ▸ l):=by
 unfold jY at h
 split at h
 ·rename_i e; exact ⟨e,h⟩
 ·exact h.elim

/-! ### append -/
def tA (d:Nat) (u:AV) (s:St) (K:St->Prop):Prop :=
 match u with
 | .vec id _ _=>bif Nat.beq id d then K s else dx d s K
 | .vs id _ _ _=>bif Nat.beq id d then K s else dx d s K
 | _=>dx d s K
def wO (s:St) (v:AV):List Nat->Prop
 | []=>True
 | q::r=>fF s.aj q (fun u=>u = v)/\wO s v r
theorem pd {v:AV}:∀ {qs:List Nat},wO s v qs->∀ q ∈ qs,look s.aj q = v
 | q::r,h,p,hp=>by
  obtain ⟨h1,h2⟩:=h
  rw [dA] at h1
  rcases List.mem_cons.1 hp with rfl | hp
  ·exact h1
  ·exact pd h2 p hp
def rB (N:Nat):List Nat->AV->St->(St->Prop)->Prop
 | [],_,s,K=>K s
 | q::r,v,s,K=>al N s (some q) v fun s=>rB N r v s K
theorem sA {g:AV} {u:Value}:∀ (qs:List Nat) {s:St} {K:St->Prop},ao W0 F X N s β a w->(∃ q,q < N/\look s.aj q = g/\a.tmps.getD q undef = u)->(∀ q ∈ qs,a.tmps.getD q undef = u)->rB N qs g s K->∃ s',K s'/\ao W0 F X N s' β a w/\(∀ n,Nm s' n->Nm s n)/\∃ q,q < N/\look s'.aj q = g/\a.tmps.getD q undef = u
 | [],s,K,hI,hq,_,h=>⟨s,h,hI,fun _ h=>h,hq⟩
 | q::r,s,K,hI,⟨q0,hq0,hl,hu⟩,LB,h=>by
  have h:al N s (some q) g fun s=>rB N r g s K:=h
  rw [bZ] at h
  cases hb:Nat.blt q N with
  | false=>rw [hb] at h; exact h.elim
  | true =>
   rw [hb,cond_true] at h
   rw [Nat.blt_eq] at hb
   have hr:=hI.aj q0
   rw [hl,hu] at hr
   have h1:=hI.put hb hr (fun n hn=>.inr (.inl ⟨q0,by rw [hl]; exact hn⟩))
   rw [kQ (LB q (List.mem_cons_self ..)) (by rw [hI.size]; exact hb)] at h1
   obtain ⟨s',z1,z2,z3,z4⟩:=sA r h1 ⟨q,hb,by simp [St.put,bI],LB q (List.mem_cons_self ..)⟩ (fun p hp=>LB p (List.mem_cons_of_mem _ hp)) h
   exact ⟨s',z1,z2,fun n hn=>Nm.uI (fun m hm=>.inr (.inl ⟨q0,by rw [hl]; exact hm⟩)) (z3 n hn),z4⟩
def IT (N d:Nat) (te:TI) (s:St) (id i2:Nat) {τ:Ty} (l m:List (den τ)) (K:St->Prop):Operand->Prop
 | .tmp q => aC (Nat.beq i2 id && !(Nat.beq d q)) ((l.length + m.length) * te.bytes<=140737488355328 /\ (dh d s fun s => al N s (some d) (.vec d τ (l ++ m)) fun s => al N s (some d) (.ob d d (.ln τ (l ++ m))) K) /\
   ∃ qs,(qs.all fun n=>!(Nat.beq n d)) = true/\wO s (.ob id i2 (.ln τ l)) qs/\dh id s fun s=>al N s (some d) (.vec d τ (l++m)) fun s=>al N s (some d) (.ob d d (.ln τ (l++m))) fun s=>al N s (some q) (.ob d d (.ln τ l)) fun s=>rB N qs (.ob d d (.ln τ l)) s K)
 | _=>False
def Tp (N:Nat) (d:Nat) (x:Operand) (te:TI) (s:St):AV->AV->(St->Prop)->Prop
 | .nl,.nl,K=>al N s (some d) .nl K
 | .nl,.rd τ l,K=>aC (Nat.beq te.cells (aX τ)) (l.length * te.bytes<=140737488355328/\dh d s fun s=>al N s (some d) (.vec d τ l) K)
 | .nl,.ob _ _ (.ln τ l),K=>aC (Nat.beq te.cells (aX τ)) (l.length * te.bytes<=140737488355328/\dh d s fun s=>al N s (some d) (.vec d τ l) K)
 | .vec id τ l,.ob _ _ (.ln _ m),K=>aC (Nat.beq te.cells (aX τ)) (jY τ m fun m=>(l.length + m.length) * te.bytes<=140737488355328/\dh id s fun s=>al N s (some d) (.vec d τ (l++m)) K)
 | .vec id τ l,.nl,K=>aC (Nat.beq te.cells (aX τ)) (l.length * te.bytes<=140737488355328/\dh id s fun s=>al N s (some d) (.vec d τ l) K)
 | .vec id τ l,.rd _ m,K=>aC (Nat.beq te.cells (aX τ)) (jY τ m fun m=>(l.length + m.length) * te.bytes<=140737488355328/\dh id s fun s=>al N s (some d) (.vec d τ (l++m)) K)
 | .vs id τ l k,.rd _ m,K=>aC (Nat.beq te.cells (aX τ)) (jY τ m fun m=>(l.length - k + m.length) * te.bytes<=140737488355328/\dh id s fun s=>∀ pre:List (den τ),pre.length<=k->al N s (some d) (.vs d τ (pre++(l.drop k++m)) pre.length) K)
 | .ob id i2 (.ln τ l),.rd _ m,K=>aC (Nat.beq te.cells (aX τ)) (jY τ m fun m=>IT N d te s id i2 l m K x)
 | _,_,_=>False
def Dn (Γ:Ctx) (N:Nat) (s:St) (args:List Operand) (ts:List TypeId) (dst:Option Nat) (K:St->Prop):Prop :=
 match args,ts with
 | [x, y], [t, t'] => cp Γ t' fun ti' => cW ti'.desc fun _ => (jU dst fun d => aC (Nat.blt d N) (eY s [(0, y)] fun ids => dP ids s fun s => bG s x fun u => tA d u s fun s => bG s x fun u => bG s y fun v =>
   cp Γ t fun ti=>cW ti.desc fun e=>cp Γ e fun te=>aC (Nat.ble 1 te.bytes) (Tp N d x te s u v K)))
 | _,_=>False

theorem x5 (hI : ao W0 F X N s β a w) {d : Nat} {u : AV} {K : St -> Prop} (h : tA d u s K) (hu : ∀ n ∈ ids u, Nm s n) :
  ∃ s',K s'/\ao W0 F X N s' β a w/\((s' = s/\((∃ τ l,u = .vec d τ l)\/∃ τ l k,u = .vs d τ l k))\/¬ Nm s' d):=by
 have hf:dx d s K->∃ s',K s'/\ao W0 F X N s' β a w/\((s' = s/\((∃ τ l,u = .vec d τ l)\/∃ τ l k,u = .vs d τ l k))\/¬ Nm s' d):=by
  intro h; rw [cO] at h; exact ⟨_,h,hI.cy d,.inr (eu s d)⟩
 cases u with
 | vec id τ l =>
  have h:bif Nat.beq id d then K s else dx d s K:=h
  cases hb:Nat.beq id d with
  | true=>rw [hb] at h; have:=Nat.eq_of_beq_eq_true hb; subst this; exact ⟨s,h,hI,.inl ⟨rfl,.inl ⟨τ,l,rfl⟩⟩⟩
  | false=>rw [hb] at h; exact hf h
 | vs id τ l k =>
  have h:bif Nat.beq id d then K s else dx d s K:=h
  cases hb:Nat.beq id d with
  | true=>rw [hb] at h; have:=Nat.eq_of_beq_eq_true hb; subst this; exact ⟨s,h,hI,.inl ⟨rfl,.inr ⟨τ,l,k,rfl⟩⟩⟩
  | false=>rw [hb] at h; exact hf h
 | _=>exact hf h

theorem qk {n b:Nat} (hb:1<=b) (h:n * b<=140737488355328):n<=maxLen:=by
 have:n<=n * b:=Nat.le_mul_of_pos_right _ hb
 unfold maxLen
 omega
theorem oq {s:St} {d:Nat} {v:AV} {K:St->Prop} (hd:d < N) (h:al N s (some d) v K):K (s.put d v):=by
 rw [bZ,show Nat.blt d N = true from by rw [Nat.blt_eq]; exact hd,cond_true] at h
 exact h
theorem Jo {s:St} {d:Nat} {v:AV} {K:St->Prop} (h:al N s (some d) v K):d < N/\K (s.put d v):=by
 rw [bZ] at h
 cases hb:Nat.blt d N with
 | false=>rw [hb] at h; exact h.elim
 | true=>rw [hb] at h; exact ⟨by rw [Nat.blt_eq] at hb; exact hb,h⟩

theorem EV (aY : Γ.ok P) (fx : ∀ p ∈ Γ, (∀ v ∈ p.2.zero, v.oneCell' = true) /\ p.2.zero.length = p.2.cells) (hI : ao W0 F X N s β a w) {o : Oper} {args : Array Operand} {ts : Array TypeId}
  (ho:o.op = .call { callee:=.builtin .append,args:=args,argTypes:=ts }) {K:St->Prop} (h:Dn Γ N s args.toList ts.toList o.dst K)
  {next:Act->World->Prop} {Q:Exit->Act->World->Prop} (hn:∀ s' a' w',K s'->Inv W0 F X N s' a' w'->next a' w'):o.wp P a w next Q:=by
 obtain ⟨args⟩:=args
 obtain ⟨ts⟩:=ts
 rcases args with _ | ⟨x,_ | ⟨y,_ | ⟨z,r⟩⟩⟩
 ·exact h.elim
 ·exact h.elim
 ·rcases ts with _ | ⟨t,_ | ⟨t',_ | ⟨t'',r⟩⟩⟩
  ·exact h.elim
  ·exact h.elim
  ·obtain ⟨ti',XC,Pe⟩:=eZ (show cp Γ t' fun ti'=>_ from h)
   clear h
   obtain ⟨e0,Pe,iN⟩:=kV (aY _ XC) Pe
   obtain ⟨d,hd,h⟩:=(cn _ _).1 Pe
   clear Pe
   obtain ⟨jS,h⟩:=(af _ _).1 h
   rw [Nat.blt_eq] at jS
   rw [ek,dL,aE] at h
   have dg:=hI.cA (dC s [(0,y)])
   generalize cA (dC s [(0,y)]) s = s1 at h dg
   obtain ⟨s2,h,fV,bB⟩:=x5 dg h (aF dg x).2
   rw [aE,aE] at h
   obtain ⟨ti,XB,h⟩:=eZ h
   obtain ⟨e,h,hu⟩:=kV (aY _ XB) h
   obtain ⟨te,Y2,h⟩:=eZ h
   have gO:=aY _ Y2
   have IC:=(fx _ Y2).2
   obtain ⟨Lu,h⟩:=(af _ _).1 h
   have Lu:=Nat.le_of_ble_eq_true Lu
   have hx:=aF fV x
   have hy:=aF fV y
   have Xd:∀ id1,Nm s2 d->(∀ τ l,ev s2 x≠.vec id1 τ l\/d = id1)->(∃ τ l,ev s2 x = .vec id1 τ l)->d = id1:=by
    intro id1 _ h1 ⟨τ,l,h2⟩
    rcases h1 τ l with h1 | h1
    ·exact absurd h2 h1
    ·exact h1
   have bu:∀ {u:Value} {w':World},(Builtin.append_ #[t,t'] o.type #[a.eval x,a.eval y]).run P w = .ok u w'->(execOp a.eval o).run P w = .ok (.value u) w':=by
    intro u w' hr
    simp [execOp,ho,resolve,invoke,builtin,hr]
   have fin : ∀ {τ : Ty} {id1 : Nat} {l1 l2 : List (den τ)}, te.cells = aX τ -> (Nm s2 d -> d = id1) -> ((l1 = [] /\ a.eval x = .slice none 0 0) \/ (Nm s2 id1 /\ aU β (Own X s2 β) w id1 τ l1 (a.eval x))) ->
     zf P (Own X s2 β) w τ l2 (a.eval y)->(l1.length + l2.length) * te.bytes<=140737488355328->(dh id1 s2 fun s=>al N s (some d) (.vec d τ (l1++l2)) K)->o.wp P a w next Q:=by
    intro τ id1 l1 l2 bO Lx h1 h2 yZ hK
    rw [fi] at hK
    have hK:=oq jS hK
    obtain ⟨u,w',bJ,hr,bS,_⟩:=sS fV hu iN gO bO IC o.type jS Lx h1 h2 yZ (qk Lu yZ)
    exact eI (bu hr) (by rw [hd]; exact hn _ _ _ hK ⟨bJ,bS⟩)
   have V6:(∀ τ l,ev s2 x≠.vec d τ l)->ev s1 x = ev s2 x\/¬ Nm s2 d->True:=fun _ _=>trivial
   cases jT:ev s2 x with
   | nl =>
    have Lx:Nm s2 d->d = d:=fun _=>rfl
    have At:a.eval x = .slice none 0 0:=by have:=hx.1; rw [jT] at this; exact this.gz
    cases lr:ev s2 y with
    | nl =>
     rw [jT,lr] at h
     have sr:a.eval y = .slice none 0 0:=by have:=hy.1; rw [lr] at this; exact this.gz
     have h:=oq jS (show al N s2 (some d) .nl K from h)
     refine eI (u:=.slice none 0 0) (w':=w) (bu ?_) (by rw [hd]; exact hn _ _ _ h ⟨β,fV.put jS (Rel.im .nl) (by intro n hn; cases hn)⟩)
     obtain ⟨i,z,hi,h1,h2,h3,h4⟩:=gO.info
     simp [At,sr,Builtin.append_,run_underlying hu,run_underlying iN,sizeOf,typeInfo,hi,Builtin.lenOf,Builtin.firstCells]
    | rd τ l =>
     rw [jT,lr] at h
     obtain ⟨bO,yZ,hK⟩:=(af _ _).1 (show aC (Nat.beq te.cells (aX τ)) (l.length * te.bytes<=140737488355328/\dh d s2 fun s=>al N s (some d) (.vec d τ l) K) from h)
     have sr:=hy.1
     rw [lr] at sr
     exact fin (l1:=[]) (Nat.eq_of_beq_eq_true bO) (fun _=>rfl) (.inl ⟨rfl,At⟩) (fA sr) (by simpa using yZ) hK
    | ob i2 i3 ob=>cases ob with
     | ln τ l =>
      rw [jT,lr] at h
      obtain ⟨bO,yZ,hK⟩:=(af _ _).1 (show aC (Nat.beq te.cells (aX τ)) (l.length * te.bytes<=140737488355328/\dh d s2 fun s=>al N s (some d) (.vec d τ l) K) from h)
      have sr:=hy.1
      rw [lr] at sr
      exact fin (l1:=[]) (Nat.eq_of_beq_eq_true bO) (fun _=>rfl) (.inl ⟨rfl,At⟩) (EN (show _/\aU _ _ _ _ _ _ _ from sr).2) (by simpa using yZ) hK
     | _=>rw [jT,lr] at h; exact h.elim
    | _=>rw [jT,lr] at h; exact h.elim
   | vec id τ l =>
    have At:=hx.1
    rw [jT] at At
    have nK:Nm s2 id:=hx.2 id (by rw [jT]; simp [ids,aw])
    have Lx:Nm s2 d->d = id:=by
     intro qw
     rcases bB with ⟨rfl,⟨τ',l',he⟩ | ⟨τ',l',k',he⟩⟩ | bB
     ·rw [jT] at he
      injection he with he
      exact he.symm
     ·rw [jT] at he
      cases he
     ·exact absurd qw bB
    cases lr:ev s2 y with
    | nl =>
     rw [jT,lr] at h
     obtain ⟨bO,yZ,hK⟩:=(af _ _).1 (show aC (Nat.beq te.cells (aX τ)) (l.length * te.bytes<=140737488355328/\dh id s2 fun s=>al N s (some d) (.vec d τ l) K) from h)
     have sr:=hy.1
     rw [lr] at sr
     have sr:=sr.gz
     exact fin (l2:=[]) (Nat.eq_of_beq_eq_true bO) Lx (.inr ⟨nK,At⟩) (by rw [sr]; exact fA (.uR τ none 0 (Nat.zero_le _))) (by simpa using yZ) (by simpa using hK)
    | rd σ m =>
     rw [jT,lr] at h
     obtain ⟨bO,h⟩:=(af _ _).1 (show aC (Nat.beq te.cells (aX τ)) (jY τ m fun m=>(l.length + m.length) * te.bytes<=140737488355328/\dh id s2 fun s=>al N s (some d) (.vec d τ (l++m)) K) from h)
     obtain ⟨e',yZ,hK⟩:=gX h
     subst e'
     have sr:=hy.1
     rw [lr] at sr
     exact fin (Nat.eq_of_beq_eq_true bO) Lx (.inr ⟨nK,At⟩) (fA sr) yZ hK
    | ob i2 i3 ob=>cases ob with
     | ln σ m =>
      rw [jT,lr] at h
      obtain ⟨bO,h⟩:=(af _ _).1 (show aC (Nat.beq te.cells (aX τ)) (jY τ m fun m=>(l.length + m.length) * te.bytes<=140737488355328/\dh id s2 fun s=>al N s (some d) (.vec d τ (l++m)) K) from h)
      obtain ⟨e',yZ,hK⟩:=gX h
      subst e'
      have sr:=hy.1
      rw [lr] at sr
      exact fin (Nat.eq_of_beq_eq_true bO) Lx (.inr ⟨nK,At⟩) (EN (show _/\aU _ _ _ _ _ _ _ from sr).2) yZ hK
     | _=>rw [jT,lr] at h; exact h.elim
    | _=>rw [jT,lr] at h; exact h.elim
   | vs id τ l k =>
    have At:=hx.1
    rw [jT] at At
    have nK:Nm s2 id:=hx.2 id (by rw [jT]; simp [ids,aw])
    have Lx:Nm s2 d->d = id:=by
     intro qw
     rcases bB with ⟨rfl,⟨τ',l',he⟩ | ⟨τ',l',k',he⟩⟩ | bB
     ·rw [jT] at he
      cases he
     ·rw [jT] at he
      injection he with he
      exact he.symm
     ·exact absurd qw bB
    cases lr:ev s2 y with
    | rd σ m =>
     rw [jT,lr] at h
     obtain ⟨bO,h⟩:=(af _ _).1 (show aC (Nat.beq te.cells (aX τ)) (jY τ m fun m=>(l.length - k + m.length) * te.bytes<=140737488355328/\dh id s2 fun s=>∀ pre:List (den τ),pre.length<=k->al N s (some d) (.vs d τ (pre++(l.drop k++m)) pre.length) K) from h)
     obtain ⟨e',yZ,hK⟩:=gX h
     subst e'
     have sr:=hy.1
     rw [lr] at sr
     rw [fi] at hK
     have bO:=Nat.eq_of_beq_eq_true bO
     obtain ⟨u,w',bJ,pre,kM,hr,bS⟩:=BY fV hu iN gO bO IC o.type jS Lx nK At sr yZ (qk Lu yZ)
     have hK:=oq jS (hK pre kM)
     exact eI (bu hr) (by rw [hd]; exact hn _ _ _ hK ⟨bJ,bS⟩)
    | _=>rw [jT,lr] at h; exact h.elim
   | ob id i2 ob=>cases ob with
    | ln τ l =>
     cases lr:ev s2 y with
     | rd σ m =>
      rw [jT,lr] at h
      obtain ⟨bO,h⟩:=(af _ _).1 (show aC (Nat.beq te.cells (aX τ)) (jY τ m fun m=>IT N d te s2 id i2 l m K x) from h)
      obtain ⟨e',h⟩:=gX h
      subst e'
      have sr:=hy.1
      rw [lr] at sr
      have bO:=Nat.eq_of_beq_eq_true bO
      cases x with
      | tmp q =>
       obtain ⟨hc,yZ,Qh,qs,LB,Ah,DO⟩:=(af _ _).1 h
       rw [Bool.and_eq_true,Bool.not_eq_true'] at hc
       have Ai:=Nat.eq_of_beq_eq_true hc.1
       subst Ai
       have da:d≠q:=fun e=>by have h2:=hc.2; rw [e,Nat.beq_refl] at h2; cases h2
       rw [fi] at Qh DO
       have Qh:=oq jS (oq jS Qh)
       have DO:=oq jS (oq jS DO)
       obtain ⟨Zd,DO⟩:=Jo DO
       have hnd:¬ Nm s2 d:=by
        rcases bB with ⟨e0,⟨τ',l',he⟩ | ⟨τ',l',k',he⟩⟩ | bB
        ·rw [<- e0,jT] at he; cases he
        ·rw [<- e0,jT] at he; cases he
        ·exact bB
       obtain ⟨u,w',bJ,hr,bS⟩:=EU fV hu iN gO bO IC o.type jS Zd da hnd jT (fA sr) yZ (qk Lu yZ)
       refine eI (bu hr) ?_
       rw [hd]
       rcases bS with bS | bS
       ·exact hn _ _ _ Qh ⟨bJ,bS⟩
       ·have e0:∀ n,n≠d->(a.put (some d) u).tmps.getD n undef = a.tmps.getD n undef:=fun n hnd=>by rw [eM a d u (by rw [fV.size]; exact jS),if_neg fun e=>hnd e.symm]
        have e1:∀ n ∈ qs,(a.put (some d) u).tmps.getD n undef = a.tmps.getD q undef:=fun n Y7=>by
         have hnd:n≠d:=fun e=>by
          have:=List.all_eq_true.1 LB n Y7
          rw [e,Nat.beq_refl] at this
          cases this
         rw [e0 n hnd]
         have r1:=fV.aj n
         rw [pd Ah n Y7] at r1
         have r2:=fV.aj q
         rw [show SX.look s2.aj q = .ob i2 i2 (.ln σ l) from jT] at r2
         exact aU.uniq (show _/\aU _ _ _ _ _ _ _ from r1).2 (show _/\aU _ _ _ _ _ _ _ from r2).2
        obtain ⟨s3,k1,k2,_⟩:=sA qs bS ⟨q,Zd,by simp [St.put,bI],e0 q (fun e=>da e.symm)⟩ e1 DO
        exact hn _ _ _ k1 ⟨bJ,k2⟩
      | _=>exact h.elim
     | _=>rw [jT,lr] at h; exact h.elim
    | _=>rw [jT] at h; exact h.elim
   | _=>rw [jT] at h; exact h.elim
  ·exact h.elim
 ·exact h.elim

/-! ### calls -/
def ar (P:Program) (f:FuncId) (args:List AV) (r:AV):Prop :=
 (∀ (vs:Array Value) (w:World),(callFunc f vs).run P w = .ok (.enter f vs) w) /\
 ∀ (O:Nat->Prop) (w:World) (vs:List Value),(∀ k,O k->k < w.heap.size)->GlobOK O w->All2 (Im O w) args vs ->
  Calls P f vs.toArray w fun e w'=>∃ v,e = .returned v/\ca (fun _=>False) w w'/\Im O w' r v

theorem ar.mono {f:FuncId} {args:List AV} {r r':AV} (h:ar P f args r) (hr:∀ (O:Nat->Prop) (w:World) (v:Value),Im O w r v->Im O w r' v):ar P f args r' :=
 ⟨h.1,fun O w vs h1 h2 h3=>(h.2 O w vs h1 h2 h3).mono fun _ _ ⟨v,h4,h5,h6⟩=>⟨v,h4,h5,hr _ _ _ h6⟩⟩
def iY:List AV->List Nat
 | []=>[]
 | .vec id _ _::r=>id::iY r
 | .vs id _ _ _::r=>id::iY r
 | _::r=>iY r
def eG:List AV->(List Nat->Prop)->Prop
 | [],K=>K []
 | .vec id _ _::r,K=>eG r fun l=>K (id::l)
 | .vs id _ _ _::r,K=>eG r fun l=>K (id::l)
 | _::r,K=>eG r K
theorem fm (l:List AV):∀ K,eG l K = K (iY l):=by
 induction l with
 | nil=>intro K; rfl
 | cons v r ih=>intro K; cases v<;>simp [eG,iY,ih]
def rW:AV->Bool
 | .bc .. => false
 | .pt .. => false
 | .vec .. => false
 | .vp .. => false
 | .vs .. => false
 | .ag .. => false
 | .ob .. => false
 | _=>true
def cI:List AV->Bool
 | []=>true
 | v::r=>bif rW v then cI r else false
def bN:List AV->Bool
 | []=>true
 | .fn _ ak::r=>bif cI ak then bN r else false
 | _::r=>bN r
def sY (P:Program) (N:Nat) (s:St) (f:Operand) (args:List Operand) (dst:Option Nat) (K:St->Prop):Prop :=
 fc s args fun vs=>eG vs fun ids=>dP ids s fun s=>bG s f fun fv=>fc s args fun vs =>
  match fv with
  | .fn g ak=>aC (cI vs) (aC (bN vs) (aC (cI ak) (∃ r,ar P g (gn vs ak) r/\al N s dst r K)))
  | _=>False
theorem dF {O:Nat->Prop} {c:AV} {v:Value} (h:Rel β O w c v) (hb:rW c = true) (hf:bN [c] = true):Im O w c v:=by
 cases c with
 | fn f ak =>
  obtain ⟨vs,rfl,h1⟩:=h
  refine .fn f ak vs h1.1 fun j av v ck hv=>?_
  have hc:cI ak = true:=by
   simp only [bN] at hf
   cases he:cI ak with
   | true=>rfl
   | false=>rw [he] at hf; cases hf
  have WY:rW av = true:=by
   have hm:=List.mem_of_getElem? ck
   clear h1 hf ck hb
   induction ak with
   | nil=>cases hm
   | cons z r ih =>
    simp only [cI] at hc
    cases hx:rW z with
    | false=>rw [hx] at hc; cases hc
    | true =>
     rw [hx] at hc
     rcases List.mem_cons.1 hm with rfl | hm
     ·exact hx
     ·exact ih hc hm
  have h2:=h1.2 j av v ck hv
  cases av<;>first | exact h2 | (cases WY; done)
 | bc _=>cases hb
 | pt _ _=>cases hb
 | vec _ _ _=>cases hb
 | vp _ _ _ _ _=>cases hb
 | vs _ _ _ _=>cases hb
 | ag _ _=>cases hb
 | ob _ _ _=>cases hb
 | _=>exact h
theorem eR {l:List AV} (h:cI l = true) {c:AV} (hc:c ∈ l):rW c = true:=by
 induction l with
 | nil=>cases hc
 | cons z r ih =>
  simp only [cI] at h
  cases hx:rW z with
  | false=>rw [hx] at h; cases h
  | true =>
   rw [hx] at h
   rcases List.mem_cons.1 hc with rfl | hc
   ·exact hx
   ·exact ih h hc
theorem fU {l:List AV} (h:bN l = true) {c:AV} (hc:c ∈ l):bN [c] = true:=by
 induction l with
 | nil=>cases hc
 | cons z r ih =>
  cases z with
  | fn f ak =>
   simp only [bN] at h
   cases hx:cI ak with
   | false=>rw [hx] at h; cases h
   | true =>
    rw [hx] at h
    rcases List.mem_cons.1 hc with rfl | hc
    ·simp [bN,hx]
    ·exact ih h hc
  | _ =>
   rcases List.mem_cons.1 hc with rfl | hc
   ·rfl
   ·exact ih h hc
theorem qL (hI:ao W0 F X N s β a w):∀ k,Own X s β k->k < w.heap.size:=by
 rintro k (hX | ⟨n,hn,hb⟩)
 ·exact Nat.lt_of_lt_of_le (hI.mh k hX).1 hI.ext.size
 ·exact (hI.own n k hn hb).1

theorem jd {α : Type} {R : AV -> α -> Prop} {vs ak : List AV} {us lY : List α} (h1 : All2 R vs us) (h2 : All2 R ak lY) : All2 R (gn vs ak) (match bQ ak with
  | true=>lY.drop 1++us
  | false=>us++lY):=by
 cases ak with
 | nil=>exact h1.append h2
 | cons c r =>
  cases c with
  | np =>
   obtain ⟨v,vs',rfl,_,h4⟩:=h2.cons_inv
   exact h4.append h1
  | _=>exact h1.append h2
theorem pA {vs ak:List AV} {c:AV} (h:c ∈ gn vs ak):c ∈ vs\/c ∈ ak:=by
 cases ak with
 | nil=>exact List.mem_append.1 h
 | cons x r =>
  cases x with
  | np=>exact (List.mem_append.1 (show c ∈ r++vs from h)).elim (fun h=>.inr (List.mem_cons_of_mem _ h)) .inl
  | _=>exact List.mem_append.1 h
theorem sD {o : Oper} {f : Operand} {args : Array Operand} {ts : Array TypeId} (ho : o.op = .call { callee := .value f, args := args, argTypes := ts }) {ak : List AV} {g : FuncId} {lY : List Value} (pf : a.eval f = BQ ak g lY)
  (cY:∀ (vs:Array Value) (w:World),(callFunc g vs).run P w = .ok (.enter g vs) w):(execOp a.eval o).run P w = .ok (.enter g (s4 ak (args.toList.map a.eval) lY).toArray) w:=by
 unfold BQ at pf
 unfold s4
 cases hp:bQ ak with
 | false =>
  rw [hp] at pf
  have pf:a.eval f = .func (.func g) #[] lY.toArray:=pf
  have e1:args.map a.eval++lY.toArray = (args.toList.map a.eval++lY).toArray:=by apply Array.ext'; simp
  simp [execOp,ho,resolve,pf,Deferred.ofValue,invoke]
  rw [e1]
  exact cY _ w
 | true =>
  rw [hp] at pf
  have pf:a.eval f = .func (.func g) (lY.drop 1).toArray #[]:=pf
  show _ = Result.ok (Next.enter g (lY.drop 1++args.toList.map a.eval).toArray) w
  generalize lY.drop 1 = d at pf ⊢
  have e1:d.toArray++args.map a.eval = (d++args.toList.map a.eval).toArray:=by apply Array.ext'; simp
  simp [execOp,ho,resolve,pf,Deferred.ofValue,invoke]
  rw [e1]
  exact cY _ w
theorem Dt (hI : ao W0 F X N s β a w) {o : Oper} {f : Operand} {args : Array Operand} {ts : Array TypeId} (ho : o.op = .call { callee := .value f, args := args, argTypes := ts }) {K : St -> Prop}
  (h:sY P N s f args.toList o.dst K) {next:Act->World->Prop} {Q:Exit->Act->World->Prop} (hn:∀ s' a' w',K s'->Inv W0 F X N s' a' w'->next a' w'):o.wp P a w next Q:=by
 unfold sY at h
 rw [dc,fm,dL,aE,dc] at h
 have dg:=hI.cA (iY (kC s args.toList))
 generalize cA (iY (kC s args.toList)) s = s1 at h dg
 have hf:=aF dg f
 have p9:=iv dg args.toList
 cases Af:ev s1 f with
 | fn g ak =>
  rw [Af] at h hf
  obtain ⟨h1,h⟩:=(af _ _).1 h
  obtain ⟨h2,h⟩:=(af _ _).1 h
  obtain ⟨h3,h⟩:=(af _ _).1 h
  obtain ⟨r,⟨cY,ja⟩,hK⟩:=h
  obtain ⟨lY,pf,gu⟩:=hf.1
  have Ik:All2 (Im (Own X s1 β) w) (kC s1 args.toList) (args.toList.map a.eval) :=
   p9.1.mono fun _ c v hc hr=>dF hr (eR h1 (List.mem_of_getElem? hc)) (fU h2 (List.mem_of_getElem? hc))
  have Qt:All2 (Im (Own X s1 β) w) ak lY:=gu.mono fun _ c v hc hr=>by
   have hb:=eR h3 (List.mem_of_getElem? hc)
   cases c<;>first | exact hr | (cases hb; done)
  have hs:=ja (Own X s1 β) w _ (qL dg) dg.tC (jd Ik Qt)
  unfold Oper.wp
  have bu:=sD (w:=w) ho pf cY
  rw [bu]
  refine hs.mono fun e w' hp=>?_
  obtain ⟨v,rfl,hst,dw⟩:=hp
  obtain ⟨s',h4,h5⟩:=iI dg hst hK dw
  exact hn _ _ _ h4 ⟨β,h5⟩
 | _=>rw [Af] at h; exact h.elim
/-! ### calls that only read own slices, and hand back no memory -/
def vH (b:List (Nat × List AV)):AV->AV
 | .vec _ τ l=>.rd τ l
 | .vs _ τ l k=>.rd τ (l.drop k)
 | .pt n o=>match o with
  | 0=>match ax b n with
   | some cs=>bif cI cs && bN cs then .rp cs else .pt n 0
   | none=>.pt n 0
  | o + 1=>.pt n (o + 1)
 | v=>v
def nM (b:List (Nat × List AV)):List AV->List AV
 | []=>[]
 | v::r=>vH b v::nM b r
def uV (b:List (Nat × List AV)):AV->AV
 | .fn g ak=>.fn g (nM b ak)
 | v=>vH b v
def jO (b:List (Nat × List AV)):List AV->List AV
 | []=>[]
 | v::r=>uV b v::jO b r
theorem sB (b:List (Nat × List AV)) (l:List AV):nM b l = l.map (vH b):=by induction l with
 | nil=>rfl
 | cons v r ih=>simp [nM,ih]
def WB:AV->Bool
 | .i .. | .b .. | .s .. => true
 | _=>false
def tF:List AV->Bool
 | []=>true
 | v::r=>bif WB v then tF r else false
def HU:AV->Bool
 | .i .. | .b .. | .s .. | .x=>true
 | _=>false
def sk:List AV->Bool
 | []=>true
 | v::r=>bif HU v then sk r else false
def TO:AV->Bool
 | .agg l=>sk l
 | v=>HU v
def x7:List AV->Bool
 | []=>true
 | v::r=>bif TO v then x7 r else false
def Qd:AV->Bool
 | .bc cs=>x7 cs
 | v=>TO v
theorem o8 {O O':Nat->Prop} {w:World} {c:AV} {v:Value} (hg:HU c = true) (h:Im O w c v):Im O' w c v:=by
 cases c<;>first | (cases hg; done) | (cases h; constructor; done) | (cases h; constructor; assumption)
theorem zW {l:List AV} (h:sk l = true) {c:AV} (hc:c ∈ l):HU c = true:=by
 induction l with
 | nil=>cases hc
 | cons z r ih =>
  simp only [sk] at h
  cases hx:HU z with
  | false=>rw [hx] at h; cases h
  | true =>
   rw [hx] at h
   rcases List.mem_cons.1 hc with rfl | hc
   ·exact hx
   ·exact ih h hc
theorem qp {O O':Nat->Prop} {w:World} {c:AV} {v:Value} (hg:TO c = true) (h:Im O w c v):Im O' w c v:=by
 cases c with
 | agg l =>
  cases h with
  | agg _ vs h1 h0 h2=>exact .agg l vs h1 h0 fun j av v ha hv=>o8 (zW hg (List.mem_of_getElem? ha)) (h2 j av v ha hv)
 | i k n=>exact o8 rfl h
 | b t=>exact o8 rfl h
 | s l=>exact o8 rfl h
 | x=>exact o8 rfl h
 | _=>cases hg
theorem Cl {l:List AV} (h:x7 l = true) {c:AV} (hc:c ∈ l):TO c = true:=by
 induction l with
 | nil=>cases hc
 | cons z r ih =>
  simp only [x7] at h
  cases hx:TO z with
  | false=>rw [hx] at h; cases h
  | true =>
   rw [hx] at h
   rcases List.mem_cons.1 hc with rfl | hc
   ·exact hx
   ·exact ih h hc
theorem tG {l:List AV} (h:tF l = true) {c:AV} (hc:c ∈ l):WB c = true:=by
 induction l with
 | nil=>cases hc
 | cons z r ih =>
  simp only [tF] at h
  cases hx:WB z with
  | false=>rw [hx] at h; cases h
  | true =>
   rw [hx] at h
   rcases List.mem_cons.1 hc with rfl | hc
   ·exact hx
   ·exact ih h hc
theorem Pc {O O':Nat->Prop} {w:World} {c:AV} {v:Value} (hg:Qd c = true) (h:Im O w c v):Im O' w c v:=by
 cases c with
 | bc cs =>
  cases h with
  | bc _ vs h1 h2=>exact .bc cs vs h1 fun j av v ha hv=>qp (Cl hg (List.mem_of_getElem? ha)) (h2 j av v ha hv)
 | i k n=>exact qp rfl h
 | b t=>exact qp rfl h
 | s l=>exact qp rfl h
 | x=>exact qp rfl h
 | agg l=>exact qp hg h
 | _=>cases hg
theorem So {β:Nat->Option Nat} {O:Nat->Prop} {w:World} {id:Nat} {τ:Ty} {l:List (den τ)} {v:Value} (h:aU β O w id τ l v):Im (fun _=>False) w (.rd τ l) v:=h.freeze fun _ h=>h.elim
theorem Q3 (b:List (Nat × List AV)) (c:AV):(∃ f ak,c = .fn f ak)\/bN [vH b c] = true:=by
 cases c with
 | fn f ak=>exact .inl ⟨_,_,rfl⟩
 | pt n o =>
  right
  cases o with
  | succ o=>rfl
  | zero =>
   simp only [vH]
   cases ax b n with
   | none=>rfl
   | some cs=>cases h:(cI cs && bN cs)<;>simp only [cond_true,cond_false,h]<;>rfl
 | _=>exact .inr rfl
theorem fJ (hI:ao W0 F X N s β a w) {c:AV} {v:Value} (h:cj β (Own X s β) w c v) (hb:rW (vH s.boxes c) = true) (hf:bN [vH s.boxes c] = true):Im (fun _=>False) w (vH s.boxes c) v:=by
 cases c with
 | vec id τ l=>exact So h
 | vs id τ l k=>exact lZ.freeze (show lZ β (Own X s β) w id τ l k v from h) fun _ h=>h.elim
 | pt n o =>
  obtain ⟨g,hg,rfl⟩:=h
  cases o with
  | succ o=>cases hb
  | zero =>
   cases hl:ax s.boxes n with
   | none=>simp only [vH,hl] at hb; cases hb
   | some cs =>
    cases hc:(cI cs && bN cs) with
    | false=>simp only [vH,hl,hc] at hb; cases hb
    | true =>
     have e:vH s.boxes (.pt n 0) = .rp cs:=by simp only [vH,hl,hc,cond_true]
     rw [Bool.and_eq_true] at hc
     rw [e]
     obtain ⟨g',us,e',h1,h2,h3⟩:=hI.boxes n cs hl
     rw [hg] at h1
     injection h1 with h1
     subst h1
     refine Im.ur fun j av hj=>⟨fun h=>h,?_⟩
     have hlt:j < us.toList.length:=by rw [<- h3.1]; exact (List.getElem?_eq_some_iff.1 hj).1
     have hr:=h3.2 j av _ hj (List.getElem?_eq_getElem hlt)
     refine ⟨us.toList[j],?_,(dF hr.1 (eR hc.1 (List.mem_of_getElem? hj)) (fU hc.2 (List.mem_of_getElem? hj))).mono fun _ h=>h.elim,hr.2⟩
     rw [cell_of_row w g _ us e' (0,0) h2,Nat.zero_add,<- Array.getElem?_toList,List.getElem?_eq_getElem hlt]
 | fn f ak=>exact Im.mono (show Im (Own X s β) w (.fn f ak) v from h) fun _ h=>h.elim
 | bc cs=>exact absurd hb (by simp [vH,rW])
 | ag k cs=>exact absurd hb (by simp [vH,rW])
 | _=>exact (dF (Rel.jk h) hb hf).mono fun _ h=>h.elim
theorem rm (b:List (Nat × List AV)) (ak:List AV):bQ (nM b ak) = bQ ak:=by
 cases ak with
 | nil=>rfl
 | cons c r =>
  cases c with
  | pt n o =>
   cases o with
   | zero =>
    show bQ (vH b (.pt n 0)::nM b r) = false
    simp only [vH]
    cases ax b n with
    | none=>rfl
    | some cs=>simp only; cases (cI cs && bN cs)<;>rfl
   | succ o=>rfl
  | _=>rfl
theorem A8 (hI:ao W0 F X N s β a w) {ak:List AV} {vs:List Value} (h1:All2 (cj β (Own X s β) w) ak vs) (hc:cI (nM s.boxes ak) = true):All2 (Im (fun _=>False) w) (nM s.boxes ak) vs:=by
 refine ⟨by rw [sB,List.length_map]; exact h1.1,fun j av v ck hv=>?_⟩
 have hm:=eR hc (List.mem_of_getElem? ck)
 rw [sB,List.getElem?_map,Option.map_eq_some_iff] at ck
 obtain ⟨c,dv,rfl⟩:=ck
 have hr:=h1.2 j c v dv hv
 rcases Q3 s.boxes c with ⟨f',fL,rfl⟩ | hfn
 ·exact Im.mono (show Im (Own X s β) w (.fn f' fL) v from hr) fun _ h=>h.elim
 ·exact fJ hI hr hm hfn
theorem Nd (hI:ao W0 F X N s β a w) {c:AV} {v:Value} (h:Rel β (Own X s β) w c v) (hb:rW (uV s.boxes c) = true) (hf:bN [uV s.boxes c] = true):Im (fun _=>False) w (uV s.boxes c) v:=by
 cases c with
 | fn f ak =>
  obtain ⟨vs,rfl,h1⟩:=h
  have hc:cI (nM s.boxes ak) = true:=by
   simp only [bN,uV] at hf
   cases he:cI (nM s.boxes ak) with
   | true=>rfl
   | false=>rw [he] at hf; cases hf
  rw [<- tv (rm s.boxes ak) f vs]
  have h9:=A8 hI h1 hc
  exact .fn f _ vs h9.1 h9.2
 | bc cs=>exact absurd hb (by simp [uV,vH,rW])
 | ag k cs=>exact absurd hb (by simp [uV,vH,rW])
 | i k n=>exact fJ hI (c:=.i k n) h hb hf
 | b x=>exact fJ hI (c:=.b x) h hb hf
 | s x=>exact fJ hI (c:=.s x) h hb hf
 | nl=>exact fJ hI (c:=.nl) h hb hf
 | rd τ l=>exact fJ hI (c:=.rd τ l) h hb hf
 | rp cs=>exact fJ hI (c:=.rp cs) h hb hf
 | pt n o=>exact fJ hI (c:=.pt n o) h hb hf
 | vec id τ l=>exact fJ hI (c:=.vec id τ l) h hb hf
 | vp id τ l n o=>exact fJ hI (c:=.vp id τ l n o) h hb hf
 | agg cs=>exact fJ hI (c:=.agg cs) h hb hf
 | vs id τ l k=>exact fJ hI (c:=.vs id τ l k) h hb hf
 | ob i j o=>exact fJ hI (c:=.ob i j o) h hb hf
 | np=>exact fJ hI (c:=.np) h hb hf
 | er e=>exact fJ hI (c:=.er e) h hb hf
 | x=>exact fJ hI (c:=.x) h hb hf
def ou (P:Program) (b:List (Nat × List AV)) (vs:List AV):AV->(AV->Prop)->Prop
 | .fn g ak,K=>aC (cI (jO b vs)) (aC (bN (jO b vs)) (aC (cI (nM b ak)) (∃ r,ar P g (gn (jO b vs) (nM b ak)) r/\aC (Qd r) (K r))))
 | _,_=>False
def xf (P:Program) (N:Nat) (s:St) (f:Operand) (args:List Operand) (dst:Option Nat) (K:St->Prop):Prop :=
 fc s args fun vs=>bG s f fun fv=>ou P s.boxes vs fv fun r=>al N s dst r K
theorem pH (b:List (Nat × List AV)) (l:List AV):jO b l = l.map (uV b):=by induction l with
 | nil=>rfl
 | cons v r ih=>simp [jO,ih]
theorem Ng (hI : ao W0 F X N s β a w) {o : Oper} {f : Operand} {args : Array Operand} {ts : Array TypeId} (ho : o.op = .call { callee := .value f, args := args, argTypes := ts }) {K : St -> Prop}
  (h:xf P N s f args.toList o.dst K) {next:Act->World->Prop} {Q:Exit->Act->World->Prop} (hn:∀ s' a' w',K s'->Inv W0 F X N s' a' w'->next a' w'):o.wp P a w next Q:=by
 unfold xf at h
 rw [dc,aE] at h
 have hf:=aF hI f
 have p9:=iv hI args.toList
 cases Af:ev s f with
 | fn g ak =>
  rw [Af] at h hf
  obtain ⟨h1,h⟩:=(af _ _).1 h
  obtain ⟨h2,h⟩:=(af _ _).1 h
  obtain ⟨h3,h⟩:=(af _ _).1 h
  obtain ⟨r,⟨cY,ja⟩,hK⟩:=h
  obtain ⟨Lz,hK⟩:=(af _ _).1 hK
  obtain ⟨lY,pf,gu⟩:=hf.1
  have Ik:All2 (Im (fun _=>False) w) (jO s.boxes (kC s args.toList)) (args.toList.map a.eval):=by
   rw [pH]
   refine ⟨by rw [List.length_map]; exact p9.1.1,fun j c v hc hv=>?_⟩
   have hm:=List.mem_of_getElem? hc
   rw [List.getElem?_map,Option.map_eq_some_iff] at hc
   obtain ⟨c',dv,rfl⟩:=hc
   rw [<- pH] at hm
   exact Nd hI (p9.1.2 j c' v dv hv) (eR h1 hm) (fU h2 hm)
  have Qt:All2 (Im (fun _=>False) w) (nM s.boxes ak) lY:=by
   exact A8 hI gu h3
  have hs:=ja (fun _=>False) w _ (fun _ h=>h.elim) (fun p hp=>⟨fun h=>h,(hI.tC p hp).2⟩) (rm s.boxes ak ▸ jd Ik Qt)
  unfold Oper.wp
  have bu:=sD (w:=w) ho pf cY
  rw [bu]
  refine hs.mono fun e w' hp=>?_
  obtain ⟨v,rfl,hst,dw⟩:=hp
  obtain ⟨s',h4,h5⟩:=iI hI hst hK (Pc Lz dw)
  exact hn _ _ _ h4 ⟨β,h5⟩
 | _=>rw [Af] at h; exact h.elim
def ae:Nat->List AV->List (Nat × AV)
 | _,[]=>[]
 | n,v::r=>(n,v)::ae (n + 1) r
theorem dI (vs:List AV):∀ (n k:Nat),look (ae n vs) (n + k) = vs.getD k .x:=by
 induction vs with
 | nil=>intro n k; simp [ae,look]
 | cons v r ih =>
  intro n k
  simp only [ae,look]
  cases k with
  | zero=>simp
  | succ k=>rw [dQ (by omega),cond_false,show n + (k + 1) = (n + 1) + k from by omega,ih]; simp
end
end Go.SX
end
section
namespace Go.SX
variable [Globs]
def nN (ρ:Nat->Nat):AV->AV
 | .pt n o=>.pt (ρ n) o
 | .vec id τ l=>.vec (ρ id) τ l
 | .vp id τ l n off=>.vp (ρ id) τ l n off
 | .vs id τ l k=>.vs (ρ id) τ l k
 | .ob i i2 o=>.ob (ρ i) (ρ i2) o
 | v=>v
def e7 (ρ:Nat->Nat):AV->AV
 | .fn f ak=>.fn f (ez (nN ρ) ak)
 | .bc cs=>.bc (ez (nN ρ) cs)
 | .ag k cs=>.ag k (ez (nN ρ) cs)
 | v=>nN ρ v
theorem aU.e7 {β bJ:Nat->Option Nat} {O:Nat->Prop} {w:World} {id lu:Nat} {τ:Ty} {l:List (den τ)} {u:Value} (h:bJ lu = β id):aU bJ O w lu τ l u↔aU β O w id τ l u:=by
 unfold aU; rw [h]
theorem cj.e7 {β bJ:Nat->Option Nat} {O:Nat->Prop} {w:World} {ρ:Nat->Nat} {v:AV} {u:Value} (h:∀ k ∈ aw v,bJ (ρ k) = β k):cj bJ O w (nN ρ v) u↔cj β O w v u:=by
 cases v with
 | pt n o=>simp only [nN,cj]; rw [h n (by simp [aw])]
 | vec id τ l=>exact aU.e7 (h id (by simp [aw]))
 | vp id τ l n off=>simp only [nN,cj,aU.e7 (h id (by simp [aw]))]; rw [h id (by simp [aw])]
 | vs id τ l k=>simp only [nN,cj,lZ,aU.e7 (h id (by simp [aw]))]
 | ob i i2 o =>
  have h1:=h i (by simp [aw])
  have h2:=h i2 (by simp [aw])
  cases o<;>simp only [nN,cj,fG,qe,O5,h1,h2,aU.e7 h1,aU.e7 h2]
 | _=>exact Iff.rfl
theorem All2.iff {R S:AV->Value->Prop} {f:AV->AV} {l:List AV} {us:List Value} (h:∀ v ∈ l,∀ u,R (f v) u↔S v u):All2 R (ez f l) us↔All2 S l us:=by
 rw [bz]
 constructor
 ·rintro ⟨h1,h2⟩
  refine ⟨by simpa using h1,fun j c u hc hu=>(h c (List.mem_of_getElem? hc) u).1 (h2 j (f c) u (by rw [List.getElem?_map,hc]; rfl) hu)⟩
 ·rintro ⟨h1,h2⟩
  refine ⟨by simpa using h1,fun j c u hc hu=>?_⟩
  rw [List.getElem?_map,Option.map_eq_some_iff] at hc
  obtain ⟨c',dv,rfl⟩:=hc
  exact (h c' (List.mem_of_getElem? dv) u).2 (h2 j c' u dv hu)
theorem Rel.e7 {β bJ:Nat->Option Nat} {O:Nat->Prop} {w:World} {ρ:Nat->Nat} {v:AV} {u:Value} (h:∀ k ∈ ids v,bJ (ρ k) = β k):Rel bJ O w (e7 ρ v) u↔Rel β O w v u:=by
 cases v with
 | fn f ak =>
  have hh:∀ us:List Value,All2 (cj bJ O w) (ez (nN ρ) ak) us↔All2 (cj β O w) ak us:=fun us=>All2.iff fun v hv u=>cj.e7 fun k hk=>h k (List.mem_flatMap.2 ⟨v,hv,hk⟩)
  have hf:∀ us,BQ (ez (nN ρ) ak) f us = BQ ak f us:=fun us=>tv (mn (fun v=>by cases v<;>rfl) ak) f us
  simp only [SX.e7,Rel,hh,hf]
 | bc cs =>
  have hh:∀ us:List Value,All2 (cj bJ O w) (ez (nN ρ) cs) us↔All2 (cj β O w) cs us:=fun us=>All2.iff fun v hv u=>cj.e7 fun k hk=>h k (List.mem_flatMap.2 ⟨v,hv,hk⟩)
  simp only [SX.e7,Rel,hh]
 | ag k cs =>
  have hh:∀ us:List Value,All2 (cj bJ O w) (ez (nN ρ) cs) us↔All2 (cj β O w) cs us:=fun us=>All2.iff fun v hv u=>cj.e7 fun k hk=>h k (List.mem_flatMap.2 ⟨v,hv,hk⟩)
  simp only [SX.e7,Rel,hh]
 | vs id τ l k=>exact cj.e7 (O:=O) (w:=w) (v:=.vs id τ l k) h
 | ob i i2 o=>exact cj.e7 (O:=O) (w:=w) (v:=.ob i i2 o) h
 | pt n o=>exact cj.e7 (O:=O) (w:=w) (v:=.pt n o) h
 | vec id τ l=>exact cj.e7 (O:=O) (w:=w) (v:=.vec id τ l) h
 | vp id τ l n off=>exact cj.e7 (O:=O) (w:=w) (v:=.vp id τ l n off) h
 | _=>exact Iff.rfl
theorem IG (ρ:Nat->Nat) (v:AV):aw (nN ρ v) = (aw v).map ρ:=by cases v<;>rfl
theorem jh (ρ:Nat->Nat) (v:AV):ids (e7 ρ v) = (ids v).map ρ:=by
 have h:∀ l:List AV,(ez (nN ρ) l).flatMap aw = (l.flatMap aw).map ρ:=by
  intro l
  induction l with
  | nil=>rfl
  | cons v r ih=>simp only [ez,List.flatMap_cons,List.map_append,ih,IG]
 cases v with
 | fn f ak=>exact h ak
 | bc cs=>exact h cs
 | ag k cs=>exact h cs
 | vs id τ l k=>rfl
 | ob i i2 o=>rfl
 | pt n o=>rfl
 | vec id τ l=>rfl
 | vp id τ l n off=>rfl
 | _=>rfl

/-! ### many names dropped -/
def iy:List Nat->St->St
 | [],s=>s
 | n::r,s=>iy r (s.kill n)
def mq:List Nat->St->(St->Prop)->Prop
 | [],s,K=>K s
 | n::r,s,K=>dh n s fun s'=>mq r s' K
theorem ry (l:List Nat):∀ (s:St) (K:St->Prop),mq l s K = K (iy l s):=by
 induction l with
 | nil=>intro s K; rfl
 | cons n r ih=>intro s K; simp only [mq,iy,fi,ih]
theorem fX (n:Nat) (v:AV):(kill n v = v\/kill n v = .x)/\n ∉ ids (kill n v):=by
 refine ⟨?_,fun h=>(fg n v n h).2 rfl⟩
 unfold kill
 cases cr n (ids v)
 ·exact .inl rfl
 ·exact .inr rfl
theorem yj (l:List Nat):∀ (s:St) (m:Nat),(look (iy l s).aj m = look s.aj m\/look (iy l s).aj m = .x)/\∀ k ∈ ids (look (iy l s).aj m),k ∉ l:=by
 induction l with
 | nil=>intro s m; exact ⟨.inl rfl,fun k _ h=>by cases h⟩
 | cons n r ih =>
  intro s m
  obtain ⟨h1,h2⟩:=ih (s.kill n) m
  have hk:look (s.kill n).aj m = SX.kill n (look s.aj m):=bH _ (mu n) _ _
  obtain ⟨h3,h4⟩:=fX n (look s.aj m)
  simp only [iy]
  rw [hk] at h1
  constructor
  ·rcases h1 with h1 | h1
   ·rw [h1]; exact h3
   ·exact .inr h1
  ·intro k jq Xs
   rcases List.mem_cons.1 Xs with rfl | Xs
   ·rcases h1 with h1 | h1
    ·rw [h1] at jq; exact h4 jq
    ·rw [h1] at jq; cases jq
   ·exact h2 k jq Xs
theorem vR (l : List Nat) : ∀ (s : St) (n : Nat) (cs : List AV), ax (iy l s).boxes n = some cs -> n ∉ l /\ ∃ fE, ax s.boxes n = some fE /\ cs.length = fE.length /\
  ∀ (j:Nat) c,cs[j]? = some c->(fE[j]? = some c\/c = .x)/\∀ k ∈ ids c,k ∉ l:=by
 induction l with
 | nil=>intro s n cs h; exact ⟨by simp,cs,h,rfl,fun j c hc=>⟨.inl hc,fun k _ h=>by cases h⟩⟩
 | cons m r ih =>
  intro s n cs h
  obtain ⟨h1,cs1,h2,h3,h4⟩:=ih (s.kill m) n cs h
  simp only [St.kill,St.bj,St.map,bV,aV] at h2
  split at h2
  ·cases h2
  ·rename_i da
   obtain ⟨fE,h5,rfl⟩:=Option.map_eq_some_iff.1 h2
   refine ⟨?_,fE,h5,by rw [h3,bz,List.length_map],fun j c hc=>?_⟩
   ·intro hm
    rcases List.mem_cons.1 hm with rfl | hm
    ·exact da rfl
    ·exact h1 hm
   ·obtain ⟨h6,h7⟩:=h4 j c hc
    rcases h6 with h6 | h6
    ·rw [bz,List.getElem?_map,Option.map_eq_some_iff] at h6
     obtain ⟨c0,h8,h9⟩:=h6
     obtain ⟨gQ,S0⟩:=fX m c0
     rw [h9] at gQ S0
     refine ⟨?_,fun k hk Uq=>?_⟩
     ·rcases gQ with gQ | gQ
      ·exact .inl (gQ ▸ h8)
      ·exact .inr gQ
     ·rcases List.mem_cons.1 Uq with rfl | Uq
      ·exact S0 hk
      ·exact h7 k hk Uq
    ·subst h6
     exact ⟨.inr rfl,fun k hk=>by cases hk⟩

section
variable {N:Nat} {s:St}
def lQ (j:Nat):List Nat->Bool
 | []=>false
 | k::r=>bif Nat.beq k j then true else lQ j r
theorem cR {j:Nat} {l:List Nat}:lQ j l = true↔j ∈ l:=by
 induction l with
 | nil=>simp [lQ]
 | cons k r ih =>
  simp only [lQ]
  cases h:Nat.beq k j with
  | true=>have:=Nat.eq_of_beq_eq_true h; subst this; simp
  | false => have : j ≠ k := fun e => by subst e; rw [Nat.beq_refl] at h; cases h
             simp [ih,this]
def fI (s:St) (d:Option Nat) (v:AV):St:=match d with
 | some d=>s.put d v
 | none=>s
theorem gb (s:St) (d:Option Nat) (v:AV) (x:Nat):look (fI s d v).aj x = if d = some x then v else look s.aj x:=by
 cases d with
 | none=>simp [fI]
 | some d=>simp [fI,St.put,bI]
theorem jB (s:St) (d:Option Nat) (v:AV):(fI s d v).boxes = s.boxes:=by cases d<;>rfl
theorem fB {d:Option Nat} {v:AV} {K:St->Prop} (h:al N s d v K):K (fI s d v)/\∀ e,d = some e->e < N:=by
 cases d with
 | none=>exact ⟨h,by intro e he; cases he⟩
 | some d =>
  rw [bZ] at h
  cases hb:Nat.blt d N with
  | false=>rw [hb] at h; exact h.elim
  | true=>rw [hb] at h; exact ⟨h,by intro e he; injection he with he; subst he; rw [Nat.blt_eq] at hb; exact hb⟩
theorem vk {d:Option Nat} {v:AV} {K:St->Prop} (hd:∀ e,d = some e->e < N) (h:K (fI s d v)):al N s d v K:=by
 cases d with
 | none=>exact h
 | some d=>rw [bZ,show Nat.blt d N = true from by rw [Nat.blt_eq]; exact hd d rfl]; exact h

end
end Go.SX
end
section
namespace Go.SX
variable [Globs]
section
variable {P:Program} {N:Nat} {Γ:Ctx} {W0:World} {F:Fr} {X:Nat->Prop} {s:St} {β:Nat->Option Nat} {a:Act} {w:World}

def bx (P:Program) (f:FuncId) (args:List AV) (boxes:List (Nat × List AV)) (r:AV) (aB:List (Nat × List AV)):Prop :=
 (∀ (vs:Array Value) (w:World),(callFunc f vs).run P w = .ok (.enter f vs) w) /\
 ∀ (F:Fr) (X:Nat->Prop) (β:Nat->Option Nat) (w:World) (vs:List Value),vs.length = args.length->(∀ n g,F.fP n = some g->∃ cs,ax boxes n = some cs) ->
  ao w F X vs.length ⟨ae 0 args,boxes⟩ β ⟨vs.toArray,[]⟩ w ->
  Calls P f vs.toArray w fun e w'=>∃ v bJ,e = .returned v/\ao w F X 1 ⟨[(0,r)],aB⟩ bJ ⟨#[v],[]⟩ w'

def qE (l:List AV):List Nat:=l.flatMap ids
def jI:List (Nat × List AV)->List Nat
 | []=>[]
 | (n,cs)::r=>n::(qE cs++jI r)
def bb (l:List AV) (b:List (Nat × List AV)):List Nat:=qE l++jI b
def aA:List (Nat × List AV)->List Nat
 | []=>[]
 | (n,_)::r=>n::aA r
theorem ia {b:List (Nat × List AV)} {n:Nat} {cs:List AV} (h:ax b n = some cs):(n,cs) ∈ b:=by
 induction b with
 | nil=>cases h
 | cons p r ih =>
  obtain ⟨m,v⟩:=p
  simp only [ax] at h
  cases hb:Nat.beq m n with
  | true=>rw [hb] at h; injection h with h; subst h; have:=Nat.eq_of_beq_eq_true hb; subst this; exact List.mem_cons_self ..
  | false=>rw [hb] at h; exact List.mem_cons_of_mem _ (ih h)
theorem lA {b:List (Nat × List AV)} {n:Nat} {cs:List AV} (h:(n,cs) ∈ b):n ∈ jI b/\∀ c ∈ cs,∀ k ∈ ids c,k ∈ jI b:=by
 induction b with
 | nil=>cases h
 | cons p r ih =>
  obtain ⟨m,v⟩:=p
  simp only [jI,List.mem_cons,List.mem_append]
  rcases List.mem_cons.1 h with h | h
  ·injection h with h1 h2; subst h1 h2
   exact ⟨.inl rfl,fun c hc k hk=>.inr (.inl (List.mem_flatMap.2 ⟨c,hc,hk⟩))⟩
  ·obtain ⟨h1,h2⟩:=ih h
   exact ⟨.inr (.inr h1),fun c hc k hk=>.inr (.inr (h2 c hc k hk))⟩
theorem sO {sl:List (Nat × AV)} {l:List AV} {b:List (Nat × List AV)} (Iw:∀ m,look sl m = .x\/look sl m ∈ l) {n:Nat} (h:Nm ⟨sl,b⟩ n):n ∈ bb l b:=by
 rcases h with ⟨cs,h⟩ | ⟨m,h⟩ | ⟨k,cs,h,c,hc,hn⟩
 ·exact List.mem_append_right _ (lA (ia h)).1
 ·rcases Iw m with e | e
  ·simp only [e] at h; cases h
  ·exact List.mem_append_left _ (List.mem_flatMap.2 ⟨_,e,h⟩)
 ·exact List.mem_append_right _ ((lA (ia h)).2 c hc n hn)
theorem vS (l:List AV):∀ (k m:Nat),look (ae k l) m = .x\/look (ae k l) m ∈ l:=by
 induction l with
 | nil=>intro k m; exact .inl rfl
 | cons v r ih =>
  intro k m
  simp only [ae,look]
  cases Nat.beq k m with
  | true=>exact .inr (List.mem_cons_self ..)
  | false=>exact (ih (k + 1) m).imp id (List.mem_cons_of_mem _)

def eN:List (Nat × Nat)->Nat->Nat
 | [],n=>n
 | (m,k)::r,n=>bif Nat.beq m n then k else eN r n
def gG (ρ:Nat->Nat):List (Nat × List AV)->St->St
 | [],s=>s
 | (n,cs)::r,s=>(gG ρ r s).bF (ρ n) (ez (e7 ρ) cs)
theorem vj (ρ:Nat->Nat) (b:List (Nat × List AV)) (s:St):(gG ρ b s).aj = s.aj:=by
 induction b with
 | nil=>rfl
 | cons p r ih=>obtain ⟨n,cs⟩:=p; exact ih
theorem uj (ρ : Nat -> Nat) (b : List (Nat × List AV)) (s : St) (Qu : ∀ n ∈ aA b, ∀ m ∈ aA b, ρ n = ρ m -> n = m) (k : Nat) :
  (∃ n cs,ax b n = some cs/\k = ρ n/\ax (gG ρ b s).boxes k = some (ez (e7 ρ) cs))\/((∀ n ∈ aA b,k≠ρ n)/\ax (gG ρ b s).boxes k = ax s.boxes k):=by
 induction b with
 | nil=>exact .inr ⟨by simp [aA],rfl⟩
 | cons p r ih =>
  obtain ⟨n,cs⟩:=p
  have ih:=ih fun n hn m hm=>Qu n (List.mem_cons_of_mem _ hn) m (List.mem_cons_of_mem _ hm)
  simp only [gG,St.bF,bW]
  by_cases hk:ρ n = k
  ·rw [if_pos hk]
   exact .inl ⟨n,cs,by simp [ax],hk.symm,rfl⟩
  ·rw [if_neg hk]
   rcases ih with ⟨m,cs',h1,h2,h3⟩ | ⟨h1,h2⟩
   ·refine .inl ⟨m,cs',?_,h2,h3⟩
    have da:n≠m:=fun e=>hk (by rw [e,h2])
    simp only [ax,dQ da,cond_false]
    exact h1
   ·refine .inr ⟨fun m hm=>?_,h2⟩
    rcases List.mem_cons.1 hm with rfl | hm
    ·exact fun e=>hk e.symm
    ·exact h1 m hm

def ep (β:Nat->Option Nat) (ρ:Nat->Nat) (aS:List AV) (aJ:List (Nat × List AV)):Fr :=
 ⟨fun k=>∃ n ∈ bb aS aJ,β (ρ n) = some k,fun n=>if n ∈ aA aJ then β (ρ n) else none,[]⟩
def oW (X:Nat->Prop) (s:St) (β:Nat->Option Nat) (F:Fr) (k:Nat):Prop:=Own X s β k/\¬ F.own k
theorem bd {b:List (Nat × List AV)} {n:Nat}:n ∈ aA b↔∃ cs,ax b n = some cs:=by
 induction b with
 | nil=>simp [aA,ax]
 | cons p r ih =>
  obtain ⟨m,cs⟩:=p
  simp only [aA,List.mem_cons,ax,ih]
  cases hb:Nat.beq m n with
  | true=>have:=Nat.eq_of_beq_eq_true hb; subst this; simp
  | false =>
   have:n≠m:=fun e=>by subst e; rw [Nat.beq_refl] at hb; cases hb
   simp [this]

structure qb (s:St) (β:Nat->Option Nat) (N:Nat) (ρ:Nat->Nat) (aS:List AV) (aJ:List (Nat × List AV)) (r:AV) (au:List (Nat × List AV)):Prop where
 names:∀ k ∈ qE aS,Nm s (ρ k)
 boxes:∀ n cs,(n,cs) ∈ aJ->ax s.boxes (ρ n) = some (ez (e7 ρ) cs)
 inj:∀ k ∈ bb aS aJ++bb [r] au,∀ k' ∈ bb aS aJ++bb [r] au,ρ k = ρ k'->k = k'
 new:∀ k ∈ bb [r] au,k ∉ bb aS aJ->ρ k < N/\¬ Nm s (ρ k)
 PD:∀ k ∈ aA au,k ∈ bb aS aJ->k ∈ aA aJ
 sep:∀ k ∈ aA au,k ∈ bb aS aJ->(∀ m,ρ k ∉ dT (look s.aj m))/\∀ b cs,ax s.boxes b = some cs->∀ c ∈ cs,ρ k ∉ dT c
 low:∀ n ∈ aA aJ,aS.length<=n
 uniq:∀ n cs,(n,cs) ∈ au->ax au n = some cs

theorem qb.pre {ρ:Nat->Nat} {aS:List AV} {aJ au:List (Nat × List AV)} {r:AV} (h:qb s β N ρ aS aJ r au):∀ k ∈ bb aS aJ,Nm s (ρ k):=by
 intro k hk
 rcases List.mem_append.1 hk with hk | hk
 ·exact h.names k hk
 ·have key : ∀ l : List (Nat × List AV), (∀ p ∈ l, p ∈ aJ) -> k ∈ jI l -> Nm s (ρ k) := by
   intro l
   induction l with
   | nil=>intro _ hk; cases hk
   | cons p t ih =>
    obtain ⟨n,cs⟩:=p
    intro hs hk
    have hb:=h.boxes n cs (hs _ (List.mem_cons_self ..))
    simp only [jI,List.mem_cons,List.mem_append] at hk
    rcases hk with rfl | hk | hk
    ·exact .inl ⟨_,hb⟩
    ·obtain ⟨c,hc,MG⟩:=List.mem_flatMap.1 hk
     refine .inr (.inr ⟨_,_,hb,e7 ρ c,?_,?_⟩)
     ·rw [bz]; exact List.mem_map.2 ⟨c,hc,rfl⟩
     ·rw [jh]; exact List.mem_map.2 ⟨k,MG,rfl⟩
    ·exact ih (fun p hp=>hs p (List.mem_cons_of_mem _ hp)) hk
  exact key aJ (fun _ h=>h) hk

theorem Hi (hI : ao W0 F X N s β a w) {ρ : Nat -> Nat} {aS : List AV} {aJ au : List (Nat × List AV)} {r : AV} (h : qb s β N ρ aS aJ r au) {vs : List Value}
  (p9:All2 (Rel β (Own X s β) w) (ez (e7 ρ) aS) vs) :
  (∀ n g,(ep β ρ aS aJ).fP n = some g->∃ cs,ax aJ n = some cs) /\
  ao w (ep β ρ aS aJ) (oW X s β (ep β ρ aS aJ)) vs.length ⟨ae 0 aS,aJ⟩ (fun k=>β (ρ k)) ⟨vs.toArray,[]⟩ w:=by
 have iT:∀ n g,(ep β ρ aS aJ).fP n = some g->n ∈ aA aJ:=fun n g hg=>by
  simp only [ep] at hg
  split at hg
  ·assumption
  ·cases hg
 have bP:∀ n,Nm ⟨ae 0 aS,aJ⟩ n->n ∈ bb aS aJ:=fun n=>sO (vS aS 0)
 have hO:∀ k,Own (oW X s β (ep β ρ aS aJ)) ⟨ae 0 aS,aJ⟩ (fun k=>β (ρ k)) k->Own X s β k:=by
  rintro k (⟨hk,_⟩ | ⟨n,hn,hb⟩)
  ·exact hk
  ·exact .inr ⟨ρ n,h.pre n (bP n hn),hb⟩
 have hlen:vs.length = aS.length:=by have:=p9.1; simpa [bz] using this.symm
 refine ⟨fun n g hg=>bd.1 (iT n g hg),ca.refl _ _,fun n=>?_,by simp,fun n cs hc=>?_,fun n m g hn hm h1 h2=>?_,fun n g hn hg=>?_,rfl,fun k hk=>?_,fun n cs g hc hg=>?_,fun n hn=>?_,hI.tC.step (ca.refl (fun _=>False) w) (fun _ _ h=>h.elim) fun k _ hk=>hk.elim (fun h=>h.1) fun ⟨n,hn,hb⟩=>.inr ⟨ρ n,h.pre n hn,hb⟩⟩
 ·have h1:=dI aS 0 n
  rw [Nat.zero_add] at h1
  show Rel _ _ _ (look (ae 0 aS) n) _
  rw [h1]
  by_cases hm:n < aS.length
  ·have zc:n < vs.length:=by omega
   have h2:=p9.2 n (e7 ρ aS[n]) _ (by rw [bz,List.getElem?_map,List.getElem?_eq_getElem hm]; rfl) (List.getElem?_eq_getElem zc)
   rw [List.getD_eq_getElem?_getD,List.getElem?_eq_getElem hm]
   have h3:vs.toArray.getD n undef = vs[n]:=by simp [zc]
   rw [show (some aS[n]).getD AV.x = aS[n] from rfl]
   show Rel _ _ _ _ (vs.toArray.getD n undef)
   rw [h3]
   exact ((Rel.e7 (β:=fun k=>β (ρ k)) fun _ _=>rfl).1 h2).mono hO
  ·rw [List.getD_eq_getElem?_getD,List.getElem?_eq_none (by omega)]
   exact Rel.x
 ·obtain ⟨g,us,e,h1,h2,h3⟩:=hI.boxes (ρ n) _ (h.boxes n cs (ia hc))
  refine ⟨g,us,e,h1,h2,?_⟩
  refine ((All2.iff (R:=iP β (Own X s β) w) (S:=iP (fun k=>β (ρ k)) (Own X s β) w) (f:=e7 ρ) fun v _ u=>?_).1 h3).mono fun j c v _ hr=>⟨hr.1.mono hO,hr.2⟩
  exact and_congr (Rel.e7 (β:=fun k=>β (ρ k)) fun _ _=>rfl) Iff.rfl
 ·exact h.inj n (List.mem_append_left _ (bP n hn)) m (List.mem_append_left _ (bP m hm)) (hI.inj (ρ n) (ρ m) g (h.pre n (bP n hn)) (h.pre m (bP m hm)) h1 h2)
 ·exact ⟨(hI.own (ρ n) g (h.pre n (bP n hn)) hg).1,.inr ⟨n,bP n hn,hg⟩⟩
 ·exact ⟨qL hI k hk.1,hk.2⟩
 ·simp only [ep] at hg
  split at hg
  ·exact hg
  ·cases hg
 ·simp only [ep]
  rw [if_neg fun hm=>?_]
  have:=h.low n hm
  omega

def jA (ρ:Nat->Nat) (post:List Nat) (β bJ:Nat->Option Nat) (m:Nat):Option Nat:=match post.find? fun k=>Nat.beq (ρ k) m with
 | some k=>bJ k
 | none=>β m
def j5 (ρ:Nat->Nat) (pre:List Nat) (bn:List Nat):List Nat:=(pre.filter fun k=>!(lQ k bn)).map ρ
def gk (ρ:Nat->Nat) (pre:List Nat) (au:List (Nat × List AV)) (s:St):St:=gG ρ au (iy (j5 ρ pre (aA au)) s)

theorem Ds (hI : ao W0 F X N s β a w) {ρ : Nat -> Nat} {aS : List AV} {aJ au : List (Nat × List AV)} {r : AV} (h : qb s β N ρ aS aJ r au) {v : Value} {bJ : Nat -> Option Nat} {w' : World}
  (hP:ao w (ep β ρ aS aJ) (oW X s β (ep β ρ aS aJ)) 1 ⟨[(0,r)],au⟩ bJ ⟨#[v],[]⟩ w') {dst:Option Nat} (hd:∀ d,dst = some d->d < N) :
  ao W0 F X N (fI (gk ρ (bb aS aJ) au s) dst (e7 ρ r)) (jA ρ (bb [r] au) β bJ) (a.put dst v) w' /\
   ∀ k,Own X (fI (gk ρ (bb aS aJ) au s) dst (e7 ρ r)) (jA ρ (bb [r] au) β bJ) k->Own (oW X s β (ep β ρ aS aJ)) ⟨[(0,r)],au⟩ bJ k:=by
 generalize kM:bb aS aJ = pre
 generalize kc:bb [r] au = post
 have B1:∀ k ∈ post,jA ρ post β bJ (ρ k) = bJ k:=by
  intro k hk
  unfold jA
  cases hf:post.find? fun k'=>Nat.beq (ρ k') (ρ k) with
  | none=>exact absurd (List.find?_eq_none.1 hf k hk) (by simp)
  | some k' =>
   have h1:=List.find?_some hf
   have h2:=List.mem_of_find?_eq_some hf
   have:=h.inj k' (by rw [kc]; exact List.mem_append_right _ h2) k (by rw [kc]; exact List.mem_append_right _ hk) (Nat.eq_of_beq_eq_true h1)
   rw [this]
 have B2:∀ m,(∀ k ∈ post,m≠ρ k)->jA ρ post β bJ m = β m:=by
  intro m hm
  unfold jA
  cases hf:post.find? fun k'=>Nat.beq (ρ k') m with
  | none=>rfl
  | some k' => 
   have h1:=List.find?_some hf
   exact absurd (Nat.eq_of_beq_eq_true h1).symm (hm k' (List.mem_of_find?_eq_some hf))
 have Ig:∀ k ∈ pre,ρ k ∉ j5 ρ pre (aA au)->k ∈ aA au:=by
  intro k hk hnd
  by_cases hb:k ∈ aA au
  ·exact hb
  ·exfalso
   apply hnd
   refine List.mem_map.2 ⟨k,List.mem_filter.2 ⟨hk,?_⟩,rfl⟩
   cases hi:lQ k (aA au) with
   | true=>exact absurd (cR.1 hi) hb
   | false=>rfl
 have kK:∀ k ∈ aA au,k ∈ post:=fun k hk=>by
  obtain ⟨cs,hc⟩:=bd.1 hk
  rw [<- kc]; exact List.mem_append_right _ (lA (ia hc)).1
 have Iu:∀ k ∈ ids r,k ∈ post:=fun k hk=>by rw [<- kc]; exact List.mem_append_left _ (List.mem_flatMap.2 ⟨r,List.mem_singleton.2 rfl,hk⟩)
 have Ic:∀ n cs,ax au n = some cs->∀ c ∈ cs,∀ k ∈ ids c,k ∈ post:=fun n cs hc c Qm k hk=>by rw [<- kc]; exact List.mem_append_right _ ((lA (ia hc)).2 c Qm k hk)
 have H2:∀ k ∈ pre,Nm s (ρ k):=fun k hk=>h.pre k (by rw [kM]; exact hk)
 have Ub:∀ n ∈ aA au,∀ m ∈ aA au,ρ n = ρ m->n = m:=fun n hn m hm e =>
  h.inj n (List.mem_append_right _ (by rw [kc]; exact kK n hn)) m (List.mem_append_right _ (by rw [kc]; exact kK m hm)) e
 -- the boxes of the new state
 have lX : ∀ k cs, ax (fI (gk ρ pre au s) dst (e7 ρ r)).boxes k = some cs ->
   (∃ n cs',ax au n = some cs'/\k = ρ n/\cs = ez (e7 ρ) cs') \/
   ((∀ n ∈ aA au,k≠ρ n)/\k ∉ j5 ρ pre (aA au)/\∃ fE,ax s.boxes k = some fE/\cs.length = fE.length /\
     ∀ (j:Nat) c,cs[j]? = some c->(fE[j]? = some c\/c = .x)/\∀ k ∈ ids c,k ∉ j5 ρ pre (aA au)):=by
  intro k cs hk
  rw [jB] at hk
  rcases uj ρ au (iy (j5 ρ pre (aA au)) s) Ub k with ⟨n,cs',h1,h2,h3⟩ | ⟨h1,h2⟩
  ·rw [show ax (gk ρ pre au s).boxes k = _ from h3] at hk
   injection hk with hk
   exact .inl ⟨n,cs',h1,h2,hk.symm⟩
  ·rw [show ax (gk ρ pre au s).boxes k = _ from h2] at hk
   obtain ⟨h3,h4⟩:=vR _ _ _ _ hk
   exact .inr ⟨h1,h3,h4⟩
 have ru : ∀ q, (dst = some q /\ look (fI (gk ρ pre au s) dst (e7 ρ r)).aj q = e7 ρ r) \/
   (dst≠some q/\(look (fI (gk ρ pre au s) dst (e7 ρ r)).aj q = look s.aj q\/look (fI (gk ρ pre au s) dst (e7 ρ r)).aj q = .x) /\
    ∀ k ∈ ids (look (fI (gk ρ pre au s) dst (e7 ρ r)).aj q),k ∉ j5 ρ pre (aA au)):=by
  intro q
  rw [gb]
  by_cases hq:dst = some q
  ·rw [if_pos hq]; exact .inl ⟨hq,rfl⟩
  ·rw [if_neg hq,show (gk ρ pre au s).aj = _ from vj _ _ _]
   exact .inr ⟨hq,yj _ _ _⟩
 have bP:∀ m,Nm (fI (gk ρ pre au s) dst (e7 ρ r)) m->(∃ k ∈ post,m = ρ k)\/(Nm s m/\m ∉ j5 ρ pre (aA au)/\∀ k ∈ post,m≠ρ k):=by
  intro m hm
  by_cases UB:∃ k ∈ post,m = ρ k
  ·exact .inl UB
  have oG:∀ k ∈ post,m≠ρ k:=fun k hk e=>UB ⟨k,hk,e⟩
  refine .inr ?_
  rcases hm with ⟨cs,hc⟩ | ⟨q,hq⟩ | ⟨b,cs,hc,c,Qm,hk⟩
  ·rcases lX m cs hc with ⟨n,cs',h1,h2,_⟩ | ⟨_,h2,fE,h3,_⟩
   ·exact absurd h2 (oG n (kK n (bd.2 ⟨cs',h1⟩)))
   ·exact ⟨.inl ⟨fE,h3⟩,h2,oG⟩
  ·rcases ru q with ⟨_,h2⟩ | ⟨_,h2,h3⟩
   ·rw [h2,jh] at hq
    obtain ⟨k,hk,rfl⟩:=List.mem_map.1 hq
    exact absurd rfl (oG k (Iu k hk))
   ·refine ⟨?_,h3 m hq,oG⟩
    rcases h2 with h2 | h2
    ·rw [h2] at hq; exact .inr (.inl ⟨q,hq⟩)
    ·rw [h2] at hq; cases hq
  ·rcases lX b cs hc with ⟨n,cs',h1,h2,rfl⟩ | ⟨_,h2,fE,h3,h4,h5⟩
   ·rw [bz] at Qm
    obtain ⟨c',dv,rfl⟩:=List.mem_map.1 Qm
    rw [jh] at hk
    obtain ⟨k,jq,e⟩:=List.mem_map.1 hk
    exact absurd e.symm (oG k (Ic n cs' h1 c' dv k jq))
   ·obtain ⟨j,hj⟩:=List.getElem?_of_mem Qm
    obtain ⟨h6,h7⟩:=h5 j c hj
    refine ⟨?_,h7 m hk,oG⟩
    rcases h6 with h6 | h6
    ·exact .inr (.inr ⟨b,fE,h3,c,List.mem_of_getElem? h6,hk⟩)
    ·rw [h6] at hk; cases hk
 have Yz:∀ m,Nm ⟨[(0,r)],au⟩ m->m ∈ post:=fun m hm=>by
  rw [<- kc]
  refine sO (fun q=>?_) hm
  simp only [look]
  cases Nat.beq 0 q with
  | true=>exact .inr (List.mem_singleton.2 rfl)
  | false=>exact .inl rfl
 have nc:∀ k ∈ post,Nm ⟨[(0,r)],au⟩ k:=by
  intro k hk
  rw [<- kc] at hk
  rcases List.mem_append.1 hk with hk | hk
  ·obtain ⟨c,hc,tT⟩:=List.mem_flatMap.1 hk
   rw [List.mem_singleton] at hc
   exact .inr (.inl ⟨0,hc ▸ tT⟩)
  ·have key : ∀ l : List (Nat × List AV), (∀ p ∈ l, p ∈ au) -> k ∈ jI l -> Nm ⟨[(0, r)], au⟩ k := by
    intro l
    induction l with
    | nil=>intro _ hk; cases hk
    | cons p t ih =>
     obtain ⟨n,cs⟩:=p
     intro hs hk
     have hb:=h.uniq n cs (hs _ (List.mem_cons_self ..))
     simp only [jI,List.mem_cons,List.mem_append] at hk
     rcases hk with rfl | hk | hk
     ·exact .inl ⟨_,hb⟩
     ·obtain ⟨c,hc,MG⟩:=List.mem_flatMap.1 hk
      exact .inr (.inr ⟨_,_,hb,c,hc,MG⟩)
     ·exact ih (fun p hp=>hs p (List.mem_cons_of_mem _ hp)) hk
   exact key au (fun _ h=>h) hk
 -- PD names that are still there were not handed over, but for boxes
 have hold:∀ m,Nm s m->m ∉ j5 ρ pre (aA au)->∀ k ∈ pre,m = ρ k->k ∈ aA au:=fun m _ hnd k hk e=>Ig k hk (e ▸ hnd)
 have yd:∀ m,Nm s m->m ∉ j5 ρ pre (aA au)->(∀ k ∈ post,m≠ρ k)->∀ k ∈ pre,m≠ρ k:=fun m hm hnd oG k hk e=>oG k (kK k (hold m hm hnd k hk e)) e
 have hF:∀ g,(ep β ρ aS aJ).own g↔∃ n ∈ pre,β (ρ n) = some g:=fun g=>by rw [<- kM]; exact Iff.rfl
 have zZ:∀ g,(ep β ρ aS aJ).own g->oK s β g:=fun g hg=>by
  obtain ⟨n,hn,hb⟩:=(hF g).1 hg
  exact ⟨ρ n,H2 n hn,hb⟩
 have cG:∀ m,Nm s m->m ∉ j5 ρ pre (aA au)->jA ρ post β bJ m = β m:=by
  intro m hm hnd
  by_cases UB:∃ k ∈ post,m = ρ k
  ·obtain ⟨k,hk,rfl⟩:=UB
   rw [B1 k hk]
   by_cases nQ:k ∈ pre
   ·have MF:=Ig k nQ hnd
    obtain ⟨cs,cZ⟩:=bd.1 MF
    have Ak:=h.PD k MF (by rw [kM]; exact nQ)
    obtain ⟨fE,Qn⟩:=bd.1 Ak
    obtain ⟨g,_,_,hg,_⟩:=hI.boxes _ _ (h.boxes k fE (ia Qn))
    rw [hP.fP k cs g cZ (by simp only [ep]; rw [if_pos Ak]; exact hg),hg]
   ·exact absurd hm (h.new k (by rw [kc]; exact hk) (by rw [kM]; exact nQ)).2
  ·exact B2 m fun k hk e=>UB ⟨k,hk,e⟩
 have hO:∀ k,k < w.heap.size->Own X (fI (gk ρ pre au s) dst (e7 ρ r)) (jA ρ post β bJ) k->Own X s β k:=by
  rintro k hk (hX | ⟨m,hm,hb⟩)
  ·exact .inl hX
  rcases bP m hm with ⟨k',jq,rfl⟩ | ⟨h1,h2,h3⟩
  ·rw [B1 k' jq] at hb
   rcases (hP.own k' k (nc k' jq) hb).2 with h4 | h4
   ·omega
   ·exact .inr (zZ k h4)
  ·rw [B2 m h3] at hb
   exact .inr ⟨m,h1,hb⟩
 have Aa:∀ k,Own X (fI (gk ρ pre au s) dst (e7 ρ r)) (jA ρ post β bJ) k->Own (oW X s β (ep β ρ aS aJ)) ⟨[(0,r)],au⟩ bJ k:=by
  rintro k (hX | ⟨m,hm,hb⟩)
  ·refine .inl ⟨.inl hX,fun Fv=>?_⟩
   obtain ⟨n,hn,hb⟩:=zZ k Fv
   exact hI.Cd n k hn hb hX
  rcases bP m hm with ⟨k',jq,rfl⟩ | ⟨h1,h2,h3⟩
  ·rw [B1 k' jq] at hb
   exact .inr ⟨k',nc k' jq,hb⟩
  ·rw [B2 m h3] at hb
   refine .inl ⟨.inr ⟨m,h1,hb⟩,fun Fv=>?_⟩
   obtain ⟨n,hn,Ql⟩:=(hF k).1 Fv
   exact yd m h1 h2 h3 n hn (hI.inj m (ρ n) k h1 (H2 n hn) hb Ql)
 have ea : ∀ {v1 : AV} {u : Value}, (∀ k ∈ ids v1, Nm s k /\ k ∉ j5 ρ pre (aA au)) -> (∀ k ∈ aA au, k ∈ pre -> ρ k ∉ dT v1) -> Rel β (Own X s β) w v1 u ->
   Rel (jA ρ post β bJ) (Own X (fI (gk ρ pre au s) dst (e7 ρ r)) (jA ρ post β bJ)) w' v1 u:=fun {v1 u} bt hv hr =>
  hI.AD hP.ext (fun k _ hk=>zZ k hk) hO hr (fun n hn=>cG n (bt n hn).1 (bt n hn).2) (fun n hn g hg=>hP.ext.block g (hI.own n g (bt n (cN hn)).1 hg).1 (fun Fv=>by
   obtain ⟨n',jg,hb⟩:=(hF g).1 Fv
   have e:=hI.inj n (ρ n') g (bt n (cN hn)).1 (H2 n' jg) hg hb
   exact hv n' (hold n (bt n (cN hn)).1 (bt n (cN hn)).2 n' jg e) jg (e ▸ hn)))
 refine ⟨hI.yS hP.ext (fun k _ hk=>zZ k hk) (fun n=>?_) (fun n cs hc=>?_) (fun m m' g hm Il h1 h2=>?_) (fun m g hm hg=>?_) (size_put _ _ _) (fT _ _ _) (fun n cs g hc hg=>?_),Aa⟩
 ·rcases ru n with ⟨h1,h2⟩ | ⟨h1,h2,h3⟩
  ·have e:(a.put dst v).tmps.getD n undef = v:=by rw [h1,eM a n v (by rw [hI.size]; exact hd n h1),if_pos rfl]
   rw [h2,e]
   refine (Rel.e7 fun k hk=>B1 k (Iu k hk)).2 ?_
   have:=hP.aj 0
   exact Rel.mono (show Rel bJ _ w' r v from this) Aa
  ·have e : (a.put dst v).tmps.getD n undef = a.tmps.getD n undef := by
    cases dst with
    | none=>rfl
    | some d =>
     have da:d≠n:=fun e=>h1 (by rw [e])
     rw [eM a d v (by rw [hI.size]; exact hd d rfl),if_neg da]
   rw [e]
   rcases h2 with h2 | h2
   ·rw [h2] at h3 ⊢
    exact ea (fun k hk=>⟨.inr (.inl ⟨n,hk⟩),h3 k hk⟩) (fun k hk nQ=>(h.sep k hk (by rw [kM]; exact nQ)).1 n) (hI.aj n)
   ·rw [h2]; exact Rel.x
 ·rcases lX n cs hc with ⟨k,cs',h1,rfl,rfl⟩ | ⟨DW,hnd,fE,h3,h4,h5⟩
  ·obtain ⟨g,us,e,h6,h7,h8⟩:=hP.boxes k cs' h1
   refine ⟨g,us,e,(B1 k (kK k (bd.2 ⟨cs',h1⟩))).trans h6,h7,?_⟩
   rw [bz]
   refine ⟨by rw [List.length_map]; exact h8.1,fun j c u Mz hu=>?_⟩
   rw [List.getElem?_map,Option.map_eq_some_iff] at Mz
   obtain ⟨c0,sn,rfl⟩:=Mz
   have hr:=h8.2 j c0 u sn hu
   exact ⟨(Rel.e7 fun k hk=>B1 k (Ic _ cs' h1 c0 (List.mem_of_getElem? sn) k hk)).2 (hr.1.mono Aa),hr.2⟩
  ·obtain ⟨g,us,e,h6,h7,h8⟩:=hI.boxes n fE h3
   have hN:Nm s n:=.inl ⟨fE,h3⟩
   have Y5:∀ k ∈ post,n≠ρ k:=fun k hk e=>by
    by_cases nQ:k ∈ pre
    ·exact DW k (Ig k nQ (e ▸ hnd)) e
    ·exact (h.new k (by rw [kc]; exact hk) (by rw [kM]; exact nQ)).2 (e ▸ hN)
   refine ⟨g,us,e,(B2 n Y5).trans h6,(hP.ext.block g (hI.own n g hN h6).1 (fun Fv=>?_)).trans h7,⟨by rw [h4]; exact h8.1,fun j c u Mz hu=>?_⟩⟩
   ·obtain ⟨n',jg,hb⟩:=(hF g).1 Fv
    exact yd n hN hnd Y5 n' jg (hI.inj n (ρ n') g hN (H2 n' jg) h6 hb)
   ·obtain ⟨h9,gQ⟩:=h5 j c Mz
    have Cw:∃ c0,fE[j]? = some c0:=by
     have hlt:=(List.getElem?_eq_some_iff.1 Mz).1
     exact ⟨fE[j]'(by omega),List.getElem?_eq_getElem _⟩
    obtain ⟨c0,sn⟩:=Cw
    have hr:=h8.2 j c0 u sn hu
    rcases h9 with h9 | h9
    ·rw [sn] at h9; injection h9 with h9; subst h9
     exact ⟨ea (fun k hk=>⟨.inr (.inr ⟨n,fE,h3,c0,List.mem_of_getElem? sn,hk⟩),gQ k hk⟩) (fun k hk nQ=>(h.sep k hk (by rw [kM]; exact nQ)).2 n fE h3 c0 (List.mem_of_getElem? sn)) hr.1,hr.2⟩
    ·rw [h9]; exact ⟨Rel.x,hr.2⟩
 ·have aux : ∀ k m, k ∈ post -> Nm s m -> m ∉ j5 ρ pre (aA au) -> (∀ k ∈ post, m ≠ ρ k) -> ∀ g, bJ k = some g -> β m = some g -> False := by
   intro k m hk hm hnd oG g rT y9
   rcases (hP.own k g (nc k hk) rT).2 with h4 | h4
   ·have:=(hI.own m g hm y9).1; omega
   ·obtain ⟨n',jg,hb⟩:=(hF g).1 h4
    exact yd m hm hnd oG n' jg (hI.inj m (ρ n') g hm (H2 n' jg) y9 hb)
  rcases bP m hm with ⟨k,hk,rfl⟩ | ⟨n1,n2,n3⟩<;>rcases bP m' Il with ⟨k',jq,rfl⟩ | ⟨m1,m2,m3⟩
  ·rw [B1 k hk] at h1; rw [B1 k' jq] at h2
   rw [hP.inj k k' g (nc k hk) (nc k' jq) h1 h2]
  ·rw [B1 k hk] at h1; rw [B2 m' m3] at h2; exact (aux k m' hk m1 m2 m3 g h1 h2).elim
  ·rw [B2 m n3] at h1; rw [B1 k' jq] at h2; exact (aux k' m jq n1 n2 n3 g h2 h1).elim
  ·rw [B2 m n3] at h1; rw [B2 m' m3] at h2; exact hI.inj m m' g n1 m1 h1 h2
 ·rcases bP m hm with ⟨k,hk,rfl⟩ | ⟨n1,n2,n3⟩
  ·rw [B1 k hk] at hg
   obtain ⟨h1,h2⟩:=hP.own k g (nc k hk) hg
   refine ⟨h1,?_⟩
   rcases h2 with h2 | h2
   ·exact .inl (Nat.le_trans hI.ext.size h2)
   ·obtain ⟨n,hn,hb⟩:=zZ g h2
    exact (hI.own n g hn hb).2
  ·rw [B2 m n3] at hg
   obtain ⟨h1,h2⟩:=hI.own m g n1 hg
   exact ⟨Nat.lt_of_lt_of_le h1 hP.ext.size,h2⟩
 ·rcases lX n cs hc with ⟨k,cs',h1,rfl,rfl⟩ | ⟨DW,hnd,fE,h3,h4,h5⟩
  ·have MF:=bd.2 ⟨cs',h1⟩
   have hk:=kK k MF
   rw [B1 k hk]
   by_cases nQ:k ∈ pre
   ·have Ak:=h.PD k MF (by rw [kM]; exact nQ)
    obtain ⟨fE,Qn⟩:=bd.1 Ak
    have h6:=hI.fP (ρ k) _ g (h.boxes k fE (ia Qn)) hg
    exact hP.fP k cs' g h1 (by simp only [ep]; rw [if_pos Ak]; exact h6)
   ·rw [hI.vV _ (h.new k (by rw [kc]; exact hk) (by rw [kM]; exact nQ)).1] at hg
    cases hg
  ·have hN:Nm s n:=.inl ⟨fE,h3⟩
   rw [cG n hN hnd]
   exact hI.fP n fE g h3 hg
end
end Go.SX
end
section
namespace Go.SX
variable [Globs]
section
variable {P:Program} {N:Nat} {Γ:Ctx} {W0:World} {F:Fr} {X:Nat->Prop} {s:St} {β:Nat->Option Nat} {a:Act} {w:World}

theorem ao.U9 (hI : ao W0 F X N s β a w) {n j id : Nat} {cs : List AV} (hb : ax s.boxes n = some cs) (hj : cs[j]? = some .nl) (bB : ¬ Nm s id) (τ : Ty) :
  ao W0 F X N (s.bF n (cs.set j (.vec id τ []))) (ay β id none) a w:=by
 have gw:∀ c ∈ cs.set j (.vec id τ []),c = .vec id τ []\/c ∈ cs:=fun c hc=>by
  rcases List.mem_or_eq_of_mem_set hc with h | h
  ·exact .inr h
  ·exact .inl h
 have bP:∀ m,Nm (s.bF n (cs.set j (.vec id τ []))) m->m = id\/(Nm s m/\m≠id):=by
  intro m hm
  by_cases e:m = id
  ·exact .inl e
  ·refine .inr ⟨?_,e⟩
   rcases hm with ⟨cs',h⟩ | ⟨q,h⟩ | ⟨b,cs',h,c,hc,hk⟩
   ·simp only [St.bF,bW] at h
    split at h
    ·rename_i e'; exact .inl ⟨cs,e' ▸ hb⟩
    ·exact .inl ⟨cs',h⟩
   ·exact .inr (.inl ⟨q,h⟩)
   ·simp only [St.bF,bW] at h
    split at h
    ·injection h with h
     subst h
     rcases gw c hc with rfl | hc
     ·simp [ids,aw] at hk; exact absurd hk e
     ·exact .inr (.inr ⟨n,cs,hb,c,hc,hk⟩)
    ·exact .inr (.inr ⟨b,cs',h,c,hc,hk⟩)
 have cG:∀ m,Nm s m->ay β id none m = β m:=fun m hm=>by unfold ay; rw [if_neg]; rintro rfl; exact bB hm
 have hO:∀ k,k < w.heap.size->Own X (s.bF n (cs.set j (.vec id τ []))) (ay β id none) k->Own X s β k:=by
  rintro k _ (hX | ⟨m,hm,hb⟩)
  ·exact .inl hX
  rcases bP m hm with rfl | ⟨hm,_⟩
  ·simp [ay] at hb
  ·exact .inr ⟨m,hm,(cG m hm) ▸ hb⟩
 have hk:∀ {av:AV} {v:Value},(∀ m ∈ SX.ids av,Nm s m)->Rel β (Own X s β) w av v->Rel (ay β id none) (Own X (s.bF n (cs.set j (.vec id τ []))) (ay β id none)) w av v:=fun ck ba =>
  hI.AD (ca.refl (fun _=>False) w) (fun _ _ h=>h.elim) hO ba (fun m hm=>cG m (ck m hm)) (fun _ _ _ _=>rfl)
 refine hI.yS (ca.refl (fun _=>False) w) (fun _ _ h=>h.elim) (fun m=>?_) (fun m cs' cZ=>?_) (fun m k g hm hk h1 h2=>?_) (fun m g hm hg=>?_) rfl rfl (fun m cs' g hc hp=>?_)
 ·exact hk (fun k hk=>.inr (.inl ⟨m,hk⟩)) (hI.aj m)
 ·simp only [St.bF,bW] at cZ
  split at cZ
  ·rename_i e'
   subst e'
   injection cZ with cZ
   subst cZ
   obtain ⟨g,us,e,h1,h2,h3⟩:=hI.boxes _ cs hb
   refine ⟨g,us,e,(cG _ (.inl ⟨cs,hb⟩)).trans h1,h2,⟨by rw [List.length_set]; exact h3.1,fun i c v hc hv=>?_⟩⟩
   rw [List.getElem?_set] at hc
   split at hc
   ·rename_i e'
    subst e'
    split at hc
    ·injection hc with hc
     subst hc
     have hr:=h3.2 _ _ v hj hv
     have hv0:v = .slice none 0 0:=by cases (show Im _ _ _ _ from hr.1); rfl
     subst hv0
     exact ⟨.inl ⟨rfl,rfl,by simp [ay]⟩,hr.2⟩
    ·cases hc
   ·have hr:=h3.2 i c v hc hv
    exact ⟨hk (fun k hk=>.inr (.inr ⟨_,cs,hb,c,List.mem_of_getElem? hc,hk⟩)) hr.1,hr.2⟩
  ·obtain ⟨g,us,e,h1,h2,h3⟩:=hI.boxes m cs' cZ
   exact ⟨g,us,e,(cG m (.inl ⟨cs',cZ⟩)).trans h1,h2,h3.mono fun i c v hc hr=>⟨hk (fun k hk=>.inr (.inr ⟨m,cs',cZ,c,List.mem_of_getElem? hc,hk⟩)) hr.1,hr.2⟩⟩
 ·rcases bP m hm with rfl | ⟨hm,_⟩
  ·simp [ay] at h1
  ·rcases bP k hk with rfl | ⟨hk,_⟩
   ·simp [ay] at h2
   ·rw [cG m hm] at h1; rw [cG k hk] at h2; exact hI.inj m k g hm hk h1 h2
 ·rcases bP m hm with rfl | ⟨hm,_⟩
  ·simp [ay] at hg
  ·rw [cG m hm] at hg; exact hI.own m g hm hg
 ·simp only [St.bF,bW] at hc
  split at hc
  ·rename_i e'
   subst e'
   exact (cG _ (.inl ⟨cs,hb⟩)).trans (hI.fP _ cs g hb hp)
  ·exact (cG m (.inl ⟨cs',hc⟩)).trans (hI.fP m cs' g hc hp)
def sG:List AV->Nat->AV->(List AV->Prop)->Prop
 | [],_,_,_=>False
 | .nl::r,0,v,K=>K (v::r)
 | _::_,0,_,_=>False
 | u::r,j + 1,v,K=>sG r j v fun r=>K (u::r)
theorem Br (l:List AV):∀ (j:Nat) (v:AV) (K:List AV->Prop),sG l j v K->l[j]? = some .nl/\K (l.set j v):=by
 induction l with
 | nil=>intro j v K h; cases j<;>exact h.elim
 | cons u r ih =>
  intro j v K h
  cases j with
  | zero=>cases u<;>first | exact ⟨rfl,h⟩ | exact h.elim
  | succ j =>
   have h:sG r j v fun r=>K (u::r):=by cases u<;>exact h
   obtain ⟨h1,h2⟩:=ih j v _ h
   exact ⟨by simpa using h1,by simpa using h2⟩
def qH:List (Nat × Nat × Nat × Ty)->St->(St->Prop)->Prop
 | [],s,K=>K s
 | (n,j,id,τ)::r,s,K=>dx id s fun s=>eE s.boxes n fun cs=>sG cs j (.vec id τ []) fun cs=>match s with
  | ⟨sl,b⟩=>mM b n cs fun b=>qH r ⟨sl,b⟩ K
theorem mB (cv:List (Nat × Nat × Nat × Ty)):∀ {s:St} {β:Nat->Option Nat} {K:St->Prop},ao W0 F X N s β a w->qH cv s K->∃ s' bJ,K s'/\ao W0 F X N s' bJ a w:=by
 induction cv with
 | nil=>intro s β K hI h; exact ⟨s,β,h,hI⟩
 | cons p r ih =>
  intro s β K hI h
  obtain ⟨n,j,id,τ⟩:=p
  simp only [qH,cO] at h
  have dg:=hI.cy id
  have bB:=eu s id
  obtain ⟨cs,h1,h⟩:=(cJ _ _ _).1 h
  obtain ⟨h2,h⟩:=Br _ _ _ _ h
  rw [kU] at h
  exact ih (dg.U9 h1 h2 bB τ) h

def mH:List (Nat × Nat)->Nat->(Nat->Prop)->Prop
 | [],n,K=>K n
 | (m,k)::r,n,K=>bif Nat.beq m n then K k else mH r n K
theorem pJ (l:List (Nat × Nat)) (n:Nat) (K:Nat->Prop):mH l n K = K (eN l n):=by
 induction l with
 | nil=>rfl
 | cons p r ih=>obtain ⟨m,k⟩:=p; simp only [mH,eN]; cases Nat.beq m n<;>simp [ih]
def xg (l:List (Nat × Nat)):AV->(AV->Prop)->Prop
 | .pt n o,K=>mH l n fun m=>K (.pt m o)
 | .vec n τ x,K=>mH l n fun m=>K (.vec m τ x)
 | .vp n τ x i o,K=>mH l n fun m=>K (.vp m τ x i o)
 | .vs n τ x k,K=>mH l n fun m=>K (.vs m τ x k)
 | .ob n n2 o,K=>mH l n fun m=>mH l n2 fun m2=>K (.ob m m2 o)
 | v,K=>K v
theorem iJ (l:List (Nat × Nat)) (v:AV) (K:AV->Prop):xg l v K = K (nN (eN l) v):=by
 cases v<;>first | exact pJ _ _ _ | rfl | (simp only [xg,pJ]; rfl)
def F5 (l:List (Nat × Nat)):AV->(AV->Prop)->Prop
 | .fn f ak,K=>lR (xg l) ak fun ak=>K (.fn f ak)
 | .bc cs,K=>lR (xg l) cs fun cs=>K (.bc cs)
 | .ag k cs,K=>lR (xg l) cs fun cs=>K (.ag k cs)
 | v,K=>xg l v K
theorem pI (l:List (Nat × Nat)) (v:AV) (K:AV->Prop):F5 l v K = K (e7 (eN l) v):=by
 cases v with
 | fn f ak=>exact gE (iJ l) ak _
 | bc cs=>exact gE (iJ l) cs _
 | ag k cs=>exact gE (iJ l) cs _
 | vs n τ x k=>exact iJ l (.vs n τ x k) K
 | ob n n2 o=>exact iJ l (.ob n n2 o) K
 | pt n o=>exact iJ l (.pt n o) K
 | vec n τ x=>exact iJ l (.vec n τ x) K
 | vp n τ x i o=>exact iJ l (.vp n τ x i o) K
 | _=>rfl
def kT (l:List (Nat × Nat)):List (Nat × List AV)->St->(St->Prop)->Prop
 | [],s,K=>K s
 | (n,cs)::r,s,K=>kT l r s fun s=>mH l n fun n=>lR (F5 l) cs fun cs=>match s with
  | ⟨sl,b⟩=>mM b n cs fun b=>K ⟨sl,b⟩
theorem pP (l:List (Nat × Nat)) (b:List (Nat × List AV)):∀ (s:St) (K:St->Prop),kT l b s K = K (gG (eN l) b s):=by
 induction b with
 | nil=>intro s K; rfl
 | cons p r ih =>
  obtain ⟨n,cs⟩:=p
  intro s K
  simp only [kT,gG,ih,pJ,gE (pI l)]
  generalize gG (eN l) r s = s'
  obtain ⟨sl,b⟩:=s'
  simp only [kU]; rfl
def vT (ρ:Nat->Nat) (pre post:List Nat):List Nat:=(post.filter fun k=>!(lQ k pre)).map ρ
def MV (ρ:Nat->Nat):List Nat->Bool
 | []=>true
 | k::r=>r.all (fun k'=>!(Nat.beq (ρ k) (ρ k')) || Nat.beq k k') && MV ρ r
def EJ:List Nat->Bool
 | []=>true
 | k::r=>!(lQ k r) && EJ r
def Dr (N:Nat) (ρ:Nat->Nat) (pre post:List Nat) (bn VQ:List Nat) (U8:Nat):Bool :=
 MV ρ (pre++post) && (post.all fun k=>lQ k pre || Nat.blt (ρ k) N) && (VQ.all fun k=>!(lQ k pre) || lQ k bn) && (bn.all fun n=>Nat.ble U8 n) && EJ VQ
def NM (s:St) (ρ:Nat->Nat) (pre:List Nat) (VQ:List Nat):Bool:=VQ.all fun k=>!(lQ k pre) || (I2 (ρ k) s.aj && I1 (ρ k) s.boxes)
def sW (s:St) (l:List (Nat × Nat)):List (Nat × List AV)->Prop->Prop
 | [],K=>K
 | (n,cs)::r,K=>mH l n fun n=>eE s.boxes n fun cs'=>ez (e7 (eN l)) cs = cs'/\sW s l r K
theorem rf {s:St} {l:List (Nat × Nat)} (b:List (Nat × List AV)):∀ {K:Prop},sW s l b K->(∀ n cs,(n,cs) ∈ b->ax s.boxes (eN l n) = some (ez (e7 (eN l)) cs))/\K:=by
 induction b with
 | nil=>intro K h; exact ⟨(by intro n cs h; cases h),h⟩
 | cons p r ih =>
  obtain ⟨n,cs⟩:=p
  intro K h
  simp only [sW,pJ] at h
  obtain ⟨cs',h1,h2,h3⟩:=(cJ _ _ _).1 h
  obtain ⟨h4,h5⟩:=ih h3
  refine ⟨fun m fE hm=>?_,h5⟩
  rcases List.mem_cons.1 hm with hm | hm
  ·injection hm with e1 e2; subst e1 e2; rw [h1,h2]
  ·exact h4 m fE hm
def xK (P:Program) (N:Nat) (s:St) (f:Operand) (args:List Operand) (dst:Option Nat) (K:St->Prop):Prop :=
 ∃ cv,qH cv s fun s=>∃ g aS aJ r au ρ,bx P g aS aJ r au /\
  dP (vT (eN ρ) (bb aS aJ) (bb [r] au)) s fun s=>fc s args fun vs=>bG s f fun fv=>match fv with
   | .fn g' ak => g' = g /\ ez (e7 (eN ρ)) aS = gn vs ak /\ sW s ρ aJ (Dr N (eN ρ) (bb aS aJ) (bb [r] au) (aA aJ) (aA au) aS.length = true /\
     NM s (eN ρ) (bb aS aJ) (aA au) = true /\
     mq (j5 (eN ρ) (bb aS aJ) (aA au)) s fun s=>kT ρ au s fun s=>F5 ρ r fun r=>al N s dst r K)
   | _=>False

theorem Nm.nk {l:List Nat}:∀ {s:St} {n:Nat},Nm (cA l s) n->Nm s n/\n ∉ l:=by
 induction l with
 | nil=>intro s n h; exact ⟨h,by simp⟩
 | cons m r ih =>
  intro s n h
  obtain ⟨h1,h2⟩:=ih (s:=s.cy m) h
  obtain ⟨h3,h4⟩:=Nm.ic h1
  exact ⟨h3,by simp [h4,h2]⟩
theorem wV {ρ:Nat->Nat} {l:List Nat} (h:MV ρ l = true):∀ k ∈ l,∀ k' ∈ l,ρ k = ρ k'->k = k':=by
 induction l with
 | nil=>intro k hk; cases hk
 | cons m r ih =>
  simp only [MV,Bool.and_eq_true,List.all_eq_true,Bool.or_eq_true,Bool.not_eq_true'] at h
  have h1:∀ k ∈ r,ρ m = ρ k->m = k:=fun k hk e=>by
   rcases h.1 k hk with h2 | h2
   ·rw [e,Nat.beq_refl] at h2; cases h2
   ·exact Nat.eq_of_beq_eq_true h2
  intro k hk k' jq e
  rcases List.mem_cons.1 hk with e1 | k1<;>rcases List.mem_cons.1 jq with e2 | k2
  ·rw [e1,e2]
  ·rw [e1] at e ⊢; exact h1 k' k2 e
  ·rw [e2] at e ⊢; exact (h1 k k1 e.symm).symm
  ·exact ih h.2 k k1 k' k2 e
theorem vv {b:List (Nat × List AV)} (h:EJ (aA b) = true):∀ n cs,(n,cs) ∈ b->ax b n = some cs:=by
 induction b with
 | nil=>intro n cs h; cases h
 | cons p r ih =>
  obtain ⟨m,fE⟩:=p
  simp only [aA,EJ,Bool.and_eq_true,Bool.not_eq_true'] at h
  intro n cs hn
  simp only [ax]
  rcases List.mem_cons.1 hn with hn | hn
  ·injection hn with e1 e2; subst e1 e2; simp
  ·have da : m ≠ n := fun e => by
    subst e
    have h2:m ∈ aA r:=bd.2 ⟨cs,ih h.2 m cs hn⟩
    rw [cR.2 h2] at h; cases h.1
   rw [dQ da]
   exact ih h.2 n cs hn
theorem Hg (hI : ao W0 F X N s β a w) {o : Oper} {f : Operand} {args : Array Operand} {ts : Array TypeId} (ho : o.op = .call { callee := .value f, args := args, argTypes := ts }) {K : St -> Prop}
  (h:xK P N s f args.toList o.dst K) {next:Act->World->Prop} {Q:Exit->Act->World->Prop} (hn:∀ s' a' w',K s'->Inv W0 F X N s' a' w'->next a' w'):o.wp P a w next Q:=by
 obtain ⟨cv,h⟩:=h
 obtain ⟨s0,β,⟨g,aS,aJ,r,au,ρ,⟨cY,ja⟩,h⟩,fS⟩:=mB cv hI h
 rw [dL,dc,aE] at h
 have dg:=fS.cA (vT (eN ρ) (bb aS aJ) (bb [r] au))
 have rU:∀ n,n ∈ vT (eN ρ) (bb aS aJ) (bb [r] au)->¬ Nm (cA (vT (eN ρ) (bb aS aJ) (bb [r] au)) s0) n:=fun n hn hm=>(Nm.nk hm).2 hn
 generalize cA (vT (eN ρ) (bb aS aJ) (bb [r] au)) s0 = s1 at h dg rU
 have hf:=aF dg f
 have p9:=iv dg args.toList
 cases Af:ev s1 f with
 | fn g' ak =>
  rw [Af] at h hf
  obtain ⟨rfl,dV,h⟩:=h
  obtain ⟨lX,tQ,Ap,h⟩:=rf aJ h
  simp only [Dr,Bool.and_eq_true,List.all_eq_true,Bool.or_eq_true,Bool.not_eq_true',Nat.blt_eq] at tQ
  obtain ⟨⟨⟨⟨c1,c2⟩,c3⟩,c4⟩,c5⟩:=tQ
  obtain ⟨lY,pf,gu⟩:=hf.1
  have ei:All2 (Rel β (Own X s1 β) w) (ez (e7 (eN ρ)) aS) (s4 ak (args.toList.map a.eval) lY):=by
   rw [dV]
   exact jd p9.1 (gu.mono fun _ _ _ _ hr=>Rel.jk hr)
  have yb:∀ k ∈ qE (ez (e7 (eN ρ)) aS),Nm s1 k:=by
   rw [dV]
   intro k hk
   obtain ⟨c,hc,hk⟩:=List.mem_flatMap.1 hk
   rcases pA hc with hc | hc
   ·exact p9.2 c hc k hk
   ·obtain ⟨j,hj⟩:=List.getElem?_of_mem hc
    have hlt:=(List.getElem?_eq_some_iff.1 hj).1
    have hr:=gu.2 j c _ hj (List.getElem?_eq_getElem (by rw [<- gu.1]; exact hlt))
    exact hf.2 k (List.mem_flatMap.2 ⟨c,hc,hr.ids hk⟩)
  have rr:qb s1 β N (eN ρ) aS aJ r au:=by
   refine ⟨fun k hk=>?_,lX,wV c1,fun k hk nQ=>⟨?_,rU _ ?_⟩,fun k hk nQ=>?_,fun k hk nQ=>?_,fun n jg=>Nat.le_of_ble_eq_true (c4 n jg),vv c5⟩
   ·obtain ⟨c,hc,MG⟩:=List.mem_flatMap.1 hk
    refine yb _ (List.mem_flatMap.2 ⟨e7 (eN ρ) c,?_,?_⟩)
    ·rw [bz]; exact List.mem_map.2 ⟨c,hc,rfl⟩
    ·rw [jh]; exact List.mem_map.2 ⟨k,MG,rfl⟩
   ·rcases c2 k hk with h1 | h1
    ·exact absurd (cR.1 h1) nQ
    ·exact h1
   ·refine List.mem_map.2 ⟨k,List.mem_filter.2 ⟨hk,?_⟩,rfl⟩
    cases hi:lQ k (bb aS aJ) with
    | true=>exact absurd (cR.1 hi) nQ
    | false=>rfl
   ·rcases c3 k hk with h1 | h1
    ·rw [cR.2 nQ] at h1; cases h1
    ·exact cR.1 h1
   ·simp only [NM,List.all_eq_true,Bool.or_eq_true,Bool.not_eq_true',Bool.and_eq_true] at Ap
    rcases Ap k hk with h1 | h1
    ·rw [cR.2 nQ] at h1; cases h1
    ·exact ⟨qI h1.1,kO h1.2⟩
  obtain ⟨iT,hIn⟩:=Hi dg rr ei
  have hlen:(s4 ak (args.toList.map a.eval) lY).length = aS.length:=by have:=ei.1; simpa [bz] using this.symm
  have hs:=ja _ _ _ w _ hlen iT hIn
  unfold Oper.wp
  have bu:=sD (w:=w) ho pf cY
  rw [bu]
  refine hs.mono fun e w' hp=>?_
  obtain ⟨v,bJ,rfl,hP⟩:=hp
  rw [ry,pP,pI] at h
  obtain ⟨h1,h2⟩:=fB h
  exact hn _ _ _ h1 ⟨_,(Ds dg rr hP h2).1⟩
 | _=>rw [Af] at h; exact h.elim

/-! ### one name for another -/
def lF (n m k:Nat):Nat:=if k = n then m else k
theorem ao.lF (hI:ao W0 F X N s β a w) {n m:Nat} (bB:¬ Nm s m) (DW:ax s.boxes n = none):ao W0 F X N (s.map (e7 (SX.lF n m))) (ay β m (β n)) a w:=by
 have lX:∀ k cs,ax (s.map (e7 (SX.lF n m))).boxes k = some cs->∃ cs',ax s.boxes k = some cs'/\cs = cs'.map (e7 (SX.lF n m)):=fun k cs hk=>by
  simp only [St.map,aV,Option.map_eq_some_iff] at hk
  obtain ⟨cs',h1,rfl⟩:=hk
  exact ⟨cs',h1,bz _ _⟩
 have ru:∀ q,look (s.map (e7 (SX.lF n m))).aj q = e7 (SX.lF n m) (look s.aj q):=fun q=>bH _ rfl _ _
 have bP:∀ k,Nm (s.map (e7 (SX.lF n m))) k->∃ j,Nm s j/\k = SX.lF n m j:=by
  rintro k (⟨cs,h⟩ | ⟨q,h⟩ | ⟨b,cs,h,c,hc,hk⟩)
  ·obtain ⟨cs',h1,_⟩:=lX k cs h
   refine ⟨k,.inl ⟨cs',h1⟩,?_⟩
   unfold SX.lF
   rw [if_neg]
   rintro rfl
   rw [DW] at h1; cases h1
  ·rw [ru,jh] at h
   obtain ⟨j,hj,rfl⟩:=List.mem_map.1 h
   exact ⟨j,.inr (.inl ⟨q,hj⟩),rfl⟩
  ·obtain ⟨cs',h1,rfl⟩:=lX b cs h
   obtain ⟨c',dv,rfl⟩:=List.mem_map.1 hc
   rw [jh] at hk
   obtain ⟨j,hj,rfl⟩:=List.mem_map.1 hk
   exact ⟨j,.inr (.inr ⟨b,cs',h1,c',dv,hj⟩),rfl⟩
 have cG:∀ k,Nm s k->ay β m (β n) (SX.lF n m k) = β k:=by
  intro k hk
  unfold SX.lF ay
  by_cases e:k = n
  ·subst e; simp
  ·rw [if_neg e,if_neg]
   rintro rfl
   exact bB hk
 have hO:∀ k,Own X (s.map (e7 (SX.lF n m))) (ay β m (β n)) k->Own X s β k:=by
  rintro k (hX | ⟨q,hq,hb⟩)
  ·exact .inl hX
  ·obtain ⟨j,hj,rfl⟩:=bP q hq
   rw [cG j hj] at hb
   exact .inr ⟨j,hj,hb⟩
 refine hI.yS (ca.refl (fun _=>False) w) (fun _ _ h=>h.elim) (fun q=>?_) (fun k cs hc=>?_) (fun k k' g hk jq h1 h2=>?_) (fun k g hk hg=>?_) rfl rfl (fun k cs g hc hp=>?_)
 ·rw [ru]
  exact (Rel.e7 fun k hk=>cG k (.inr (.inl ⟨q,hk⟩))).2 ((hI.aj q).mono hO)
 ·obtain ⟨cs',h1,rfl⟩:=lX k cs hc
  obtain ⟨g,us,e,h2,h3,h4⟩:=hI.boxes k cs' h1
  have hk:SX.lF n m k = k:=by unfold SX.lF; rw [if_neg]; rintro rfl; rw [DW] at h1; cases h1
  refine ⟨g,us,e,by rw [<- hk,cG k (.inl ⟨cs',h1⟩)]; exact h2,h3,⟨by rw [List.length_map]; exact h4.1,fun j c u hj hu=>?_⟩⟩
  rw [List.getElem?_map,Option.map_eq_some_iff] at hj
  obtain ⟨c',dv,rfl⟩:=hj
  have hr:=h4.2 j c' u dv hu
  exact ⟨(Rel.e7 fun q hq=>cG q (.inr (.inr ⟨k,cs',h1,c',List.mem_of_getElem? dv,hq⟩))).2 (hr.1.mono hO),hr.2⟩
 ·obtain ⟨j,hj,rfl⟩:=bP k hk
  obtain ⟨j',hj',rfl⟩:=bP k' jq
  rw [cG j hj] at h1
  rw [cG j' hj'] at h2
  rw [hI.inj j j' g hj hj' h1 h2]
 ·obtain ⟨j,hj,rfl⟩:=bP k hk
  rw [cG j hj] at hg
  exact hI.own j g hj hg
 ·obtain ⟨cs',h1,rfl⟩:=lX k cs hc
  have hk:SX.lF n m k = k:=by unfold SX.lF; rw [if_neg]; rintro rfl; rw [DW] at h1; cases h1
  rw [<- hk,cG k (.inl ⟨cs',h1⟩)]
  exact hI.fP k cs' g h1 hp
def ym (n:Nat):List (Nat × List AV)->Bool
 | []=>true
 | (m,_)::r=>bif Nat.beq m n then false else ym n r
theorem CF {n:Nat} {b:List (Nat × List AV)} (h:ym n b = true):ax b n = none:=by
 induction b with
 | nil=>rfl
 | cons p r ih =>
  obtain ⟨m,cs⟩:=p
  simp only [ym] at h
  simp only [ax]
  cases hb:Nat.beq m n with
  | true=>rw [hb] at h; cases h
  | false=>rw [hb] at h; exact ih h
def jP:List (Nat × Nat)->St->(St->Prop)->Prop
 | [],s,K=>K s
 | (n,m)::r,s,K=>dx m s fun s=>match s with
  | ⟨sl,b⟩=>aC (ym n b) (mA (F5 [(n,m)]) sl fun sl=>mz (F5 [(n,m)]) b fun b=>jP r ⟨sl,b⟩ K)
theorem Ju (n m:Nat):eN [(n,m)] = SX.lF n m:=by
 funext k
 simp only [eN,SX.lF]
 cases hb:Nat.beq n k with
 | true=>have:=Nat.eq_of_beq_eq_true hb; subst this; simp
 | false => have : k ≠ n := fun e => by subst e; rw [Nat.beq_refl] at hb; cases hb
            simp [this]
theorem eO (l:List (Nat × Nat)):∀ {s:St} {β:Nat->Option Nat} {K:St->Prop},ao W0 F X N s β a w->jP l s K->∃ s' bJ,K s'/\ao W0 F X N s' bJ a w:=by
 induction l with
 | nil=>intro s β K hI h; exact ⟨s,β,h,hI⟩
 | cons p r ih =>
  obtain ⟨n,m⟩:=p
  intro s β K hI h
  simp only [jP,cO] at h
  have dg:=hI.cy m
  have bB:=eu s m
  generalize s.cy m = s1 at h dg bB
  obtain ⟨sl,b⟩:=s1
  obtain ⟨h1,h⟩:=(af _ _).1 h
  rw [iE (pI [(n,m)]),iD (pI [(n,m)]),Ju] at h
  exact ih (dg.lF bB (CF h1)) h
end
end Go.SX
end
section
namespace Go.SX
variable [Globs]
section
variable {P:Program} {N:Nat} {Γ:Ctx} {W0:World} {F:Fr} {X:Nat->Prop} {s:St} {β:Nat->Option Nat} {a:Act} {w:World}

def PS (P:Program) (f:FuncId) (o:Ob) (args:List AV) (r:AV) (o':Ob):Prop :=
 (∀ (vs:Array Value) (w:World),(callFunc f vs).run P w = .ok (.enter f vs) w) /\
 ∀ (β:Nat->Option Nat) (O:Nat->Prop) (w:World) (id aR:Nat) (v:Value) (vs:List Value),id≠aR->(∀ k,O k->k < w.heap.size)->(∀ g,β id = some g->O g)->(∀ g,β aR = some g->O g)->(∀ g,β aR = some g->β id≠some g) ->
  GlobOK O w->fG β O w id aR o v->All2 (Im O w) args vs ->
  Calls P f (v::vs).toArray w fun e w'=>∃ u b2,e = .returned u/\ca (fun k=>β id = some k\/β aR = some k) w w'/\(∀ g,b2 = some g->g < w'.heap.size/\(β aR = some g\/w.heap.size<=g)) /\
   Im (fun _=>True) w' r u/\∀ O':Nat->Prop,(∀ k,k < w.heap.size->O' k->O k)->fG (ay β aR b2) O' w' id aR o' v

def pS (id aR:Nat) (o:Ob) (s:St) (K:St->Prop):Prop :=
 mA (vy id aR o) s.aj fun sl=>mz (vy id aR o) s.boxes fun b=>mf b id fun b=>mf b aR fun b=>K ⟨sl,b⟩
theorem oA (id aR:Nat) (o:Ob) (s:St) (K:St->Prop):pS id aR o s K = K (((s.map (iM id aR o)).bj id).bj aR):=by
 simp only [pS,iE (BD id aR o),iD (BD id aR o),kH]; rfl
def oU (P:Program) (N:Nat) (s:St) (f:Operand) (id aR:Nat) (o:Ob) (rest:List AV) (dst:Option Nat) (K:St->Prop):Prop :=
 bG s f fun fv=>match fv with
  | .fn g []=>aC (cI rest) (aC (bN rest) (aC (!(Nat.beq id aR) && !o.n8) (∃ r o',PS P g o rest r o'/\pS id aR o' s fun s=>al N s dst r K)))
  | _=>False

theorem xw {O : Nat -> Prop} {id aR : Nat} {τ : Ty} {l : List (den τ)} {x y : Nat} {v v1 : Value} (h : fG β O w id aR (.vw τ l x y) v1) {b : Nat} {B : Obj} (hb : β id = some b) (hB : w.heap[b]? = some B)
  (hn:∀ cur e f,B≠.cells cur e f):v1 = v:=by
 obtain ⟨g,c,j1,_,_,_,_,j6⟩:=h
 rcases j6 with ⟨_,q,_⟩ | ⟨g',c',cur,e,q1,_,q3,_⟩
 ·cases q
 ·rw [hb] at q1
  injection q1 with q1
  subst q1
  rw [hB] at q3
  injection q3 with q3
  exact absurd q3 (hn _ _ _)
theorem pz {O:Nat->Prop} {id aR:Nat} {τ:Ty} {l:List (den τ)} {v1:Value} (h:fG β O w id aR (.ln τ l) v1) {b:Nat} (hb:β id = some b):β aR = some b/\∃ cur e,w.heap[b]? = some (.cells cur e (0,0)):=by
 obtain ⟨h1,⟨_,_,q⟩ | ⟨g',c',cur,e,q1,_,q3,_⟩⟩:=h
 ·rw [hb] at q; cases q
 ·rw [hb] at q1
  injection q1 with q1
  subst q1
  exact ⟨h1.trans hb,cur,e,q3⟩
theorem fG.uniq {O : Nat -> Prop} {id aR : Nat} {o o1 : Ob} {v v1 : Value} (hg : o.n8 = false) (rT : o1.n8 = false) (h : fG β O w id aR o v) (h1 : fG β O w id aR o1 v1)
  (hq:(∀ g,β aR = some g->β id≠some g)\/((∃ κ τ es,o = .mp κ τ es)\/∃ s p,o = .it s p)\/o = o1):v1 = v:=by
 cases o with
 | gr=>cases hg
 | gp=>cases hg
 | sb T e l =>
  obtain ⟨b,p,u,k1,rfl,k3,_⟩:=h
  cases o1 with
  | gr=>cases rT
  | gp=>cases rT
  | ln τ l =>
   have j2:=(pz h1 k1).1
   rcases hq with hq | (⟨_,_,_,hq⟩ | ⟨_,_,hq⟩) | hq
   ·exact absurd k1 (hq _ j2)
   all_goals cases hq
  | vw τ l a b =>
   obtain ⟨g,c,j1,j2,_⟩:=h1
   rcases hq with hq | (⟨_,_,_,hq⟩ | ⟨_,_,hq⟩) | hq
   ·exact absurd j1 (hq g j2)
   all_goals cases hq
  | nw zs=>obtain ⟨b1,_,j1,rfl,_⟩:=h1; rw [k1] at j1; injection j1 with j1; rw [j1]
  | sb T1 e1 l1=>obtain ⟨b1,_,_,j1,rfl,_⟩:=h1; rw [k1] at j1; injection j1 with j1; rw [j1]
  | it t pos=>obtain ⟨b1,j1,rfl,j3,_⟩:=h1; rw [k1] at j1; injection j1 with j1; rw [j1]
  | mp κ τ es=>obtain ⟨b1,_,_,j1,rfl,j3,_⟩:=h1; rw [k1] at j1; injection j1 with j1; subst j1; rw [k3] at j3; cases j3
 | it t pos =>
  obtain ⟨b,k1,rfl,k3,_⟩:=h
  cases o1 with
  | gr=>cases rT
  | gp=>cases rT
  | ln τ l=>obtain ⟨_,cur,e,j3⟩:=pz h1 k1; rw [k3] at j3; cases j3
  | vw τ l x y=>exact xw h1 k1 k3 nofun
  | nw zs=>obtain ⟨b1,_,j1,rfl,_⟩:=h1; rw [k1] at j1; injection j1 with j1; rw [j1]
  | sb T1 e1 l1=>obtain ⟨b1,_,_,j1,rfl,_⟩:=h1; rw [k1] at j1; injection j1 with j1; rw [j1]
  | it t pos=>obtain ⟨b1,j1,rfl,j3,_⟩:=h1; rw [k1] at j1; injection j1 with j1; rw [j1]
  | mp κ τ es=>obtain ⟨b1,_,_,j1,rfl,j3,_⟩:=h1; rw [k1] at j1; injection j1 with j1; subst j1; rw [k3] at j3; cases j3
 | mp κ τ es =>
  obtain ⟨b,_,_,k1,rfl,k3,_⟩:=h
  cases o1 with
  | gr=>cases rT
  | gp=>cases rT
  | ln τ l=>obtain ⟨_,cur,e,j3⟩:=pz h1 k1; rw [k3] at j3; cases j3
  | vw τ l x y=>exact xw h1 k1 k3 nofun
  | nw zs=>obtain ⟨b1,_,j1,rfl,j3,_⟩:=h1; rw [k1] at j1; injection j1 with j1; subst j1; rw [k3] at j3; cases j3
  | sb T1 e1 l1=>obtain ⟨b1,_,_,j1,rfl,j3,_⟩:=h1; rw [k1] at j1; injection j1 with j1; subst j1; rw [k3] at j3; cases j3
  | it t pos=>obtain ⟨b1,j1,rfl,j3,_⟩:=h1; rw [k1] at j1; injection j1 with j1; subst j1; rw [k3] at j3; cases j3
  | mp κ τ es=>obtain ⟨b1,_,_,j1,rfl,_⟩:=h1; rw [k1] at j1; injection j1 with j1; rw [j1]
 | nw zs =>
  obtain ⟨b,_,k1,rfl,k3,_⟩:=h
  cases o1 with
  | gr=>cases rT
  | gp=>cases rT
  | ln τ l =>
   have j2:=(pz h1 k1).1
   rcases hq with hq | (⟨_,_,_,hq⟩ | ⟨_,_,hq⟩) | hq
   ·exact absurd k1 (hq _ j2)
   all_goals cases hq
  | vw τ l a b =>
   obtain ⟨g,c,j1,j2,_⟩:=h1
   rcases hq with hq | (⟨_,_,_,hq⟩ | ⟨_,_,hq⟩) | hq
   ·exact absurd j1 (hq g j2)
   all_goals cases hq
  | sb T1 e1 l1=>obtain ⟨b1,_,_,j1,rfl,_⟩:=h1; rw [k1] at j1; injection j1 with j1; rw [j1]
  | it t pos=>obtain ⟨b1,j1,rfl,j3,_⟩:=h1; rw [k1] at j1; injection j1 with j1; rw [j1]
  | mp κ τ es=>obtain ⟨b1,_,_,j1,rfl,j3,_⟩:=h1; rw [k1] at j1; injection j1 with j1; subst j1; rw [k3] at j3; cases j3
  | nw zs=>obtain ⟨b1,_,j1,rfl,_⟩:=h1; rw [k1] at j1; injection j1 with j1; rw [j1]
 | vw τ l x y =>
  obtain ⟨g,c,k1,k2,k3,k4,rfl,k6⟩:=h
  rcases hq with hq | (⟨_,_,_,hq⟩ | ⟨_,_,hq⟩) | rfl
  ·exact absurd k1 (hq g k2)
  ·cases hq
  ·cases hq
  obtain ⟨g',c',j1,_,_,_,rfl,j6⟩:=h1
  have:=aU.uniq k6 j6
  injection this with e1 _ e3
  injection e1 with e1
  injection e1 with e1 _ _
  rw [e1,e3]
 | ln τ l =>
  rcases hq with hq | (⟨_,_,_,hq⟩ | ⟨_,_,hq⟩) | rfl
  ·obtain ⟨h2,h3⟩:=h
   rcases h3 with ⟨_,rfl,q⟩ | ⟨g,_,_,_,q,_⟩
   ·cases o1 with
    | gr=>cases rT
    | gp=>cases rT
    | vw τ l a b=>obtain ⟨g,c,j1,_⟩:=h1; rw [q] at j1; cases j1
    | nw zs=>obtain ⟨g,_,j1,_⟩:=h1; rw [q] at j1; cases j1
    | sb T1 e1 l1=>obtain ⟨g,_,_,j1,_⟩:=h1; rw [q] at j1; cases j1
    | it t pos=>obtain ⟨g,j1,_⟩:=h1; rw [q] at j1; cases j1
    | mp κ τ es=>obtain ⟨g,_,_,j1,_⟩:=h1; rw [q] at j1; cases j1
    | ln σ m =>
     obtain ⟨_,⟨_,e,_⟩ | ⟨g,_,_,_,j1,_⟩⟩:=h1
     ·exact e
     ·rw [q] at j1; cases j1
   ·exact absurd q (hq g (h2.trans q))
  ·cases hq
  ·cases hq
  ·exact aU.uniq h1.2 h.2

theorem E6 (hI : ao W0 F X N s β a w) {o : Oper} {f : Operand} {args : Array Operand} {ts : Array TypeId} (ho : o.op = .call { callee := .value f, args := args, argTypes := ts }) {id aR : Nat} {ob : Ob} {rest : List AV}
  (Fx:kC s args.toList = .ob id aR ob::rest) {K:St->Prop} (h:oU P N s f id aR ob rest o.dst K)
  {next:Act->World->Prop} {Q:Exit->Act->World->Prop} (hn:∀ s' a' w',K s'->Inv W0 F X N s' a' w'->next a' w'):o.wp P a w next Q:=by
 unfold oU at h
 rw [aE] at h
 have hf:=aF hI f
 have p9:=iv hI args.toList
 rw [Fx] at p9
 cases Af:ev s f with
 | fn g ak =>
  rw [Af] at h hf
  cases ak with
  | cons _ _=>exact h.elim
  | nil =>
   obtain ⟨h1,h⟩:=(af _ _).1 h
   obtain ⟨h2,h⟩:=(af _ _).1 h
   obtain ⟨h3,h⟩:=(af _ _).1 h
   obtain ⟨r,o',⟨cY,ja⟩,hK⟩:=h
   obtain ⟨lY,pf,gu⟩:=hf.1
   have sn:lY = []:=gu.iz
   subst sn
   have pf:a.eval f = .func (.func g) #[] #[]:=pf
   obtain ⟨v,vs,GI,hv,pk⟩:=p9.1.cons_inv
   rw [Bool.and_eq_true] at h3
   have Ly:ob.n8 = false:=by simpa using h3.2
   have h3:=h3.1
   have da:id≠aR:=fun e=>by subst e; rw [Nat.beq_refl] at h3; cases h3
   have bP:Nm s id:=p9.2 _ (List.mem_cons_self ..) id (by simp [SX.ids,aw])
   have Ms:Nm s aR:=p9.2 _ (List.mem_cons_self ..) aR (by simp [SX.ids,aw])
   have Xj:All2 (Im (Own X s β) w) rest vs :=
    pk.mono fun _ c v hc hr=>dF hr (eR h1 (List.mem_of_getElem? hc)) (fU h2 (List.mem_of_getElem? hc))
   have Y8:fG β (Own X s β) w id aR ob v:=hv
   have hs:=ja β (Own X s β) w id aR v vs da (qL hI) (fun g hg=>.inr ⟨id,bP,hg⟩) (fun g hg=>.inr ⟨aR,Ms,hg⟩) (fun g hg e=>da (hI.inj id aR g bP Ms e hg)) hI.tC Y8 Xj
   unfold Oper.wp
   have bu:(execOp a.eval o).run P w = .ok (.enter g (v::vs).toArray) w:=by
    have e1:args.map a.eval = (v::vs).toArray:=by
     apply Array.ext'
     rw [<- GI]; simp
    simp [execOp,ho,resolve,pf,Deferred.ofValue,invoke,e1]
    exact cY _ w
   rw [bu]
   refine hs.mono fun e w' hp=>?_
   obtain ⟨u,b2,rfl,hst,GC,dw,Qk⟩:=hp
   rw [oA] at hK
   have bS:=hI.C6 bP Ms hst (by unfold ay; rw [if_neg da]) GC (o':=o') (v0:=v) (fun o1 v1 rT h1=>Y8.uniq Ly rT h1 (.inl fun g hg e=>da (hI.inj id aR g bP Ms e hg))) Qk
   obtain ⟨s',h7,h8⟩:=lE bS hK (Rel.im (dw.mono fun _ _=>trivial)) (by rw [dw.cQ]; intro n hn; cases hn)
   exact hn _ _ _ h7 ⟨_,h8⟩
 | _=>rw [Af] at h; exact h.elim

def sR (N:Nat) (s:St) (t:TypeId) (ti:TI) (e:TypeId) (dst:Option Nat) (K:St->Prop):Prop :=
 ∃ d2,jU dst fun d=>ti.zero = [.pointer none,.slice none 0 0]/\aC (!(Nat.beq d d2)) (dx d s fun s=>dx d2 s fun s=>al N s (some d) (.ob d d2 (.sb t e [])) K)
theorem BX (hI : ao W0 F X N s β a w) {o : Oper} {t : TypeId} (ho : o.op = .alloc t) {ti : TI} (cw : ti.ok P t) {e : TypeId} {K : St -> Prop} (h : sR N s t ti e o.dst K)
  {next:Act->World->Prop} {Q:Exit->Act->World->Prop} (hn:∀ s' a' w',K s'->Inv W0 F X N s' a' w'->next a' w'):o.wp P a w next Q:=by
 obtain ⟨d2,h⟩:=h
 obtain ⟨d,hd,hz,h⟩:=(cn _ _).1 h
 obtain ⟨da,h⟩:=(af _ _).1 h
 rw [cO,cO] at h
 have da:d≠d2:=fun e=>by subst e; rw [Nat.beq_refl] at da; cases da
 obtain ⟨hK,jS⟩:=fB h
 obtain ⟨z,IC,ID⟩:=cw.zeroValue w
 have bS:=(hI.cy d).cy d2
 have hf:¬ Nm ((s.cy d).cy d2) d:=fun h=>eu s d (Nm.ic h).1
 have cZ:z.cells = #[.pointer none,.slice none 0 0]:=by rw [ID,hz]
 have fV:=bS.Ee (jS d rfl) hf (eu _ d2) (ca.alloc w (.cells z.cells t)) (Nat.le_refl _) (by simp) (o:=.sb t e []) (u:=.pointer (some ⟨w.heap.size,0,none⟩)) (fun O'=>by
  refine ⟨w.heap.size,.pointer none,.slice none 0 0,by simp [ay],rfl,?_,.inl rfl,.inl ⟨rfl,rfl,?_⟩⟩
  ·rw [heap_alloc_new,cZ]
  ·unfold ay; rw [if_neg (fun e=>da e.symm),if_pos rfl])
 refine eI (u:=.pointer (some ⟨w.heap.size,0,none⟩)) (w':=w.alloc (.cells z.cells t)) ?_ (by rw [hd]; exact hn _ _ _ hK ⟨_,fV⟩)
 simp [execOp,ho,Instr.alloc,IC,jL]

def Jq (Γ:Ctx) (N:Nat) (s:St) (t:TypeId) (x:Operand) (dst:Option Nat) (K:St->Prop):Prop :=
 cp Γ t fun ti=>aC (gZ ti.desc) (jU dst fun d=>dx d s fun s=>bG s x fun v=>match v with
  | .s l=>al N s (some d) (.ob d d (.it l 0)) K
  | _=>False)
theorem Jr (aY : Γ.ok P) (hI : ao W0 F X N s β a w) {o : Oper} {t : TypeId} {x : Operand} (ho : o.op = .range t x) {K : St -> Prop} (h : Jq Γ N s t x o.dst K)
  {next:Act->World->Prop} {Q:Exit->Act->World->Prop} (hn:∀ s' a' w',K s'->Inv W0 F X N s' a' w'->next a' w'):o.wp P a w next Q:=by
 obtain ⟨ti,cw,h⟩:=bq aY h
 obtain ⟨hs,h⟩:=(af _ _).1 h
 obtain ⟨d,hd,h⟩:=(cn _ _).1 h
 rw [cO,aE] at h
 have hu:P.underlying t = some .string:=by
  obtain ⟨dd,h1,h2⟩:=cw.desc
  cases y8:ti.desc<;>rw [y8] at hs h2<;>first | (cases hs; done) | exact h1.trans (congrArg some h2)
 have dg:=hI.cy d
 have hr:=(aF dg x).1
 cases hv:ev (s.cy d) x with
 | s l =>
  rw [hv] at h hr
  obtain ⟨GI,hl⟩:=hr.pw
  obtain ⟨hK,jS⟩:=fB h
  have fV:=dg.Ee (jS d rfl) (eu s d) (eu s d) (ca.alloc w (.stringIter ⟨l.toArray⟩ 0)) (Nat.le_refl _) (by simp) (o:=.it l 0) (u:=.pointer (some ⟨w.heap.size,0,none⟩)) (fun O' =>
   ⟨w.heap.size,by simp [ay],rfl,heap_alloc_new w _,hl,Nat.zero_le _⟩)
  refine eI (u:=.pointer (some ⟨w.heap.size,0,none⟩)) (w':=w.alloc (.stringIter ⟨l.toArray⟩ 0)) ?_ (by rw [hd]; exact hn _ _ _ hK ⟨_,fV⟩)
  have hrr:=run_range_string (P:=P) w t ⟨l.toArray⟩ hu
  simp [execOp,ho,GI,hrr,World.iter]
 | _=>rw [hv] at h; exact h.elim
theorem zF (l:aH) (p:Nat):Utf8.decode ⟨l.toArray⟩ p = aP l p:=by rw [Lib.decode_N]; simp [aP]
theorem Hv (l:aH) {p:Nat} (h:p < l.length):p + (aP l p).2<=l.length:=by
 have:=Lib.decodeN_width_le (l.length - p) (l.getD p 0).toNat (l.getD (p + 1) 0).toNat (l.getD (p + 2) 0).toNat (l.getD (p + 3) 0).toNat (by omega)
 unfold aP
 omega
def IY (N:Nat) (s:St) (x:Operand) (dst:Option Nat) (K:St->Prop):Prop :=
 bG s x fun v=>match v with
  | .ob id aR (.it l p) => aC (Nat.beq id aR) ((p < l.length -> pS id aR (.it l (p + (aP l p).2)) s fun s => al N s dst (.bc [.b true, .i .i64 p, .i .i32 (aP l p).1]) K) /\
    (¬ p < l.length->al N s dst (.bc [.b false]) K))
  | _=>False
theorem M7 (hI : ao W0 F X N s β a w) {o : Oper} {x : Operand} (ho : o.op = .next x true) {K : St -> Prop} (h : IY N s x o.dst K)
  {next:Act->World->Prop} {Q:Exit->Act->World->Prop} (hn:∀ s' a' w',K s'->Inv W0 F X N s' a' w'->next a' w'):o.wp P a w next Q:=by
 unfold IY at h
 rw [aE] at h
 have hr:=(aF hI x).1
 have bt:=(aF hI x).2
 cases hv:ev s x with
 | ob id aR ob =>
  rw [hv] at h hr bt
  cases ob with
  | it l p =>
   obtain ⟨he,h1,h2⟩:=(af _ _).1 h
   have:=Nat.eq_of_beq_eq_true he
   subst this
   have bP:Nm s id:=bt id (by simp [SX.ids,aw])
   obtain ⟨g,hg,GI,hh,hl,hp⟩:=(show fG β (Own X s β) w id id (.it l p) (a.eval x) from hr)
   by_cases hlt:p < l.length
   ·have h1:=h1 hlt
    rw [oA] at h1
    have bO:(⟨l.toArray⟩:ByteArray).size = l.length:=by simp [ByteArray.size]
    have Qp:=zF l p
    have hle:=Hv l hlt
    have hit:=Lib.iterAt_heap w g ⟨l.toArray⟩ p (p + (aP l p).2) hh
    have hst:ca (fun k=>β id = some k\/β id = some k) w (w.iterAt g ⟨l.toArray⟩ (p + (aP l p).2)) :=
     ⟨rfl,rfl,rfl,by rw [Lib.iterAt_size]; exact Nat.le_refl _,fun k _ hk=>Lib.iterAt_other w g k _ _ fun e=>hk (.inl (by rw [hg,e]))⟩
    have cG:ay β id (β id) id = β id:=by simp [ay]
    have bS:=hI.C6 bP bP hst (b2:=β id) cG (fun k hk=>⟨by rw [Lib.iterAt_size]; exact (hI.own id k bP hk).1,.inl hk⟩) (o':=.it l (p + (aP l p).2)) (v0:=a.eval x)
     (fun o1 v1 rT h1=>fG.uniq (o:=.it l p) rfl rT ⟨g,hg,GI,hh,hl,hp⟩ h1 (.inr (.inl (.inr ⟨_,_,rfl⟩)))) (fun O' hO=>⟨g,by rw [cG]; exact hg,GI,hit,hl,hle⟩)
    have ba:Im (fun _=>True) (w.iterAt g ⟨l.toArray⟩ (p + (aP l p).2)) (.bc [.b true,.i .i64 p,.i .i32 (aP l p).1]) (.tuple #[.bool true,.int .i64 p,.int .i32 (aP l p).1]):=by
     refine .bc _ [.bool true,.int .i64 p,.int .i32 (aP l p).1] rfl fun j c u hc hu=>?_
     match j with
     | 0=>simp at hc hu; subst hc hu; exact .b _
     | 1=>simp at hc hu; subst hc hu; exact .i _ _
     | 2=>simp at hc hu; subst hc hu; exact .i _ _
     | j + 3=>simp at hc
    obtain ⟨s',h7,h8⟩:=lE bS h1 (Rel.im (ba.mono fun _ _=>trivial)) (by rw [ba.cQ]; intro n hn; cases hn)
    refine eI ?_ (hn _ _ _ h7 ⟨_,h8⟩)
    have:=Lib.run_next_any_at (P:=P) w g ⟨l.toArray⟩ p o.type hh (by rw [bO]; exact hlt)
    rw [Qp] at this
    simp [execOp,ho,GI,this]
   ·have h2:=h2 hlt
    have bO:(⟨l.toArray⟩:ByteArray).size = l.length:=by simp [ByteArray.size]
    have ba:Im (fun _=>True) w (.bc [.b false]) (.tuple #[.bool false]):=by
     refine .bc _ [.bool false] rfl fun j c u hc hu=>?_
     match j with
     | 0=>simp at hc hu; subst hc hu; exact .b _
     | j + 1=>simp at hc
    obtain ⟨s',h7,h8⟩:=lE hI h2 (Rel.im (ba.mono fun _ _=>trivial)) (by rw [ba.cQ]; intro n hn; cases hn)
    refine eI ?_ (hn _ _ _ h7 ⟨_,h8⟩)
    have:=Lib.run_next_end_at (P:=P) w g ⟨l.toArray⟩ p o.type hh (by rw [bO]; exact hlt)
    simp [execOp,ho,GI,this]
  | _=>exact h.elim
 | _=>rw [hv] at h; exact h.elim
end
end Go.SX
end
section
namespace Go.SX
open Go.MapKept
def U5:Ty->Option IntKind
 | .int | .i64 | .o7=>some .i64
 | .u32=>some .u32
 | .u64=>some .u64
 | .u8=>some .u8
 | .rune=>some .i32
 | _=>none
def CB:TD->Ty->Bool
 | .int k,κ=>match U5 κ with
  | some k'=>decide (k = k')
  | none=>false
 | .str,.str=>true
 | .bool,.bool=>true
 | _,_=>false
def MW:(κ:Ty)->den κ->den κ->Bool
 | .int,a,b | .i64,a,b | .u32,a,b | .u64,a,b | .u8,a,b | .rune,a,b | .o7,a,b=>decide (a = b)
 | .str,a,b=>decide (a = b)
 | .bool,a,b=>decide (a = b)
 | _,_,_=>false
def cf {κ τ:Ty}:List (den κ × den τ)->den κ->Option (den τ)
 | [],_=>none
 | (a,v)::r,k=>bif MW κ k a then some v else cf r k
def gS {κ τ:Ty}:List (den κ × den τ)->den κ->den τ->List (den κ × den τ)
 | [],k,v=>[(k,v)]
 | (a,u)::r,k,v=>bif MW κ k a then (k,v)::r else (a,u)::gS r k v
theorem w5 {κ τ:Ty} (es:List (den κ × den τ)) (k:den κ) (v:den τ):(gS es k v).length<=es.length + 1:=by
 induction es with
 | nil=>simp [gS]
 | cons p r ih =>
  obtain ⟨a,u⟩:=p
  simp only [gS]
  cases MW κ k a<;>simp<;>omega
def D9:TD->(Nat->Nat->Prop)->Prop
 | .mp k e,K=>K k e
 | _,_=>False
variable [Globs]
section
variable {P:Program} {N:Nat} {Γ:Ctx} {W0:World} {F:Fr} {X:Nat->Prop} {s:St} {β:Nat->Option Nat} {a:Act} {w:World}
theorem yk {t:Nat} {ti:TI} (cw:ti.ok P t) {K:Nat->Nat->Prop} (h:D9 ti.desc K):∃ k e,K k e/\P.underlying t = some (.map k e):=by
 obtain ⟨de,h1,h2⟩:=cw.desc
 cases hd:ti.desc with
 | mp k e=>rw [hd] at h h2; exact ⟨k,e,h,(show de = .map k e from h2) ▸ h1⟩
 | _=>rw [hd] at h; exact h.elim
theorem AE {O : Nat -> Prop} {t : Nat} {ti : TI} (cw : ti.ok P t) {κ : Ty} (h : CB ti.desc κ = true) : ∃ d, P.underlying t = some d /\
  (∀ (k:den κ) u,All2 (Im O w) (enc κ k) [u]->IsKey d u)/\∀ (k k':den κ) u u',All2 (Im O w) (enc κ k) [u]->All2 (Im O w) (enc κ k') [u']->Instr.sameNow d u u' = some (MW κ k k'):=by
 obtain ⟨de,h1,h2⟩:=cw.desc
 refine ⟨de,h1,?_⟩
 cases hd:ti.desc with
 | int k =>
  rw [hd] at h h2
  obtain rfl:=(show de = .int k from h2)
  have fin : ∀ (e : den κ -> Int), (∀ x : den κ, enc κ x = [.i k (e x)]) -> (∀ x y, MW κ x y = decide (e x = e y)) -> (∀ (Wi : den κ) u, All2 (Im O w) (enc κ Wi) [u] -> IsKey (.int k) u) /\
    ∀ (Wi k':den κ) u u',All2 (Im O w) (enc κ Wi) [u]->All2 (Im O w) (enc κ k') [u']->Instr.sameNow (.int k) u u' = some (MW κ Wi k'):=by
   intro e he hq
   have inv:∀ x u,All2 (Im O w) (enc κ x) [u]->u = .int k (e x):=fun x u hu=>by
    rw [he] at hu
    have:=hu.head
    cases this
    rfl
   refine ⟨fun x u hu=>by rw [inv x u hu]; simp [IsKey],fun x y u u' hu iN=>?_⟩
   rw [inv x u hu,inv y u' iN,hq]
   simp only [Instr.sameNow,if_true]
   congr 1
  cases κ<;>simp [CB,U5] at h<;>subst h<;>exact fin (fun x=>x) (fun _=>rfl) (fun _ _=>rfl)
 | str =>
  rw [hd] at h h2
  obtain rfl:=(show de = .string from h2)
  cases κ<;>simp [CB] at h
  have inv:∀ (x:aH) u,All2 (Im O w) (enc .str x) [u]->u = .string ⟨x.toArray⟩:=fun x u hu=>by
   have:=hu.head
   cases this
   rfl
  refine ⟨fun x u hu=>by rw [inv x u hu]; simp [IsKey],fun x y u u' hu iN=>?_⟩
  rw [inv x u hu,inv y u' iN]
  simp only [Instr.sameNow]
  congr 1
  rw [Bool.eq_iff_iff,bytes_beq]
  show _↔decide (x = y) = true
  rw [decide_eq_true_eq,beq_iff_eq]
 | bool =>
  rw [hd] at h h2
  obtain rfl:=(show de = .bool from h2)
  cases κ<;>simp [CB] at h
  have inv:∀ (x:Bool) u,All2 (Im O w) (enc .bool x) [u]->u = .bool x:=fun x u hu=>by
   have:=hu.head
   cases this
   rfl
  refine ⟨fun x u hu=>by rw [inv x u hu]; simp [IsKey],fun x y u u' hu iN=>?_⟩
  rw [inv x u hu,inv y u' iN]
  simp only [Instr.sameNow]
  congr 1
 | _=>rw [hd] at h; cases h
abbrev O6 (O:Nat->Prop) (w:World) (κ τ:Ty) (p:den κ × den τ) (e:MapEntry):Prop:=All2 (Im O w) (enc κ p.1) [e.key]/\All2 (Im O w) (enc τ p.2) [e.val]
theorem DG {O : Nat -> Prop} {κ τ : Ty} {d : TypeDesc} {k : den κ} {u : Value} (hs : ∀ (k k' : den κ) u u', All2 (Im O w) (enc κ k) [u] -> All2 (Im O w) (enc κ k') [u'] -> Instr.sameNow d u u' = some (MW κ k k'))
  (hu:All2 (Im O w) (enc κ k) [u]):∀ (es:List (den κ × den τ)) (jD:List MapEntry) (i:Nat),All2 (O6 O w κ τ) es jD ->
   (Instr.findNow d u jD i = some none/\cf es k = none/\∀ v,gS es k v = es++[(k,v)]) \/
   ∃ j e x,Instr.findNow d u jD i = some (some (i + j,e.val))/\jD[j]? = some e/\cf es k = some x/\All2 (Im O w) (enc τ x) [e.val]/\Instr.sameNow d u e.key = some true/\∀ v,gS es k v = es.set j (k,v):=by
 intro es
 induction es with
 | nil =>
  intro jD i h
  have:=h.1
  have:jD = []:=List.eq_nil_of_length_eq_zero (by simpa using this.symm)
  subst this
  exact .inl ⟨rfl,rfl,fun _=>rfl⟩
 | cons p r ih =>
  intro jD i h
  obtain ⟨x,y⟩:=p
  obtain ⟨e,jD,rfl,he,ht⟩:=h.cons_inv
  have hk:=hs k x u e.key hu he.1
  cases hq:MW κ k x with
  | true =>
   rw [hq] at hk
   exact .inr ⟨0,e,y,by simp [Instr.findNow,hk],rfl,by simp [cf,hq],he.2,hk,fun v=>by simp [gS,hq]⟩
  | false =>
   rw [hq] at hk
   rcases ih jD (i + 1) ht with ⟨h1,h2,h3⟩ | ⟨j,e',z,h1,h2,h3,h4,h5,h6⟩
   ·exact .inl ⟨by simp [Instr.findNow,hk,h1],by simp [cf,hq,h2],fun v=>by simp [gS,hq,h3]⟩
   ·exact .inr ⟨j + 1,e',z,by simp [Instr.findNow,hk,h1]; omega,by simpa using h2,by simp [cf,hq,h3],h4,h5,fun v=>by simp [gS,hq,h6]⟩

/-! ### a map is made -/
def IW (Γ:Ctx) (N:Nat) (s:St) (t:TypeId) (dst:Option Nat) (K:St->Prop):Prop :=
 cp Γ t fun ti=>D9 ti.desc fun k e=>cp Γ k fun tk=>cp Γ e fun te=>PM tk.ty fun κ=>PM te.ty fun τ=>jU dst fun d=>dx d s fun s=>al N s (some d) (.ob d d (.mp κ τ [])) K
theorem IX (aY : Γ.ok P) (hI : ao W0 F X N s β a w) {o : Oper} {t : TypeId} (ho : o.op = .makeMap t none) {K : St -> Prop} (h : IW Γ N s t o.dst K)
  {next:Act->World->Prop} {Q:Exit->Act->World->Prop} (hn:∀ s' a' w',K s'->Inv W0 F X N s' a' w'->next a' w'):o.wp P a w next Q:=by
 obtain ⟨ti,cw,h⟩:=bq aY h
 obtain ⟨k,e,h,hu⟩:=yk cw h
 obtain ⟨tk,Wd,h⟩:=bq aY h
 obtain ⟨te,gO,h⟩:=bq aY h
 obtain ⟨κ,hκ,h⟩:=(lM _ _).1 h
 obtain ⟨τ,hτ,h⟩:=(lM _ _).1 h
 obtain ⟨d,hd,h⟩:=(cn _ _).1 h
 rw [cO] at h
 have dg:=hI.cy d
 obtain ⟨hK,jS⟩:=fB h
 have fV:=dg.Ee (jS d rfl) (eu s d) (eu s d) (ca.alloc w (.map #[] 0)) (Nat.le_refl _) (by simp) (o:=.mp κ τ []) (u:=.map (some w.heap.size)) (fun O' =>
  ⟨w.heap.size,#[],0,by simp [ay],rfl,heap_alloc_new w _,by simp,All2.nil _⟩)
 refine eI (u:=.map (some w.heap.size)) (w':=w.alloc (.map #[] 0)) ?_ (by rw [hd]; exact hn _ _ _ hK ⟨_,fV⟩)
 simp [execOp,ho,Instr.makeMap,newObj]
 rfl

/-! ### a map is asked -/
def M9:List AV->(AV->Prop)->Prop
 | [v],K=>K v
 | _,_=>False
theorem I5 (l:List AV) (K:AV->Prop):M9 l K↔∃ v,l = [v]/\K v:=by
 cases l with
 | nil=>simp [M9]
 | cons v r=>cases r<;>simp [M9]
def Yb (v:AV) (K:(id:Nat)->(κ τ:Ty)->List (den κ × den τ)->Prop):Prop:=match v with
 | .ob id aR (.mp κ τ es)=>aC (Nat.beq id aR) (K id κ τ es)
 | _=>False
theorem Ec {v:AV} {K:(id:Nat)->(κ τ:Ty)->List (den κ × den τ)->Prop} (h:Yb v K):∃ id κ τ es,v = .ob id id (.mp κ τ es)/\K id κ τ es:=by
 cases v with
 | ob id aR o =>
  cases o with
  | mp κ τ es =>
   obtain ⟨he,h'⟩:=(af _ _).1 (show aC (Nat.beq id aR) (K id κ τ es) from h)
   have:=Nat.eq_of_beq_eq_true he
   subst this
   exact ⟨id,κ,τ,es,rfl,h'⟩
  | _=>exact h.elim
 | _=>exact h.elim
def um (Γ:Ctx) (N:Nat) (s:St) (t:TypeId) (x i:Operand) (ok:Bool) (dst:Option Nat) (K:St->Prop):Prop :=
 bG s x fun m=>Yb m fun _ κ τ es=>bG s i fun kv=>cp Γ t fun ti=>D9 ti.desc fun kt et=>cp Γ kt fun tk=>cp Γ et fun te=>aC (CB tk.desc κ) (aC (!aK te.desc) (jU (dec κ [kv]) fun k=>eW te.zero fun zs=>jU (dec τ zs) fun z =>
  M9 (enc τ ((cf es k).getD z)) fun v=>match ok with
   | true=>al N s dst (.bc [v,.b (cf es k).isSome]) K
   | false=>al N s dst v K))
theorem A1 {c e:AV} (h:vJ c e) (he:e.plain = true):c.plain = true:=by
 rcases h with rfl | ⟨rfl,_⟩
 ·exact he
 ·rfl
theorem Cb {O:Nat->Prop} {κ:Ty} {c:AV} {k:den κ} {u:Value} (h:dec κ [c] = some k) (hr:Rel β O w c u):All2 (Im O w) (enc κ k) [u]:=by
 have hle:=lj h
 have sq:c.plain = true:=by
  cases he:enc κ k with
  | nil=>rw [he] at hle; exact hle.elim
  | cons e r =>
   rw [he] at hle
   exact A1 hle.1 (enc_plain κ k e (by rw [he]; exact List.mem_cons_self ..))
 have hc:Im O w c u:=by cases c<;>first | exact hr | cases sq
 exact l4 (All2.cons hc (All2.nil _)) hle
theorem I6 {O:Nat->Prop} {τ:Ty} {x:den τ} {v:AV} {u:Value} (h:enc τ x = [v]) (hr:All2 (Im O w) (enc τ x) [u]):Im O w v u:=by
 rw [h] at hr
 exact hr.head
theorem CE (aY : Γ.ok P) (hI : ao W0 F X N s β a w) {o : Oper} {t : TypeId} {x i : Operand} {ok : Bool} (ho : o.op = .lookup t x i ok) {K : St -> Prop} (h : um Γ N s t x i ok o.dst K)
  {next:Act->World->Prop} {Q:Exit->Act->World->Prop} (hn:∀ s' a' w',K s'->Inv W0 F X N s' a' w'->next a' w'):o.wp P a w next Q:=by
 unfold um at h
 rw [aE] at h
 obtain ⟨id,κ,τ,es,hx,h⟩:=Ec h
 rw [aE] at h
 have UN:=(aF hI x).1
 have LC:=(aF hI i).1
 obtain ⟨ti,cw,h⟩:=bq aY h
 obtain ⟨kt,et,h,hu⟩:=yk cw h
 obtain ⟨tk,Wd,h⟩:=bq aY h
 obtain ⟨te,gO,h⟩:=bq aY h
 obtain ⟨Xr,h⟩:=(af _ _).1 h
 obtain ⟨hns,h⟩:=(af _ _).1 h
 obtain ⟨k,hk,h⟩:=(cn _ _).1 h
 rw [eF] at h
 obtain ⟨z,hz,h⟩:=(cn _ _).1 h
 obtain ⟨v,hv,h⟩:=(I5 _ _).1 h
 rw [hx] at UN
 obtain ⟨g,jD,clock,hg,MR,hh,_,ei⟩:=(show fG β (Own X s β) w id id (.mp κ τ es) (a.eval x) from UN)
 obtain ⟨d,hd,vM,wS⟩:=AE (w:=w) (O:=Own X s β) Wd Xr
 have Pp:=Cb hk LC
 have Ij:=DG wS Pp es jD.toList 0 ei
 obtain ⟨zv,QN,vQ⟩:=gO.zeroValue w
 have tQ:=run_checkKey (P:=P) (w:=w) hd (vM k _ Pp) jD.isEmpty 9999
 -- the value found, or zero
 have hval:∃ u,(Instr.lookup t (a.eval x) (a.eval i) ok).run P w = .ok (if ok then .tuple #[u,.bool (cf es k).isSome] else u) w/\Im (Own X s β) w v u:=by
  rcases Ij with ⟨h1,h2,_⟩ | ⟨j,e,y,h1,h2,h3,h4,_,_⟩
  ·have Qr:=run_findKey (P:=P) (w:=w) hd h1
   have QM:All2 (Im (Own X s β) w) (enc τ z) te.zero:=by
    refine l4 ?_ (lj hz)
    have:∀ l:List Value,All2 (Im (Own X s β) w) (dW l) l:=fun l=>by
     induction l with
     | nil=>exact All2.nil _
     | cons q r ih=>exact All2.cons (kP _ _ _) ih
    exact this _
   rw [h2] at hv
   have hzv:te.zero = [zv]:=by
    have h5:=QM.1
    have Iz:enc τ z = [v]:=hv
    rw [Iz] at h5
    obtain ⟨i,za,Ai⟩:=gO.one (by simpa using hns)
    match XZ:te.zero,h5 with
    | [q],_ =>
     rw [XZ] at Ai
     have hq:i.zero = some q:=Ai
     have:(zeroValue et).run P w = .ok q w:=by simp [zeroValue,typeInfo,za,hq]
     rw [this] at QN
     injection QN with e1 _
     rw [e1]
   rw [hzv] at QM
   refine ⟨zv,?_,I6 (show enc τ z = [v] from hv) QM⟩
   rw [h2]
   simp only [Instr.lookup,Sem.run_bind,run_underlying hu,Result.andThen_ok,MR,MapKept.run_getObj_map hh,Sem.run_pure,tQ,Qr,QN]
   cases ok<;>rfl
  ·have Qr:=run_findKey (P:=P) (w:=w) hd h1
   rw [h3] at hv
   refine ⟨e.val,?_,I6 (show enc τ y = [v] from hv) h4⟩
   rw [h3]
   simp only [Instr.lookup,Sem.run_bind,run_underlying hu,Result.andThen_ok,MR,MapKept.run_getObj_map hh,Sem.run_pure,tQ,Qr]
   cases ok<;>rfl
 obtain ⟨u,bu,dw⟩:=hval
 have Pw:(execOp a.eval o).run P w = .ok (.value (if ok then .tuple #[u,.bool (cf es k).isSome] else u)) w:=by
  simp only [execOp,ho,Sem.run_bind,bu,Result.andThen_ok]
  rfl
 cases ok with
 | true =>
  have h:al N s o.dst (.bc [v,.b (cf es k).isSome]) K:=h
  have ba:Im (Own X s β) w (.bc [v,.b (cf es k).isSome]) (.tuple #[u,.bool (cf es k).isSome]):=by
   refine .bc _ [u,.bool (cf es k).isSome] rfl fun j c u' hc iN=>?_
   match j with
   | 0=>simp at hc iN; subst hc iN; exact dw
   | 1=>simp at hc iN; subst hc iN; exact .b _
   | j + 2=>simp at hc
  exact gJ hI h hn Pw (Rel.im ba) (by rw [ba.cQ]; intro n hn; cases hn)
 | false =>
  have h:al N s o.dst v K:=h
  exact gJ hI h hn Pw (Rel.im dw) (by rw [dw.cQ]; intro n hn; cases hn)

/-! ### a map is written -/
def sx (Γ:Ctx) (s:St) (t:TypeId) (x i y:Operand) (dst:Option Nat) (K:St->Prop):Prop :=
 bG s x fun m=>Yb m fun id κ τ es=>bG s i fun kv=>bG s y fun yv=>cp Γ t fun ti=>D9 ti.desc fun kt et=>cp Γ kt fun tk=>aC (CB tk.desc κ) (jU (dec κ [kv]) fun k=>jU (dec τ [yv]) fun v =>
  es.length < 9223372036854775807/\pS id id (.mp κ τ (gS es k v)) s (match dst with
   | none=>K
   | some _=>fun _=>False))
theorem Bq {w:World} {g k:Nat} {o:Obj} (h:k≠g):({ w with heap:=w.heap.setIfInBounds g o }:World).heap[k]? = w.heap[k]?:=by
 simp [Ne.symm h]
theorem wZ (aY : Γ.ok P) (hI : ao W0 F X N s β a w) {o : Oper} {t : TypeId} {x i y : Operand} (ho : o.op = .mapUpdate t x i y \/ o.op = .insert t x i y) {K : St -> Prop} (h : sx Γ s t x i y o.dst K)
  {next:Act->World->Prop} {Q:Exit->Act->World->Prop} (hn:∀ s' a' w',K s'->Inv W0 F X N s' a' w'->next a' w'):o.wp P a w next Q:=by
 unfold sx at h
 rw [aE] at h
 obtain ⟨id,κ,τ,es,hx,h⟩:=Ec h
 rw [aE,aE] at h
 have UN:=(aF hI x).1
 have bt:=(aF hI x).2
 have LC:=(aF hI i).1
 have hry:=(aF hI y).1
 obtain ⟨ti,cw,h⟩:=bq aY h
 obtain ⟨kt,et,h,hu⟩:=yk cw h
 obtain ⟨tk,Wd,h⟩:=bq aY h
 obtain ⟨Xr,h⟩:=(af _ _).1 h
 obtain ⟨k,hk,h⟩:=(cn _ _).1 h
 obtain ⟨v,hv,hlen,h⟩:=(cn _ _).1 h
 rw [oA] at h
 cases qx:o.dst with
 | some d=>rw [qx] at h; exact h.elim
 | none =>
 rw [qx] at h
 rw [hx] at UN bt
 have bP:Nm s id:=bt id (by simp [SX.ids,aw])
 obtain ⟨g,jD,clock,hg,MR,hh,hle,ei⟩:=(show fG β (Own X s β) w id id (.mp κ τ es) (a.eval x) from UN)
 obtain ⟨d,hd,vM,wS⟩:=AE (w:=w) (O:=Own X s β) Wd Xr
 have Pp:=Cb hk LC
 have Zm:=Cb hv hry
 have Ij:=DG wS Pp es jD.toList 0 ei
 have tQ:=run_checkKey (P:=P) (w:=w) hd (vM k _ Pp) false 9999
 have hgs:g < w.heap.size:=(Array.getElem?_eq_some_iff.1 hh).1
 -- what is written, and that it reads as told
 have key : ∃ ents' clock', (Instr.mapUpdate t (a.eval x) (a.eval i) (a.eval y)).run P w = .ok () { w with heap := w.heap.setIfInBounds g (.map ents' clock') } /\
   All2 (O6 (Own X s β) w κ τ) (gS es k v) ents'.toList:=by
  rcases Ij with ⟨h1,_,h3⟩ | ⟨j,e,z,h1,h2,_,_,h5,h6⟩
  ·have Qr:=run_findKey (P:=P) (w:=w) hd h1
   refine ⟨jD.push { key:=a.eval i,val:=a.eval y,born:=clock },clock + 1,?_,?_⟩
   ·simp only [Instr.mapUpdate,Sem.run_bind,run_underlying hu,Result.andThen_ok,MR,MapKept.run_getObj_map hh,Sem.run_pure,tQ,Qr,MapKept.run_setObj_map _ hh]
   ·rw [h3,Array.toList_push]
    exact ei.append (All2.cons ⟨Pp,Zm⟩ (All2.nil _))
  ·have Qr:=run_findKey (P:=P) (w:=w) hd h1
   have YI:jD[j]? = some e:=by simpa using h2
   have hst:∀ w':World,(Instr.keyThatStays e.key (a.eval i)).run P w' = .ok (a.eval i) w':=by
    intro w'
    have YJ:IsKey d e.key:=by
     have V1:j < es.length:=by rw [ei.1]; exact (List.getElem?_eq_some_iff.1 h2).1
     exact vM _ _ (ei.2 j _ _ (List.getElem?_eq_getElem V1) h2).1
    obtain ⟨r,Wc,UL⟩:=sameNow_of_keys (vM k _ Pp) YJ
    rw [h5] at Wc
    injection Wc with Wc
    have he:a.eval i = e.key:=UL.1 Wc.symm
    rw [he]
    exact MapKept.run_keyThatStays YJ
   refine ⟨jD.modify j fun e=>{ e with key:=a.eval i,val:=a.eval y },clock,?_,?_⟩
   ·simp only [Instr.mapUpdate,Sem.run_bind,run_underlying hu,Result.andThen_ok,MR,MapKept.run_getObj_map hh,Sem.run_pure,tQ,Qr,Nat.zero_add,YI,Option.map_some,Option.getD_some,hst,MapKept.run_setObj_map _ hh]
   ·rw [h6]
    refine ⟨by simpa using ei.1,fun q p e' hp Pk=>?_⟩
    rw [List.getElem?_set] at hp
    rw [Array.getElem?_toList,Array.getElem?_modify] at Pk
    by_cases YT:j = q
    ·subst YT
     rw [if_pos rfl] at Pk
     rw [YI] at Pk
     injection Pk with Pk
     subst Pk
     rw [if_pos rfl] at hp
     split at hp
     ·injection hp with hp
      subst hp
      exact ⟨Pp,Zm⟩
     ·cases hp
    ·rw [if_neg YT] at hp Pk
     exact ei.2 q p e' hp (by simpa using Pk)
 obtain ⟨ents',clock',bu,mm⟩:=key
 have hst:ca (fun k=>β id = some k\/β id = some k) w { w with heap:=w.heap.setIfInBounds g (.map ents' clock') } :=
  ⟨rfl,rfl,rfl,by simp,fun k _ hk=>Bq fun e=>hk (.inl (by rw [hg,e]))⟩
 have cG:ay β id (β id) id = β id:=by simp [ay]
 have bS:=hI.C6 bP bP hst (b2:=β id) cG (fun k hk=>⟨by simpa using (hI.own id k bP hk).1,.inl hk⟩) (o':=.mp κ τ (gS es k v)) (v0:=a.eval x)
  (fun o1 v1 rT h1=>fG.uniq (o:=.mp κ τ es) rfl rT ⟨g,jD,clock,hg,MR,hh,hle,ei⟩ h1 (.inr (.inl (.inl ⟨_,_,_,rfl⟩)))) (fun O' hO=>by
   refine ⟨g,ents',clock',by rw [cG]; exact hg,MR,by simp [hgs],?_,?_⟩
   ·have:=w5 es k v
    unfold maxLen
    omega
   ·refine mm.mono fun j p e _ Y9=>?_
    have Rx:∀ {l:List AV} {us:List Value},All2 (Im (Own X s β) w) l us->All2 (Im O' { w with heap:=w.heap.setIfInBounds g (.map ents' clock') }) l us:=fun h=>h.mono fun _ _ _ _ hi=>hi.step hst (fun k hk ho=>.inr (ho.elim (fun h=>⟨id,bP,h⟩) fun h=>⟨id,bP,h⟩)) hO
    exact ⟨Rx Y9.1,Rx Y9.2⟩)
 have Zy:ay β id (β id) = β:=by
  funext q
  unfold ay
  split
  ·rename_i e; rw [e]
  ·rfl
 refine Dc (w':={ w with heap:=w.heap.setIfInBounds g (.map ents' clock') }) ?_ (by rw [qx]; exact hn _ _ _ h ⟨_,bS⟩)
 rcases ho with ho | ho
 ·simp only [execOp,ho,Sem.run_bind,bu,Result.andThen_ok]
  rfl
 ·simp only [execOp,ho,Sem.run_bind,bu,Result.andThen_ok]
  rfl
end
end Go.SX
end
section
namespace Go.Vl
open Go.SX
def iO (a b:Int):Int:=if a = 0 then b else a
def eL (a b:Int):Int:=if a = b then 0 else if a < b then -1 else 1
def l9 (a b:aH):Int:=if a = b then 0 else if Op.bytesLess a b = true then -1 else 1
def ik (f:Int):Int:=if f < 9223372036854775808 then f + 9223372036854775808 else 18446744073709551615 - f
mutual
def eg:aT->aT->Int
 | ⟨k,n,f,s,l,e⟩,b=>iO (eL k b.kind) (iO (eL n b.n) (iO (eL (ik f) (ik b.f)) (iO (l9 s b.s) (iO (cmpL l b.l) (iA e b.e)))))
def cmpL:List aT->List aT->Int
 | [],[]=>0
 | [],_::_=>-1
 | _::_,[]=>1
 | x::xs,y::ys=>iO (eg x y) (cmpL xs ys)
def iA:List (aH × aT)->List (aH × aT)->Int
 | [],[]=>0
 | [],_::_=>-1
 | _::_,[]=>1
 | x::xs,y::ys=>iO (o3 x y) (iA xs ys)
def o3:aH × aT->aH × aT->Int
 | (a,x),q=>iO (l9 a q.1) (eg x q.2)
end
theorem mw:∀ a:aH,Op.bytesLess a a = false
 | []=>rfl
 | c::r=>by
  rw [Op.bytesLess,mw r]
  simp
theorem dY (a:Int):eL a a = 0:=if_pos rfl
theorem mX (a:aH):l9 a a = 0:=if_pos rfl
theorem lf (a b:aT):eg a b = iO (eL a.kind b.kind) (iO (eL a.n b.n) (iO (eL (ik a.f) (ik b.f)) (iO (l9 a.s b.s) (iO (cmpL a.l b.l) (iA a.e b.e))))):=by
 cases a
 rw [eg]
theorem Dz (p q:aH × aT):o3 p q = iO (l9 p.1 q.1) (eg p.2 q.2):=by
 cases p
 rw [o3]
theorem bE {a b:Int} (h:a≠0):iO a b = a:=if_neg h
theorem nq {a:Int}:iO a 0 = a:=by unfold iO; split<;>simp [*]
theorem aL {b:Int}:iO 0 b = b:=if_pos rfl
theorem wq {l m:List aT} {k:Nat} (hl:k < l.length) (hm:k < m.length):cmpL (l.drop k) (m.drop k) = iO (eg l[k] m[k]) (cmpL (l.drop (k + 1)) (m.drop (k + 1))):=by
 rw [List.drop_eq_getElem_cons hl,List.drop_eq_getElem_cons hm,cmpL]
theorem ta {l m:List aT} {k:Nat} (hl:k < l.length) (hm:m.length<=k):cmpL (l.drop k) (m.drop k) = 1:=by
 rw [List.drop_eq_getElem_cons hl,List.drop_eq_nil_of_le hm,cmpL]
theorem wu {l m:List aT} {k:Nat} (hl:l.length<=k) (hm:k < m.length):cmpL (l.drop k) (m.drop k) = -1:=by
 rw [List.drop_eq_getElem_cons hm,List.drop_eq_nil_of_le hl,cmpL]
theorem zx {l m:List aT} {k:Nat} (hl:l.length<=k) (hm:m.length<=k):cmpL (l.drop k) (m.drop k) = 0:=by
 rw [List.drop_eq_nil_of_le hm,List.drop_eq_nil_of_le hl,cmpL]
theorem wj {l m:List (aH × aT)} {k:Nat} (hl:k < l.length) (hm:k < m.length):iA (l.drop k) (m.drop k) = iO (o3 l[k] m[k]) (iA (l.drop (k + 1)) (m.drop (k + 1))):=by
 rw [List.drop_eq_getElem_cons hl,List.drop_eq_getElem_cons hm,iA]
theorem s8 {l m:List (aH × aT)} {k:Nat} (hl:k < l.length) (hm:m.length<=k):iA (l.drop k) (m.drop k) = 1:=by
 rw [List.drop_eq_getElem_cons hl,List.drop_eq_nil_of_le hm,iA]
theorem wm {l m:List (aH × aT)} {k:Nat} (hl:l.length<=k) (hm:k < m.length):iA (l.drop k) (m.drop k) = -1:=by
 rw [List.drop_eq_getElem_cons hm,List.drop_eq_nil_of_le hl,iA]
theorem zw {l m:List (aH × aT)} {k:Nat} (hl:l.length<=k) (hm:m.length<=k):iA (l.drop k) (m.drop k) = 0:=by
 rw [List.drop_eq_nil_of_le hm,List.drop_eq_nil_of_le hl,iA]
theorem vA {v x:aT} (h:x ∈ v.l):SizeOf.sizeOf x < SizeOf.sizeOf v:=by
 cases v
 have:=List.sizeOf_lt_of_mem h
 simp only [aT.mk.sizeOf_spec] at this ⊢
 omega
theorem vz {v:aT} {p:aH × aT} (h:p ∈ v.e):SizeOf.sizeOf p.2 < SizeOf.sizeOf v:=by
 cases v
 have:=List.sizeOf_lt_of_mem h
 obtain ⟨a,x⟩:=p
 simp only [aT.mk.sizeOf_spec,Prod.mk.sizeOf_spec] at this ⊢
 omega
mutual
theorem mY:∀ v:aT,eg v v = 0
 | ⟨k,n,f,s,l,e⟩=>by
  rw [eg]
  simp only [dY,mX,wv l,wo e,aL]
theorem wv:∀ l:List aT,cmpL l l = 0
 | []=>by rw [cmpL]
 | x::xs=>by rw [cmpL,mY x,wv xs,aL]
theorem wo:∀ l:List (aH × aT),iA l l = 0
 | []=>by rw [iA]
 | x::xs=>by rw [iA,Ff x,wo xs,aL]
theorem Ff:∀ p:aH × aT,o3 p p = 0
 | (a,x)=>by rw [o3,mY x,mX,aL]
end
def iR:List Int->Int
 | []=>0
 | x::r=>iO x (iR r)
theorem zQ {l:List Int} {k:Nat} (h:k < l.length):iR (l.drop k) = iO l[k] (iR (l.drop (k + 1))):=by
 rw [List.drop_eq_getElem_cons h,iR]
theorem sJ (v:aT):(⟨v.kind,v.n,v.f,v.s,v.l,v.e⟩:aT) = v:=by cases v; rfl
abbrev kA:=aH × aT
def iC (k:aH) (p:kA):Bool:=p.1 == k
def AA (l:List kA) (q:kA->Bool):Int:=if l.findIdx q < l.length then (l.findIdx q:Nat) else -1
theorem IL {l:List kA} {q:kA->Bool} {i:Nat} (hi:i < l.length) (hf:i<=l.findIdx q) (h:q l[i] = true):AA l q = i:=by
 have:l.findIdx q = i:=by
  rcases Nat.lt_or_ge i (l.findIdx q) with h1 | h1
  ·have:=List.not_of_lt_findIdx h1
   rw [h] at this
   cases this
  ·omega
 rw [AA,this,if_pos hi]
theorem D4 {l:List kA} {q:kA->Bool} {i:Nat} (hi:i < l.length) (hf:i<=l.findIdx q) (h:q l[i] = false):i + 1<=l.findIdx q:=by
 rcases Nat.lt_or_ge i (l.findIdx q) with h1 | h1
 ·exact h1
 ·have e:l.findIdx q = i:=by omega
  have:=List.findIdx_getElem (w:=by rw [e]; exact hi) (xs:=l) (p:=q)
  simp only [e] at this
  rw [h] at this
  cases this
theorem D5 {l:List kA} {q:kA->Bool} (hf:l.length<=l.findIdx q):AA l q = -1:=by
 rw [AA,if_neg (by omega)]
end Go.Vl
end
section
namespace Go.Ut
open Go.SX

theorem Wv {n b0 b1 b2 b3:Nat} (h:192<=b0) (h2:b0 < 224) (h1:b1 < 256):Lib.decodeN n b0 b1 b2 b3 = if 2<=n/\(128<=b1/\b1 < 192)/\128<=(b0 - 192) * 64 + (b1 - 128) then ((b0 - 192) * 64 + (b1 - 128),2) else (65533,1):=by
 unfold Lib.decodeN
 rw [if_neg (by omega)]
 by_cases c:2<=n/\(128<=b1/\b1 < 192)
 ·have e:b0 % 32 * 64 + b1 % 64 = (b0 - 192) * 64 + (b1 - 128):=by omega
  rw [if_pos (by omega),e]
  by_cases d:128<=(b0 - 192) * 64 + (b1 - 128)
  ·rw [if_pos d,if_pos ⟨c.1,c.2,d⟩]
  ·rw [if_neg d,if_neg (fun h=>d h.2.2)]
 ·rw [if_neg (by omega),if_neg (by omega),if_neg (by omega),if_neg (fun h=>c ⟨h.1,h.2.1⟩)]
theorem Ww {n b0 b1 b2 b3:Nat} (h:224<=b0) (h2:b0 < 240) (h1:b1 < 256) (h3:b2 < 256):Lib.decodeN n b0 b1 b2 b3 = if (3<=n/\(128<=b1/\b1 < 192)/\(128<=b2/\b2 < 192))/\2048<=(b0 - 224) * 4096 + (b1 - 128) * 64 + (b2 - 128)/\((b0 - 224) * 4096 + (b1 - 128) * 64 + (b2 - 128) < 55296\/57343 < (b0 - 224) * 4096 + (b1 - 128) * 64 + (b2 - 128)) then ((b0 - 224) * 4096 + (b1 - 128) * 64 + (b2 - 128),3) else (65533,1):=by
 unfold Lib.decodeN
 rw [if_neg (by omega),if_neg (by omega)]
 by_cases c:3<=n/\(128<=b1/\b1 < 192)/\(128<=b2/\b2 < 192)
 ·have e:b0 % 16 * 4096 + b1 % 64 * 64 + b2 % 64 = (b0 - 224) * 4096 + (b1 - 128) * 64 + (b2 - 128):=by omega
  rw [if_pos (by omega),e]
  generalize hv:(b0 - 224) * 4096 + (b1 - 128) * 64 + (b2 - 128) = v
  have hle:v < 65536:=by omega
  by_cases d:2048<=v/\(v < 55296\/57343 < v)
  ·rw [if_pos (by omega),if_pos ⟨c,d⟩]
  ·rw [if_neg (by omega),if_neg (fun h=>d h.2)]
 ·rw [if_neg (by omega),if_neg (by omega),if_neg (fun h=>c h.1)]
theorem Wx {n b0 b1 b2 b3:Nat} (h:240<=b0) (h2:b0 < 248) (h1:b1 < 256) (h3:b2 < 256) (h4:b3 < 256):Lib.decodeN n b0 b1 b2 b3 = if (4<=n/\(128<=b1/\b1 < 192)/\(128<=b2/\b2 < 192)/\(128<=b3/\b3 < 192))/\65536<=(b0 - 240) * 262144 + (b1 - 128) * 4096 + (b2 - 128) * 64 + (b3 - 128)/\(b0 - 240) * 262144 + (b1 - 128) * 4096 + (b2 - 128) * 64 + (b3 - 128)<=1114111 then ((b0 - 240) * 262144 + (b1 - 128) * 4096 + (b2 - 128) * 64 + (b3 - 128),4) else (65533,1):=by
 unfold Lib.decodeN
 rw [if_neg (by omega),if_neg (by omega),if_neg (by omega)]
 by_cases c:4<=n/\(128<=b1/\b1 < 192)/\(128<=b2/\b2 < 192)/\(128<=b3/\b3 < 192)
 ·have e:b0 % 8 * 262144 + b1 % 64 * 4096 + b2 % 64 * 64 + b3 % 64 = (b0 - 240) * 262144 + (b1 - 128) * 4096 + (b2 - 128) * 64 + (b3 - 128):=by omega
  rw [if_pos (by omega),e]
  generalize hv:(b0 - 240) * 262144 + (b1 - 128) * 4096 + (b2 - 128) * 64 + (b3 - 128) = v
  by_cases d:65536<=v/\v<=1114111
  ·rw [if_pos (by omega),if_pos ⟨c,d⟩]
  ·rw [if_neg (by omega),if_neg (fun h=>d h.2)]
 ·rw [if_neg (by omega),if_neg (fun h=>c h.1)]
def b8 (s:aH) (i:Nat):Int:=((s.getD i 0).toNat:Int)
theorem xE (s:aH) (i:Nat):0<=b8 s i/\b8 s i<=255:=by have:=(s.getD i 0).toNat_lt; unfold b8; omega
def scalar (n:Int):Prop:=0<=n/\n<=1114111/\(n < 55296\/57343 < n)
instance (n:Int):Decidable (scalar n):=by unfold scalar; infer_instance
def code (s:aH):Int × Nat :=
 if s = [] then (-1,0) else if (aP s 0).1 = 65533/\(aP s 0).2 = 1 then (-1,1) else (((aP s 0).1:Int),(aP s 0).2)
theorem Tz {s:aH} (h0:s≠[]) (h:b8 s 0 < 128):code s = (b8 s 0,1):=by
 have hd:aP s 0 = ((s.getD 0 0).toNat,1):=by
  unfold aP Lib.decodeN
  rw [if_pos (by unfold b8 at h; omega)]
 unfold code
 rw [if_neg h0,hd,if_neg (by simp only; unfold b8 at h; omega)]
 rfl
theorem zA {s:aH} (h0:s≠[]) (h:128<=b8 s 0/\b8 s 0 < 192\/248<=b8 s 0):code s = (-1,1):=by
 have hd:aP s 0 = (65533,1):=by
  unfold aP Lib.decodeN
  unfold b8 at h
  rw [if_neg (by omega),if_neg (by omega),if_neg (by omega),if_neg (by omega)]
 unfold code
 rw [if_neg h0,hd,if_pos ⟨rfl,rfl⟩]
def cont (s:aH) (i:Nat):Prop:=128<=b8 s i/\b8 s i < 192
def acc (s:aH) (r:Int):Nat->Int
 | 0=>r
 | 1=>r
 | i + 1=>acc s r i * 64 + b8 s i - 128
def lead (s:aH):Nat × Int × Int :=
 if b8 s 0 < 224 then (2,128,b8 s 0 - 192) else if b8 s 0 < 240 then (3,2048,b8 s 0 - 224) else (4,65536,b8 s 0 - 240)
def bR (s:aH):Prop:=(lead s).1<=s.length/\(∀ i,1<=i->i < (lead s).1->cont s i)/\(lead s).2.1<=acc s (lead s).2.2 (lead s).1/\scalar (acc s (lead s).2.2 (lead s).1)
theorem TL {s:aH} (hl:lead s = (2,128,b8 s 0 - 192)):bR s↔(2<=s.length/\cont s 1/\128<=(b8 s 0 - 192) * 64 + b8 s 1 - 128/\scalar ((b8 s 0 - 192) * 64 + b8 s 1 - 128)):=by
 unfold bR
 rw [hl]
 refine ⟨fun ⟨a,b,c,d⟩=>⟨a,b 1 (by decide) (show 1 < 2 by decide),c,d⟩,fun ⟨a,b,c,d⟩=>⟨a,fun i h1 h2=>?_,c,d⟩⟩
 have:i = 1:=by simp only at h2; omega
 subst this
 exact b
theorem TM {s:aH} (hl:lead s = (3,2048,b8 s 0 - 224)):bR s↔(3<=s.length/\(cont s 1/\cont s 2)/\2048<=((b8 s 0 - 224) * 64 + b8 s 1 - 128) * 64 + b8 s 2 - 128/\scalar (((b8 s 0 - 224) * 64 + b8 s 1 - 128) * 64 + b8 s 2 - 128)):=by
 unfold bR
 rw [hl]
 refine ⟨fun ⟨a,b,c,d⟩=>⟨a,⟨b 1 (by decide) (show 1 < 3 by decide),b 2 (by decide) (show 2 < 3 by decide)⟩,c,d⟩,fun ⟨a,b,c,d⟩=>⟨a,fun i h1 h2=>?_,c,d⟩⟩
 have:i = 1\/i = 2:=by simp only at h2; omega
 rcases this with rfl | rfl
 ·exact b.1
 ·exact b.2
theorem TN {s:aH} (hl:lead s = (4,65536,b8 s 0 - 240)):bR s↔(4<=s.length/\(cont s 1/\cont s 2/\cont s 3)/\65536<=(((b8 s 0 - 240) * 64 + b8 s 1 - 128) * 64 + b8 s 2 - 128) * 64 + b8 s 3 - 128/\scalar ((((b8 s 0 - 240) * 64 + b8 s 1 - 128) * 64 + b8 s 2 - 128) * 64 + b8 s 3 - 128)):=by
 unfold bR
 rw [hl]
 refine ⟨fun ⟨a,b,c,d⟩=>⟨a,⟨b 1 (by decide) (show 1 < 4 by decide),b 2 (by decide) (show 2 < 4 by decide),b 3 (by decide) (show 3 < 4 by decide)⟩,c,d⟩,fun ⟨a,b,c,d⟩=>⟨a,fun i h1 h2=>?_,c,d⟩⟩
 have:i = 1\/i = 2\/i = 3:=by simp only at h2; omega
 rcases this with rfl | rfl | rfl
 ·exact b.1
 ·exact b.2.1
 ·exact b.2.2
theorem jm {s : aH} (h0 : s ≠ []) (h : 192<=b8 s 0) (h2 : b8 s 0 < 248) :
  (bR s->code s = (acc s (lead s).2.2 (lead s).1,(lead s).1))/\(¬ bR s->code s = (-1,1)):=by
 have r0:=(s.getD 0 0).toNat_lt
 have r1:=(s.getD 1 0).toNat_lt
 have r2:=(s.getD 2 0).toNat_lt
 have r3:=(s.getD 3 0).toNat_lt
 have hd:aP s 0 = Lib.decodeN s.length (s.getD 0 0).toNat (s.getD 1 0).toNat (s.getD 2 0).toNat (s.getD 3 0).toNat:=rfl
 have gN:aP s 0 = (65533,1)->code s = (-1,1):=fun e=>by unfold code; rw [if_neg h0,e,if_pos ⟨rfl,rfl⟩]
 have rr:∀ v k,aP s 0 = (v,k)->1 < k->code s = ((v:Int),k):=fun v k e hk=>by unfold code; rw [if_neg h0,e,if_neg (fun h=>by have:=h.2; simp only at this; omega)]
 by_cases c1:b8 s 0 < 224
 ·have hl:lead s = (2,128,b8 s 0 - 192):=by unfold lead; rw [if_pos c1]
  rw [TL hl,hl]
  unfold b8 at c1 h h2
  rw [Wv (by omega) (by omega) r1] at hd
  unfold cont scalar
  simp only [b8,acc]
  constructor
  ·rintro ⟨a,b,c,d⟩
   rw [if_pos (by omega)] at hd
   rw [rr _ _ hd (by decide)]
   exact Prod.ext (by simp only; omega) rfl
  ·intro hn
   rw [if_neg (by omega)] at hd
   exact gN hd
 by_cases c2:b8 s 0 < 240
 ·have hl:lead s = (3,2048,b8 s 0 - 224):=by unfold lead; rw [if_neg c1,if_pos c2]
  rw [TM hl,hl]
  unfold b8 at c1 c2 h h2
  rw [Ww (by omega) (by omega) r1 r2] at hd
  unfold cont scalar
  simp only [b8,acc]
  constructor
  ·rintro ⟨a,b,c,d⟩
   rw [if_pos (by omega)] at hd
   rw [rr _ _ hd (by decide)]
   exact Prod.ext (by simp only; omega) rfl
  ·intro hn
   rw [if_neg (by omega)] at hd
   exact gN hd
 ·have hl:lead s = (4,65536,b8 s 0 - 240):=by unfold lead; rw [if_neg c1,if_neg c2]
  rw [TN hl,hl]
  unfold b8 at c1 c2 h h2
  rw [Wx (by omega) (by omega) r1 r2 r3] at hd
  unfold cont scalar
  simp only [b8,acc]
  constructor
  ·rintro ⟨a,b,c,d⟩
   rw [if_pos (by omega)] at hd
   rw [rr _ _ hd (by decide)]
   exact Prod.ext (by simp only; omega) rfl
  ·intro hn
   rw [if_neg (by omega)] at hd
   exact gN hd
theorem Fu {α:Type} (l:List α) (i j:Nat) (d:α):(l.drop i).getD j d = l.getD (i + j) d:=by simp [List.getD_eq_getElem?_getD]
theorem Ca (s:aH) (i:Nat):aP (s.drop i) 0 = aP s i:=by
 unfold aP
 simp only [List.length_drop,Fu,Nat.add_zero,Nat.zero_add,Nat.sub_zero]
theorem j7 (s:aH) (i:Nat):1<=(aP s i).2:=by
 unfold aP Lib.decodeN
 (repeat' split)<;>simp
theorem lj {s:aH} {i:Nat} (h:i < s.length):i + (aP s i).2<=s.length:=by
 have:(aP s i).2<=s.length - i:=by
  unfold aP Lib.decodeN
  (repeat' split)<;>simp only<;>omega
 omega
theorem Mh {s:aH} {a:Nat} (h:a < s.length):s.drop a≠[]:=by
 intro e
 have:=congrArg List.length e
 rw [List.length_drop] at this
 simp at this
 omega
def zm (s:aH):Nat->Nat->Int
 | 0,_=>-1
 | f + 1,i=>if i < s.length then (if (aP s i).1 = 65533/\(aP s i).2 = 1 then (i:Int) else zm s f (i + (aP s i).2)) else -1
theorem wa (s:aH):∀ (f g i:Nat),s.length<=f + i->s.length<=g + i->zm s f i = zm s g i:=by
 intro f
 induction f with
 | zero =>
  intro g i hf hg
  cases g with
  | zero=>rfl
  | succ g=>simp only [zm]; rw [if_neg (by omega)]
 | succ f ih =>
  intro g i hf hg
  cases g with
  | zero=>simp only [zm]; rw [if_neg (by omega)]
  | succ g =>
   have:=j7 s i
   simp only [zm]
   rw [ih g _ (by omega) (by omega)]
def gm (s:aH) (i:Nat):Int:=zm s s.length i
def bad (s:aH):Int:=gm s 0
theorem sU {s:aH} {i:Nat} (h:i < s.length):gm s i = if (aP s i).1 = 65533/\(aP s i).2 = 1 then (i:Int) else gm s (i + (aP s i).2):=by
 have hp:=j7 s i
 unfold gm
 rw [wa s s.length (s.length + 1) i (by omega) (by omega),zm,if_pos h]
theorem Dq {s:aH} {i:Nat} (h:s.length<=i):gm s i = -1:=by
 unfold gm
 rw [wa s s.length 0 i (by omega) (by omega)]
 rfl
theorem rF (s:aH):∀ (f g i:Nat),s.length<=f + i->s.length<=g + i->fY s f i = fY s g i:=by
 intro f
 induction f with
 | zero =>
  intro g i hf hg
  cases g with
  | zero=>rfl
  | succ g=>simp only [fY]; rw [if_neg (by omega)]
 | succ f ih =>
  intro g i hf hg
  cases g with
  | zero=>simp only [fY]; rw [if_neg (by omega)]
  | succ g =>
   have:=j7 s i
   simp only [fY]
   rw [ih g _ (by omega) (by omega)]
def runesFrom (s:aH) (i:Nat):List Int:=fY s s.length i
theorem CS {s:aH} {i:Nat} (h:i < s.length):runesFrom s i = ((aP s i).1:Int)::runesFrom s (i + (aP s i).2):=by
 have hp:=j7 s i
 unfold runesFrom
 rw [rF s s.length (s.length + 1) i (by omega) (by omega),fY,if_pos h]
theorem F8 {s:aH} {i:Nat} (h:s.length<=i):runesFrom s i = []:=by
 unfold runesFrom
 rw [rF s s.length 0 i (by omega) (by omega)]
 rfl
theorem xQ {s:aH} {i:Nat} (h:i < s.length):code (s.drop i) = if (aP s i).1 = 65533/\(aP s i).2 = 1 then (-1,1) else (((aP s i).1:Int),(aP s i).2):=by
 unfold code
 rw [if_neg (Mh h),Ca]
end Go.Ut
end
section
namespace Go.Ck
open Go.SX Go.Vl Go.Ut
def iV (f:Int):Prop:=(f / 4503599627370496) % 2048 = 2047/\f % 4503599627370496≠0/\f≠9221120237041090561
def b9 (v:aT):Prop :=
 (v.kind < 0\/6 < v.kind)\/(v.kind≠1/\v.kind≠2/\v.n≠0)\/(v.kind = 1/\v.n≠0/\v.n≠1)\/(v.kind≠3/\v.f≠0)\/iV v.f\/(v.kind≠4/\v.s≠[])\/(v.kind≠5/\0 < v.l.length)\/(v.kind≠6/\0 < v.e.length)
instance (f:Int):Decidable (iV f):=by unfold iV; infer_instance
instance (v:aT):Decidable (b9 v):=by unfold b9; infer_instance
def lC (v:aT) (aM:Int):Int :=
 if 20<=aM then 5 else if b9 v then 10 else if 4000 < v.s.length\/200 < v.l.length\/200 < v.e.length then 2 else if 0<=bad v.s then 3 else 0
def dG (p:Option aH) (k:aH):Int :=
 if 100 < k.length then 2 else if 0<=bad k then 3 else match p with
  | some q=>if Op.bytesLess q k = true then 0 else 14
  | none=>0
def mg:Option aH->List (aH × aT)->Int
 | _,[]=>0
 | p,x::r=>iO (dG p x.1) (mg (some x.1) r)
def qK (v:aT) (aM:Int):Int:=iO (lC v aM) (mg none v.e)
def n0 (v:aT):Int:=if b9 v then 10 else if 4000 < v.s.length\/200 < v.l.length\/200 < v.e.length then 2 else if 0<=bad v.s then 3 else mg none v.e
theorem m8 {v:aT} (h:b9 v):10 = n0 v:=by rw [n0,if_pos h]
theorem Ce {v:aT} (h:¬ b9 v) (h2:4000 < v.s.length\/200 < v.l.length\/200 < v.e.length):2 = n0 v:=by rw [n0,if_neg h,if_pos h2]
theorem Fk {v:aT} (h:¬ b9 v) (h2:¬ (4000 < v.s.length\/200 < v.l.length\/200 < v.e.length)) (h3:0<=bad v.s):3 = n0 v:=by rw [n0,if_neg h,if_neg h2,if_pos h3]
theorem Hx {v:aT} (h:¬ b9 v) (h2:¬ (4000 < v.s.length\/200 < v.l.length\/200 < v.e.length)) (h3:¬ 0<=bad v.s):n0 v = mg none v.e:=by rw [n0,if_neg h,if_neg h2,if_neg h3]
theorem AX (v:aT) (a:Int):qK v a = if 20<=a then 5 else n0 v:=by
 unfold qK lC n0
 by_cases h:20<=a
 ·rw [if_pos h,if_pos h]; rfl
 ·rw [if_neg h,if_neg h]
  by_cases h1:b9 v
  ·rw [if_pos h1,if_pos h1]; rfl
  ·rw [if_neg h1,if_neg h1]
   by_cases h2:4000 < v.s.length\/200 < v.l.length\/200 < v.e.length
   ·rw [if_pos h2,if_pos h2]; rfl
   ·rw [if_neg h2,if_neg h2]
    by_cases h3:0<=bad v.s
    ·rw [if_pos h3,if_pos h3]; rfl
    ·rw [if_neg h3,if_neg h3]; rfl
def fN (e:List (aH × aT)) (i:Nat):Option aH:=if 0 < i then some (e.getD (i - 1) ([],default)).1 else none
theorem wE {e:List (aH × aT)} {i:Nat} (h:i < e.length):mg (fN e i) (e.drop i) = iO (dG (fN e i) e[i].1) (mg (fN e (i + 1)) (e.drop (i + 1))):=by
 rw [List.drop_eq_getElem_cons h,mg]
 have:fN e (i + 1) = some e[i].1:=by
  unfold fN
  rw [if_pos (by omega),Nat.add_sub_cancel,List.getD_eq_getElem?_getD,List.getElem?_eq_getElem h]
  rfl
 rw [this]
theorem jo {e:List (aH × aT)} {i:Nat} (h:i < e.length) (h2:dG (fN e i) e[i].1≠0):mg (fN e i) (e.drop i) = dG (fN e i) e[i].1:=by
 rw [wE h,bE h2]
theorem se {e:List (aH × aT)} {i:Nat} (h:i < e.length) (h2:dG (fN e i) e[i].1 = 0):mg (fN e i) (e.drop i) = mg (fN e (i + 1)) (e.drop (i + 1)):=by
 rw [wE h,h2,aL]
theorem zG (p:Option aH) {e:List (aH × aT)} {i:Nat} (h:e.length<=i):mg p (e.drop i) = 0:=by
 rw [List.drop_eq_nil_of_le h,mg]
def mv (e:List (aH × aT)) (i:Nat):aH:=if 0 < i then (e.getD (i - 1) ([],default)).1 else []
theorem ue {e:List (aH × aT)} {i:Nat} (h:i < e.length):mv e (i + 1) = e[i].1:=by
 unfold mv
 rw [if_pos (by omega),Nat.add_sub_cancel,List.getD_eq_getElem?_getD,List.getElem?_eq_getElem h]
 rfl
theorem fW {p:Option aH} {k:aH} (h:100 < k.length):dG p k = 2:=by unfold dG; rw [if_pos h]
theorem hY {p:Option aH} {k:aH} (h:¬ 100 < k.length) (h2:0<=bad k):dG p k = 3:=by unfold dG; rw [if_neg h,if_pos h2]
theorem ua {e:List (aH × aT)} {i:Nat} {k:aH} (h:¬ 100 < k.length) (h2:¬ 0<=bad k) (h0:0 < i) (h3:Op.bytesLess (mv e i) k = false):dG (fN e i) k = 14:=by
 unfold dG fN; rw [if_neg h,if_neg h2,if_pos h0]
 rw [mv,if_pos h0] at h3
 simp only [h3]
 rfl
theorem sw {e:List (aH × aT)} {i:Nat} {k:aH} (h:¬ 100 < k.length) (h2:¬ 0<=bad k) (h3:0 < i->Op.bytesLess (mv e i) k = true):dG (fN e i) k = 0:=by
 unfold dG fN; rw [if_neg h,if_neg h2]
 by_cases h0:0 < i
 ·have h3:=h3 h0
  rw [mv,if_pos h0] at h3
  rw [if_pos h0]
  simp only [h3]
  rfl
 ·rw [if_neg h0]
def partsOf (v:aT):List aT:=v.l++v.e.map (·.2)
mutual
def dE:aT->Int->Int->Int × Int
 | ⟨k,n,f,s,l,e⟩,aM,m =>
  if 2000 < m + 1 then (2,m + 1) else if qK ⟨k,n,f,s,l,e⟩ aM≠0 then (qK ⟨k,n,f,s,l,e⟩ aM,m + 1) else
   match fb l (aM + 1) (m + 1) with
   | (r,m')=>if r≠0 then (r,m') else s6 e (aM + 1) m'
def fb:List aT->Int->Int->Int × Int
 | [],_,m=>(0,m)
 | x::xs,aM,m=>match dE x aM m with
  | (r,m')=>if r≠0 then (r,m') else fb xs aM m'
def s6:List (aH × aT)->Int->Int->Int × Int
 | [],_,m=>(0,m)
 | x::xs,aM,m=>match zt x aM m with
  | (r,m')=>if r≠0 then (r,m') else s6 xs aM m'
def zt:aH × aT->Int->Int->Int × Int
 | (_,x),aM,m=>dE x aM m
end
theorem Dv:∀ (e:List (aH × aT)) (a m:Int),s6 e a m = fb (e.map (·.2)) a m
 | [],a,m=>by rw [s6,List.map_nil,fb]
 | (k,x)::r,a,m=>by
  rw [s6,zt,List.map_cons,fb]
  cases dE x a m
  simp only [Dv r]
theorem jZ : ∀ (l k : List aT) (a m : Int), fb (l ++ k) a m = match fb l a m with
  | (r,m')=>if r≠0 then (r,m') else fb k a m'
 | [],k,a,m=>by simp [fb]
 | x::r,k,a,m=>by
  rw [List.cons_append,fb,fb]
  cases h:dE x a m with
  | mk e m1 =>
   simp only [jZ r k]
   by_cases c:e≠0
   ·simp [c]
   ·simp [c]
theorem xP (v:aT) (a m:Int):dE v a m = if 2000 < m + 1 then (2,m + 1) else if qK v a≠0 then (qK v a,m + 1) else fb (partsOf v) (a + 1) (m + 1):=by
 obtain ⟨k,n,f,s,l,e⟩:=v
 rw [dE,partsOf,jZ]
 simp only [Dv]
theorem Fa {l:List aT} {a m m':Int} (h:fb l a m = (0,m')) (x:aT):fb (l++[x]) a m = dE x a m':=by
 rw [jZ,h]
 simp only [ne_eq,not_true_eq_false,if_false,fb]
 cases dE x a m' with
 | mk e m2=>by_cases c:e = 0<;>simp [c]
theorem Fb {l:List aT} {a m m' e:Int} {x:aT} (h:fb l a m = (0,m')) (he:(dE x a m').1 = e) (h0:e≠0) (r:List aT):fb (l++x::r) a m = dE x a m':=by
 rw [jZ,h]
 simp only [ne_eq,not_true_eq_false,if_false,fb]
 cases hx:dE x a m' with
 | mk e' m2 =>
  rw [hx] at he
  simp only at he
  subst he
  simp [h0]
/-! wQ the count runs -/
mutual
theorem Dx:∀ (v:aT) (a m:Int),0<=m->m<=2000->m<=(dE v a m).2/\(dE v a m).2<=2001/\((dE v a m).1 = 0->(dE v a m).2<=2000)
 | ⟨k,n,f,s,l,e⟩,a,m,h0,h=>by
  rw [dE]
  by_cases c:2000 < m + 1
  ·rw [if_pos c]
   exact ⟨by simp only; omega,by simp only; omega,fun h=>by simp at h⟩
  ·rw [if_neg c]
   by_cases d:qK ⟨k,n,f,s,l,e⟩ a≠0
   ·rw [if_pos d]
    exact ⟨by simp only; omega,by simp only; omega,fun h=>absurd h d⟩
   ·rw [if_neg d]
    have h1:=xO l (a + 1) (m + 1) (by omega) (by omega)
    cases hx:fb l (a + 1) (m + 1) with
    | mk r m' =>
     rw [hx] at h1
     simp only at h1 ⊢
     by_cases g:r≠0
     ·rw [if_pos g]; exact ⟨by simp only; omega,by simp only; omega,fun h=>absurd h g⟩
     ·rw [if_neg g]
      have h2:=Dw e (a + 1) m' (by omega) (h1.2.2 (by simpa using g))
      exact ⟨by omega,h2.2.1,h2.2.2⟩
theorem xO:∀ (l:List aT) (a m:Int),0<=m->m<=2000->m<=(fb l a m).2/\(fb l a m).2<=2001/\((fb l a m).1 = 0->(fb l a m).2<=2000)
 | [],a,m,h0,h=>by rw [fb]; exact ⟨Int.le_refl _,by simp only; omega,fun _=>h⟩
 | x::xs,a,m,h0,h=>by
  rw [fb]
  have h1:=Dx x a m h0 h
  cases hx:dE x a m with
  | mk r m' =>
   rw [hx] at h1
   simp only at h1 ⊢
   by_cases g:r≠0
   ·rw [if_pos g]; exact ⟨h1.1,h1.2.1,fun h=>absurd h g⟩
   ·rw [if_neg g]
    have h2:=xO xs a m' (by omega) (h1.2.2 (by simpa using g))
    exact ⟨by omega,h2.2.1,h2.2.2⟩
theorem Dw:∀ (l:List (aH × aT)) (a m:Int),0<=m->m<=2000->m<=(s6 l a m).2/\(s6 l a m).2<=2001/\((s6 l a m).1 = 0->(s6 l a m).2<=2000)
 | [],a,m,h0,h=>by rw [s6]; exact ⟨Int.le_refl _,by simp only; omega,fun _=>h⟩
 | x::xs,a,m,h0,h=>by
  rw [s6]
  have h1:=Me x a m h0 h
  cases hx:zt x a m with
  | mk r m' =>
   rw [hx] at h1
   simp only at h1 ⊢
   by_cases g:r≠0
   ·rw [if_pos g]; exact ⟨h1.1,h1.2.1,fun h=>absurd h g⟩
   ·rw [if_neg g]
    have h2:=Dw xs a m' (by omega) (h1.2.2 (by simpa using g))
    exact ⟨by omega,h2.2.1,h2.2.2⟩
theorem Me:∀ (x:aH × aT) (a m:Int),0<=m->m<=2000->m<=(zt x a m).2/\(zt x a m).2<=2001/\((zt x a m).1 = 0->(zt x a m).2<=2000)
 | (_,x),a,m,h0,h=>by rw [zt]; exact Dx x a m h0 h
end
def oZ:List dk->Int->Int
 | [],_=>0
 | x::r,m=>match dE x.v x.aM m with
  | (e,m')=>if e≠0 then e else oZ r m'
theorem zu (l : List aT) (a : Int) (r : List dk) : ∀ m, oZ (l.map (fun v => (⟨v, a⟩ : dk)) ++ r) m = match fb l a m with
  | (e,m')=>if e≠0 then e else oZ r m':=by
 induction l with
 | nil=>intro m; simp [fb]
 | cons x t ih =>
  intro m
  rw [List.map_cons,List.cons_append,oZ,fb]
  cases dE x a m with
  | mk e m' =>
   simp only
   by_cases c:e≠0
   ·simp [c]
   ·rw [if_neg c,if_neg c,ih]
theorem Fc (x:dk) (r:List dk) (m:Int):oZ (x::r) m = if 2000 < m + 1 then 2 else if qK x.v x.aM≠0 then qK x.v x.aM else oZ ((partsOf x.v).map (fun v=>(⟨v,x.aM + 1⟩:dk))++r) (m + 1):=by
 rw [oZ,xP]
 by_cases c:2000 < m + 1
 ·simp [c]
 ·rw [if_neg c,if_neg c]
  by_cases d:qK x.v x.aM≠0
  ·rw [if_pos d,if_pos d]
   simp [d]
  ·rw [if_neg d,if_neg d,zu]
/-! wQ deep, and wQ many -/
mutual
def cu:aT->Int × Int
 | ⟨_,_,_,_,l,e⟩=>let p:=Ke l (0,1); let q:=Kd e p; (q.1 + 1,q.2)
def Ke:List aT->Int × Int->Int × Int
 | [],p=>p
 | x::xs,p=>Ke xs (let q:=cu x; (if p.1 < q.1 then q.1 else p.1,p.2 + q.2))
def Kd:List (aH × aT)->Int × Int->Int × Int
 | [],p=>p
 | x::xs,p=>Kd xs (let q:=Vu x; (if p.1 < q.1 then q.1 else p.1,p.2 + q.2))
def Vu:aH × aT->Int × Int
 | (_,x)=>cu x
end
def nU (p q:Int × Int):Int × Int:=(if p.1 < q.1 then q.1 else p.1,p.2 + q.2)
def fM (l:List aT) (p:Int × Int):Int × Int:=l.foldl (fun p x=>nU p (cu x)) p
theorem ED:∀ (l:List aT) (p:Int × Int),Ke l p = fM l p
 | [],p=>by rw [Ke]; rfl
 | x::r,p=>by rw [Ke,ED r]; rfl
theorem EC:∀ (l:List (aH × aT)) (p:Int × Int),Kd l p = fM (l.map (·.2)) p
 | [],p=>by rw [Kd]; rfl
 | (k,x)::r,p=>by rw [Kd,Vu,EC r]; rfl
theorem pQ (v:aT):cu v = ((fM (partsOf v) (0,1)).1 + 1,(fM (partsOf v) (0,1)).2):=by
 obtain ⟨k,n,f,s,l,e⟩:=v
 rw [cu]
 simp only [ED,EC,partsOf,fM,List.foldl_append]
theorem uO {v x:aT} (h:x ∈ partsOf v):SizeOf.sizeOf x < SizeOf.sizeOf v:=by
 rcases List.mem_append.1 h with h | h
 ·exact vA h
 ·obtain ⟨p,hp,rfl⟩:=List.mem_map.1 h
  exact vz hp
theorem sh:∀ (l:List aT) (p:Int × Int),(∀ x ∈ l,1<=(cu x).1/\(cu x).1<=(cu x).2)->0<=p.1->p.1 < p.2->p.1<=(fM l p).1/\(fM l p).1 < (fM l p).2/\p.2 + (l.length:Int)<=(fM l p).2
 | [],p,_,h0,h1=>⟨Int.le_refl _,h1,by simp [fM]⟩
 | x::r,p,h,h0,h1=>by
  have hx:=h x (.head _)
  have e:fM (x::r) p = fM r (nU p (cu x)):=rfl
  have h2:(nU p (cu x)).2 = p.2 + (cu x).2:=rfl
  have h3:p.1<=(nU p (cu x)).1/\(nU p (cu x)).1 < p.2 + (cu x).2:=by
   unfold nU
   simp only
   split<;>omega
  have:=sh r (nU p (cu x)) (fun y hy=>h y (.tail _ hy)) (by omega) (by omega)
  rw [e,List.length_cons]
  omega
theorem zS:∀ (l:List aT) (p:Int × Int),(∀ x ∈ l,1<=(cu x).1/\(cu x).1<=(cu x).2)->0<=p.1->p.1 < p.2->∀ x ∈ l,(cu x).2 < (fM l p).2
 | [],_,_,_,_=>fun x hx=>nomatch hx
 | y::r,p,h,h0,h1=>fun x hx=>by
  have hy:=h y (.head _)
  have e:fM (y::r) p = fM r (nU p (cu y)):=rfl
  have h2:(nU p (cu y)).2 = p.2 + (cu y).2:=rfl
  have h3:p.1<=(nU p (cu y)).1/\(nU p (cu y)).1 < p.2 + (cu y).2:=by
   unfold nU
   simp only
   split<;>omega
  rw [e]
  rcases List.mem_cons.1 hx with rfl | hx
  ·have:=sh r (nU p (cu x)) (fun z hz=>h z (.tail _ hz)) (by omega) (by omega)
   omega
  ·exact zS r _ (fun z hz=>h z (.tail _ hz)) (by omega) (by omega) x hx
theorem Rw:∀ (n:Nat) (v:aT),SizeOf.sizeOf v < n->1<=(cu v).1/\(cu v).1<=(cu v).2:=by
 intro n
 induction n with
 | zero=>intro v h; exact absurd h (Nat.not_lt_zero _)
 | succ n ih =>
  intro v h
  have hp:∀ x ∈ partsOf v,1<=(cu x).1/\(cu x).1<=(cu x).2:=fun x hx=>ih x (by have:=uO hx; omega)
  have:=sh (partsOf v) (0,1) hp (by decide) (by decide)
  rw [pQ]
  simp only at this ⊢
  omega
theorem nA (v:aT):1<=(cu v).1/\(cu v).1<=(cu v).2:=Rw _ v (Nat.lt_succ_self _)
theorem nz (v:aT):((partsOf v).length:Int) + 1<=(cu v).2/\∀ x ∈ partsOf v,(cu x).2 < (cu v).2:=by
 have h:=sh (partsOf v) (0,1) (fun x _=>nA x) (by decide) (by decide)
 have h2:=zS (partsOf v) (0,1) (fun x _=>nA x) (by decide) (by decide)
 rw [pQ]
 simp only at h ⊢
 exact ⟨by omega,h2⟩
theorem EE (v:aT):(v.l.length:Int) + (v.e.length:Int) + 1<=(cu v).2:=by
 have:=(nz v).1
 unfold partsOf at this
 rw [List.length_append,List.length_map] at this
 omega
def jQ:List dk->Int
 | []=>0
 | p::r=>(cu p.v).2 + jQ r
theorem rM (l k:List dk):jQ (l++k) = jQ l + jQ k:=by
 induction l with
 | nil=>simp [jQ]
 | cons p r ih=>rw [List.cons_append,jQ,jQ,ih]; omega
theorem Bw (l:List dk):(l.length:Int)<=jQ l:=by
 induction l with
 | nil=>simp [jQ]
 | cons p r ih =>
  have h1:=nA p.v
  rw [jQ,List.length_cons]
  omega
theorem tw:∀ (l:List aT) (p:Int × Int) (a:Int),(fM l p).2 = p.2 + jQ (l.map fun v=>(⟨v,a⟩:dk))
 | [],p,a=>by simp [fM,jQ]
 | x::r,p,a=>by
  have e:fM (x::r) p = fM r (nU p (cu x)):=rfl
  rw [e,tw r _ a,List.map_cons,jQ]
  exact Int.add_assoc _ _ _
def placesOf (x:dk):List dk:=(partsOf x.v).map fun v=>(⟨v,x.aM + 1⟩:dk)
theorem C4 (x:dk):jQ (placesOf x) = (cu x.v).2 - 1:=by
 have:=tw (partsOf x.v) (0,1) (x.aM + 1)
 rw [pQ]
 simp only at this ⊢
 rw [this,placesOf]
 omega
theorem oE (v:aT) (a:Int):(⟨⟨v.kind,v.n,v.f,v.s,v.l,v.e⟩,a⟩:dk) = ⟨v,a⟩:=by cases v; rfl
end Go.Ck
end
section
namespace Go.Ty
open Go Go.SX Go.Ck Go.Vl Go.Ut
def inside (t:ab):List ab:=t.t++t.f.map (·.t)
mutual
def bK:ab->Int->List bD
 | ⟨k,lo,hi,tx,t,f,n⟩,a=>⟨⟨k,lo,hi,tx,t,f,n⟩,a⟩::(Nc t (a + 1)++Nb f (a + 1))
def Nc:List ab->Int->List bD
 | [],_=>[]
 | x::r,a=>bK x a++Nc r a
def Nb:List (jw ab)->Int->List bD
 | [],_=>[]
 | x::r,a=>Vb x a++Nb r a
def Vb:jw ab->Int->List bD
 | ⟨_,_,_,t,_⟩,a=>bK t a
end
theorem Jj (l:List ab) (a:Int):Nc l a = l.flatMap fun x=>bK x a:=by
 induction l with
 | nil=>rfl
 | cons x r ih=>rw [Nc,ih]; rfl
theorem Ji (l:List (jw ab)) (a:Int):Nb l a = (l.map (·.t)).flatMap fun x=>bK x a:=by
 induction l with
 | nil=>rfl
 | cons x r ih=>cases x; rw [Nb,ih,Vb]; rfl
theorem dD (t:ab) (a:Int):bK t a = ⟨t,a⟩::(inside t).flatMap fun x=>bK x (a + 1):=by
 cases t
 rw [bK,Jj,Ji,<- List.flatMap_append]
 rfl
/-! names -/
def fy:Option aH->List aH->Int
 | _,[]=>0
 | p,x::r=>iO (dG p x) (fy (some x) r)
def dR (l:List aH) (i:Nat):Option aH:=if 0 < i then some (l.getD (i - 1) []) else none
theorem w7 {l:List aH} {i:Nat} (h:i < l.length):dR l (i + 1) = some l[i]:=by
 unfold dR
 rw [if_pos (by omega),Nat.add_sub_cancel,List.getD_eq_getElem?_getD,List.getElem?_eq_getElem h]
 rfl
theorem AR {l:List aH} {i:Nat} (h:i < l.length):fy (dR l i) (l.drop i) = iO (dG (dR l i) l[i]) (fy (dR l (i + 1)) (l.drop (i + 1))):=by
 rw [List.drop_eq_getElem_cons h,fy,w7 h]
theorem jM {l:List aH} {i:Nat} (h:i < l.length) (h2:dG (dR l i) l[i]≠0):fy (dR l i) (l.drop i) = dG (dR l i) l[i]:=by rw [AR h,bE h2]
theorem uw {l:List aH} {i:Nat} (h:i < l.length) (h2:dG (dR l i) l[i] = 0):fy (dR l i) (l.drop i) = fy (dR l (i + 1)) (l.drop (i + 1)):=by rw [AR h,h2,aL]
theorem yl {p:Option aH} {l:List aH} {i:Nat} (h:l.length<=i):fy p (l.drop i) = 0:=by rw [List.drop_eq_nil_of_le h,fy]
/-! texts -/
def C7 (p:Option aH) (x:aH):Int :=
 if 0<=bad x then 3 else match p with
  | some q=>if Op.bytesLess q x = true then 0 else 14
  | none=>0
def pT:Option aH->List aH->Int
 | _,[]=>0
 | p,x::r=>iO (C7 p x) (pT (some x) r)
def kx (l:List aH):Int:=if l.length = 0 then 4 else if 200 < l.length then 2 else pT none l
theorem BC {l:List aH} {i:Nat} (h:i < l.length):pT (dR l i) (l.drop i) = iO (C7 (dR l i) l[i]) (pT (dR l (i + 1)) (l.drop (i + 1))):=by
 rw [List.drop_eq_getElem_cons h,pT,w7 h]
theorem pU {l:List aH} {i:Nat} (h:i < l.length) (h2:C7 (dR l i) l[i]≠0):pT (dR l i) (l.drop i) = C7 (dR l i) l[i]:=by rw [BC h,bE h2]
theorem yQ {l:List aH} {i:Nat} (h:i < l.length) (h2:C7 (dR l i) l[i] = 0):pT (dR l i) (l.drop i) = pT (dR l (i + 1)) (l.drop (i + 1)):=by rw [BC h,h2,aL]
theorem EH {p:Option aH} {l:List aH} {i:Nat} (h:l.length<=i):pT p (l.drop i) = 0:=by rw [List.drop_eq_nil_of_le h,pT]
/-! fields -/
def zeroV:aT:=⟨0,0,0,[],[],[]⟩
def zR (p:Option aH) (f:gL):Int:=iO (dG p f.name) (iO (dE f.aD 0 0).1 (if f.du = false/\eg f.aD zeroV≠0 then 10 else 0))
def lW:Option aH->List gL->Int
 | _,[]=>0
 | p,x::r=>iO (zR p x) (lW (some x.name) r)
def iw (l:List gL):Int:=if 200 < l.length then 2 else lW none l
def iB (l:List gL) (i:Nat):Option aH:=if 0 < i then some (l.getD (i - 1) default).name else none
theorem Fp {l:List gL} {i:Nat} (h:i < l.length):iB l (i + 1) = some l[i].name:=by
 unfold iB
 rw [if_pos (by omega),Nat.add_sub_cancel,List.getD_eq_getElem?_getD,List.getElem?_eq_getElem h]
 rfl
theorem zN {l:List gL} {i:Nat} (h:i < l.length):lW (iB l i) (l.drop i) = iO (zR (iB l i) l[i]) (lW (iB l (i + 1)) (l.drop (i + 1))):=by
 rw [List.drop_eq_getElem_cons h,lW,Fp h]
theorem kI {l:List gL} {i:Nat} (h:i < l.length) (h2:zR (iB l i) l[i]≠0):lW (iB l i) (l.drop i) = zR (iB l i) l[i]:=by rw [zN h,bE h2]
theorem xY {l:List gL} {i:Nat} (h:i < l.length) (h2:zR (iB l i) l[i] = 0):lW (iB l i) (l.drop i) = lW (iB l (i + 1)) (l.drop (i + 1)):=by rw [zN h,h2,aL]
theorem DF {p:Option aH} {l:List gL} {i:Nat} (h:l.length<=i):lW p (l.drop i) = 0:=by rw [List.drop_eq_nil_of_le h,lW]
/-! one type -/
def dN (t:ab):Prop :=
 (1<=t.kind/\t.kind<=12)/\((t.kind = 4\/t.kind = 6\/t.kind = 8)\/(t.lo = 0/\t.hi = 0))/\(t.kind = 7\/t.texts = [])/\((t.kind = 8\/t.kind = 9)->t.t.length = 1)/\((t.kind = 8\/t.kind = 9)\/t.kind = 11\/t.t = []) /\
  (t.kind = 10\/t.f = [])/\(t.kind = 12\/t.name = [])
instance (t:ab):Decidable (dN t):=by unfold dN; infer_instance
def cq (l:List az) (n:aH):Int:=if l.findIdx (fun d=>d.name == n) < l.length then (l.findIdx (fun d=>d.name == n):Nat) else -1
def eP (l:List az) (t:ab):Int :=
 if ¬ dN t then 10 else if t.hi < t.lo\/(t.kind≠4/\t.lo < 0) then 7 else if t.kind = 7 then kx t.texts else if t.kind = 10 then iw t.f else if t.kind = 12 then (if cq l t.name < 0 then 8 else 0) else 0
def eB (l:List az) (p:bD) (m:Int):Int:=if 200 < m + 1 then 2 else if 20<=p.bT then 5 else eP l p.t
def scan (l:List az):List bD->Int->Int × Int
 | [],m=>(0,m)
 | p::r,m=>if eB l p m≠0 then (eB l p m,m + 1) else scan l r (m + 1)
theorem rI (l:List az) (a b:List bD):∀ m,scan l (a++b) m = if (scan l a m).1≠0 then scan l a m else scan l b (scan l a m).2:=by
 induction a with
 | nil=>intro m; exact (if_neg (fun h=>h rfl)).symm
 | cons p r ih =>
  intro m
  rw [List.cons_append,scan,scan]
  by_cases h:eB l p m≠0
  ·rw [if_pos h,if_pos h,if_pos h]
  ·rw [if_neg h,if_neg h,ih]
theorem yJ (l:List az) (a:List bD):∀ m,0<=m->m<=200->0<=(scan l a m).2/\(scan l a m).2<=201/\((scan l a m).1 = 0->(scan l a m).2<=200):=by
 induction a with
 | nil=>intro m h0 h; exact ⟨h0,by show m<=201; omega,fun _=>h⟩
 | cons p r ih =>
  intro m h0 h
  rw [scan]
  by_cases h1:eB l p m≠0
  ·rw [if_pos h1]
   exact ⟨by show 0<=m + 1; omega,by show m + 1<=201; omega,fun h9=>absurd h9 h1⟩
  ·rw [if_neg h1]
   refine ih (m + 1) (by omega) ?_
   refine Int.not_lt.1 fun h2=>h1 ?_
   unfold eB
   rw [if_pos h2]
   decide
end Go.Ty
end
section
namespace Go.Ty
open Go Go.SX Go.Ck Go.Vl Go.Ut
abbrev Met:=List (aH × Bool)
def met (es:Met) (n:aH):Bool:=(cf (κ:=.str) (τ:=.bool) es n).getD false
def meet (es:Met) (n:aH):Met:=gS (κ:=.str) (τ:=.bool) es n true
theorem gA (a b:aH):MW .str a b = decide (a = b):=rfl
theorem pB (es:Met) (n k:aH):met (meet es n) k = (decide (k = n) || met es k):=by
 induction es with
 | nil =>
  show (cf (κ:=.str) (τ:=.bool) [(n,true)] k).getD false = _
  rw [cf,gA]
  by_cases h:k = n
  ·rw [decide_eq_true h]; rfl
  ·rw [decide_eq_false h]; rfl
 | cons p r ih =>
  obtain ⟨a,u⟩:=p
  unfold meet met at *
  rw [gS,gA]
  by_cases h:n = a
  ·rw [decide_eq_true h]
   simp only [cond_true]
   rw [cf,cf,gA,gA]
   by_cases h1:k = n
   ·rw [decide_eq_true h1]; rfl
   ·rw [decide_eq_false h1,decide_eq_false (fun h2=>h1 (h2.trans h.symm))]; rfl
  ·rw [decide_eq_false h]
   simp only [cond_false]
   rw [cf,cf,gA]
   by_cases h1:k = a
   ·rw [decide_eq_true h1,decide_eq_false (fun h2=>h (h2.symm.trans h1))]
    simp
   ·rw [decide_eq_false h1]
    simp only [cond_false]
    exact ih
theorem IU (es:Met) (n:aH):(meet es n).length<=es.length + 1:=w5 (κ:=.str) (τ:=.bool) es n true
def rest (w:az->Nat):List az->Met->Nat
 | [],_=>0
 | d::r,es=>(if met es d.name = true then 0 else w d) + rest w r es
theorem yC {w:az->Nat} {l:List az} {es fs:Met} (h:∀ n,met es n = true->met fs n = true):rest w l fs<=rest w l es:=by
 induction l with
 | nil=>exact Nat.le_refl _
 | cons d r ih =>
  unfold rest
  by_cases h1:met es d.name = true
  ·rw [if_pos h1,if_pos (h _ h1)]; omega
  ·rw [if_neg h1]
   split<;>omega
theorem uq {es:Met} {n k:aH} (h:met es k = true):met (meet es n) k = true:=by rw [pB,h,Bool.or_true]
theorem qN {w:az->Nat} {l:List az} {es:Met} {d:az} (hd:d ∈ l) (hn:met es d.name = false):rest w l (meet es d.name) + w d<=rest w l es:=by
 induction l with
 | nil=>cases hd
 | cons e r ih =>
  unfold rest
  rcases List.mem_cons.1 hd with rfl | hd
  ·have e1:met (meet es d.name) d.name = true:=by rw [pB,decide_eq_true rfl]; rfl
   have e2:¬ met es d.name = true:=by rw [hn]; decide
   rw [if_pos e1,if_neg e2]
   have:=yC (w:=w) (l:=r) (es:=es) (fs:=meet es d.name) fun n h=>uq h
   omega
  ·have:=ih hd
   by_cases h1:met es e.name = true
   ·rw [if_pos h1,if_pos (uq h1)]; omega
   ·rw [if_neg h1]
    split<;>omega
def br (f:ab->Met->List ab × Met):List ab->Met->List ab × Met
 | [],es=>([],es)
 | x::r,es=>((f x es).1++(br f r (f x es).2).1,(br f r (f x es).2).2)
def bo (l:List az) (n:aH):ab:=(l.getD (cq l n).toNat (aD .dfn)).t
def aI (l:List az):Nat->ab->Met->List ab × Met
 | 0,_,es=>([],es)
 | n + 1,t,es =>
  if t.kind = 12 then (if met es t.name = true then ([],es) else aI l n (bo l t.name) (meet es t.name))
  else if t.kind = 11 then br (aI l n) t.t es else ([t],es)
noncomputable def dB (l:List az) (t:ab) (es:Met):Nat:=SizeOf.sizeOf t + rest (fun d=>SizeOf.sizeOf d.t + 1) l es
def iQ (l:List az) (es:Met):Nat:=rest (fun _=>1) l es
theorem wz {f:ab->Met->List ab × Met} (h:∀ x es n,met es n = true->met (f x es).2 n = true):∀ (r:List ab) (es:Met) (n:aH),met es n = true->met (br f r es).2 n = true
 | [],_,_,h1=>h1
 | x::r,es,n,h1=>wz h r (f x es).2 n (h x es n h1)
theorem kG (l:List az):∀ (k:Nat) (t:ab) (es:Met) (n:aH),met es n = true->met (aI l k t es).2 n = true:=by
 intro k
 induction k with
 | zero=>intro t es n h; exact h
 | succ k ih =>
  intro t es n h
  unfold aI
  split
  ·split
   ·exact h
   ·exact ih _ _ _ (uq h)
  ·split
   ·exact wz ih _ _ _ h
   ·exact h
/-! wQ many types -/
theorem bg {t x:ab} (h:x ∈ inside t):SizeOf.sizeOf x < SizeOf.sizeOf t:=by
 unfold inside at h
 obtain ⟨k,lo,hi,tx,tt,ff,n⟩:=t
 rcases List.mem_append.1 h with h | h
 ·have h1:=List.sizeOf_lt_of_mem h
  simp only at h1
  simp only [ab.mk.sizeOf_spec]
  omega
 ·obtain ⟨f,hf,rfl⟩:=List.mem_map.1 h
  have h1:=List.sizeOf_lt_of_mem hf
  obtain ⟨a,b,c,d,e⟩:=f
  simp only [jw.mk.sizeOf_spec] at h1
  simp only [ab.mk.sizeOf_spec]
  omega
theorem Jk:∀ (k:Nat) (t:ab),SizeOf.sizeOf t < k->∀ a b:Int,(bK t a).length = (bK t b).length:=by
 intro k
 induction k with
 | zero=>intro t h; exact absurd h (Nat.not_lt_zero _)
 | succ k ih =>
  intro t h a b
  rw [dD t a,dD t b,List.length_cons,List.length_cons,List.length_flatMap,List.length_flatMap]
  refine congrArg (fun l:List Nat=>l.sum + 1) (List.map_congr_left fun x hx=>?_)
  exact ih x (by have:=bg hx; omega) (a + 1) (b + 1)
def gK (t:ab):Nat:=(bK t 0).length
def cP (l:List ab):Nat:=(l.map gK).sum
theorem dt (x:ab) (l:List ab):cP (x::l) = gK x + cP l:=by unfold cP; rw [List.map_cons,List.sum_cons]
theorem vu (t:ab):gK t = cP (inside t) + 1:=by
 unfold gK cP
 rw [dD t 0,List.length_cons,List.length_flatMap]
 refine congrArg (fun l:List Nat=>l.sum + 1) (List.map_congr_left fun x _=>?_)
 exact Jk _ x (Nat.lt_succ_self _) _ _
theorem nF (t:ab):cP t.t + 1<=gK t:=by
 rw [vu]
 unfold inside cP
 rw [List.map_append,List.sum_append]
 omega
inductive CT (l:List az):ab->Prop
 | mk (t:ab):(1<=t.kind/\t.kind<=12)->(t.kind = 12->0<=cq l t.name)->(∀ x ∈ inside t,CT l x)->CT l t
theorem CT.part {l:List az} {t:ab} (h:CT l t):∀ x ∈ t.t,CT l x:=by
 cases h with
 | mk _ _ _ h1=>exact fun x hx=>h1 x (List.mem_append_left _ hx)
theorem me {l:List az} {n:aH} (h:0<=cq l n):∃ h1:(cq l n).toNat < l.length,l[(cq l n).toNat].name = n:=by
 unfold cq at h ⊢
 by_cases c:l.findIdx (fun d=>d.name == n) < l.length
 ·have e:(if l.findIdx (fun d=>d.name == n) < l.length then ((l.findIdx (fun d=>d.name == n):Nat):Int) else -1).toNat = l.findIdx (fun d=>d.name == n):=by rw [if_pos c]; rfl
  have h2:=List.findIdx_getElem (xs:=l) (p:=fun d=>d.name == n) (w:=c)
  simp only [e]
  exact ⟨c,eq_of_beq h2⟩
 ·rw [if_neg c] at h
  exact absurd h (by decide)
theorem dy {l:List az} {n:aH} (h:0<=cq l n):∃ d ∈ l,d.name = n/\d.t = bo l n:=by
 obtain ⟨h1,h2⟩:=me h
 refine ⟨_,List.getElem_mem h1,h2,?_⟩
 unfold bo
 rw [List.getD_eq_getElem?_getD,List.getElem?_eq_getElem h1]
 rfl
theorem jK {l:List az} {t:ab} {es:Met} (h:0<=cq l t.name) (hm:met es t.name = false):dB l (bo l t.name) (meet es t.name) < dB l t es:=by
 obtain ⟨d,hd,hn,ht⟩:=dy h
 have:=qN (w:=fun d=>SizeOf.sizeOf d.t + 1) hd (hn ▸ hm)
 rw [hn] at this
 simp only [ht] at this
 unfold dB
 have:0 < SizeOf.sizeOf t:=by cases t; simp only [ab.mk.sizeOf_spec]; omega
 omega
theorem jr {l:List az} {t x:ab} {es fs:Met} (h:x ∈ t.t) (hm:∀ n,met es n = true->met fs n = true):dB l x fs < dB l t es:=by
 have h1:=yC (w:=fun d=>SizeOf.sizeOf d.t + 1) (l:=l) hm
 have h2:SizeOf.sizeOf x < SizeOf.sizeOf t:=by
  obtain ⟨k,lo,hi,tx,tt,ff,n⟩:=t
  have h3:=List.sizeOf_lt_of_mem h
  simp only at h3
  simp only [ab.mk.sizeOf_spec]
  omega
 unfold dB
 omega
theorem wy {l:List az} {f:ab->Met->List ab × Met}:∀ (r:List ab) (es:Met),(∀ x ∈ r,∀ es:Met,(f x es).2.length + iQ l (f x es).2<=es.length + iQ l es)->(br f r es).2.length + iQ l (br f r es).2<=es.length + iQ l es
 | [],_,_=>Nat.le_refl _
 | x::r,es,h=>Nat.le_trans (wy r (f x es).2 fun y hy=>h y (List.mem_cons_of_mem _ hy)) (h x (List.mem_cons_self ..) es)
theorem CT.bo {l:List az} (hl:∀ d ∈ l,CT l d.t) {n:aH} (h:0<=cq l n):CT l (Ty.bo l n):=by
 obtain ⟨d,hd,_,ht⟩:=dy h
 rw [<- ht]
 exact hl d hd
theorem o4 {l:List az} {n:aH} {es:Met} (h:0<=cq l n) (hm:met es n = false):(meet es n).length + iQ l (meet es n)<=es.length + iQ l es:=by
 obtain ⟨d,hd,hn,ht⟩:=dy h
 have:=qN (w:=fun _=>1) hd (hn ▸ hm)
 rw [hn] at this
 have h2:=IU es n
 unfold iQ
 omega
theorem tf {l:List az} (hl:∀ d ∈ l,CT l d.t):∀ (k:Nat) (t:ab) (es:Met),CT l t->(aI l k t es).2.length + iQ l (aI l k t es).2<=es.length + iQ l es:=by
 intro k
 induction k with
 | zero=>intro t es _; exact Nat.le_refl _
 | succ k ih =>
  intro t es ht
  unfold aI
  split
  ·rename_i hk
   split
   ·exact Nat.le_refl _
   ·rename_i hm
    have h0:0<=cq l t.name:=by cases ht with | mk _ _ h _=>exact h hk
    exact Nat.le_trans (ih _ _ (CT.bo hl h0)) (o4 h0 (by simpa using hm))
  ·split
   ·exact wy _ _ fun x hx es=>ih x es (ht.part x hx)
   ·exact Nat.le_refl _
abbrev bY (l:List az) (es:Met):Nat:=rest (fun d=>gK d.t) l es
theorem qM {l:List az} {n:aH} {es:Met} (h:0<=cq l n) (hm:met es n = false):gK (Ty.bo l n) + bY l (meet es n)<=bY l es:=by
 obtain ⟨d,hd,hn,ht⟩:=dy h
 have:=qN (w:=fun d=>gK d.t) hd (hn ▸ hm)
 rw [hn] at this
 simp only [ht] at this
 unfold bY
 omega
theorem zB {l:List az} {f:ab->Met->List ab × Met}:∀ (r:List ab) (es:Met),(∀ x ∈ r,∀ es:Met,(f x es).1.length + bY l (f x es).2<=gK x + bY l es)->(br f r es).1.length + bY l (br f r es).2<=cP r + bY l es
 | [],es,_=>by unfold br; show 0 + bY l es<=cP [] + bY l es; omega
 | x::r,es,h=>by
  have h1:=zB (l:=l) (f:=f) r (f x es).2 fun y hy=>h y (List.mem_cons_of_mem _ hy)
  have h2:=h x (List.mem_cons_self ..) es
  rw [dt]
  unfold br
  rw [List.length_append]
  dsimp only
  omega
theorem xR {l:List az} (hl:∀ d ∈ l,CT l d.t):∀ (k:Nat) (t:ab) (es:Met),CT l t->(aI l k t es).1.length + bY l (aI l k t es).2<=gK t + bY l es:=by
 intro k
 induction k with
 | zero=>intro t es _; unfold aI; show 0 + bY l es<=gK t + bY l es; omega
 | succ k ih =>
  intro t es ht
  have hs:=nF t
  unfold aI
  split
  ·rename_i hk
   split
   ·show 0 + bY l es<=gK t + bY l es; omega
   ·rename_i hm
    have h0:0<=cq l t.name:=by cases ht with | mk _ _ h _=>exact h hk
    have h1:=ih _ (meet es t.name) (CT.bo hl h0)
    have h2:=qM h0 (es:=es) (by simpa using hm)
    omega
  ·split
   ·have:=zB (l:=l) t.t es fun x hx es=>ih x es (ht.part x hx)
    omega
   ·show 1 + bY l es<=gK t + bY l es; omega
def lx (t:ab):Prop:=1<=t.kind/\t.kind<=10
theorem tc {f:ab->Met->List ab × Met}:∀ (r:List ab) (es:Met),(∀ x ∈ r,∀ es,∀ y ∈ (f x es).1,lx y)->∀ y ∈ (br f r es).1,lx y
 | [],_,_,_,hy=>nomatch hy
 | x::r,es,h,y,hy=>by
  rcases List.mem_append.1 hy with hy | hy
  ·exact h x (List.mem_cons_self ..) es y hy
  ·exact tc r _ (fun z hz=>h z (List.mem_cons_of_mem _ hz)) y hy
theorem ql {l:List az} (hl:∀ d ∈ l,CT l d.t):∀ (k:Nat) (t:ab) (es:Met),CT l t->∀ y ∈ (aI l k t es).1,lx y:=by
 intro k
 induction k with
 | zero=>intro t es _ y hy; exact nomatch hy
 | succ k ih =>
  intro t es ht y hy
  unfold aI at hy
  split at hy
  ·rename_i hk
   split at hy
   ·exact nomatch hy
   ·have h0:0<=cq l t.name:=by cases ht with | mk _ _ h _=>exact h hk
    exact ih _ _ (CT.bo hl h0) y hy
  ·split at hy
   ·exact tc _ _ (fun x hx es=>ih x es (ht.part x hx)) y hy
   ·rename_i h1 h2
    obtain rfl:y = t:=by simpa using hy
    cases ht with
    | mk _ h _ _=>exact ⟨h.1,by omega⟩
end Go.Ty
end
section
namespace Go.Ty
open Go Go.SX Go.Ck Go.Vl Go.Ut
def P9 {α:Type} (f:α->α->Bool):List α->List α->Bool
 | [],[]=>true
 | x::r,y::s=>f x y && P9 f r s
 | _,_=>false
mutual
def PJ:ab->ab->Bool
 | ⟨k,lo,hi,tx,t,f,n⟩,b=>k == b.kind && (lo == b.lo && (hi == b.hi && (decide (n = b.name) && (P9 (fun x y=>decide (x = y)) tx b.texts && (J7 t b.t && J6 f b.f)))))
def J7:List ab->List ab->Bool
 | [],[]=>true
 | x::r,y::s=>PJ x y && J7 r s
 | _,_=>false
def J6:List (jw ab)->List (jw ab)->Bool
 | [],[]=>true
 | x::r,y::s=>Vp x y && J6 r s
 | _,_=>false
def Vp:jw ab->jw ab->Bool
 | ⟨n,o,h,t,d⟩,y=>decide (n = y.name) && (o == y.opt && (h == y.du && (eg d y.aD == 0 && PJ t y.t)))
end
end Go.Ty
end
section
namespace Go.Ty
theorem LG {n b:Nat} (h1:n<=1000000000) (h2:b<=100000):n * b<=140737488355328:=Nat.le_trans (Nat.mul_le_mul h1 h2) (by decide)
open Go Go.SX Go.Ck Go.Vl Go.Ut
/-! all types, from a list of places -/
def tD (l:List bD):List bD:=l.flatMap fun p=>bK p.t p.bT
theorem Cj (x:bD) (r:List bD):tD (x::r) = x::tD ((inside x.t).map (fun y=>(⟨y,x.bT + 1⟩:bD))++r):=by
 unfold tD
 rw [List.flatMap_cons,dD,List.flatMap_append,List.cons_append,List.flatMap_map]
theorem Gh (l:List az):∀ (ps:List bD) (m:Nat),m<=200->scan l (ps.take (201 - m)) (m:Int) = scan l ps (m:Int):=by
 intro ps
 induction ps with
 | nil=>intro m _; rw [List.take_nil]
 | cons p r ih =>
  intro m hm
  rw [show 201 - m = (200 - m) + 1 by omega,List.take_succ_cons,scan,scan]
  by_cases c:eB l p m≠0
  ·rw [if_pos c,if_pos c]
  ·rw [if_neg c,if_neg c]
   have h1:m + 1<=200:=by
    refine Nat.le_of_not_lt fun h=>c ?_
    unfold eB
    rw [if_pos (by omega)]
    decide
   have:=ih (m + 1) h1
   rw [show 201 - (m + 1) = 200 - m by omega] at this
   exact this
theorem HT {A all todo:List bD} (h:all++tD todo = A) (hl:all.length<=201) (he:todo = []\/all.length = 201):all = A.take 201:=by
 subst h
 rcases he with rfl | he
 ·show all = (all++[]).take 201
  rw [List.append_nil,List.take_of_length_le hl]
 ·rw [List.take_append_of_le_length (by omega),List.take_of_length_le hl]
/-! what a list of types comes to -/
theorem o5 (f:ab->Met->List ab × Met):∀ (a b:List ab) (es:Met),br f (a++b) es = ((br f a es).1++(br f b (br f a es).2).1,(br f b (br f a es).2).2)
 | [],_,_=>rfl
 | x::r,b,es=>by
  rw [List.cons_append,br,o5 f r b,br]
  simp only [List.append_assoc]
theorem ma {f g:ab->Met->List ab × Met} (hm:∀ x es n,met es n = true->met (f x es).2 n = true):∀ (r:List ab) (es:Met),(∀ x ∈ r,∀ fs:Met,(∀ n,met es n = true->met fs n = true)->g x fs = f x fs)->br g r es = br f r es
 | [],_,_=>rfl
 | x::r,es,h=>by
  rw [br,br,h x (List.mem_cons_self ..) es (fun _ h=>h),ma hm r _ fun y hy fs hf=>h y (List.mem_cons_of_mem _ hy) fs fun n hn=>hf n (hm x es n hn)]
theorem fq (l:List az) (k:Nat) (t:ab) (es:Met):aI l (k + 1) t es = if t.kind = 12 then (if met es t.name = true then ([],es) else aI l k (bo l t.name) (meet es t.name)) else if t.kind = 11 then br (aI l k) t.t es else ([t],es):=rfl
theorem wC {l:List az} (hl:∀ d ∈ l,CT l d.t):∀ (k:Nat) (t:ab) (es:Met),CT l t->dB l t es < k->aI l (k + 1) t es = aI l k t es:=by
 intro k
 induction k with
 | zero=>intro t es _ h; exact absurd h (Nat.not_lt_zero _)
 | succ k ih =>
  intro t es ht hk
  rw [fq l (k + 1) t es,fq l k t es]
  by_cases c1:t.kind = 12
  ·rw [if_pos c1,if_pos c1]
   by_cases c2:met es t.name = true
   ·rw [if_pos c2,if_pos c2]
   ·rw [if_neg c2,if_neg c2]
    have h0:0<=cq l t.name:=by cases ht with | mk _ _ h _=>exact h c1
    have:=jK h0 (es:=es) (by simpa using c2)
    exact ih _ _ (CT.bo hl h0) (by omega)
  ·rw [if_neg c1,if_neg c1]
   by_cases c3:t.kind = 11
   ·rw [if_pos c3,if_pos c3]
    refine ma (kG l k) _ _ fun x hx fs hf=>ih x fs (ht.part x hx) ?_
    have:=jr (l:=l) (es:=es) (fs:=fs) hx hf
    omega
   ·rw [if_neg c3,if_neg c3]
noncomputable def LH (r:List ab):Nat:=(r.map fun t=>SizeOf.sizeOf t).sum
theorem iL (x:ab) (r:List ab):LH (x::r) = SizeOf.sizeOf x + LH r:=by unfold LH; rw [List.map_cons,List.sum_cons]
theorem C5 (a b:List ab):LH (a++b) = LH a + LH b:=by unfold LH; rw [List.map_append,List.sum_append]
theorem Kq:∀ r:List ab,LH r < SizeOf.sizeOf r
 | []=>by show 0 < _; simp
 | x::r=>by
  have:=Kq r
  rw [iL,List.cons.sizeOf_spec]
  omega
theorem Kr (t:ab):LH t.t < SizeOf.sizeOf t:=by
 have:=Kq t.t
 obtain ⟨k,lo,hi,tx,tt,ff,n⟩:=t
 simp only [ab.mk.sizeOf_spec] at *
 omega
theorem Rz (t:ab):0 < SizeOf.sizeOf t:=by cases t; simp only [ab.mk.sizeOf_spec]; omega
noncomputable def pV (l:List az) (r:List ab) (es:Met):Nat:=LH r + rest (fun d=>SizeOf.sizeOf d.t + 1) l es
theorem M5 (l:List az) (t:ab) (es:Met):pV l [t] es = dB l t es:=by unfold pV dB; rw [iL]; show SizeOf.sizeOf t + 0 + _ = _; omega
section
variable {l:List az} (hl:∀ d ∈ l,CT l d.t)
theorem O4 {k:Nat} {x:ab} {r:List ab} {es:Met} (h1:¬ x.kind = 12) (h2:¬ x.kind = 11):br (aI l (k + 1)) (x::r) es = (x::(br (aI l (k + 1)) r es).1,(br (aI l (k + 1)) r es).2):=by
 have e:aI l (k + 1) x es = ([x],es):=by rw [fq,if_neg h1,if_neg h2]
 rw [br,e]
 rfl
theorem SV {k:Nat} {x:ab} {r:List ab} {es:Met} (h1:x.kind = 12) (h2:met es x.name = true):br (aI l (k + 1)) (x::r) es = br (aI l (k + 1)) r es:=by
 have e:aI l (k + 1) x es = ([],es):=by rw [fq,if_pos h1,if_pos h2]
 rw [br,e]
 rfl
include hl in
theorem O3 {k:Nat} {x:ab} {r:List ab} {es:Met} (hx:CT l x) (hk:pV l (x::r) es < k + 1) (h1:x.kind = 12) (h2:met es x.name = false):br (aI l (k + 1)) (x::r) es = br (aI l (k + 1)) (bo l x.name::r) (meet es x.name):=by
 have h0:0<=cq l x.name:=by cases hx with | mk _ _ h _=>exact h h1
 have hn:=jK h0 (es:=es) h2
 have hw:dB l x es<=pV l (x::r) es:=by unfold dB pV; rw [iL]; omega
 have e:aI l (k + 1) x es = aI l (k + 1) (bo l x.name) (meet es x.name):=by
  rw [wC hl k _ _ (CT.bo hl h0) (by omega),fq l k x es,if_pos h1,if_neg (by rw [h2]; decide)]
 rw [br,e,br]
include hl in
theorem Lq {k:Nat} {x:ab} {r:List ab} {es:Met} (hx:CT l x) (hk:pV l (x::r) es < k + 1) (h1:x.kind = 11):br (aI l (k + 1)) (x::r) es = br (aI l (k + 1)) (x.t++r) es:=by
 have hw:dB l x es<=pV l (x::r) es:=by unfold dB pV; rw [iL]; omega
 have e:aI l (k + 1) x es = br (aI l (k + 1)) x.t es:=by
  rw [fq l k x es,if_neg (by omega),if_pos h1]
  refine (ma (kG l k) _ _ fun y hy fs hf=>wC hl k y fs (hx.part y hy) ?_).symm
  have:=jr (l:=l) (es:=es) (fs:=fs) hy hf
  omega
 rw [br,e,o5]
theorem BK {x:ab} {r:List ab} {es:Met} (hx:CT l x) (h1:x.kind = 12) (h2:met es x.name = false):pV l (bo l x.name::r) (meet es x.name) < pV l (x::r) es:=by
 have h0:0<=cq l x.name:=by cases hx with | mk _ _ h _=>exact h h1
 have hn:=jK h0 (es:=es) h2
 unfold dB at hn
 unfold pV
 rw [iL,iL]
 omega
theorem pW {x:ab} {r:List ab} {es:Met}:pV l r es < pV l (x::r) es:=by
 have:=Rz x
 unfold pV
 rw [iL]
 omega
theorem xx {x:ab} {r:List ab} {es:Met}:pV l (x.t++r) es < pV l (x::r) es:=by
 have:=Kr x
 unfold pV
 rw [iL,C5]
 omega
end
theorem Bv (a b:List ab):cP (a++b) = cP a + cP b:=by unfold cP; rw [List.map_append,List.sum_append]
theorem yR (t:ab):1<=gK t:=by rw [vu]; omega
theorem ug:∀ r:List ab,r.length<=cP r
 | []=>Nat.zero_le _
 | x::r=>by
  have:=ug r
  have:=yR x
  rw [dt,List.length_cons]
  omega
end Go.Ty
end
section
namespace Go.Ty
open Go Go.SX Go.Ck Go.Vl Go.Ut
inductive Reach (l:List az):Nat->ab->ab->Prop
 | part (t:ab):t.kind≠12->t.kind≠11->Reach l 0 t t
 | union (n:Nat) (t x y:ab):t.kind = 11->x ∈ t.t->Reach l n x y->Reach l (n + 1) t y
 | name (n:Nat) (t y:ab):t.kind = 12->Reach l n (bo l t.name) y->Reach l (n + 1) t y
theorem Reach.yq {l:List az} {d:Nat} {t y:ab} (h:Reach l d t y) (hk:t.kind = 12):∃ n,d = n + 1/\Reach l n (bo l t.name) y:=by
 cases h with
 | part _ h1 _=>exact absurd hk h1
 | union n _ x _ h1 _ _=>exact absurd (hk.symm.trans h1) (by decide)
 | name n _ _ _ h2=>exact ⟨n,rfl,h2⟩
theorem Reach.I3 {l:List az} {d:Nat} {t y:ab} (h:Reach l d t y) (hk:t.kind = 11):∃ n x,d = n + 1/\x ∈ t.t/\Reach l n x y:=by
 cases h with
 | part _ _ h1=>exact absurd hk h1
 | union n _ x _ _ h2 h3=>exact ⟨n,x,rfl,h2,h3⟩
 | name n _ _ h1 _=>exact absurd (hk.symm.trans h1) (by decide)
theorem Reach.M8 {l:List az} {d:Nat} {t y:ab} (h:Reach l d t y) (h1:t.kind≠12) (h2:t.kind≠11):y = t:=by
 cases h with
 | part _ _ _=>rfl
 | union n _ x _ h3 _ _=>exact absurd h3 h2
 | name n _ _ h3 _=>exact absurd h3 h1
theorem rj {l:List az} {f:ab->Met->List ab × Met}:∀ (r:List ab) (es:Met),(∀ x ∈ r,∀ es y,y ∈ (f x es).1->∃ n,Reach l n x y)->∀ y ∈ (br f r es).1,∃ x ∈ r,∃ n,Reach l n x y
 | [],_,_,y,hy=>nomatch hy
 | x::r,es,h,y,hy=>by
  rcases List.mem_append.1 hy with hy | hy
  ·exact ⟨x,List.mem_cons_self .., h x (List.mem_cons_self ..) es y hy⟩
  ·obtain ⟨z,hz,hn⟩:=rj r _ (fun z hz=>h z (List.mem_cons_of_mem _ hz)) y hy
   exact ⟨z,List.mem_cons_of_mem _ hz,hn⟩
theorem tg (l:List az):∀ (k:Nat) (t:ab) (es:Met) (y:ab),y ∈ (aI l k t es).1->∃ n,Reach l n t y:=by
 intro k
 induction k with
 | zero=>intro t es y hy; exact nomatch hy
 | succ k ih =>
  intro t es y hy
  rw [fq] at hy
  by_cases c1:t.kind = 12
  ·rw [if_pos c1] at hy
   by_cases c2:met es t.name = true
   ·rw [if_pos c2] at hy
    exact nomatch hy
   ·rw [if_neg c2] at hy
    obtain ⟨n,hn⟩:=ih _ _ y hy
    exact ⟨n + 1,.name n t y c1 hn⟩
  ·rw [if_neg c1] at hy
   by_cases c3:t.kind = 11
   ·rw [if_pos c3] at hy
    obtain ⟨x,hx,n,hn⟩:=rj t.t es (fun x _ es y=>ih x es y) y hy
    exact ⟨n + 1,.union n t x y c3 hx hn⟩
   ·rw [if_neg c3] at hy
    obtain rfl:y = t:=by simpa using hy
    exact ⟨0,.part _ c1 c3⟩
def Ti (l:List az) (t:ab) (es:Met) (r:List ab × Met):Prop:=∀ d y,Reach l d t y->y ∈ r.1\/∃ n d',met es n = true/\d' < d/\Reach l d' (bo l n) y
def PQ (l:List az) (es:Met) (r:List ab × Met):Prop:=∀ n,met r.2 n = true->∀ d y,Reach l d (bo l n) y->y ∈ r.1\/∃ m d',met es m = true/\d'<=d/\Reach l d' (bo l m) y
theorem wx {l : List az} {f : ab -> Met -> List ab × Met} (hm : ∀ x es n, met es n = true -> met (f x es).2 n = true) : ∀ (r : List ab) (es : Met), (∀ x ∈ r, ∀ fs, (∀ n, met es n = true -> met fs n = true) -> Ti l x fs (f x fs) /\ PQ l fs (f x fs)) ->
  (∀ x ∈ r,∀ d y,Reach l d x y->y ∈ (br f r es).1\/∃ n d',met es n = true/\d'<=d/\Reach l d' (bo l n) y)/\PQ l es (br f r es)
 | [],es,_=>⟨fun x hx=>(nomatch hx),fun n hn d y hy=>.inr ⟨n,d,hn,Nat.le_refl _,hy⟩⟩
 | z::r,es,h=>by
  obtain ⟨hB,hC⟩:=h z (List.mem_cons_self ..) es fun _ h=>h
  obtain ⟨gB,gC⟩:=wx hm r (f z es).2 fun x hx fs hf=>h x (List.mem_cons_of_mem _ hx) fs fun n hn=>hf n (hm z es n hn)
  have back:∀ d y,(∃ n d',met (f z es).2 n = true/\d'<=d/\Reach l d' (bo l n) y)->y ∈ (br f (z::r) es).1\/∃ n d',met es n = true/\d'<=d/\Reach l d' (bo l n) y:=fun d y ⟨n,d',h1,h2,h3⟩=>by
   rcases hC n h1 d' y h3 with h4 | ⟨m,d'',h4,h5,h6⟩
   ·exact .inl (List.mem_append_left _ h4)
   ·exact .inr ⟨m,d'',h4,Nat.le_trans h5 h2,h6⟩
  refine ⟨fun x hx d y hy=>?_,fun n hn d y hy=>?_⟩
  ·rcases List.mem_cons.1 hx with rfl | hx
   ·rcases hB d y hy with h1 | ⟨n,d',h1,h2,h3⟩
    ·exact .inl (List.mem_append_left _ h1)
    ·exact .inr ⟨n,d',h1,Nat.le_of_lt h2,h3⟩
   ·rcases gB x hx d y hy with h1 | h1
    ·exact .inl (List.mem_append_right _ h1)
    ·exact back d y h1
  ·rcases gC n hn d y hy with h1 | h1
   ·exact .inl (List.mem_append_right _ h1)
   ·exact back d y h1
theorem zC {l:List az} (hl:∀ d ∈ l,CT l d.t):∀ (k:Nat) (t:ab) (es:Met),CT l t->dB l t es < k->Ti l t es (aI l k t es)/\PQ l es (aI l k t es):=by
 intro k
 induction k with
 | zero=>intro t es _ h; exact absurd h (Nat.not_lt_zero _)
 | succ k ih =>
  intro t es ht hk
  rw [fq]
  by_cases c1:t.kind = 12
  ·rw [if_pos c1]
   by_cases c2:met es t.name = true
   ·rw [if_pos c2]
    refine ⟨fun d y hy=>?_,fun n hn d y hy=>.inr ⟨n,d,hn,Nat.le_refl _,hy⟩⟩
    obtain ⟨n,rfl,h1⟩:=hy.yq c1
    exact .inr ⟨_,n,c2,Nat.lt_succ_self _,h1⟩
   ·rw [if_neg c2]
    have h0:0<=cq l t.name:=by cases ht with | mk _ _ h _=>exact h c1
    have hn:=jK h0 (es:=es) (by simpa using c2)
    obtain ⟨hB,hC⟩:=ih (bo l t.name) (meet es t.name) (CT.bo hl h0) (by omega)
    have key:∀ d y,Reach l d (bo l t.name) y->y ∈ (aI l k (bo l t.name) (meet es t.name)).1\/∃ n d',met es n = true/\d' < d/\Reach l d' (bo l n) y:=by
     intro d
     induction d using Nat.strongRecOn with
     | _ d ihd =>
     intro y hy
     rcases hB d y hy with h1 | ⟨n,d',h1,h2,h3⟩
     ·exact .inl h1
     ·rw [pB] at h1
      by_cases e:n = t.name
      ·subst e
       rcases ihd d' h2 y h3 with h4 | ⟨m,d'',h4,h5,h6⟩
       ·exact .inl h4
       ·exact .inr ⟨m,d'',h4,Nat.lt_trans h5 h2,h6⟩
      ·rw [decide_eq_false e,Bool.false_or] at h1
       exact .inr ⟨n,d',h1,h2,h3⟩
    refine ⟨fun d y hy=>?_,fun n hn d y hy=>?_⟩
    ·obtain ⟨m,rfl,h1⟩:=hy.yq c1
     rcases key m y h1 with h2 | ⟨n,d',h2,h3,h4⟩
     ·exact .inl h2
     ·exact .inr ⟨n,d',h2,Nat.lt_succ_of_lt h3,h4⟩
    ·rcases hC n hn d y hy with h1 | ⟨m,d',h1,h2,h3⟩
     ·exact .inl h1
     ·rw [pB] at h1
      by_cases e:m = t.name
      ·subst e
       rcases key d' y h3 with h4 | ⟨m,d'',h4,h5,h6⟩
       ·exact .inl h4
       ·exact .inr ⟨m,d'',h4,by omega,h6⟩
      ·rw [decide_eq_false e,Bool.false_or] at h1
       exact .inr ⟨m,d',h1,h2,h3⟩
  ·rw [if_neg c1]
   by_cases c3:t.kind = 11
   ·rw [if_pos c3]
    obtain ⟨hB,hC⟩:=wx (l:=l) (kG l k) t.t es fun x hx fs hf=>ih x fs (ht.part x hx) (by have:=jr (l:=l) (es:=es) (fs:=fs) hx hf; omega)
    refine ⟨fun d y hy=>?_,hC⟩
    obtain ⟨n,x,rfl,h1,h2⟩:=hy.I3 c3
    rcases hB x h1 n y h2 with h3 | ⟨m,d',h3,h4,h5⟩
    ·exact .inl h3
    ·exact .inr ⟨m,d',h3,Nat.lt_succ_of_le h4,h5⟩
   ·rw [if_neg c3]
    refine ⟨fun d y hy=>?_,fun n hn d y hy=>.inr ⟨n,d,hn,Nat.le_refl _,hy⟩⟩
    obtain rfl:=hy.M8 c1 c3
    exact .inl (List.mem_singleton.2 rfl)
theorem Fg {l:List az} (hl:∀ d ∈ l,CT l d.t) {k:Nat} {t:ab} {es:Met} (ht:CT l t) {y:ab} (h:y ∈ (aI l k t es).1) {m:Nat} (hm:dB l t [] < m):y ∈ (aI l m t []).1:=by
 obtain ⟨n,hn⟩:=tg l k t es y h
 rcases (zC hl m t [] ht hm).1 n y hn with h1 | ⟨_,_,h1,_⟩
 ·exact h1
 ·cases h1
theorem wB {p:ab->Bool} {f:ab->Met->List ab × Met} {q:ab->Bool}:∀ (r:List ab) (es:Met),(∀ x ∈ r,∀ es,(f x es).1.countP p<=1/\(∀ y ∈ (f x es).1,p y = true->q x = true))->(br f r es).1.countP p<=r.countP q
 | [],_,_=>Nat.le_refl _
 | x::r,es,h=>by
  have h1:=wB (p:=p) (q:=q) r (f x es).2 fun y hy=>h y (List.mem_cons_of_mem _ hy)
  obtain ⟨h2,h3⟩:=h x (List.mem_cons_self ..) es
  rw [br,List.countP_append,List.countP_cons]
  cases hq:q x with
  | true=>rw [if_pos rfl]; omega
  | false =>
   have:(f x es).1.countP p = 0:=List.countP_eq_zero.2 fun y hy hp=>by rw [h3 y hy hp] at hq; cases hq
   rw [if_neg (by decide)]
   omega
theorem Hp {l:List az} {p:ab->Bool} {Q:ab->Prop} (hl:∀ d ∈ l,CT l d.t/\Q d.t) (hQ:∀ t,Q t->∀ x ∈ t.t,Q x) (hu:∀ t,Q t->t.kind = 11->t.t.countP (fun x=>(aI l (dB l x [] + 1) x []).1.any p)<=1):∀ (k:Nat) (t:ab) (es:Met),CT l t->Q t->(aI l k t es).1.countP p<=1:=by
 intro k
 induction k with
 | zero=>intro t es _ _; exact Nat.zero_le _
 | succ k ih =>
  intro t es ht hq
  rw [fq]
  by_cases c1:t.kind = 12
  ·rw [if_pos c1]
   by_cases c2:met es t.name = true
   ·rw [if_pos c2]
    exact Nat.zero_le _
   ·rw [if_neg c2]
    have h0:0<=cq l t.name:=by cases ht with | mk _ _ h _=>exact h c1
    obtain ⟨d,hd,_,e⟩:=dy h0
    exact ih _ _ (CT.bo (fun d hd=>(hl d hd).1) h0) (by rw [<- e]; exact (hl d hd).2)
  ·rw [if_neg c1]
   by_cases c3:t.kind = 11
   ·rw [if_pos c3]
    refine Nat.le_trans (wB (p:=p) (q:=fun x=>(aI l (dB l x [] + 1) x []).1.any p) t.t es fun x hx fs=>⟨ih x fs (ht.part x hx) (hQ t hq x hx),fun y hy hp=>?_⟩) (hu t hq c3)
    exact List.any_eq_true.2 ⟨y,Fg (fun d hd=>(hl d hd).1) (ht.part x hx) hy (Nat.lt_succ_self _),hp⟩
   ·rw [if_neg c3]
    show [t].countP p<=1
    rw [List.countP_cons,List.countP_nil]
    split<;>omega
end Go.Ty
end
section
namespace Go.Ty
open Go Go.SX Go.Ck Go.Vl Go.Ut
set_option maxRecDepth 100000
def gM (f:gL):Bool:=!f.opt && !f.du
def uu (n:Int):Int:=if n = 0 then 0 else n + 1
def di (l:List az):Nat->ab->Prop
 | 0,_=>False
 | d + 1,t=>∃ n y,Reach l n t y/\(y.kind = 8->y.lo = 0\/di l d (y.t.getD 0 (aD .typ)))/\(y.kind = 10->∀ f ∈ y.f,gM f = true->di l d f.t)
mutual
def bm (M:aH->Int):ab->Int
 | ⟨k,lo,_,_,ts,fs,nm⟩=>if k = 12 then M nm else if k = 11 then Er M ts 0 else if k = 8 then (if 0 < lo then uu (Wn M ts) else 1) else if k = 10 then BV M fs 0 else 1
def Er (M:aH->Int):List ab->Int->Int
 | [],a=>a
 | x::r,a=>Er M r (if 0 < bm M x/\(a = 0\/bm M x < a) then bm M x else a)
def Wn (M:aH->Int):List ab->Int
 | []=>1
 | x::_=>bm M x
def BV (M:aH->Int):List (jw ab)->Int->Int
 | [],a=>a + 1
 | f::r,a=>if gM f = true then (if Wo M f = 0 then 0 else BV M r (max a (Wo M f))) else BV M r a
def Wo (M:aH->Int):jw ab->Int
 | ⟨_,_,_,t,_⟩=>bm M t
end
theorem Jw (M:aH->Int) (f:gL):Wo M f = bm M f.t:=by
 obtain ⟨_,_,_,t,_⟩:=f
 rw [Wo]
theorem ow (M:aH->Int) (t:ab):bm M t = if t.kind = 12 then M t.name else if t.kind = 11 then Er M t.t 0 else if t.kind = 8 then (if 0 < t.lo then uu (bm M (t.t.getD 0 (aD .typ))) else 1) else if t.kind = 10 then BV M t.f 0 else 1:=by
 obtain ⟨k,lo,hi,tx,ts,fs,nm⟩:=t
 rw [bm]
 have h:Wn M ts = bm M (ts.getD 0 (aD .typ)):=by
  cases ts with
  | nil =>
   rw [Wn]
   show (1:Int) = bm M ⟨0,0,0,[],[],[],[]⟩
   rw [bm]
   simp
  | cons x r=>rw [Wn]; rfl
 rw [h]
section
variable {M:aH->Int}
def WR (M:aH->Int) (d:Int) (t:ab):Prop:=0 < bm M t/\bm M t<=d
theorem pN (d:Int):∀ (l:List ab) (a:Int),0<=a->(0<=Er M l a)/\((0 < Er M l a/\Er M l a<=d)↔(0 < a/\a<=d)\/∃ x ∈ l,WR M d x)
 | [],a,h=>by rw [Er]; simp [h]
 | x::l,a,h=>by
  rw [Er]
  by_cases c:0 < bm M x/\(a = 0\/bm M x < a)
  ·rw [if_pos c]
   obtain ⟨h1,h2⟩:=pN d l (bm M x) (by omega)
   refine ⟨h1,h2.trans ?_⟩
   constructor
   ·rintro (h3 | ⟨y,hy,h3⟩)
    ·exact .inr ⟨x,.head _,h3⟩
    ·exact .inr ⟨y,.tail _ hy,h3⟩
   ·rintro (h3 | ⟨y,hy,h3⟩)
    ·exact .inl ⟨c.1,by omega⟩
    ·rcases List.mem_cons.1 hy with rfl | hy
     ·exact .inl h3
     ·exact .inr ⟨y,hy,h3⟩
  ·rw [if_neg c]
   obtain ⟨h1,h2⟩:=pN d l a h
   refine ⟨h1,h2.trans ?_⟩
   constructor
   ·rintro (h3 | ⟨y,hy,h3⟩)
    ·exact .inl h3
    ·exact .inr ⟨y,.tail _ hy,h3⟩
   ·rintro (h3 | ⟨y,hy,h3⟩)
    ·exact .inl h3
    ·rcases List.mem_cons.1 hy with rfl | hy
     ·have h3:0 < bm M y/\bm M y<=d:=h3
      exact .inl (by omega)
     ·exact .inr ⟨y,hy,h3⟩
theorem pM (d:Int):∀ (l:List gL) (a:Int),0<=a->(∀ f ∈ l,0<=bm M f.t)->0<=BV M l a/\((0 < BV M l a/\BV M l a<=d)↔a + 1<=d/\∀ f ∈ l,gM f = true->WR M (d - 1) f.t)
 | [],a,h,_=>by
  rw [BV]
  refine ⟨by omega,?_⟩
  constructor
  ·exact fun h1=>⟨h1.2,fun _ h2=>nomatch h2⟩
  ·exact fun h1=>⟨by omega,h1.1⟩
 | f::l,a,h,h0=>by
  have hf:=h0 f (.head _)
  have HW:=fun g (hg:g ∈ l)=>h0 g (.tail _ hg)
  rw [BV,Jw]
  by_cases c:gM f = true
  ·rw [if_pos c]
   by_cases z:bm M f.t = 0
   ·rw [if_pos z]
    refine ⟨Int.le_refl _,?_⟩
    constructor
    ·exact fun h1=>absurd h1.1 (by decide)
    ·intro h1
     have:=(h1.2 f (.head _) c).1
     omega
   ·rw [if_neg z]
    obtain ⟨h1,h2⟩:=pM d l (max a (bm M f.t)) (by omega) HW
    refine ⟨h1,h2.trans ?_⟩
    constructor
    ·rintro ⟨h3,h4⟩
     refine ⟨by omega,fun g hg ha=>?_⟩
     rcases List.mem_cons.1 hg with rfl | hg
     ·exact ⟨by omega,by omega⟩
     ·exact h4 g hg ha
    ·rintro ⟨h3,h4⟩
     have h5:0 < bm M f.t/\bm M f.t<=d - 1:=h4 f (.head _) c
     exact ⟨by omega,fun g hg ha=>h4 g (.tail _ hg) ha⟩
  ·rw [if_neg c]
   obtain ⟨h1,h2⟩:=pM d l a h HW
   refine ⟨h1,h2.trans ?_⟩
   constructor
   ·rintro ⟨h3,h4⟩
    refine ⟨h3,fun g hg ha=>?_⟩
    rcases List.mem_cons.1 hg with rfl | hg
    ·exact absurd ha c
    ·exact h4 g hg ha
   ·rintro ⟨h3,h4⟩
    exact ⟨h3,fun g hg ha=>h4 g (.tail _ hg) ha⟩
theorem lq {t:ab} (h:t.t≠[]):t.t.getD 0 (aD .typ) ∈ t.t:=by
 cases e:t.t with
 | nil=>exact absurd e h
 | cons x r=>exact .head _
theorem JD (hM:∀ n,0<=M n):∀ (k:Nat) (t:ab),SizeOf.sizeOf t < k->0<=bm M t
 | 0,_,h=>absurd h (Nat.not_lt_zero _)
 | k + 1,t,h=>by
  rw [ow]
  split
  ·exact hM _
  split
  ·exact (pN 0 t.t 0 (Int.le_refl _)).1
  split
  ·split
   ·unfold uu
    by_cases e:t.t = []
    ·rw [e]
     show 0<=if bm M ⟨0,0,0,[],[],[],[]⟩ = 0 then 0 else bm M ⟨0,0,0,[],[],[],[]⟩ + 1
     rw [bm]
     simp
    ·have:=JD hM k (t.t.getD 0 (aD .typ)) (by have:=bg (t:=t) (List.mem_append_left _ (lq e)); omega)
     split<;>omega
   ·decide
  split
  ·exact (pM 0 t.f 0 (Int.le_refl _) fun f hf=>JD hM k f.t (by have:=bg (t:=t) (List.mem_append_right _ (List.mem_map_of_mem hf)); omega)).1
  ·decide
theorem lH (hM:∀ n,0<=M n) (t:ab):0<=bm M t:=JD hM _ t (Nat.lt_succ_self _)
theorem q9 {d:Int} {t:ab} (h:t.kind = 12):WR M d t↔0 < M t.name/\M t.name<=d:=by unfold WR; rw [ow,if_pos h]
theorem kY {d:Int} {t:ab} (h:t.kind = 11):WR M d t↔∃ x ∈ t.t,WR M d x:=by
 unfold WR
 rw [ow,if_neg (by omega),if_pos h]
 refine (pN d t.t 0 (Int.le_refl _)).2.trans ?_
 constructor
 ·rintro (h1 | h1)
  ·exact absurd h1.1 (by decide)
  ·exact h1
 ·exact .inr
theorem kj {d:Int} {t:ab} (h:t.kind = 8) (hM:∀ n,0<=M n):WR M d t↔(t.lo<=0/\1<=d)\/(0 < t.lo/\WR M (d - 1) (t.t.getD 0 (aD .typ))):=by
 have hn:=lH hM (t.t.getD 0 (aD .typ))
 unfold WR
 rw [ow,if_neg (by omega),if_neg (by omega),if_pos h]
 by_cases c:0 < t.lo
 ·rw [if_pos c]
  unfold uu
  split<;>omega
 ·rw [if_neg c]
  omega
theorem mT {d:Int} {t:ab} (h:t.kind = 10) (hM:∀ n,0<=M n):WR M d t↔1<=d/\∀ f ∈ t.f,gM f = true->WR M (d - 1) f.t:=by
 unfold WR
 rw [ow,if_neg (by omega),if_neg (by omega),if_neg (by omega),if_pos h]
 exact (pM d t.f 0 (Int.le_refl _) fun f _=>lH hM f.t).2
theorem sK {d:Int} {t:ab} (h1:t.kind≠12) (h2:t.kind≠11) (h3:t.kind≠8) (h4:t.kind≠10):WR M d t↔1<=d:=by
 unfold WR
 rw [ow,if_neg h1,if_neg h2,if_neg h3,if_neg h4]
 omega
end
/-! ### ranks that tell the truth -/
def LT (t:ab):Prop:=t.kind = 8->0<=t.lo/\t.t≠[]
theorem tM {l:List az}:∀ {d e:Nat} {t:ab},d<=e->di l d t->di l e t
 | 0,_,_,_,h=>by rw [di] at h; exact h.elim
 | d + 1,0,_,y8,_=>absurd y8 (by omega)
 | d + 1,e + 1,t,y8,h=>by
  rw [di] at h ⊢
  obtain ⟨n,y,h1,h2,h3⟩:=h
  exact ⟨n,y,h1,fun k=>(h2 k).imp id (tM (by omega)),fun k f hf ha=>tM (by omega) (h3 k f hf ha)⟩
theorem wM {l:List az} {d:Nat} {t x:ab} (h:t.kind = 11) (hx:x ∈ t.t) (hh:di l d x):di l d t:=by
 cases d with
 | zero=>rw [di] at hh; exact hh.elim
 | succ d =>
  rw [di] at hh ⊢
  obtain ⟨n,y,h1,h2⟩:=hh
  exact ⟨n + 1,y,.union n t x y h hx h1,h2⟩
theorem tO {l:List az} {d:Nat} {t:ab} (h:t.kind = 12) (hh:di l d (bo l t.name)):di l d t:=by
 cases d with
 | zero=>rw [di] at hh; exact hh.elim
 | succ d =>
  rw [di] at hh ⊢
  obtain ⟨n,y,h1,h2⟩:=hh
  exact ⟨n + 1,y,.name n t y h h1,h2⟩
def Sound (l:List az) (M:aH->Int):Prop:=(∀ n,0<=M n)/\∀ n,0 < M n->di l (M n).toNat (bo l n)
inductive GT (l:List az):ab->Prop
 | mk (t:ab):(1<=t.kind/\t.kind<=12)->(t.kind = 12->0<=cq l t.name)->LT t->(∀ x ∈ inside t,GT l x)->GT l t
theorem GT.part {l:List az} {t x:ab} (h:GT l t) (hx:x ∈ inside t):GT l x:=by cases h with | mk _ _ _ _ h=>exact h x hx
theorem GT.lt {l:List az} {t:ab} (h:GT l t):LT t:=by cases h with | mk _ _ _ h _=>exact h
theorem GT.name {l:List az} {t:ab} (h:GT l t) (k:t.kind = 12):0<=cq l t.name:=by cases h with | mk _ _ h _ _=>exact h k
theorem GT.ct {l:List az} {t:ab} (h:GT l t):CT l t:=by
 induction h with
 | mk t h1 h2 _ _ ih=>exact .mk t h1 h2 ih
theorem mN {l:List az} {M:aH->Int} (hM:Sound l M):∀ (k:Nat) (t:ab) (d:Nat),SizeOf.sizeOf t < k->GT l t->WR M d t->di l d t
 | 0,_,_,h,_,_=>absurd h (Nat.not_lt_zero _)
 | k + 1,t,d,h,hg,hw=>by
  by_cases k12:t.kind = 12
  ·have hw:=(q9 k12).1 hw
   exact tM (by omega) (tO k12 (hM.2 _ hw.1))
  by_cases k11:t.kind = 11
  ·obtain ⟨x,hx,hw⟩:=(kY k11).1 hw
   have hi:x ∈ inside t:=List.mem_append_left _ hx
   exact wM k11 hx (mN hM k x d (by have:=bg hi; omega) (hg.part hi) hw)
  have hd:1<=(d:Int):=by have h1:0 < bm M t:=hw.1; have h2:bm M t<=d:=hw.2; omega
  obtain ⟨e,rfl⟩:∃ e,d = e + 1:=⟨d - 1,by omega⟩
  have he:((e + 1:Nat):Int) - 1 = (e:Int):=by omega
  rw [di]
  refine ⟨0,t,.part t k12 k11,fun k8=>?_,fun k10 f hf ha=>?_⟩
  ·rcases (kj k8 hM.1).1 hw with hw | hw
   ·exact .inl (by have:=(hg.lt k8).1; omega)
   ·have hi:t.t.getD 0 (aD .typ) ∈ inside t:=List.mem_append_left _ (lq (hg.lt k8).2)
    rw [he] at hw
    exact .inr (mN hM k _ e (by have:=bg hi; omega) (hg.part hi) hw.2)
  ·have hi:f.t ∈ inside t:=List.mem_append_right _ (List.mem_map_of_mem hf)
   have hw:=((mT k10 hM.1).1 hw).2 f hf ha
   rw [he] at hw
   exact mN hM k _ e (by have:=bg hi; omega) (hg.part hi) hw
def kZ (l:List az) (M:aH->Int):Prop:=∀ n,0<=cq l n->bm M (bo l n) = M n
theorem GT.bo {l:List az} (hl:∀ d ∈ l,GT l d.t) {n:aH} (h:0<=cq l n):GT l (Ty.bo l n):=by
 obtain ⟨d,hd,_,ht⟩:=dy h
 rw [<- ht]
 exact hl d hd
theorem oy {l:List az} {M:aH->Int} (h0:∀ n,0<=M n) (hs:kZ l M) (hl:∀ d ∈ l,GT l d.t):∀ (d:Nat) (t:ab),GT l t->di l d t->WR M d t
 | 0,_,_,h=>by rw [di] at h; exact h.elim
 | d + 1,t,hg,h=>by
  have he:((d + 1:Nat):Int) - 1 = (d:Int):=by omega
  rw [di] at h
  obtain ⟨n,y,hr,h8,gQ⟩:=h
  have key:GT l y->y.kind≠12->y.kind≠11->WR M ((d + 1:Nat):Int) y:=fun gy n12 n11=>by
   by_cases k8:y.kind = 8
   ·rw [kj k8 h0,he]
    rcases h8 k8 with h | h
    ·exact .inl ⟨by omega,by omega⟩
    ·by_cases c:0 < y.lo
     ·exact .inr ⟨c,oy h0 hs hl d _ (gy.part (List.mem_append_left _ (lq (gy.lt k8).2))) h⟩
     ·exact .inl ⟨by omega,by omega⟩
   by_cases k10:y.kind = 10
   ·rw [mT k10 h0,he]
    exact ⟨by omega,fun f hf ha=>oy h0 hs hl d _ (gy.part (List.mem_append_right _ (List.mem_map_of_mem hf))) (gQ k10 f hf ha)⟩
   ·rw [sK n12 n11 k8 k10]
    omega
  clear h8 gQ
  induction hr with
  | part t n12 n11=>exact key hg n12 n11
  | union n t x y k11 hx _ ih=>exact (kY k11).2 ⟨x,hx,ih (hg.part (List.mem_append_left _ hx)) key⟩
  | name n t y k12 _ ih =>
   have h1:=hg.name k12
   have h2:=ih (GT.bo hl h1) key
   rw [q9 k12]
   have h2:0 < bm M (Ty.bo l t.name)/\bm M (Ty.bo l t.name)<=((d + 1:Nat):Int):=h2
   rw [hs _ h1] at h2
   exact h2
theorem yW {l:List az} {M:aH->Int} (hM:Sound l M) (hs:kZ l M) (hl:∀ d ∈ l,GT l d.t) {t:ab} (hg:GT l t) (d:Nat):WR M d t↔di l d t:=⟨mN hM _ t d (Nat.lt_succ_self _) hg,oy hM.1 hs hl d t hg⟩
/-! ### on the way -/
def Tk (M' M:aH->Int):Prop:=∀ n,0 < M n->0 < M' n/\M' n<=M n
theorem sL {M M':aH->Int} (h0:∀ n,0<=M n) (HW:∀ n,0<=M' n) (h:Tk M' M):∀ (k:Nat) (t:ab) (d:Int),SizeOf.sizeOf t < k->WR M d t->WR M' d t
 | 0,_,_,hk,_=>absurd hk (Nat.not_lt_zero _)
 | k + 1,t,d,hk,hw=>by
  by_cases k12:t.kind = 12
  ·have hw:=(q9 k12).1 hw
   have:=h _ hw.1
   exact (q9 k12).2 (by omega)
  by_cases k11:t.kind = 11
  ·obtain ⟨x,hx,hw⟩:=(kY k11).1 hw
   exact (kY k11).2 ⟨x,hx,sL h0 HW h k x d (by have:=bg (t:=t) (x:=x) (List.mem_append_left _ hx); omega) hw⟩
  by_cases k8:t.kind = 8
  ·rw [kj k8 HW] 
   rcases (kj k8 h0).1 hw with hw | hw
   ·exact .inl hw
   ·refine .inr ⟨hw.1,?_⟩
    by_cases e:t.t = []
    ·have hw:=hw.2
     rw [e] at hw ⊢
     have hz:∀ N:aH->Int,bm N (([]:List ab).getD 0 (aD .typ)) = 1:=fun N=>by
      show bm N ⟨0,0,0,[],[],[],[]⟩ = 1
      rw [bm]
      simp
     unfold WR at hw ⊢
     rw [hz] at hw ⊢
     exact hw
    ·exact sL h0 HW h k _ _ (by have:=bg (t:=t) (List.mem_append_left _ (lq e)); omega) hw.2
  by_cases k10:t.kind = 10
  ·rw [mT k10 HW]
   obtain ⟨h1,h2⟩:=(mT k10 h0).1 hw
   exact ⟨h1,fun f hf ha=>sL h0 HW h k _ _ (by have:=bg (t:=t) (List.mem_append_right _ (List.mem_map_of_mem hf)); omega) (h2 f hf ha)⟩
  ·exact (sK k12 k11 k8 k10).2 ((sK k12 k11 k8 k10).1 hw)
def rN (M:aH->Int) (n:aH) (v:Int):aH->Int:=fun k=>if k = n then v else M k
structure Way (l:List az) (M:aH->Int):Prop where
 so:Sound l M
 df:∀ n,0 < M n->0<=cq l n
 up:∀ n,0 < M n->WR M (M n) (bo l n)
theorem Lp (l:List az):Way l fun _=>0:=⟨⟨fun _=>Int.le_refl _,fun _ h=>absurd h (Int.lt_irrefl 0)⟩,fun _ h=>absurd h (Int.lt_irrefl 0),fun _ h=>absurd h (Int.lt_irrefl 0)⟩
theorem Lo {l : List az} (hl : ∀ d ∈ l, GT l d.t) {M : aH -> Int} (h : Way l M) {n : aH} (hn : 0<=cq l n) :
  Way l (rN M n (bm M (bo l n)))/\(bm M (bo l n)≠M n->0 < bm M (bo l n)/\(M n = 0\/bm M (bo l n) < M n)):=by
 have hv:=lH h.so.1 (bo l n)
 have hle:0 < M n->0 < bm M (bo l n)/\bm M (bo l n)<=M n:=fun c=>h.up n c
 have Ux:Tk (rN M n (bm M (bo l n))) M:=fun k hk=>by
  unfold rN
  split
  ·rename_i e; subst e; exact hle hk
  ·exact ⟨hk,Int.le_refl _⟩
 have HW:∀ k,0<=rN M n (bm M (bo l n)) k:=fun k=>by
  unfold rN
  split
  ·exact hv
  ·exact h.so.1 k
 have vD:=h.so.1 n
 refine ⟨⟨⟨HW,fun k hk=>?_⟩,fun k hk=>?_,fun k hk=>?_⟩,fun c=>?_⟩
 ·unfold rN at hk ⊢
  by_cases e:k = n
  ·subst e
   rw [if_pos rfl] at hk ⊢
   exact mN h.so _ _ _ (Nat.lt_succ_self _) (GT.bo hl hn) ⟨hk,by omega⟩
  ·rw [if_neg e] at hk ⊢
   exact h.so.2 k hk
 ·unfold rN at hk
  by_cases e:k = n
  ·rw [e]; exact hn
  ·rw [if_neg e] at hk; exact h.df k hk
 ·refine sL h.so.1 HW Ux _ _ _ (Nat.lt_succ_self _) ?_
  unfold rN at hk ⊢
  by_cases e:k = n
  ·subst e
   rw [if_pos rfl] at hk ⊢
   exact ⟨hk,Int.le_refl _⟩
  ·rw [if_neg e] at hk ⊢
   exact h.up k hk
 ·by_cases z:M n = 0
  ·exact ⟨by omega,.inl z⟩
  ·have:=hle (by omega)
   exact ⟨this.1,.inr (by omega)⟩
end Go.Ty
end
section
namespace Go.Ty
open Go Go.SX Go.Ck Go.Vl Go.Ut
set_option maxRecDepth 100000
theorem WR.mono {M:aH->Int} {d e:Int} {t:ab} (h:WR M d t) (hd:d<=e):WR M e t:=⟨h.1,Int.le_trans h.2 hd⟩
theorem vt {l:List ab} {x:ab} (h:x ∈ l):gK x<=cP l:=by
 induction l with
 | nil=>cases h
 | cons y l ih =>
  rw [dt]
  rcases List.mem_cons.1 h with rfl | h
  ·omega
  ·have:=ih h; omega
theorem mP {t x:ab} (h:x ∈ inside t):gK x + 1<=gK t:=by rw [vu t]; have:=vt h; omega
theorem xh {l:List az} {M:aH->Int} (h0:∀ n,0<=M n) {A:Int} (hA:∀ n,M n<=A) (hA0:0<=A):∀ (k:Nat) (t:ab),SizeOf.sizeOf t < k->GT l t->0 < bm M t->WR M (A + gK t) t
 | 0,_,h,_,_=>absurd h (Nat.not_lt_zero _)
 | k + 1,t,h,hg,hp=>by
  have hw:WR M (bm M t) t:=⟨hp,Int.le_refl _⟩
  have tp:=yR t
  by_cases k12:t.kind = 12
  ·have:=(q9 k12).1 hw
   have:=hA t.name
   exact (q9 k12).2 (by omega)
  by_cases k11:t.kind = 11
  ·obtain ⟨x,hx,h1⟩:=(kY k11).1 hw
   have hi:x ∈ inside t:=List.mem_append_left _ hx
   have:=mP hi
   exact (kY k11).2 ⟨x,hx,(xh h0 hA hA0 k x (by have:=bg hi; omega) (hg.part hi) h1.1).mono (by omega)⟩
  by_cases k8:t.kind = 8
  ·rw [kj k8 h0]
   rcases (kj k8 h0).1 hw with h1 | h1
   ·exact .inl ⟨h1.1,by omega⟩
   ·refine .inr ⟨h1.1,?_⟩
    have hi:t.t.getD 0 (aD .typ) ∈ inside t:=List.mem_append_left _ (lq (hg.lt k8).2)
    have:=mP hi
    exact (xh h0 hA hA0 k _ (by have:=bg hi; omega) (hg.part hi) h1.2.1).mono (by omega)
  by_cases k10:t.kind = 10
  ·rw [mT k10 h0]
   refine ⟨by omega,fun f hf ha=>?_⟩
   have hi:f.t ∈ inside t:=List.mem_append_right _ (List.mem_map_of_mem hf)
   have h1:=((mT k10 h0).1 hw).2 f hf ha
   have:=mP hi
   exact (xh h0 hA hA0 k _ (by have:=bg hi; omega) (hg.part hi) h1.1).mono (by omega)
  ·exact (sK k12 k11 k8 k10).2 (by omega)
/-! ### wQ often ranks BB -/
def pF (l:List az) (M:aH->Int):Nat:=l.countP fun d=>decide (0 < M d.name)
theorem count_le {α:Type} {p q:α->Bool}:∀ l:List α,(∀ x ∈ l,p x = true->q x = true)->l.countP p<=l.countP q
 | [],_=>Nat.le_refl _
 | x::l,h=>by
  have ih:=count_le l fun y hy=>h y (.tail _ hy)
  have h1:=h x (.head _)
  rw [List.countP_cons,List.countP_cons]
  by_cases c:p x = true
  ·rw [if_pos c,if_pos (h1 c)]; omega
  ·rw [if_neg c]; split<;>omega
theorem zE {α:Type} {p q:α->Bool}:∀ l:List α,(∀ x ∈ l,p x = true->q x = true)->(∃ x ∈ l,p x = false/\q x = true)->l.countP p < l.countP q
 | [],_,⟨_,h,_⟩=>nomatch h
 | x::l,h,⟨y,hy,h1,h2⟩=>by
  have ih:=count_le l fun y hy=>h y (.tail _ hy)
  rw [List.countP_cons,List.countP_cons]
  rcases List.mem_cons.1 hy with rfl | hy
  ·rw [if_neg (by rw [h1]; decide),if_pos h2]; omega
  ·have ih:=zE l (fun y hy=>h y (.tail _ hy)) ⟨y,hy,h1,h2⟩
   have h3:=h x (.head _)
   by_cases c:p x = true
   ·rw [if_pos c,if_pos (h3 c)]; omega
   ·rw [if_neg c]; split<;>omega
structure Fair (l:List az) (T:Nat) (M:aH->Int):Prop where
 w:Way l M
 b:∀ n,M n<=T * pF l M
def Wm (v:Int):Nat:=if v = 0 then 20000 else v.toNat
def vF (l:List az) (M:aH->Int):Nat:=(l.map fun d=>Wm (M d.name)).sum
theorem Kn {α:Type} {f g:α->Nat}:∀ l:List α,(∀ x ∈ l,f x<=g x)->(l.map f).sum<=(l.map g).sum
 | [],_=>Nat.le_refl _
 | x::l,h=>by
  have:=Kn l fun y hy=>h y (.tail _ hy)
  have:=h x (.head _)
  rw [List.map_cons,List.sum_cons,List.map_cons,List.sum_cons]
  omega
theorem Ko {α:Type} {f g:α->Nat}:∀ l:List α,(∀ x ∈ l,f x<=g x)->(∃ x ∈ l,f x < g x)->(l.map f).sum < (l.map g).sum
 | [],_,⟨_,h,_⟩=>nomatch h
 | x::l,h,⟨y,hy,h1⟩=>by
  have h2:=Kn l fun y hy=>h y (.tail _ hy)
  have h3:=h x (.head _)
  rw [List.map_cons,List.sum_cons,List.map_cons,List.sum_cons]
  rcases List.mem_cons.1 hy with rfl | hy
  ·omega
  ·have:=Ko l (fun y hy=>h y (.tail _ hy)) ⟨y,hy,h1⟩; omega
theorem wH (l:List az) (T:Nat):Fair l T fun _=>0:=⟨Lp l,fun _=>Int.mul_nonneg (by omega) (by omega)⟩
theorem Jf (l:List az) (M:aH->Int):pF l M<=l.length:=List.countP_le_length
theorem mj {l:List az} {T:Nat} {M:aH->Int} (h:Fair l T M) (hl:l.length<=50) (hT:T<=201) (n:aH):M n<=10050:=by
 have h1:=h.b n
 have h2:=Jf l M
 have h3:T * pF l M<=201 * 50:=Nat.mul_le_mul hT (by omega)
 omega
theorem wG {l : List az} {T : Nat} (hl : ∀ d ∈ l, GT l d.t) (hT : ∀ d ∈ l, gK d.t<=T) (DP : T<=201) (hlen : l.length<=50) {M : aH -> Int} (h : Fair l T M) {n : aH} (hn : 0<=cq l n) :
  Fair l T (rN M n (bm M (bo l n)))/\(bm M (bo l n)≠M n->vF l (rN M n (bm M (bo l n))) < vF l M):=by
 obtain ⟨hw,hc⟩:=Lo hl h.w hn
 have hv:=lH h.w.so.1 (bo l n)
 have h0:=h.w.so.1
 obtain ⟨d,hd,qw,hdt⟩:=dy hn
 have hle:∀ k,0 < M k->0 < rN M n (bm M (bo l n)) k:=fun k hk=>by
  unfold rN
  split
  ·rename_i e
   subst e
   exact (h.w.up k hk).1
  ·exact hk
 have W5:pF l M<=pF l (rN M n (bm M (bo l n))):=count_le l fun x _ hx=>decide_eq_true (hle _ (of_decide_eq_true hx))
 have hmul:T * pF l M<=T * pF l (rN M n (bm M (bo l n))):=Nat.mul_le_mul_left _ W5
 have Qw:∀ k,rN M n (bm M (bo l n)) k<=T * pF l (rN M n (bm M (bo l n))):=fun k=>by
  have nf:=h.b k
  by_cases e:k = n
  ·subst e
   have e1:rN M k (bm M (bo l k)) k = bm M (bo l k):=if_pos rfl
   by_cases z:0 < bm M (bo l k)
   ·by_cases z2:0 < M k
    ·have:=(h.w.up k z2).2
     rw [e1]
     omega
    ·have hlt:pF l M < pF l (rN M k (bm M (bo l k))):=zE l (fun x _ hx=>decide_eq_true (hle _ (of_decide_eq_true hx))) ⟨d,hd,decide_eq_false (by rw [qw]; exact z2),decide_eq_true (by rw [qw,e1]; exact z)⟩
     have h3:=(xh (A:=T * pF l M) h0 h.b (Int.mul_nonneg (by omega) (by omega)) _ (bo l k) (Nat.lt_succ_self _) (GT.bo hl hn) z).2
     have h4:=hT d hd
     rw [hdt] at h4
     have h5:T * (pF l M + 1)<=T * pF l (rN M k (bm M (bo l k))):=Nat.mul_le_mul_left _ hlt
     rw [Nat.mul_add] at h5
     rw [e1]
     omega
   ·rw [e1]
    have:(0:Int)<=T * pF l (rN M k (bm M (bo l k))):=Int.mul_nonneg (by omega) (by omega)
    omega
  ·have e1:rN M n (bm M (bo l n)) k = M k:=if_neg e
   rw [e1]
   omega
 refine ⟨⟨hw,Qw⟩,fun da=>?_⟩
 obtain ⟨c1,c2⟩:=hc da
 have l1:=mj (⟨hw,Qw⟩:Fair l T (rN M n (bm M (bo l n)))) hlen DP n
 have e1:rN M n (bm M (bo l n)) n = bm M (bo l n):=if_pos rfl
 have XO:Wm (rN M n (bm M (bo l n)) n) < Wm (M n):=by
  rw [e1] at l1 ⊢
  unfold Wm
  rw [if_neg (by omega)]
  split<;>omega
 refine Ko l (fun x _=>?_) ⟨d,hd,by rw [qw]; exact XO⟩
 by_cases e:x.name = n
 ·rw [e]; omega
 ·have e2:rN M n (bm M (bo l n)) x.name = M x.name:=if_neg e
  rw [e2]
  exact Nat.le_refl _
/-! ### each ik below one is some type's -/
theorem Jd {α:Type} (f:α->Int):∀ (n:Nat) (l:List α),(∀ j:Nat,1<=j->j<=n->∃ y ∈ l,f y = j)->n<=l.length
 | 0,_,_=>Nat.zero_le _
 | n + 1,l,h=>by
  obtain ⟨y,hy,e⟩:=h (n + 1) (by omega) (Nat.le_refl _)
  obtain ⟨s,t,rfl⟩:=List.append_of_mem hy
  have:=Jd f n (s++t) fun j h1 h2=>by
   obtain ⟨z,hz,e2⟩:=h j h1 (by omega)
   refine ⟨z,?_,e2⟩
   rcases List.mem_append.1 hz with hz | hz
   ·exact List.mem_append_left _ hz
   ·rcases List.mem_cons.1 hz with rfl | hz
    ·omega
    ·exact List.mem_append_right _ hz
  rw [List.length_append] at *
  rw [List.length_cons]
  omega
theorem Jt {l:List az} {U:ab->Prop} (hU:∀ t,U t->∀ x ∈ inside t,U x) (hd:∀ d ∈ l,U d.t) (hg:∀ t,U t->GT l t) {n:Nat} {t y:ab} (h:Reach l n t y):U t->U y:=by
 induction h with
 | part t _ _=>exact id
 | union n t x y _ hx _ ih=>exact fun ht=>ih (hU t ht x (List.mem_append_left _ hx))
 | name n t y k12 _ ih =>
  intro ht
  obtain ⟨d,hm,_,e⟩:=dy ((hg t ht).name k12)
  exact ih (by rw [<- e]; exact hd d hm)
theorem Fw {l:List az} {n:Nat} {t y:ab} (h:Reach l n t y) {d:Nat}:di l d y->di l d t:=by
 induction h with
 | part t _ _=>exact id
 | union n t x y k11 hx _ ih=>exact fun hh=>wM k11 hx (ih hh)
 | name n t y k12 _ ih=>exact fun hh=>tO k12 (ih hh)
section
variable {l:List az} {M:aH->Int} {U:ab->Prop}
theorem JB (hM:Sound l M) (hs:kZ l M) (hU:∀ t,U t->∀ x ∈ inside t,U x) (hd:∀ d ∈ l,U d.t) (hg:∀ t,U t->GT l t) {t:ab} (ht:U t) {r:Nat} (hr:bm M t = ((r + 1:Nat):Int)) (h1:1<=r):∃ y,U y/\bm M y = (r:Int):=by
 have hl:∀ d ∈ l,GT l d.t:=fun d hm=>hg _ (hd d hm)
 have hw:=fun {t:ab} (ht:U t) (d:Nat)=>yW hM hs hl (hg t ht) d
 have h2:di l (r + 1) t:=(hw ht (r + 1)).1 ⟨by omega,by omega⟩
 have h3:¬ di l r t:=fun h=>by have:bm M t<=r:=((hw ht r).2 h).2; omega
 rw [di] at h2
 obtain ⟨n,y,hy,a8,a10⟩:=h2
 have uy:=Jt hU hd hg hy ht
 have ny:¬ di l r y:=fun h=>h3 (Fw hy h)
 obtain ⟨e,rfl⟩:∃ e,r = e + 1:=⟨r - 1,by omega⟩
 have key:∀ x,U x->di l (e + 1) x->¬ di l e x->bm M x = ((e + 1:Nat):Int):=fun x ux c1 c2=>by
  have d1:0 < bm M x/\bm M x<=((e + 1:Nat):Int):=(hw ux (e + 1)).2 c1
  by_cases c:bm M x<=(e:Int)
  ·exact absurd ((hw ux e).1 ⟨d1.1,c⟩) c2
  ·omega
 have n12:y.kind≠12/\y.kind≠11:=by
  clear a8 a10 uy ny h3 hr ht
  induction hy with
  | part t c1 c2=>exact ⟨c1,c2⟩
  | union _ _ _ _ _ _ _ ih=>exact ih
  | name _ _ _ _ _ ih=>exact ih
 by_cases k8:y.kind = 8
 ·have ge:=hU y uy _ (List.mem_append_left _ (lq ((hg y uy).lt k8).2))
  by_cases z:y.lo = 0
  ·refine absurd ?_ ny
   rw [di]
   exact ⟨0,y,.part y n12.1 n12.2,fun _=>.inl z,fun k=>absurd (k8.symm.trans k) (by decide)⟩
  ·refine ⟨_,ge,key _ ge ((a8 k8).resolve_left z) fun h=>ny ?_⟩
   rw [di]
   exact ⟨0,y,.part y n12.1 n12.2,fun _=>.inr h,fun k=>absurd (k8.symm.trans k) (by decide)⟩
 by_cases k10:y.kind = 10
 ·have : ∃ f ∈ y.f, gM f = true /\ ¬ di l e f.t := Classical.byContradiction fun hc => ny (by
   rw [di]
   exact ⟨0,y,.part y n12.1 n12.2,fun k=>absurd k k8,fun _ f hf ha=>Classical.byContradiction fun c=>hc ⟨f,hf,ha,c⟩⟩)
  obtain ⟨f,hf,ha,hx⟩:=this
  have uf:=hU y uy f.t (List.mem_append_right _ (List.mem_map_of_mem hf))
  exact ⟨_,uf,key _ uf (a10 k10 f hf ha) hx⟩
 ·refine absurd ?_ ny
  rw [di]
  exact ⟨0,y,.part y n12.1 n12.2,fun k=>absurd k k8,fun k=>absurd k k10⟩
theorem JA (hM:Sound l M) (hs:kZ l M) (hU:∀ t,U t->∀ x ∈ inside t,U x) (hd:∀ d ∈ l,U d.t) (hg:∀ t,U t->GT l t):∀ (k:Nat) (t:ab) (r:Nat),U t->bm M t = (r:Int)->r = k + 1->∀ j:Nat,1<=j->j<=k->∃ y,U y/\bm M y = (j:Int)
 | 0,_,_,_,_,_,_,h1,h2=>absurd h1 (by omega)
 | k + 1,t,r,ht,hr,e,j,h1,h2=>by
  obtain ⟨y,uy,hy⟩:=JB hM hs hU hd hg ht (r:=k + 1) (by rw [hr,e]) (by omega)
  by_cases c:j = k + 1
  ·exact ⟨y,uy,by rw [c]; exact hy⟩
  ·exact JA hM hs hU hd hg k y (k + 1) uy hy rfl j h1 (by omega)
theorem Q8 (hM:Sound l M) (hs:kZ l M) {L:List ab} (hU:∀ t,t ∈ L->∀ x ∈ inside t,x ∈ L) (hd:∀ d ∈ l,d.t ∈ L) (hg:∀ t,t ∈ L->GT l t) {t:ab} (ht:t ∈ L):bm M t<=(L.length:Int) + 1:=by
 have h0:=lH hM.1 t
 by_cases z:bm M t = 0
 ·omega
 obtain ⟨k,hk⟩:∃ k:Nat,bm M t = ((k + 1:Nat):Int):=⟨(bm M t).toNat - 1,by omega⟩
 have:=Jd (bm M) k L fun j h1 h2=>by
  obtain ⟨y,hy,e⟩:=JA (U:=fun x=>x ∈ L) hM hs hU hd hg k t (k + 1) ht hk rfl j h1 h2
  exact ⟨y,hy,e⟩
 omega
end
end Go.Ty
end
