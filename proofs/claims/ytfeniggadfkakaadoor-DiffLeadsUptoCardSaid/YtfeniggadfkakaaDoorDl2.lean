/-
  A part of a proof: plain laws and walks, one after the other. No conditions.
-/
import Derived.Test.YtfeniggadfkakaaDoorDl1
import Derived.Lib.ConvBytes
import Derived.Laws.IdiomStrings
import Derived.Lib.QuoteLoop
import Derived.Lib.TrimUEq
import Derived.Laws.AppendOwn
import Derived.IntWalk
import Derived.Lib.OthersKept
import Derived.MapKept
set_option linter.constructorNameAsVariable false
set_option linter.unusedVariables false
set_option linter.unusedSimpArgs false
set_option linter.unusedSectionVars false
section
namespace Go.SX
variable [Globs]
/-! ### lists -/
theorem splice_get {α : Type} {l m : List α} {p : Nat} (h : p + m.length ≤ l.length) (k : Nat) :
  (l.take p++m++l.drop (p + m.length))[k]? = if p≤k∧k < p + m.length then m[k - p]? else l[k]?:=by
 have hl:(l.take p).length = p:=by simp; omega
 by_cases h1:k < p
 ·rw [List.append_assoc,List.getElem?_append_left (by omega),List.getElem?_take,if_pos h1,if_neg (by omega)]
 ·by_cases h2:k < p + m.length
  ·rw [if_pos ⟨by omega,h2⟩,List.append_assoc,List.getElem?_append_right (by omega),hl,List.getElem?_append_left (by omega)]
  ·rw [if_neg (by omega),List.getElem?_append_right (by simp; omega),List.getElem?_drop]
   congr 1
   simp
   omega
theorem spliceL_eq {α:Type} (m:List α):∀ (l:List α) (p:Nat),p + m.length≤l.length→spliceL l p m = l.take p++m++l.drop (p + m.length):=by
 intro l
 induction l with
 | nil=>intro p h; cases p<;>simp_all [spliceL]
 | cons a r ih =>
  intro p h
  cases p with
  | zero=>simp [spliceL]
  | succ p =>
   simp only [spliceL]
   rw [ih p (by simp at h; omega)]
   simp [show p + 1 + m.length = p + m.length + 1 by omega]
theorem AVles.get {a b:List AV} (h:AVles a b) {j:Nat} {e:AV} (he:b[j]? = some e):∃ c,a[j]? = some c∧AVle c e:=by
 induction a generalizing b j with
 | nil=>cases b with
  | nil=>simp at he
  | cons _ _=>exact h.elim
 | cons z r ih=>cases b with
  | nil=>exact h.elim
  | cons y t =>
   cases j with
   | zero=>simp at he; subst he; exact ⟨z,rfl,h.1⟩
   | succ j=>exact ih h.2 (by simpa using he)

section
variable {P:Program} {N:Nat} {Γ:Ctx} {W0:World} {F:Fr} {X:Nat→Prop} {s:St} {β:Nat→Option Nat} {a:Act} {w:World}

def updE (τ:Ty) (off:Nat) (cs:List AV) (x:den τ):Option (den τ):=dec τ (spliceL (enc τ x) off cs)
theorem VecAt.turn {O : Nat → Prop} {w' : World} {id : Nat} {τ : Ty} {l : List (den τ)} {v : Value} (h : VecAt β O w id τ l v) {g : Nat} {cur : Array Value} {e : TypeId} (hg : β id = some g)
  (hh:w.heap[g]? = some (.cells cur e (0,0))) {n off:Nat} {cs:List AV} {us:List Value} (hoff:off + cs.length≤esz τ) (hcs:All2 (Im O w) cs us) (hfit:n * esz τ + off + us.length≤cur.size)
  (hh':w'.heap[g]? = some (.cells (cur.toList.take (n * esz τ + off)++us++cur.toList.drop (n * esz τ + off + us.length)).toArray e (0,0))) {x':den τ} (hx:updE τ off cs (l.getD n (dflt τ)) = some x')
  (hstep:∀ av u,Im O w av u→Im O w' av u):VecAt β O w' id τ (l.set n x') v:=by
 rcases h with ⟨_,_,h3⟩ | ⟨g',c,cur',e',h1,h2,h3,h4,h5,h6,h7⟩
 ·rw [hg] at h3; cases h3
 rw [hg] at h1; injection h1 with h1; subst h1
 rw [hh] at h3; injection h3 with h3; injection h3 with h3 h3'; subst h3 h3'
 have hul:us.length≤cur.toList.length:=by simp; omega
 have hget:=splice_get (l:=cur.toList) (m:=us) (p:=n * esz τ + off) (by simpa using hfit)
 refine .inr ⟨g,c,_,e,hg,by simpa using h2,hh',by simpa using h4,h5,?_,fun i x j av hi hj=>?_⟩
 ·simp
  rw [← h6]
  omega
 ·have hjl:j < esz τ:=by rw [← enc_length τ x]; exact (List.getElem?_eq_some_iff.1 hj).1
  simp only [List.getElem?_toArray,hget]
  by_cases hin:i = n
  ·subst hin
   have hil:i < l.length:=by
    have:=(List.getElem?_eq_some_iff.1 hi).1
    simpa using this
   rw [List.getElem?_set_self hil] at hi
   injection hi with hi
   subst hi
   have hle:=dec_le hx
   obtain ⟨c0,hc0,hle0⟩:=hle.get hj
   rw [spliceL_eq cs _ off (by rw [enc_length]; exact hoff),splice_get (by rw [enc_length]; exact hoff)] at hc0
   by_cases hjo:off≤j∧j < off + cs.length
   ·rw [if_pos hjo] at hc0
    rw [if_pos ⟨by omega,by rw [← hcs.1]; omega⟩]
    have hlt:j - off < us.length:=by rw [← hcs.1]; omega
    rw [show i * esz τ + j - (i * esz τ + off) = j - off by omega,List.getElem?_eq_getElem hlt]
    exact ⟨_,rfl,hstep _ _ (im_le (hcs.2 _ _ _ hc0 (List.getElem?_eq_getElem hlt)) hle0)⟩
   ·rw [if_neg hjo] at hc0
    rw [if_neg (by rw [← hcs.1]; omega)]
    have hl:l[i]? = some (l.getD i (dflt τ)):=by rw [List.getD_eq_getElem?_getD,List.getElem?_eq_getElem hil]; rfl
    obtain ⟨u,hu,him⟩:=h7 i _ j c0 hl hc0
    exact ⟨u,by simpa using hu,hstep _ _ (im_le him hle0)⟩
  ·rw [List.getElem?_set_ne (fun e=>hin e.symm)] at hi
   obtain ⟨u,hu,him⟩:=h7 i x j av hi hj
   rw [if_neg ?_]
   ·exact ⟨u,by simpa using hu,hstep _ _ him⟩
   ·rw [← hcs.1]
    intro ⟨h8,h9⟩
    rcases Nat.lt_or_gt_of_ne hin with h10 | h10
    ·have:(i + 1) * esz τ≤n * esz τ:=Nat.mul_le_mul_right _ h10
     rw [Nat.add_mul] at this
     omega
    ·have:(n + 1) * esz τ≤i * esz τ:=Nat.mul_le_mul_right _ h10
     rw [Nat.add_mul] at this
     omega

def updW (id i i2 n off:Nat) (τ:Ty) (cs:List AV):Ob→AV
 | .vw σ l x y => bif Nat.beq i id then (bif Nat.beq i2 id then (bif decide (σ = τ) then (match updE σ off cs (l.getD n (dflt σ)) with
   | some z=>.ob i i2 (.vw σ (l.set n z) x y)
   | none=>.x) else .x) else .x) else .x
 | .gr L k row => bif Nat.beq i id then .x else (bif decide (τ = .int) then (match updE .int off cs (row.getD n (dflt .int)) with
   | some z=>.ob i i2 (.gr L k (row.set n z))
   | none=>.x) else .x)
 | _=>.x
def updV (id n off:Nat) (τ:Ty) (cs:List AV):AV→AV
 | .vec i σ l => bif Nat.beq i id then (bif decide (σ = τ) then (match updE σ off cs (l.getD n (dflt σ)) with
   | some x=>.vec i σ (l.set n x)
   | none=>.x) else .x) else .vec i σ l
 | .vs i σ l k => bif Nat.beq i id then (bif decide (σ = τ) then (match updE σ off cs (l.getD n (dflt σ)) with
   | some x=>.vs i σ (l.set n x) k
   | none=>.x) else .x) else .vs i σ l k
 | .vp i σ l m o => bif Nat.beq i id then (bif decide (σ = τ) then (match updE σ off cs (l.getD n (dflt σ)) with
   | some x=>.vp i σ (l.set n x) m o
   | none=>.x) else .x) else .vp i σ l m o
 | .fn f caps=>bif inL id (caps.flatMap ids0) then .x else .fn f caps
 | .tup l=>bif inL id (l.flatMap ids0) then .x else .tup l
 | .ag k l=>bif inL id (l.flatMap ids0) then .x else .ag k l
 | .ob i i2 o=>bif inL id [i,i2] then updW id i i2 n off τ cs o else .ob i i2 o
 | v=>v
def optXK {α:Type}:Option α→(α→Prop)→Prop→Prop
 | some x,K,_=>K x
 | none,_,H=>H
def updWK (id i i2 n off:Nat) (τ:Ty) (cs:List AV):Ob→(AV→Prop)→Prop
 | .vw σ l x y,K=>bif Nat.beq i id then (bif Nat.beq i2 id then (bif decide (σ = τ) then optXK (updE σ off cs (l.getD n (dflt σ))) (fun z=>K (.ob i i2 (.vw σ (l.set n z) x y))) (K .x) else K .x) else K .x) else K .x
 | .gr L k row,K=>bif Nat.beq i id then K .x else (bif decide (τ = .int) then optXK (updE .int off cs (row.getD n (dflt .int))) (fun z=>K (.ob i i2 (.gr L k (row.set n z)))) (K .x) else K .x)
 | _,K=>K .x
theorem updWK_eq (id i i2 n off:Nat) (τ:Ty) (cs:List AV) (o:Ob) (K:AV→Prop):updWK id i i2 n off τ cs o K = K (updW id i i2 n off τ cs o):=by
 cases o with
 | vw σ l x y =>
  simp only [updWK,updW]
  cases Nat.beq i id<;>cases Nat.beq i2 id<;>cases decide (σ = τ)<;>(try rfl)
  simp only [cond_true]
  cases updE σ off cs (l.getD n (dflt σ))<;>rfl
 | gr L k row =>
  simp only [updWK,updW]
  cases Nat.beq i id<;>cases decide (τ = .int)<;>(try rfl)
  simp only [cond_true,cond_false]
  cases updE .int off cs (row.getD n (dflt .int))<;>rfl
 | _=>rfl
theorem updW_ids (id i i2 n off:Nat) (τ:Ty) (cs:List AV) (o:Ob) (m:Nat) (h:m ∈ ids (updW id i i2 n off τ cs o)):m ∈ ids (.ob i i2 o):=by
 cases o with
 | vw σ l x y =>
  simp only [updW] at h
  cases h1:Nat.beq i id<;>cases h2:Nat.beq i2 id<;>cases h3:decide (σ = τ)<;>simp only [h1,h2,h3,cond_true,cond_false] at h<;>(try exact h)<;>(try (simp [ids,ids0] at h; done))
  split at h
  ·exact h
  ·simp [ids,ids0] at h
 | gr L k row =>
  simp only [updW] at h
  cases h1:Nat.beq i id<;>cases h3:decide (τ = .int)<;>simp only [h1,h3,cond_true,cond_false] at h<;>(try exact h)<;>(try (simp [ids,ids0] at h; done))
  split at h
  ·exact h
  ·simp [ids,ids0] at h
 | _=>simp [updW,ids,ids0] at h
def updVK (id n off:Nat) (τ:Ty) (cs:List AV):AV→(AV→Prop)→Prop
 | .vec i σ l,K=>bif Nat.beq i id then (bif decide (σ = τ) then optXK (updE σ off cs (l.getD n (dflt σ))) (fun x=>K (.vec i σ (l.set n x))) (K .x) else K .x) else K (.vec i σ l)
 | .vs i σ l k,K=>bif Nat.beq i id then (bif decide (σ = τ) then optXK (updE σ off cs (l.getD n (dflt σ))) (fun x=>K (.vs i σ (l.set n x) k)) (K .x) else K .x) else K (.vs i σ l k)
 | .vp i σ l m o,K=>bif Nat.beq i id then (bif decide (σ = τ) then optXK (updE σ off cs (l.getD n (dflt σ))) (fun x=>K (.vp i σ (l.set n x) m o)) (K .x) else K .x) else K (.vp i σ l m o)
 | .fn f caps,K=>bif inL id (caps.flatMap ids0) then K .x else K (.fn f caps)
 | .tup l,K=>bif inL id (l.flatMap ids0) then K .x else K (.tup l)
 | .ag k l,K=>bif inL id (l.flatMap ids0) then K .x else K (.ag k l)
 | .ob i i2 o,K=>bif inL id [i,i2] then updWK id i i2 n off τ cs o K else K (.ob i i2 o)
 | v,K=>K v
theorem updVK_eq (id n off:Nat) (τ:Ty) (cs:List AV) (v:AV) (K:AV→Prop):updVK id n off τ cs v K = K (updV id n off τ cs v):=by
 cases v with
 | vec i σ l =>
  simp only [updVK,updV]
  cases Nat.beq i id<;>cases decide (σ = τ)<;>(try rfl)
  simp only [cond_true]
  cases updE σ off cs (l.getD n (dflt σ))<;>rfl
 | vs i σ l k =>
  simp only [updVK,updV]
  cases Nat.beq i id<;>cases decide (σ = τ)<;>(try rfl)
  simp only [cond_true]
  cases updE σ off cs (l.getD n (dflt σ))<;>rfl
 | vp i σ l m o =>
  simp only [updVK,updV]
  cases Nat.beq i id<;>cases decide (σ = τ)<;>(try rfl)
  simp only [cond_true]
  cases updE σ off cs (l.getD n (dflt σ))<;>rfl
 | fn f caps=>simp only [updVK,updV]; cases inL id (caps.flatMap ids0)<;>rfl
 | tup l=>simp only [updVK,updV]; cases inL id (l.flatMap ids0)<;>rfl
 | ag k l=>simp only [updVK,updV]; cases inL id (l.flatMap ids0)<;>rfl
 | ob i i2 o =>
  simp only [updVK,updV]
  cases inL id [i,i2] with
  | true=>exact updWK_eq ..
  | false=>rfl
 | _=>rfl
theorem updV_ids (id n off:Nat) (τ:Ty) (cs:List AV) (av:AV) (m:Nat) (h:m ∈ ids (updV id n off τ cs av)):m ∈ ids av:=by
 cases av with
 | vec i σ l =>
  simp only [updV] at h
  cases h1:Nat.beq i id<;>cases h2:decide (σ = τ)<;>simp only [h1,h2,cond_true,cond_false] at h<;>(try exact h)<;>(try (simp [ids,ids0] at h; done))
  split at h
  ·exact h
  ·simp [ids,ids0] at h
 | vs i σ l k =>
  simp only [updV] at h
  cases h1:Nat.beq i id<;>cases h2:decide (σ = τ)<;>simp only [h1,h2,cond_true,cond_false] at h<;>(try exact h)<;>(try (simp [ids,ids0] at h; done))
  split at h
  ·exact h
  ·simp [ids,ids0] at h
 | vp i σ l k o =>
  simp only [updV] at h
  cases h1:Nat.beq i id<;>cases h2:decide (σ = τ)<;>simp only [h1,h2,cond_true,cond_false] at h<;>(try exact h)<;>(try (simp [ids,ids0] at h; done))
  split at h
  ·exact h
  ·simp [ids,ids0] at h
 | fn f caps=>simp only [updV] at h; cases h1:inL id (caps.flatMap ids0)<;>simp only [h1,cond_true,cond_false] at h<;>first | exact h | simp [ids,ids0] at h
 | tup caps=>simp only [updV] at h; cases h1:inL id (caps.flatMap ids0)<;>simp only [h1,cond_true,cond_false] at h<;>first | exact h | simp [ids,ids0] at h
 | ag k caps=>simp only [updV] at h; cases h1:inL id (caps.flatMap ids0)<;>simp only [h1,cond_true,cond_false] at h<;>first | exact h | simp [ids,ids0] at h
 | ob i i2 o=>simp only [updV] at h; cases h1:inL id [i,i2]<;>simp only [h1,cond_true,cond_false] at h<;>first | exact h | exact updW_ids _ _ _ _ _ _ _ _ _ h
 | _=>exact h

theorem InvB.turn (h : InvB W0 F X N s β a w) {id g : Nat} (hN : Nm s id) (hg : β id = some g) {w' : World} (hst : Stp (fun k => k = g) w w') (f : AV → AV) (hfx : f .x = .x)
  (hf:∀ av v,(∀ n ∈ ids av,Nm s n)→Rel β (Own X s β) w av v→Rel β (Own X s β) w' (f av) v) (hids:∀ av m,m ∈ ids (f av)→m ∈ ids av∨Nm s m) :
  InvB W0 F X N ((s.map f).delBox id) β a w':=by
 have hbx:∀ n cs,lookB ((s.map f).delBox id).boxes n = some cs→n≠id∧∃ cs',lookB s.boxes n = some cs'∧cs = cs'.map f:=by
  intro n cs hc
  simp only [St.delBox,St.map,lookB_delL,lookB_mapB] at hc
  split at hc
  ·cases hc
  ·rename_i hne
   obtain ⟨cs',h1,rfl⟩:=Option.map_eq_some_iff.1 hc
   exact ⟨fun e=>hne e.symm,cs',h1,mapC_eq _ _⟩
 have hNm:∀ n,Nm ((s.map f).delBox id) n→Nm s n:=by
  rintro n (⟨cs,h⟩ | ⟨m,h⟩ | ⟨b,cs,h,c,hc,hn⟩)
  ·obtain ⟨_,cs',h1,_⟩:=hbx _ _ h
   exact .inl ⟨cs',h1⟩
  ·simp only [St.delBox,St.map,look_mapV f hfx] at h
   exact (hids _ _ h).elim (fun h=>.inr (.inl ⟨m,h⟩)) (fun h=>h)
  ·obtain ⟨_,cs',h1,rfl⟩:=hbx _ _ h
   obtain ⟨c',hc',rfl⟩:=List.mem_map.1 hc
   exact (hids _ _ hn).elim (fun hn=>.inr (.inr ⟨b,cs',h1,c',hc',hn⟩)) (fun h=>h)
 have hO:∀ k,Own X ((s.map f).delBox id) β k→Own X s β k:=fun k hk=>hk.imp _root_.id fun ⟨n,hn,hb⟩=>⟨n,hNm n hn,hb⟩
 refine h.upd hst (fun k _ e=>⟨id,hN,e ▸ hg⟩) (fun n=>?_) (fun n cs hcs=>?_) (fun n m g hn hm=>h.inj n m g (hNm n hn) (hNm m hm)) (fun n g' hn hg'=>?_) rfl rfl (fun n cs g' hc hp=>by
  obtain ⟨_,cs',h1,_⟩:=hbx _ _ hc
  exact h.pin n cs' g' h1 hp)
 ·simp only [St.delBox,St.map,look_mapV f hfx]
  exact (hf _ _ (fun k hk=>.inr (.inl ⟨n,hk⟩)) (h.slots n)).mono hO
 ·obtain ⟨hne,cs',h1,rfl⟩:=hbx _ _ hcs
  obtain ⟨g',us,e,h2,h3,h4⟩:=h.boxes n cs' h1
  have hNn:Nm s n:=.inl ⟨cs',h1⟩
  refine ⟨g',us,e,h2,(hst.block g' (h.own n g' hNn h2).1 (fun e=>hne ?_)).trans h3,by simpa using h4.1,fun j c v hc hv=>?_⟩
  ·subst e; exact h.inj n id g' hNn hN h2 hg
  ·rw [List.getElem?_map,Option.map_eq_some_iff] at hc
   obtain ⟨c',hc',rfl⟩:=hc
   exact ⟨(hf _ _ (fun k hk=>.inr (.inr ⟨n,cs',h1,c',List.mem_of_getElem? hc',hk⟩)) (h4.2 j c' v hc' hv).1).mono hO,(h4.2 j c' v hc' hv).2⟩
 ·obtain ⟨h1,h2⟩:=h.own n g' (hNm n hn) hg'
  exact ⟨Nat.lt_of_lt_of_le h1 hst.size,h2⟩

def storeVpK (s:St) (id:Nat) (τ:Ty) (n off cells:Nat) (v:AV) (K:St→Prop):Prop :=
 cellsK v fun cs=>chkK (Nat.beq cs.length cells) (chkK (Nat.ble (off + cells) (esz τ)) (plainCK cs fun cs =>
  mapVK (updVK id n off τ cs) s.slots fun sl=>mapBK (updVK id n off τ cs) s.boxes fun b=>delLK b id fun b=>K ⟨sl,b⟩))
theorem storeVp_ok (hI : InvB W0 F X N s β a w) {o : Oper} {t : TypeId} {x y : Operand} (ho : o.op = .store t x y) {ti : TI} (hti : ti.ok P t) {id n off : Nat} {τ : Ty} {l : List (den τ)}
  (hx:Rel β (Own X s β) w (.vp id τ l n off) (a.eval x)) (hNm:Nm s id) {v:AV}
  (hy:Rel β (Own X s β) w v (a.eval y)) (hids:∀ n ∈ ids v,Nm s n) {K:St→Prop} (h:storeVpK s id τ n off ti.cells v K) :
  ∃ s' w',K s'∧InvB W0 F X N s' β a w'∧(execOp a.eval o).run P w = .ok .skip w':=by
 obtain ⟨cs,h,h1,h2,h3⟩:=cells_ok hy hids h
 simp only [chkK_iff] at h
 obtain ⟨hc,hoff,h⟩:=h
 rw [plainCK_eq,mapVK_eq (updVK_eq id n off τ _),mapBK_eq (updVK_eq id n off τ _),delLK_eq] at h
 have hc:=Nat.eq_of_beq_eq_true hc
 have hoff:=Nat.le_of_ble_eq_true hoff
 obtain ⟨h0,⟨g,hg,hp⟩,v',hv'⟩:=hx
 have hvv:=hv'
 rcases hvv with ⟨rfl,_,_⟩ | ⟨g',c,cur,e,h4,h5,h6,h7,h8,h9,h10⟩
 ·simp at h0
 rw [hg] at h4; injection h4 with h4; subst h4
 have hpl:All2 (Im (Own X s β) w) (plainC cs) (a.eval y).cells.toList:=plainC_im (h1.mono fun _ _ _ _ h=>h.1)
 have hlen:cs.length = (a.eval y).cells.size:=by rw [h1.1]; simp
 have hfit:n * esz τ + off + (a.eval y).cells.size≤cur.size:=by
  have:(n + 1) * esz τ≤c * esz τ:=Nat.mul_le_mul_right _ (by omega)
  rw [Nat.add_mul] at this
  omega
 have hrun:=storeVar_run (w:=w) hti h6 (off:=n * esz τ + off) (v:=a.eval y) (by rw [← hlen]; exact hc) hfit h3
 have hst:=Stp.setRow w g (cur.toList.take (n * esz τ + off)++(a.eval y).cells.toList++cur.toList.drop (n * esz τ + off + (a.eval y).cells.size)).toArray
 have hh':=setRow_heap w g cur (cur.toList.take (n * esz τ + off)++(a.eval y).cells.toList++cur.toList.drop (n * esz τ + off + (a.eval y).cells.size)).toArray e _ h6
 have hOg:∀ k,k < w.heap.size→k = g→Own X s β k:=fun k _ e=>.inr ⟨id,hNm,e ▸ hg⟩
 have himst:∀ av u,Im (Own X s β) w av u→Im (Own X s β) (w.setRow g (cur.toList.take (n * esz τ + off)++(a.eval y).cells.toList++cur.toList.drop (n * esz τ + off + (a.eval y).cells.size)).toArray) av u :=
  fun av u him=>him.step hst hOg (fun _ _ h=>h)
 have hturn : ∀ {m : List (den τ)} {u : Value} {x' : den τ}, VecAt β (Own X s β) w id τ m u → updE τ off (plainC cs) (m.getD n (dflt τ)) = some x' →
   VecAt β (Own X s β) (w.setRow g (cur.toList.take (n * esz τ + off)++(a.eval y).cells.toList++cur.toList.drop (n * esz τ + off + (a.eval y).cells.size)).toArray) id τ (m.set n x') u:=fun hv hx =>
  hv.turn hg h6 (us:=(a.eval y).cells.toList) (by rw [hpl.1]; simp; omega) hpl (by simpa using hfit) (by simpa using hh') hx himst
 have hkeep : ∀ {av : AV} {v : Value}, (∀ k ∈ ids av, Nm s k) → id ∉ vids av → Rel β (Own X s β) w av v →
   Rel β (Own X s β) (w.setRow g (cur.toList.take (n * esz τ + off)++(a.eval y).cells.toList++cur.toList.drop (n * esz τ + off + (a.eval y).cells.size)).toArray) av v:=fun hav hnv hrel =>
  hrel.step hst hOg (fun _ _ h=>h) (fun _ _=>rfl) (fun m hm g' hg'=>hst.block g' (hI.own m g' (hav m (vids_ids hm)) hg').1 (fun e=>hnv (by
   subst e; rw [hI.inj id m g' hNm (hav m (vids_ids hm)) hg hg']; exact hm)))
 refine ⟨_,_,h,hI.turn (f:=updV id n off τ (plainC cs)) hNm hg hst rfl (fun av u hav hrel=>?_) (fun av m h=>.inl (updV_ids id n off τ _ av m h)),by simp [execOp,ho,hp,Instr.storeAt,Instr.sureAddr,hrun]⟩
 cases av with
 | vec i σ m =>
  by_cases hi:i = id
  ·subst hi
   simp only [updV,Nat.beq_refl,cond_true]
   by_cases hσ:σ = τ
   ·subst hσ
    simp only [decide_true,cond_true]
    split
    ·rename_i x' hx'; exact hturn hrel hx'
    ·exact Rel.x
   ·simp only [hσ,decide_false,cond_false]; exact Rel.x
  ·simp only [updV,nbeq_ne hi,cond_false]
   exact hkeep hav (by simp [vids,vids0]; exact fun e=>hi e.symm) hrel
 | vs i σ m k =>
  by_cases hi:i = id
  ·subst hi
   simp only [updV,Nat.beq_refl,cond_true]
   by_cases hσ:σ = τ
   ·subst hσ
    simp only [decide_true,cond_true]
    split
    ·rename_i x' hx'
     obtain ⟨k0,k1,k2,k3⟩:=hrel
     exact ⟨by simpa using k0,k1,hturn k2 hx',k3⟩
    ·exact Rel.x
   ·simp only [hσ,decide_false,cond_false]; exact Rel.x
  ·simp only [updV,nbeq_ne hi,cond_false]
   exact hkeep hav (by simp [vids,vids0]; exact fun e=>hi e.symm) hrel
 | vp i σ m k o' =>
  by_cases hi:i = id
  ·subst hi
   simp only [updV,Nat.beq_refl,cond_true]
   by_cases hσ:σ = τ
   ·subst hσ
    simp only [decide_true,cond_true]
    split
    ·rename_i x' hx'
     obtain ⟨k0,k1,u',k2⟩:=hrel
     exact ⟨by simpa using k0,k1,u',hturn k2 hx'⟩
    ·exact Rel.x
   ·simp only [hσ,decide_false,cond_false]; exact Rel.x
  ·simp only [updV,nbeq_ne hi,cond_false]
   exact hkeep hav (by simp [vids,vids0]; exact fun e=>hi e.symm) hrel
 | fn f caps =>
  simp only [updV]
  cases hin:inL id (caps.flatMap ids0) with
  | true=>exact Rel.x
  | false=>exact hkeep hav (fun hm=>by rw [(inL_iff id (caps.flatMap ids0)).2 (vids_ids hm)] at hin; cases hin) hrel
 | tup caps =>
  simp only [updV]
  cases hin:inL id (caps.flatMap ids0) with
  | true=>exact Rel.x
  | false=>exact hkeep hav (fun hm=>by rw [(inL_iff id (caps.flatMap ids0)).2 (vids_ids hm)] at hin; cases hin) hrel
 | ag k caps =>
  simp only [updV]
  cases hin:inL id (caps.flatMap ids0) with
  | true=>exact Rel.x
  | false=>exact hkeep hav (fun hm=>by rw [(inL_iff id (caps.flatMap ids0)).2 (vids_ids hm)] at hin; cases hin) hrel
 | ob i i2 o =>
  simp only [updV]
  cases hin:inL id [i,i2] with
  | true =>
   cases o with
   | vw σ m x y =>
    by_cases hi:i = id
    ·subst hi
     by_cases hi2:i2 = i
     ·subst hi2
      simp only [updW,Nat.beq_refl,cond_true]
      by_cases hσ:σ = τ
      ·subst hσ
       simp only [decide_true,cond_true]
       split
       ·rename_i x' hx'
        obtain ⟨g1,c1,k1,k2,k3,k4,k5,k6⟩:=(show ObAt β (Own X s β) w i2 i2 (.vw σ m x y) u from hrel)
        exact ⟨g1,c1,k1,k2,k3,by simpa using k4,k5,by simpa using hturn k6 hx'⟩
       ·exact Rel.x
      ·simp only [hσ,decide_false,cond_false]; exact Rel.x
     ·simp only [updW,Nat.beq_refl,cond_true,nbeq_ne hi2,cond_false]; exact Rel.x
    ·simp only [updW,nbeq_ne hi,cond_false]; exact Rel.x
   | gr L k row =>
    by_cases hi:i = id
    ·subst hi; simp only [updW,Nat.beq_refl,cond_true]; exact Rel.x
    ·simp only [updW,nbeq_ne hi,cond_false,cond_true]
     by_cases hσ:τ = .int
     ·subst hσ
      simp only [decide_true,cond_true]
      split
      ·rename_i x' hx'
       have hi2:i2 = id:=by
        have:=(inL_iff id [i,i2]).1 hin
        simp only [List.mem_cons,List.not_mem_nil,or_false] at this
        exact (this.resolve_left fun e=>hi e.symm).symm
       subst hi2
       obtain ⟨g1,c1,cur1,e1,k1,k2,k3,k4,k5,k6,k7,k8⟩:=(show GrAt β (Own X s β) w i i2 L k row u from hrel)
       have hgg:g1≠g:=fun e=>by subst e; exact hi (hI.inj i i2 g1 (hav i (by simp [ids,ids0])) hNm k1 hg)
       refine ⟨g1,c1,cur1,e1,k1,k2,(hst.block g1 (hI.own i g1 (hav i (by simp [ids,ids0])) k1).1 hgg).trans k3,k4,k5,k6,fun j l hj hne=>?_,fun hk=>?_⟩
       ·obtain ⟨y,hy,him⟩:=k7 j l hj hne
        exact ⟨y,hy,himst _ _ him⟩
       ·obtain ⟨y,hy,hv⟩:=k8 hk
        exact ⟨y,hy,hturn hv hx'⟩
      ·exact Rel.x
     ·simp only [hσ,decide_false,cond_false]; exact Rel.x
   | _=>exact Rel.x
  | false=>exact hkeep hav (fun hm=>by rw [(inL_iff id [i,i2]).2 hm] at hin; cases hin) hrel
 | _=>exact hkeep hav (fun h=>nomatch h) hrel

/-! ### a row of the call's own is put into an own slice of lists -/
def toGr0 (id r n:Nat) (row:List Int):(σ:Ty)→List (den σ)→AV
 | .ints,l=>.ob id r (.gr l n row)
 | _,_=>.x
def toGr (id r n:Nat) (row:List Int):AV→AV
 | .vec i σ l=>bif Nat.beq i id then toGr0 id r n row σ l else .vec i σ l
 | v=>bif inL id (vids v) then .x else v
def toGr0K (id r n:Nat) (row:List Int):(σ:Ty)→List (den σ)→(AV→Prop)→Prop
 | .ints,l,K=>K (.ob id r (.gr l n row))
 | _,_,K=>K .x
def toGrK (id r n:Nat) (row:List Int):AV→(AV→Prop)→Prop
 | .vec i σ l,K=>bif Nat.beq i id then toGr0K id r n row σ l K else K (.vec i σ l)
 | v,K=>bif inL id (vids v) then K .x else K v
theorem toGrK_eq (id r n:Nat) (row:List Int) (v:AV) (K:AV→Prop):toGrK id r n row v K = K (toGr id r n row v):=by
 cases v with
 | vec i σ l =>
  simp only [toGrK,toGr]
  cases Nat.beq i id with
  | true=>cases σ<;>rfl
  | false=>rfl
 | i k n=>rfl
 | b x=>rfl
 | s x=>rfl
 | nl=>rfl
 | rd τ l=>rfl
 | rp cs=>rfl
 | pt m o=>rfl
 | agg cs=>rfl
 | np=>rfl
 | er e=>rfl
 | x=>rfl
 | vp i τ l m o=>simp only [toGrK,toGr]; cases inL id (vids (.vp i τ l m o))<;>rfl
 | tup cs=>simp only [toGrK,toGr]; cases inL id (vids (.tup cs))<;>rfl
 | fn f cs=>simp only [toGrK,toGr]; cases inL id (vids (.fn f cs))<;>rfl
 | vs i τ l k=>simp only [toGrK,toGr]; cases inL id (vids (.vs i τ l k))<;>rfl
 | ag k cs=>simp only [toGrK,toGr]; cases inL id (vids (.ag k cs))<;>rfl
 | ob i i2 o=>simp only [toGrK,toGr]; cases inL id (vids (.ob i i2 o))<;>rfl
theorem toGr_ids (id r n:Nat) (row:List Int) (av:AV) (m:Nat) (h:m ∈ ids (toGr id r n row av)):m ∈ ids av∨m = r:=by
 have gen:∀ v:AV,m ∈ ids (bif inL id (vids v) then .x else v)→m ∈ ids v:=fun v h=>by
  cases hb:inL id (vids v)<;>rw [hb] at h
  ·exact h
  ·simp [ids,ids0] at h
 cases av with
 | vec i σ l =>
  simp only [toGr] at h
  cases hb:Nat.beq i id<;>rw [hb] at h
  ·exact .inl h
  ·have:=Nat.eq_of_beq_eq_true hb
   subst this
   cases σ<;>first | (simp [toGr0,ids,ids0] at h; done) | skip
   simp only [cond_true,toGr0,ids,ids0,List.mem_cons,List.not_mem_nil,or_false] at h
   rcases h with rfl | rfl
   ·exact .inl (by simp [ids,ids0])
   ·exact .inr rfl
 | _=>exact .inl (gen _ h)
def storeGrK (s:St) (id r n:Nat) (row:List Int) (cells:Nat) (K:St→Prop):Prop :=
 chkK (Nat.beq cells 1) (chkK (!(Nat.beq id r)) (mapVK (toGrK id r n row) s.slots fun sl=>mapBK (toGrK id r n row) s.boxes fun b=>delLK b id fun b=>K ⟨sl,b⟩))
theorem storeGr_ok (hI : InvB W0 F X N s β a w) {o : Oper} {t : TypeId} {x y : Operand} (ho : o.op = .store t x y) {ti : TI} (hti : ti.ok P t) {id n r : Nat} {l : List (List Int)} {row : List Int}
  (hx:Rel β (Own X s β) w (.vp id .ints l n 0) (a.eval x)) (hNm:Nm s id) (hy:Rel β (Own X s β) w (.vec r .int row) (a.eval y)) (hNr:Nm s r) {K:St→Prop} (h:storeGrK s id r n row ti.cells K) :
  ∃ s' w',K s'∧InvB W0 F X N s' β a w'∧(execOp a.eval o).run P w = .ok .skip w':=by
 obtain ⟨hc,h⟩:=(chkK_iff _ _).1 h
 obtain ⟨hne,h⟩:=(chkK_iff _ _).1 h
 have hne:id≠r:=fun e=>by subst e; rw [Nat.beq_refl] at hne; cases hne
 rw [mapVK_eq (toGrK_eq id r n row),mapBK_eq (toGrK_eq id r n row),delLK_eq] at h
 have hc:=Nat.eq_of_beq_eq_true hc
 obtain ⟨h0,⟨g,hg,hp⟩,v',hv'⟩:=hx
 have hvv:=hv'
 rcases hvv with ⟨rfl,_,_⟩ | ⟨g',c,cur,e,h4,h5,h6,h7,h8,h9,h10⟩
 ·simp at h0
 rw [hg] at h4; injection h4 with h4; subst h4
 have hv:VecAt β (Own X s β) w r .int row (a.eval y):=hy
 have hcl:(a.eval y).cells = #[a.eval y]∧(a.eval y).oneCell' = true:=by
  have hv1:=hv
  rcases hv1 with ⟨_,e,_⟩ | ⟨_,_,_,_,_,e,_⟩<;>rw [e]<;>exact ⟨rfl,rfl⟩
 have h9:cur.size = c:=by simpa [esz] using h9
 have hfit:n * 1 + 0 + 1≤cur.size:=by omega
 have hrun:=storeVar_run (w:=w) hti h6 (off:=n) (v:=a.eval y) (by rw [hcl.1]; simpa using hc.symm) (by rw [hcl.1]; simp; omega) (by rw [hcl.1]; intro z hz; simp at hz; subst hz; exact hcl.2)
 rw [hcl.1] at hrun
 have hst:=Stp.setRow w g (cur.toList.take n++[a.eval y]++cur.toList.drop (n + 1)).toArray
 have hh':=setRow_heap w g cur (cur.toList.take n++[a.eval y]++cur.toList.drop (n + 1)).toArray e _ h6
 have hOg:∀ k,k < w.heap.size→k = g→Own X s β k:=fun k _ e=>.inr ⟨id,hNm,e ▸ hg⟩
 have himst:∀ av u,Im (Own X s β) w av u→Im (Own X s β) (w.setRow g (cur.toList.take n++[a.eval y]++cur.toList.drop (n + 1)).toArray) av u :=
  fun av u him=>him.step hst hOg (fun _ _ h=>h)
 have hkeep : ∀ {av : AV} {v : Value}, (∀ k ∈ ids av, Nm s k) → id ∉ vids av → Rel β (Own X s β) w av v →
   Rel β (Own X s β) (w.setRow g (cur.toList.take n++[a.eval y]++cur.toList.drop (n + 1)).toArray) av v:=fun hav hnv hrel =>
  hrel.step hst hOg (fun _ _ h=>h) (fun _ _=>rfl) (fun m hm g' hg'=>hst.block g' (hI.own m g' (hav m (vids_ids hm)) hg').1 (fun e=>hnv (by
   subst e; rw [hI.inj id m g' hNm (hav m (vids_ids hm)) hg hg']; exact hm)))
 have hrow:VecAt β (Own X s β) (w.setRow g (cur.toList.take n++[a.eval y]++cur.toList.drop (n + 1)).toArray) r .int row (a.eval y) :=
  hkeep (av := .vec r .int row) (fun k hk => by have : k = r := by simpa [ids, ids0] using hk
                                                subst this; exact hNr) (by simpa [vids,vids0] using hne) hv
 have hget:=splice_get (l:=cur.toList) (m:=[a.eval y]) (p:=n) (by simp; omega)
 refine ⟨_,_,h,hI.turn (f:=toGr id r n row) hNm hg hst rfl (fun av u hav hrel=>?_) (fun av m h=>(toGr_ids id r n row av m h).imp_right fun (e:m = r)=>e ▸ hNr),by
  have hp:a.eval x = .pointer (some ⟨g,n,none⟩):=by simpa [esz] using hp
  simp only [execOp,ho,hp,Instr.storeAt,Instr.sureAddr]
  simp [hrun]⟩
 have gen:∀ v:AV,v = av→toGr id r n row v = (bif inL id (vids v) then .x else v)→Rel β (Own X s β) (w.setRow g (cur.toList.take n++[a.eval y]++cur.toList.drop (n + 1)).toArray) (toGr id r n row av) u:=fun v e1 e2=>by
  subst e1
  rw [e2]
  cases hb:inL id (vids v) with
  | true=>exact Rel.x
  | false=>exact hkeep hav (fun hm=>by rw [(inL_iff id (vids v)).2 hm] at hb; cases hb) hrel
 cases av with
 | vec i σ m =>
  by_cases hi:i = id
  ·subst hi
   simp only [toGr,Nat.beq_refl,cond_true]
   cases σ with
   | ints =>
    rcases (show VecAt β (Own X s β) w i .ints m u from hrel) with ⟨_,_,q⟩ | ⟨g2,c2,cur2,e2,k1,k2,k3,k4,k5,k6,k7⟩
    ·rw [hg] at q; cases q
    rw [hg] at k1; injection k1 with k1; subst k1
    rw [h6] at k3; injection k3 with k3; injection k3 with k3 k3'; subst k3 k3'
    refine ⟨g,c2,_,e,hg,k2,hh',k4,k5,?_,fun j x hj hjn=>?_,fun hn=>⟨a.eval y,?_,hrow⟩⟩
    ·have k6:cur.size = c2:=by simpa [esz] using k6
     simp
     omega
    ·obtain ⟨z,hz,him⟩:=k7 j x 0 (.rd .int x) hj rfl
     refine ⟨z,?_,himst _ _ him⟩
     simp only [List.getElem?_toArray]
     have:=hget j
     simp only [List.length_cons,List.length_nil,Nat.zero_add] at this
     rw [this,if_neg (by omega)]
     simpa [esz] using hz
    ·simp only [List.getElem?_toArray]
     have:=hget n
     simp only [List.length_cons,List.length_nil,Nat.zero_add] at this
     rw [this,if_pos (by omega)]
     simp
   | _=>exact Rel.x
  ·simp only [toGr,nbeq_ne hi,cond_false]
   exact hkeep hav (by simp [vids,vids0]; exact fun e=>hi e.symm) hrel
 | _=>exact gen _ rfl rfl
end
end Go.SX
end
section
namespace Go.SX
variable [Globs]
section
variable {P:Program} {N:Nat} {Γ:Ctx} {W0:World} {F:Fr} {X:Nat→Prop} {s:St} {β:Nat→Option Nat} {a:Act} {w:World}

theorem push_loop {P : Program} {w : World} (f : Value → ByteArray → Sem (ForInStep ByteArray)) (l : List Int) (hf : ∀ n b, f (.int .u8 n) b = pure (.yield (b.push (UInt8.ofNat n.toNat)))) : ∀ (b : ByteArray),
  Sem.run P (forIn (l.map fun n=>Value.int .u8 n) b f) w = .ok ⟨(b.data.toList++l.map ofB).toArray⟩ w:=by
 induction l with
 | nil=>intro b; simp
 | cons n l ih =>
  intro b
  simp only [List.map_cons,List.forIn_cons,hf,Sem.run_bind,Sem.run_pure,Result.andThen_ok]
  rw [ih]
  simp [ByteArray.push,ofB]
theorem bytes_run {P:Program} {O:Nat→Prop} {l:List Int} {v:Value} (h:Im O w (.rd .u8 l) v) (w':World) (hw:w'.heap = w.heap):(Conv.bytesToString v).run P w' = .ok (.string ⟨(l.map ofB).toArray⟩) w':=by
 obtain ⟨A,c,us,rfl,h1,h2,h3⟩:=src_cells h
 have hus:us = l.map fun n=>Value.int .u8 n:=by
  have hf:∀ (l:List Int),flat .u8 l = l.map fun n=>AV.i .u8 n:=by
   intro l; induction l with
   | nil=>rfl
   | cons n l ih=>simp only [flat,List.flatMap_cons,List.map_cons] at ih ⊢; rw [ih]; rfl
  rw [hf] at h1
  have h1:All2 (Im O w) (l.map fun n=>AV.i .u8 n) us:=h1
  clear h h2 h3 hf
  induction l generalizing us with
  | nil=>exact h1.nil_inv
  | cons n l ih =>
   obtain ⟨u,us',rfl,h4,h5⟩:=h1.cons_inv
   cases h4
   rw [ih _ h5 h5]; rfl
 cases A with
 | none =>
  have:l = []:=by
   have h3:=h3 w' hw
   cases l with
   | nil=>rfl
   | cons n l=>exfalso; cases h
  subst this
  rfl
 | some A =>
  have h3:=h3 w' hw
  have h3:(loadCells A (l.length * esz .u8)).run P w' = .ok us.toArray w':=h3
  have h4:(loadCells A l.length).run P w' = .ok us.toArray w':=by simpa [esz] using h3
  rw [hus] at h4
  simp only [Conv.bytesToString,Sem.run_bind,h4,Result.andThen_ok]
  simp only [List.forIn_toArray]
  rw [push_loop]
  ·simp
  ·intro n b; rfl
theorem convA_cases {sd d : TD} {v : AV} {K : AV → Prop} (h : convAK Γ sd d v K) :
  convK d v K∨(∃ e l,sd = .slice e∧d = .str∧(v = .rd .u8 l∨∃ id,v = .vec id .u8 l)∧tiK Γ e fun te=>chkK (isU8T te.desc) (K (.s (l.map ofB)))) ∨
   ∃ e l,d = .slice e∧v = .s l∧chkK (isStrT sd) (tiK Γ e fun te=>convSK te.desc l K):=by
 unfold convAK at h
 split at h
 ·exact .inr (.inl ⟨_,_,rfl,rfl,.inl rfl,h⟩)
 ·exact .inr (.inl ⟨_,_,rfl,rfl,.inr ⟨_,rfl⟩,h⟩)
 ·exact .inr (.inr ⟨_,_,rfl,rfl,h⟩)
 ·exact .inl h
theorem bytes_stp (w:World) (e:TypeId) (s:ByteArray):Stp (fun _=>False) w (Lib.bytesWorld w e s) :=
 ⟨rfl,rfl,rfl,by rw [Lib.bytesWorld_size]; omega,fun k hk _=>Lib.bytesWorld_at_old w e s k hk⟩
theorem runes_from (s:Str):∀ (f i:Nat) (acc:Array Value),(Conv.runesFrom ⟨s.toArray⟩ f i acc) = acc++((runesF s f i).map fun n=>Value.int .i32 n).toArray:=by
 have hsz:(⟨s.toArray⟩:ByteArray).size = s.length:=by simp [ByteArray.size]
 have hdec:∀ p,Utf8.decode ⟨s.toArray⟩ p = decAt s p:=fun p=>by rw [Lib.decode_N]; simp [decAt]
 intro f
 induction f with
 | zero=>intro i acc; simp [Conv.runesFrom,runesF]
 | succ f ih =>
  intro i acc
  unfold Conv.runesFrom runesF
  rw [hsz]
  split
  ·simp only [hdec]
   rw [ih]
   simp
  ·simp
theorem runes_eq (s:Str):Conv.runesFrom ⟨s.toArray⟩ (⟨s.toArray⟩:ByteArray).size 0 #[] = ((runes s).map fun n=>Value.int .i32 n).toArray:=by
 rw [runes_from]
 simp [runes,ByteArray.size]
theorem runesF_len (s:Str):∀ (f i:Nat),(runesF s f i).length≤f:=by
 intro f
 induction f with
 | zero=>intro i; simp [runesF]
 | succ f ih =>
  intro i
  unfold runesF
  split
  ·have:=ih (i + (decAt s i).2); simp; omega
  ·simp
theorem runes_len (s:Str):(runes s).length≤s.length:=runesF_len s _ _
theorem convS_ok (hΓ : Γ.ok P) (hO : ∀ k, Own X s β k → k < w.heap.size) {o : Oper} {src dst e : TypeId} {x : Operand} (ho : o.op = .convert src dst x) {ts ti : TI} (hts : ts.ok P src) (hti : ti.ok P dst) {l : Str} {v : AV} (hv : v = .s l) (hr : Rel β (Own X s β) w v (a.eval x)) (hd : ti.desc = .slice e) {K : AV → Prop}
  (h:chkK (isStrT ts.desc) (tiK Γ e fun te=>convSK te.desc l K)) :
  ∃ r u w',K r∧Stp (fun _=>False) w w'∧(execOp a.eval o).run P w = .ok (.value u) w'∧Im (Own X s β) w' r u:=by
 subst hv
 obtain ⟨hst,h⟩:=(chkK_iff _ _).1 h
 have k1:=str_ok hts hst
 obtain ⟨te,hte,h⟩:=tiK_ok hΓ h
 obtain ⟨d2,k3,k4⟩:=hti.desc
 rw [hd] at k4
 obtain rfl:=(show d2 = .slice e from k4)
 obtain ⟨d3,k5,k6⟩:=hte.desc
 obtain ⟨hlen,hx⟩:l.length≤maxLen∧a.eval x = .string ⟨l.toArray⟩:=by
  have hr:Im (Own X s β) w (.s l) (a.eval x):=hr
  generalize a.eval x = xv at hr
  cases hr with
  | s _ h=>exact ⟨h,rfl⟩
 have hde:te.desc = .int .u8∨te.desc = .int .i32:=by
  cases hd:te.desc with
  | int k=>rw [hd] at h; cases k<;>first | exact .inl rfl | exact .inr rfl | exact h.elim
  | _=>rw [hd] at h; exact h.elim
 rcases hde with hde | hde
 ·rw [hde] at k6 h
  obtain rfl:=(show d3 = .int .u8 from k6)
  have h:K (.rd .u8 (l.map fun b=>(b.toNat:Int))):=h
  refine ⟨_,.slice (some ⟨w.heap.size,0,none⟩) l.length (grownCap w l.length 0 e),Lib.bytesWorld w e ⟨l.toArray⟩,h,bytes_stp _ _ _,?_,?_⟩
  ·have:=Lib.run_convert_string_bytes (P:=P) w src dst e ⟨l.toArray⟩ k1 k3 k5
   rw [← hx] at this
   simp only [execOp,ho,Sem.run_bind,this,Result.andThen_ok,Sem.run_pure]
   rfl
  ·by_cases hl:l = []
   ·subst hl
    exact .rd0 .u8 _ _ (grownCap_le_maxLen w 0 0 e (Nat.zero_le _))
   ·have hnb:¬ Own X s β w.heap.size:=fun h=>Nat.lt_irrefl _ (hO _ h)
    have:=Im.rd (O:=Own X s β) (w:=Lib.bytesWorld w e ⟨l.toArray⟩) .u8 (l.map fun b=>(b.toNat:Int)) w.heap.size 0 (grownCap w l.length 0 e) (fun i _=>.int .u8 ((l.getD i 0).toNat:Int)) hnb (by simpa using grownCap_ge w l.length 0 e) (grownCap_le_maxLen w _ 0 e hlen) (by simpa using hl)
     (fun i y j av hy hav=>by
      obtain ⟨hi,rfl⟩:=List.getElem?_eq_some_iff.1 hy
      have hi:i < l.length:=by simpa using hi
      obtain ⟨hj,rfl⟩:=List.getElem?_eq_some_iff.1 hav
      have hj:j = 0:=by simp [enc] at hj; exact hj
      subst hj
      have:=Lib.bytesWorld_cell w e ⟨l.toArray⟩ i (by simpa [ByteArray.size] using hi)
      simpa [esz] using this)
     (fun i y j av hy hav=>by
      obtain ⟨hi,rfl⟩:=List.getElem?_eq_some_iff.1 hy
      have hi:i < l.length:=by simpa using hi
      obtain ⟨hj,rfl⟩:=List.getElem?_eq_some_iff.1 hav
      have hj:j = 0:=by simp [enc] at hj; exact hj
      subst hj
      have hg:l.getD i 0 = l[i]:=by simp [List.getD,hi]
      rw [hg]
      simp only [enc,List.getElem_map,List.getElem_cons_zero]
      exact .i .u8 _)
    simpa using this
 ·rw [hde] at k6 h
  obtain rfl:=(show d3 = .int .i32 from k6)
  obtain ⟨h46,h⟩:=(show l.length≤70368744177664∧K (.rd .rune (runes l)) from h)
  have hrl:=runes_len l
  have hle:(runes l).length≤maxLen:=Nat.le_trans hrl hlen
  have hsz:(((runes l).map fun n=>Value.int .i32 n).toArray).size = (runes l).length:=by simp
  have hrun:=run_runes_of_string (P:=P) w src dst e ⟨l.toArray⟩ k1 k3 k5 (by rw [runes_eq,hsz]; omega)
  rw [runes_eq,hsz,← hx] at hrun
  refine ⟨_,.slice (some ⟨w.heap.size,0,none⟩) (runes l).length (grownCap w (runes l).length 0 e),w.drew.alloc (.cells (((runes l).map fun n=>Value.int .i32 n).toArray++Array.replicate (grownCap w (runes l).length 0 e - (runes l).length) (.int .i32 0)) e),h,(Stp.drew w).trans (Stp.alloc w.drew _) (fun _ _ h=>h),?_,?_⟩
  rotate_left 1
  ·have hnb:¬ Own X s β w.heap.size:=fun h=>Nat.lt_irrefl _ (hO _ h)
   by_cases hl:runes l = []
   ·rw [hl]
    exact .rd0 .rune _ _ (grownCap_le_maxLen w 0 0 e (Nat.zero_le _))
   ·refine Im.rd .rune (runes l) w.heap.size 0 (grownCap w (runes l).length 0 e) (fun i _=>.int .i32 ((runes l).getD i 0)) hnb (by simpa using grownCap_ge w (runes l).length 0 e) (grownCap_le_maxLen w _ 0 e hle) hl (fun i y j av hy hav=>?_) (fun i y j av hy hav=>?_)
    ·obtain ⟨hi,rfl⟩:=List.getElem?_eq_some_iff.1 hy
     obtain ⟨hj,rfl⟩:=List.getElem?_eq_some_iff.1 hav
     have hj:j = 0:=by simp [enc] at hj; exact hj
     subst hj
     have hc:(w.drew.alloc (.cells (((runes l).map fun n=>Value.int .i32 n).toArray++Array.replicate (grownCap w (runes l).length 0 e - (runes l).length) (.int .i32 0)) e)).heap[w.heap.size]? = some (.cells (((runes l).map fun n=>Value.int .i32 n).toArray++Array.replicate (grownCap w (runes l).length 0 e - (runes l).length) (.int .i32 0)) e (0,0)):=heap_alloc_new w.drew _
     have hi2:i < (((runes l).map fun n=>Value.int .i32 n).toArray).size:=by simpa using hi
     simp only [World.cell?,hc,Nat.zero_add,esz,Nat.mul_one,Nat.add_zero]
     simp [Array.getElem?_append,hi,List.getD_eq_getElem?_getD]
    ·obtain ⟨hi,rfl⟩:=List.getElem?_eq_some_iff.1 hy
     obtain ⟨hj,rfl⟩:=List.getElem?_eq_some_iff.1 hav
     have hj:j = 0:=by simp [enc] at hj; exact hj
     subst hj
     have hg:(runes l).getD i 0 = (runes l)[i]:=by simp [List.getD,hi]
     rw [hg]
     exact .i .i32 _
  ·simp only [execOp,ho,Sem.run_bind,hrun,Result.andThen_ok,Sem.run_pure]
theorem convA_ok (hΓ : Γ.ok P) {o : Oper} {src dst : TypeId} {x : Operand} (ho : o.op = .convert src dst x) {ts ti : TI} (hts : ts.ok P src) (hti : ti.ok P dst) {v : AV} (hr : Rel β (Own X s β) w v (a.eval x)) {K : AV → Prop}
  (h:convAK Γ ts.desc ti.desc v K):LoadOK P X s β a w o K∨∃ e l,ti.desc = .slice e∧v = .s l∧chkK (isStrT ts.desc) (tiK Γ e fun te=>convSK te.desc l K):=by
 rcases convA_cases h with h | ⟨e,l,h1,h2,h3,h⟩ | h
 ·obtain ⟨d,hd,_⟩:=hts.desc
  obtain ⟨v',u,k1,k2,k3,k4⟩:=conv_ok ho hti hr h ⟨d,hd⟩
  exact .inl ⟨v',u,k1,k2,k3,k4 w⟩
 rotate_left
 ·exact .inr h
 obtain ⟨te,hte,h⟩:=tiK_ok hΓ h
 obtain ⟨hu8,h⟩:=(chkK_iff _ _).1 h
 have him:Im (fun _=>False) w (.rd .u8 l) (a.eval x):=by
  rcases h3 with rfl | ⟨id,rfl⟩
  ·exact (show Im _ _ _ _ from hr).mono fun _ h=>h.elim
  ·exact VecAt.freeze hr fun _ h=>h.elim
 obtain ⟨de,k1,k2⟩:=hts.desc
 rw [h1] at k2
 obtain rfl:=(show de = .slice e from k2)
 obtain ⟨de,k3,k4⟩:=hti.desc
 rw [h2] at k4
 obtain rfl:=(show de = .string from k4)
 obtain ⟨de,k5,k6⟩:=hte.desc
 have hde:te.desc = .int .u8:=by
  cases hd:te.desc with
  | int k=>rw [hd] at hu8; cases k<;>first | rfl | cases hu8
  | _=>rw [hd] at hu8; cases hu8
 rw [hde] at k6
 obtain rfl:=(show de = .int .u8 from k6)
 have hlen:l.length≤maxLen:=by
  generalize a.eval x = xv at him
  cases him with
  | rd0=>exact Nat.zero_le _
  | rd _ _ g off c u hg hc hm hne hcell him=>omega
 refine .inl (.im h (.s _ (by simpa using hlen)) ?_)
 have hx:∃ A n c,a.eval x = .slice A n c:=by obtain ⟨A,c,_,h5,_⟩:=src_cells (P:=P) him; exact ⟨_,_,_,h5⟩
 obtain ⟨A,n,c,hx⟩:=hx
 have hb:=bytes_run (P:=P) him w rfl
 rw [hx] at hb
 simp [execOp,ho,hx,convert,run_underlying k1,run_underlying k3,run_underlying k5,hb]
theorem convA_of {sd d:TD} {v:AV} {K:AV→Prop} (h:convK d v K):convAK Γ sd d v K:=by
 unfold convAK
 split
 ·exact h.elim
 ·exact h.elim
 ·exact h.elim
 ·exact h
end
end Go.SX
end
section
namespace Go.SX
variable [Globs]
section
variable {P:Program} {N:Nat} {Γ:Ctx} {W0:World} {F:Fr} {X:Nat→Prop} {s:St} {β:Nat→Option Nat} {a:Act} {w:World}

def makeK (Γ:Ctx) (N:Nat) (s:St) (t:TypeId) (x y:Operand) (dst:Option Nat) (K:St→Prop):Prop :=
 optK dst fun d=>stFrzK d s fun s=>evK s x fun a=>evK s y fun b=>intK a fun n=>intK b fun m=>tiK Γ t fun ti=>sliceTK ti.desc fun e=>tiK Γ e fun te=>tyK te.ty fun τ =>
  chkK (Nat.beq te.cells (esz τ)) (chkK (Nat.beq te.zero.length (esz τ)) ((0≤n∧n≤m∧m≤1099511627776∧m.toNat * te.bytes≤140737488355328)∧ofValsK te.zero fun zs=>optK (dec τ zs) fun z=>stKillK d s fun s=>stPutK N s (some d) (.vec d τ (List.replicate n.toNat z)) K))
theorem zero_cells {O : Nat → Prop} {τ : Ty} {zs : List Value} {z : den τ} (hz : dec τ (ofVals zs) = some z) (hl : zs.length = esz τ) (n : Nat) :
  All2 (Im O w) (flat τ (List.replicate n z)) ((List.range (n * esz τ)).map fun i=>zs.toArray[i % zs.toArray.size]!):=by
 have hle:=dec_le hz
 have hpos:=esz_pos τ
 have him:All2 (Im O w) (enc τ z) zs:=by
  refine all_le ?_ hle
  clear hz hle hl
  induction zs with
  | nil=>exact All2.nil _
  | cons v r ih=>exact All2.cons (ofVal_im _ _ _) ih
 refine ⟨by rw [flat_length]; simp,fun k av u hk hu=>?_⟩
 obtain ⟨i,j,x,rfl,hx,hj⟩:=flat_of hk
 have hjl:j < esz τ:=by rw [← enc_length τ x]; exact (List.getElem?_eq_some_iff.1 hj).1
 have hxz:x = z:=List.eq_of_mem_replicate (List.mem_of_getElem? hx)
 subst hxz
 rw [List.getElem?_map,Option.map_eq_some_iff] at hu
 obtain ⟨q,hq,rfl⟩:=hu
 have hq':q = i * esz τ + j:=by
  have h1:=(List.getElem?_eq_some_iff.1 hq)
  obtain ⟨h2,h3⟩:=h1
  rw [List.getElem_range] at h3
  exact h3.symm
 subst hq'
 have hmod:(i * esz τ + j) % zs.toArray.size = j:=by
  rw [List.size_toArray,hl,Nat.add_comm,Nat.add_mul_mod_self_right,Nat.mod_eq_of_lt hjl]
 rw [hmod]
 have hjz:j < zs.length:=by omega
 have hget:zs.toArray[j]! = zs[j]:=by simp [hjz]
 rw [hget]
 exact him.2 j av _ hj (List.getElem?_eq_getElem hjz)
theorem range_pre {f:Nat→Value} {a b j:Nat} {u:Value} (h:a≤b) (hu:((List.range a).map f)[j]? = some u):(((List.range b).map f).toArray)[j]? = some u:=by
 have hj:j < a:=by have:=(List.getElem?_eq_some_iff.1 hu).1; simpa using this
 rw [List.getElem?_toArray,List.getElem?_map,List.getElem?_range (by omega)]
 rw [List.getElem?_map,List.getElem?_range hj] at hu
 exact hu
theorem make_ok (hΓ : Γ.ok P) (hI : InvB W0 F X N s β a w) {o : Oper} {t : TypeId} {x y : Operand} (ho : o.op = .makeSlice t x y) {K : St → Prop} (h : makeK Γ N s t x y o.dst K)
  {next:Act→World→Prop} {Q:Exit→Act→World→Prop} (hn:∀ s' a' w',K s'→Inv W0 F X N s' a' w'→next a' w'):o.wp P a w next Q:=by
 obtain ⟨d,hd,h⟩:=(optK_iff _ _).1 (show optK o.dst fun d=>_ from h)
 rw [stFrzK_eq,evK_eq,evK_eq] at h
 have hI1:=hI.frz d
 obtain ⟨k1,n,hx,h⟩:=int_ok h (ev_rel hI1 x).1
 obtain ⟨k2,m,hy,h⟩:=int_ok h (ev_rel hI1 y).1
 obtain ⟨ti,hti,h⟩:=tiK_ok hΓ h
 obtain ⟨e,h,hu⟩:=slice_ok hti h
 obtain ⟨te,hte,h⟩:=tiK_ok hΓ h
 obtain ⟨τ,hτ,h⟩:=(tyK_iff _ _).1 h
 obtain ⟨hsz,hA⟩:=(chkK_iff _ _).1 h
 obtain ⟨hzl,hB⟩:=(chkK_iff _ _).1 hA
 obtain ⟨⟨h0,hnm,h1,h2⟩,hC⟩:=hB
 rw [ofValsK_eq] at hC
 obtain ⟨z,hz,hK⟩:=(optK_iff _ _).1 hC
 have hsz:=Nat.eq_of_beq_eq_true hsz
 have hzl:=Nat.eq_of_beq_eq_true hzl
 rw [stKillK_eq] at hK
 cases hdN:Nat.blt d N with
 | false=>rw [stPutK_some,hdN] at hK; exact hK.elim
 | true =>
  rw [stPutK_some,hdN,cond_true] at hK
  rw [Nat.blt_eq] at hdN
  have hnm':n.toNat * esz τ≤m.toNat * esz τ:=Nat.mul_le_mul_right _ (by omega)
  have hlm:m.toNat≤maxLen:=by unfold maxLen; omega
  obtain ⟨zv,hzr,hzc⟩:=hte.zeroValue w
  have hI2:=hI1.newVec (Ow:=fun _=>False) (id1:=d) (b:=some w.heap.size) (u:=.slice (some ⟨w.heap.size,0,none⟩) n.toNat m.toNat) (τ:=τ) (l:=List.replicate n.toNat z) hdN (fun _=>rfl)
   (Stp.alloc w (.cells ((List.range (m.toNat * esz τ)).map fun i=>te.zero.toArray[i % te.zero.toArray.size]!).toArray e)) (fun _ h=>h.elim)
   (fun g hg=>by injection hg with hg; subst hg; exact ⟨by simp,.inr (Nat.le_refl _)⟩) (fun O' hO'=>by
    have:=vec_of (d:=d) (β:=setβ β d (some w.heap.size)) (c:=m.toNat) (cur:=((List.range (m.toNat * esz τ)).map fun i=>te.zero.toArray[i % te.zero.toArray.size]!).toArray) (e:=e) (by simp [setβ]) (heap_alloc_new w _) (by simp; omega) hlm (by simp)
     (zero_cells (O:=O') (w:=w.alloc (.cells ((List.range (m.toNat * esz τ)).map fun i=>te.zero.toArray[i % te.zero.toArray.size]!).toArray e)) hz hzl n.toNat) (fun j u hu=>range_pre hnm' hu)
    simpa using this)
  refine wp_val (u:=.slice (some ⟨w.heap.size,0,none⟩) n.toNat m.toNat) (w':=w.alloc (.cells ((List.range (m.toNat * esz τ)).map fun i=>te.zero.toArray[i % te.zero.toArray.size]!).toArray e)) ?_ (by rw [hd]; exact hn _ _ _ hK ⟨_,hI2⟩)
  have hwrap:IntKind.i64.wrap n = n:=by
   exact IntWalk.i64_in n ⟨by omega,by omega⟩
  have hwrapm:IntKind.i64.wrap m = m:=by
   exact IntWalk.i64_in m ⟨by omega,by omega⟩
  have hbign:¬ ((te.bytes:Int) * n > 2 ^ 48):=by
   have e1:((n.toNat * te.bytes:Nat):Int) = (te.bytes:Int) * n:=by rw [Int.natCast_mul,Int.toNat_of_nonneg h0,Int.mul_comm]
   have e3:n.toNat * te.bytes≤m.toNat * te.bytes:=Nat.mul_le_mul_right _ (by omega)
   rw [← e1]
   show ¬ _ > (281474976710656:Int)
   omega
  have hbig:¬ ((te.bytes:Int) * m > 2 ^ 48):=by
   have e1:((m.toNat * te.bytes:Nat):Int) = (te.bytes:Int) * m:=by rw [Int.natCast_mul,Int.toNat_of_nonneg (by omega),Int.mul_comm]
   have e2:((m.toNat * te.bytes:Nat):Int)≤140737488355328:=by omega
   rw [← e1]
   show ¬ _ > (281474976710656:Int)
   omega
  have hroom:¬ (m.toNat * te.bytes > roomBytes):=by show ¬ (m.toNat * te.bytes > 2 ^ 47); omega
  obtain ⟨i,zz,hi1,hi2,hi3,hi4,hi5⟩:=hte.info
  have hti':(typeInfo e).run P w = .ok i w:=by simp [typeInfo,hi1]
  simp only [execOp,ho,Instr.makeSlice,Sem.run_bind,run_underlying hu,Result.andThen_ok,hx,hy,asInt,asIntOf,Sem.run_pure,hti',hwrap,hwrapm,hi3,askRoom,hroom]
  rw [if_neg (by simp only [Bool.or_eq_true,decide_eq_true_eq]; omega)]
  simp only [if_false,Sem.run_bind,Sem.run_pure,Result.andThen_ok,hte.sizeOf w]
  rw [hsz]
  have e0:∀ f:Nat→Value,((List.range (m.toNat * esz τ)).map f).toArray = (Array.range (m.toNat * esz τ)).map f:=by intro f; apply Array.ext'; simp
  rw [e0]
  by_cases hz0:m.toNat * esz τ = 0
  ·have er:∀ f:Nat→Value,Array.map f (Array.range 0) = #[]:=fun f=>by simp
   simp only [hz0,if_true,Sem.run_bind,Sem.run_pure,Result.andThen_ok,er]
   simp [newRow,newObj]
   rfl
  ·simp only [hz0,if_false,Sem.run_bind,hzr,Sem.run_pure,Result.andThen_ok,hzc]
   simp [newRow,newObj]
   rfl
end
end Go.SX
end
section
namespace Go.SX
variable [Globs]
section
variable {P:Program} {N:Nat} {Γ:Ctx} {W0:World} {F:Fr} {X:Nat→Prop} {s:St} {β:Nat→Option Nat} {a:Act} {w:World}

def updO0 (id id2:Nat) (o:Ob):AV→AV
 | .ob i i2 o'=>bif Nat.beq i id then (bif Nat.beq i2 id2 then (bif o'.grid then .x else .ob i i2 o) else .x) else bif inL id [i,i2] then .x else bif inL id2 [i,i2] then .x else .ob i i2 o'
 | .pt n x=>bif inL n [id,id2] then .x else .pt n x
 | .vec n τ l=>bif inL n [id,id2] then .x else .vec n τ l
 | .vp n τ l m x=>bif inL n [id,id2] then .x else .vp n τ l m x
 | .vs n τ l k=>bif inL n [id,id2] then .x else .vs n τ l k
 | v=>v
theorem headNp_upd0 (id id2:Nat) (o:Ob) (v:AV):headNp [updO0 id id2 o v] = headNp [v]:=by
 cases v with
 | pt n x=>simp only [updO0]; cases inL n [id,id2]<;>rfl
 | vec n τ l=>simp only [updO0]; cases inL n [id,id2]<;>rfl
 | vp n τ l m x=>simp only [updO0]; cases inL n [id,id2]<;>rfl
 | vs n τ l k=>simp only [updO0]; cases inL n [id,id2]<;>rfl
 | ob i i2 o'=>simp only [updO0]; cases Nat.beq i id<;>cases Nat.beq i2 id2<;>cases inL id [i,i2]<;>cases inL id2 [i,i2]<;>cases o'.grid<;>rfl
 | _=>rfl
def updO (id id2:Nat) (o:Ob):AV→AV
 | .fn f caps=>.fn f (mapC (updO0 id id2 o) caps)
 | .tup cs=>.tup (mapC (updO0 id id2 o) cs)
 | .ag k cs=>.ag k (mapC (updO0 id id2 o) cs)
 | v=>updO0 id id2 o v
def updO0K (id id2:Nat) (o:Ob):AV→(AV→Prop)→Prop
 | .ob i i2 o',K=>bif Nat.beq i id then (bif Nat.beq i2 id2 then (bif o'.grid then K .x else K (.ob i i2 o)) else K .x) else bif inL id [i,i2] then K .x else bif inL id2 [i,i2] then K .x else K (.ob i i2 o')
 | .pt n x,K=>bif inL n [id,id2] then K .x else K (.pt n x)
 | .vec n τ l,K=>bif inL n [id,id2] then K .x else K (.vec n τ l)
 | .vp n τ l m x,K=>bif inL n [id,id2] then K .x else K (.vp n τ l m x)
 | .vs n τ l k,K=>bif inL n [id,id2] then K .x else K (.vs n τ l k)
 | v,K=>K v
theorem updO0K_eq (id id2:Nat) (o:Ob) (v:AV) (K:AV→Prop):updO0K id id2 o v K = K (updO0 id id2 o v):=by
 cases v with
 | ob i i2 o' =>
  simp only [updO0K,updO0]
  cases Nat.beq i id<;>cases Nat.beq i2 id2<;>cases inL id [i,i2]<;>cases inL id2 [i,i2]<;>cases o'.grid<;>rfl
 | pt n x=>simp only [updO0K,updO0]; cases inL n [id,id2]<;>rfl
 | vec n τ l=>simp only [updO0K,updO0]; cases inL n [id,id2]<;>rfl
 | vp n τ l m x=>simp only [updO0K,updO0]; cases inL n [id,id2]<;>rfl
 | vs n τ l k=>simp only [updO0K,updO0]; cases inL n [id,id2]<;>rfl
 | _=>rfl
def updOK (id id2:Nat) (o:Ob):AV→(AV→Prop)→Prop
 | .fn f caps,K=>mapCK (updO0K id id2 o) caps fun caps=>K (.fn f caps)
 | .tup cs,K=>mapCK (updO0K id id2 o) cs fun cs=>K (.tup cs)
 | .ag k cs,K=>mapCK (updO0K id id2 o) cs fun cs=>K (.ag k cs)
 | v,K=>updO0K id id2 o v K
theorem updOK_eq (id id2:Nat) (o:Ob) (v:AV) (K:AV→Prop):updOK id id2 o v K = K (updO id id2 o v):=by
 cases v with
 | fn f caps=>simp only [updOK,updO,mapCK_eq (updO0K_eq id id2 o)]
 | tup caps=>simp only [updOK,updO,mapCK_eq (updO0K_eq id id2 o)]
 | ag k caps=>simp only [updOK,updO,mapCK_eq (updO0K_eq id id2 o)]
 | _=>simp only [updOK,updO,updO0K_eq]
theorem updO0_ids (id id2:Nat) (o:Ob) (v:AV) (m:Nat) (h:m ∈ ids0 (updO0 id id2 o v)):m ∈ ids0 v:=by
 cases v with
 | ob i i2 o' =>
  simp only [updO0] at h
  cases h1:Nat.beq i id<;>cases h2:Nat.beq i2 id2<;>cases h3:inL id [i,i2]<;>cases h4:inL id2 [i,i2]<;>cases h5:o'.grid<;>simp only [h1,h2,h3,h4,h5,cond_true,cond_false] at h<;>first | exact h | (simp [ids0] at h; done)
 | pt n x=>simp only [updO0] at h; cases h1:inL n [id,id2]<;>simp only [h1,cond_true,cond_false] at h<;>first | exact h | (simp [ids0] at h; done)
 | vec n τ l=>simp only [updO0] at h; cases h1:inL n [id,id2]<;>simp only [h1,cond_true,cond_false] at h<;>first | exact h | (simp [ids0] at h; done)
 | vp n τ l k x=>simp only [updO0] at h; cases h1:inL n [id,id2]<;>simp only [h1,cond_true,cond_false] at h<;>first | exact h | (simp [ids0] at h; done)
 | vs n τ l k=>simp only [updO0] at h; cases h1:inL n [id,id2]<;>simp only [h1,cond_true,cond_false] at h<;>first | exact h | (simp [ids0] at h; done)
 | _=>exact h
theorem updO_ids (id id2:Nat) (o:Ob) (v:AV) (m:Nat) (h:m ∈ ids (updO id id2 o v)):m ∈ ids v:=by
 have key:∀ l:List AV,m ∈ (mapC (updO0 id id2 o) l).flatMap ids0→m ∈ l.flatMap ids0:=by
  intro l hl
  rw [mapC_eq] at hl
  obtain ⟨c,hc,hm⟩:=List.mem_flatMap.1 hl
  obtain ⟨c',hc',rfl⟩:=List.mem_map.1 hc
  exact List.mem_flatMap.2 ⟨c',hc',updO0_ids _ _ _ _ _ hm⟩
 cases v with
 | fn f caps=>exact key caps h
 | tup caps=>exact key caps h
 | ag k caps=>exact key caps h
 | pt n x=>exact updO0_ids id id2 o (.pt n x) m (by cases h1:inL n [id,id2]<;>simpa [updO,updO0,h1,ids] using h)
 | vec n τ l=>exact updO0_ids id id2 o (.vec n τ l) m (by cases h1:inL n [id,id2]<;>simpa [updO,updO0,h1,ids] using h)
 | vp n τ l k x=>exact updO0_ids id id2 o (.vp n τ l k x) m (by cases h1:inL n [id,id2]<;>simpa [updO,updO0,h1,ids] using h)
 | vs n τ l k=>exact updO0_ids id id2 o (.vs n τ l k) m (by cases h1:inL n [id,id2]<;>simpa [updO,updO0,h1,ids] using h)
 | ob i i2 o' =>
  have e:ids (updO id id2 o (.ob i i2 o')) = ids0 (updO0 id id2 o (.ob i i2 o')):=by
   simp only [updO,updO0]
   cases Nat.beq i id<;>cases Nat.beq i2 id2<;>cases inL id [i,i2]<;>cases inL id2 [i,i2]<;>cases o'.grid<;>rfl
  rw [e] at h
  exact updO0_ids id id2 o (.ob i i2 o') m h
 | _=>exact h

theorem InvB.turnOb (h : InvB W0 F X N s β a w) {id id2 : Nat} (hN : Nm s id) (hN2 : Nm s id2) {b2 : Option Nat} {w' : World} (hst : Stp (fun k => β id = some k ∨ β id2 = some k) w w')
  (hid:setβ β id2 b2 id = β id) (hb2:∀ g,b2 = some g→g < w'.heap.size∧(β id2 = some g∨w.heap.size≤g)) {o':Ob} {v0:Value}
  (huniq:∀ o1 v,o1.grid = false→ObAt β (Own X s β) w id id2 o1 v→v = v0)
  (hnew:∀ O':Nat→Prop,(∀ k,k < w.heap.size→O' k→Own X s β k)→ObAt (setβ β id2 b2) O' w' id id2 o' v0) :
  InvB W0 F X N (((s.map (updO id id2 o')).delBox id).delBox id2) (setβ β id2 b2) a w':=by
 have hbx:∀ n cs,lookB (((s.map (updO id id2 o')).delBox id).delBox id2).boxes n = some cs→n≠id∧n≠id2∧∃ cs',lookB s.boxes n = some cs'∧cs = cs'.map (updO id id2 o'):=by
  intro n cs hc
  simp only [St.delBox,St.map,lookB_delL,lookB_mapB] at hc
  split at hc
  ·cases hc
  ·rename_i hne2
   split at hc
   ·cases hc
   ·rename_i hne
    obtain ⟨cs',h1,rfl⟩:=Option.map_eq_some_iff.1 hc
    exact ⟨fun e=>hne e.symm,fun e=>hne2 e.symm,cs',h1,mapC_eq _ _⟩
 have hNm:∀ n,Nm (((s.map (updO id id2 o')).delBox id).delBox id2) n→Nm s n:=by
  rintro n (⟨cs,h⟩ | ⟨m,h⟩ | ⟨b,cs,h,c,hc,hn⟩)
  ·obtain ⟨_,_,cs',h1,_⟩:=hbx _ _ h
   exact .inl ⟨cs',h1⟩
  ·simp only [St.delBox,St.map,look_mapV (updO id id2 o') rfl] at h
   exact .inr (.inl ⟨m,updO_ids _ _ _ _ _ h⟩)
  ·obtain ⟨_,_,cs',h1,rfl⟩:=hbx _ _ h
   obtain ⟨c',hc',rfl⟩:=List.mem_map.1 hc
   exact .inr (.inr ⟨b,cs',h1,c',hc',updO_ids _ _ _ _ _ hn⟩)
 have hβ:∀ n,n≠id2→setβ β id2 b2 n = β n:=fun n hn=>by unfold setβ; rw [if_neg hn]
 have hb2':setβ β id2 b2 id2 = b2:=by simp [setβ]
 have hO:∀ k,k < w.heap.size→Own X (((s.map (updO id id2 o')).delBox id).delBox id2) (setβ β id2 b2) k→Own X s β k:=by
  rintro k hk (hX | ⟨n,hn,hb⟩)
  ·exact .inl hX
  ·by_cases e:n = id2
   ·subst e
    rw [hb2'] at hb
    rcases (hb2 k hb).2 with h1 | h1
    ·exact .inr ⟨_,hN2,h1⟩
    ·omega
   ·exact .inr ⟨n,hNm n hn,(hβ n e) ▸ hb⟩
 have hw:∀ k,k < w.heap.size→(β id = some k∨β id2 = some k)→OwnN s β k:=fun k _ hk=>hk.elim (fun h=>⟨id,hN,h⟩) fun h=>⟨id2,hN2,h⟩
 have hblk:∀ n g,Nm s n→n≠id→n≠id2→β n = some g→w'.heap[g]? = w.heap[g]?:=fun n g hn h1 h2 hg =>
  hst.block g (h.own n g hn hg).1 fun ho=>ho.elim (fun e=>h1 (h.inj n id g hn hN hg e)) fun e=>h2 (h.inj n id2 g hn hN2 hg e)
 have hkeep : ∀ {av : AV} {v : Value}, (∀ n ∈ ids0 av, Nm s n ∧ n ≠ id ∧ n ≠ id2) → Rel0 β (Own X s β) w av v →
   Rel0 (setβ β id2 b2) (Own X (((s.map (updO id id2 o')).delBox id).delBox id2) (setβ β id2 b2)) w' av v:=fun hav hrel =>
  hrel.step hst (fun k hk ho=>.inr (hw k hk ho)) hO (fun n hn=>hβ n (hav n hn).2.2) (fun n hn g hg=>hblk n g (hav n (vids0_ids0 hn)).1 (hav n (vids0_ids0 hn)).2.1 (hav n (vids0_ids0 hn)).2.2 hg)
 have hf0:∀ av v,(∀ n ∈ ids0 av,Nm s n)→Rel0 β (Own X s β) w av v→Rel0 (setβ β id2 b2) (Own X (((s.map (updO id id2 o')).delBox id).delBox id2) (setβ β id2 b2)) w' (updO0 id id2 o' av) v:=by
  intro av v hav hrel
  have hx:∀ u,Rel0 (setβ β id2 b2) (Own X (((s.map (updO id id2 o')).delBox id).delBox id2) (setβ β id2 b2)) w' .x u:=fun u=>Im.x u
  have one:∀ n,ids0 av = [n]→inL n [id,id2] = false→∀ n ∈ ids0 av,Nm s n∧n≠id∧n≠id2:=by
   intro n he hn m hm
   have hm':=hm
   rw [he] at hm
   obtain rfl:=List.mem_singleton.1 hm
   refine ⟨hav _ hm',fun e=>?_,fun e=>?_⟩
   ·rw [(inL_iff m [id,id2]).2 (by simp [e])] at hn; cases hn
   ·rw [(inL_iff m [id,id2]).2 (by simp [e])] at hn; cases hn
  cases av with
  | ob i i2 o1 =>
   simp only [updO0]
   cases h1:Nat.beq i id with
   | true =>
    have:=Nat.eq_of_beq_eq_true h1; subst this
    cases h2:Nat.beq i2 id2 with
    | true =>
     have:=Nat.eq_of_beq_eq_true h2; subst this
     cases h5:o1.grid with
     | true=>exact hx _
     | false =>
      rw [huniq o1 v h5 hrel]
      exact hnew _ hO
    | false=>exact hx _
   | false =>
    cases h3:inL id [i,i2] with
    | true=>exact hx _
    | false =>
     cases h4:inL id2 [i,i2] with
     | true=>exact hx _
     | false =>
      refine hkeep (fun n hn=>⟨hav n hn,fun e=>?_,fun e=>?_⟩) hrel
      ·rw [(inL_iff id [i,i2]).2 (by rw [← e]; exact hn)] at h3; cases h3
      ·rw [(inL_iff id2 [i,i2]).2 (by rw [← e]; exact hn)] at h4; cases h4
  | pt n x =>
   simp only [updO0]
   cases h1:inL n [id,id2] with
   | true=>exact hx _
   | false=>exact hkeep (one n rfl h1) hrel
  | vec n τ l =>
   simp only [updO0]
   cases h1:inL n [id,id2] with
   | true=>exact hx _
   | false=>exact hkeep (one n rfl h1) hrel
  | vp n τ l m x =>
   simp only [updO0]
   cases h1:inL n [id,id2] with
   | true=>exact hx _
   | false=>exact hkeep (one n rfl h1) hrel
  | vs n τ l k =>
   simp only [updO0]
   cases h1:inL n [id,id2] with
   | true=>exact hx _
   | false=>exact hkeep (one n rfl h1) hrel
  | _=>exact hkeep (fun n hn=>nomatch hn) hrel
 have hfC : ∀ (caps : List AV) (vs : List Value), (∀ n ∈ caps.flatMap ids0, Nm s n) → All2 (Rel0 β (Own X s β) w) caps vs →
   All2 (Rel0 (setβ β id2 b2) (Own X (((s.map (updO id id2 o')).delBox id).delBox id2) (setβ β id2 b2)) w') (mapC (updO0 id id2 o') caps) vs:=by
  intro caps vs hc hall
  rw [mapC_eq]
  refine ⟨by simpa using hall.1,fun j c v hj hv=>?_⟩
  rw [List.getElem?_map,Option.map_eq_some_iff] at hj
  obtain ⟨c',hc',rfl⟩:=hj
  exact hf0 c' v (fun n hn=>hc n (List.mem_flatMap.2 ⟨c',List.mem_of_getElem? hc',hn⟩)) (hall.2 j c' v hc' hv)
 have hf:∀ av v,(∀ n ∈ ids av,Nm s n)→Rel β (Own X s β) w av v→Rel (setβ β id2 b2) (Own X (((s.map (updO id id2 o')).delBox id).delBox id2) (setβ β id2 b2)) w' (updO id id2 o' av) v:=by
  intro av v hav hrel
  cases av with
  | fn f caps=>obtain ⟨vs,h1,h2⟩:=hrel; exact ⟨vs,h1.trans (fnV_of (headNp_mapC (headNp_upd0 id id2 o') caps).symm f vs),hfC caps vs hav h2⟩
  | tup caps=>obtain ⟨vs,h1,h2⟩:=hrel; exact ⟨vs,h1,hfC caps vs hav h2⟩
  | ag k caps=>obtain ⟨vs,h1,h2,h3⟩:=hrel; exact ⟨vs,h1,hfC caps vs hav h2,h3⟩
  | ob i i2 o1=>exact Rel.rel0 (hf0 (.ob i i2 o1) v hav hrel)
  | pt n x=>exact Rel.rel0 (hf0 (.pt n x) v hav hrel)
  | vec n τ l=>exact Rel.rel0 (hf0 (.vec n τ l) v hav hrel)
  | vp n τ l m x=>exact Rel.rel0 (hf0 (.vp n τ l m x) v hav hrel)
  | vs n τ l k=>exact Rel.rel0 (hf0 (.vs n τ l k) v hav hrel)
  | i k n=>exact Rel.rel0 (hf0 (.i k n) v hav hrel)
  | b t=>exact Rel.rel0 (hf0 (.b t) v hav hrel)
  | s l=>exact Rel.rel0 (hf0 (.s l) v hav hrel)
  | nl=>exact Rel.rel0 (hf0 .nl v hav hrel)
  | rd τ l=>exact Rel.rel0 (hf0 (.rd τ l) v hav hrel)
  | rp cs=>exact Rel.rel0 (hf0 (.rp cs) v hav hrel)
  | agg cs=>exact Rel.rel0 (hf0 (.agg cs) v hav hrel)
  | np=>exact Rel.rel0 (hf0 .np v hav hrel)
  | er e=>exact Rel.rel0 (hf0 (.er e) v hav hrel)
  | x=>exact Rel.x
 refine h.upd hst hw (fun n=>?_) (fun n cs hcs=>?_) (fun n m g hn hm h1 h2=>?_) (fun n g hn hg=>?_) rfl rfl (fun n cs g hc hp=>?_)
 ·simp only [St.delBox,St.map,look_mapV (updO id id2 o') rfl]
  exact hf _ _ (fun k hk=>.inr (.inl ⟨n,hk⟩)) (h.slots n)
 ·obtain ⟨hne,hne2,cs',h1,rfl⟩:=hbx _ _ hcs
  obtain ⟨g,us,e,h2,h3,h4⟩:=h.boxes n cs' h1
  have hNn:Nm s n:=.inl ⟨cs',h1⟩
  refine ⟨g,us,e,(hβ n hne2).trans h2,(hblk n g hNn hne hne2 h2).trans h3,by simpa using h4.1,fun j c v hc hv=>?_⟩
  rw [List.getElem?_map,Option.map_eq_some_iff] at hc
  obtain ⟨c',hc',rfl⟩:=hc
  exact ⟨hf _ _ (fun k hk=>.inr (.inr ⟨n,cs',h1,c',List.mem_of_getElem? hc',hk⟩)) (h4.2 j c' v hc' hv).1,(h4.2 j c' v hc' hv).2⟩
 ·have aux : ∀ m g, Nm s m → m ≠ id2 → b2 = some g → β m = some g → False := by
   intro m g hm hne hbg hmg
   rcases (hb2 g hbg).2 with h3 | h3
   ·exact hne (h.inj m id2 g hm hN2 hmg h3)
   ·have:=(h.own m g hm hmg).1; omega
  by_cases e1:n = id2<;>by_cases e2:m = id2
  ·rw [e1,e2]
  ·subst e1; rw [hb2'] at h1; rw [hβ m e2] at h2; exact (aux m g (hNm m hm) e2 h1 h2).elim
  ·subst e2; rw [hb2'] at h2; rw [hβ n e1] at h1; exact (aux n g (hNm n hn) e1 h2 h1).elim
  ·rw [hβ n e1] at h1; rw [hβ m e2] at h2; exact h.inj n m g (hNm n hn) (hNm m hm) h1 h2
 ·by_cases e1:n = id2
  ·subst e1
   rw [hb2'] at hg
   refine ⟨(hb2 g hg).1,?_⟩
   rcases (hb2 g hg).2 with h3 | h3
   ·exact (h.own _ g hN2 h3).2
   ·exact .inl (Nat.le_trans h.ext.size h3)
  ·rw [hβ n e1] at hg
   obtain ⟨h1,h2⟩:=h.own n g (hNm n hn) hg
   exact ⟨Nat.lt_of_lt_of_le h1 hst.size,h2⟩
 ·obtain ⟨_,hne2,cs',h1,_⟩:=hbx _ _ hc
  exact (hβ n hne2).trans (h.pin n cs' g h1 hp)

theorem InvB.newOb (h : InvB W0 F X N s β a w) {d d2 : Nat} (hd : d < N) (hfree : ¬ Nm s d) (hfree2 : ¬ Nm s d2) {w' : World} (hs : Stp (fun _ => False) w w') {g : Nat} (hg0 : w.heap.size ≤ g) (hg1 : g < w'.heap.size)
  {o:Ob} {u:Value} (hv:∀ O':Nat→Prop,ObAt (setβ (setβ β d2 none) d (some g)) O' w' d d2 o u) :
  InvB W0 F X N (s.put d (.ob d d2 o)) (setβ (setβ β d2 none) d (some g)) (a.put (some d) u) w':=by
 have hNm:∀ n,Nm (s.put d (.ob d d2 o)) n→n = d∨n = d2∨(Nm s n∧n≠d∧n≠d2):=by
  intro n hn
  by_cases e1:n = d
  ·exact .inl e1
  by_cases e2:n = d2
  ·exact .inr (.inl e2)
  refine .inr (.inr ⟨?_,e1,e2⟩)
  rcases hn with ⟨cs,h⟩ | ⟨q,h⟩ | ⟨b,cs,h,c,hc,hn⟩
  ·exact .inl ⟨cs,h⟩
  ·simp only [St.put,look_setL] at h
   split at h
   ·simp [ids,ids0] at h; rcases h with h | h
    ·exact absurd h e1
    ·exact absurd h e2
   ·exact .inr (.inl ⟨q,h⟩)
  ·exact .inr (.inr ⟨b,cs,h,c,hc,hn⟩)
 have hβ:∀ n,n≠d→n≠d2→setβ (setβ β d2 none) d (some g) n = β n:=fun n h1 h2=>by unfold setβ; rw [if_neg h1,if_neg h2]
 have hβd:setβ (setβ β d2 none) d (some g) d = some g:=by simp [setβ]
 have hβd2:∀ k,setβ (setβ β d2 none) d (some g) d2 = some k→k = g:=fun k hk=>by
  unfold setβ at hk
  split at hk
  ·injection hk with hk; exact hk.symm
  ·rw [if_pos rfl] at hk; cases hk
 have hO:∀ k,k < w.heap.size→Own X (s.put d (.ob d d2 o)) (setβ (setβ β d2 none) d (some g)) k→Own X s β k:=by
  rintro k hk (hX | ⟨n,hn,hb⟩)
  ·exact .inl hX
  rcases hNm n hn with rfl | rfl | ⟨hn,h1,h2⟩
  ·rw [hβd] at hb; injection hb with hb; omega
  ·have:=hβd2 k hb; omega
  ·exact .inr ⟨n,hn,(hβ n h1 h2) ▸ hb⟩
 have hk:∀ {av:AV} {v:Value},(∀ n ∈ ids av,Nm s n)→Rel β (Own X s β) w av v→Rel (setβ (setβ β d2 none) d (some g)) (Own X (s.put d (.ob d d2 o)) (setβ (setβ β d2 none) d (some g))) w' av v:=fun hav hrel =>
  h.keep hs (fun _ _ h=>h.elim) hO hrel (fun n hn=>hβ n (fun e=>hfree (e ▸ hav n hn)) (fun e=>hfree2 (e ▸ hav n hn))) (fun n hn g' hg'=>hs.block g' (h.own n g' (hav n (vids_ids hn)) hg').1 (fun h=>h))
 refine h.upd hs (fun _ _ h=>h.elim) (fun n=>?_) (fun n cs hcs=>?_) (fun n m k hn hm h1 h2=>?_) (fun n k hn hk'=>?_) (size_put _ _ _) (defers_put _ _ _) (fun n cs k hc hp=>(hβ n (fun e=>hfree (e ▸ .inl ⟨cs,hc⟩)) (fun e=>hfree2 (e ▸ .inl ⟨cs,hc⟩))).trans (h.pin n cs k hc hp))
 ·rw [getD_put a d _ (by rw [h.size]; exact hd)]
  simp only [St.put,look_setL]
  by_cases hdn:d = n
  ·simp only [hdn,if_true]; subst hdn; exact hv _
  ·simp only [hdn,if_false]; exact hk (fun k hk=>.inr (.inl ⟨n,hk⟩)) (h.slots n)
 ·obtain ⟨g',us,e,h1,h2,h3⟩:=h.boxes n cs hcs
  have hN:Nm s n:=.inl ⟨cs,hcs⟩
  exact ⟨g',us,e,(hβ n (fun e=>hfree (e ▸ hN)) (fun e=>hfree2 (e ▸ hN))).trans h1,(hs.block g' (h.own n g' hN h1).1 (fun h=>h)).trans h2,
   h3.mono fun j c v hc hrel=>⟨hk (fun k hk=>.inr (.inr ⟨n,cs,hcs,c,List.mem_of_getElem? hc,hk⟩)) hrel.1,hrel.2⟩⟩
 ·have aux:∀ m,Nm s m→β m = some g→False:=fun m hm hmg=>by have:=(h.own m g hm hmg).1; omega
  rcases hNm n hn with e1 | e1 | ⟨n1,n2,n3⟩<;>rcases hNm m hm with e2 | e2 | ⟨m1,m2,m3⟩
  ·rw [e1,e2]
  ·subst e1 e2
   by_cases e:n = m
   ·exact e
   ·exfalso; unfold setβ at h2; rw [if_neg (fun e'=>e e'.symm),if_pos rfl] at h2; cases h2
  ·subst e1; rw [hβd] at h1; rw [hβ m m2 m3] at h2; injection h1 with h1; subst h1; exact (aux m m1 h2).elim
  ·subst e1 e2
   by_cases e:n = m
   ·exact e
   ·exfalso; unfold setβ at h1; rw [if_neg e,if_pos rfl] at h1; cases h1
  ·rw [e1,e2]
  ·subst e1; have:=hβd2 k h1; subst this; rw [hβ m m2 m3] at h2; exact (aux m m1 h2).elim
  ·subst e2; rw [hβd] at h2; rw [hβ n n2 n3] at h1; injection h2 with h2; subst h2; exact (aux n n1 h1).elim
  ·subst e2; have:=hβd2 k h2; subst this; rw [hβ n n2 n3] at h1; exact (aux n n1 h1).elim
  ·rw [hβ n n2 n3] at h1; rw [hβ m m2 m3] at h2; exact h.inj n m k n1 m1 h1 h2
 ·rcases hNm n hn with rfl | rfl | ⟨n1,n2,n3⟩
  ·rw [hβd] at hk'; injection hk' with hk'; subst hk'; exact ⟨hg1,.inl (Nat.le_trans h.ext.size hg0)⟩
  ·have:=hβd2 k hk'; subst this; exact ⟨hg1,.inl (Nat.le_trans h.ext.size hg0)⟩
  ·rw [hβ n n2 n3] at hk'
   obtain ⟨h1,h2⟩:=h.own n k n1 hk'
   exact ⟨Nat.lt_of_lt_of_le h1 hs.size,h2⟩
end
end Go.SX
end
section
namespace Go.SX
variable [Globs]
section
variable {P:Program} {N:Nat} {Γ:Ctx} {W0:World} {F:Fr} {X:Nat→Prop} {s:St} {β:Nat→Option Nat} {a:Act} {w:World}

def castK {σ:Ty} (τ:Ty) (l:List (den σ)) (K:List (den τ)→Prop):Prop:=if h:σ = τ then K (h ▸ l) else False
theorem castK_iff {σ τ:Ty} {l:List (den σ)} {K:List (den τ)→Prop} (h:castK τ l K):∃ e:σ = τ,K (e ▸ l):=by
 unfold castK at h
 split at h
 ·rename_i e; exact ⟨e,h⟩
 ·exact h.elim

/-! ### append -/
def frzUnlessK (d:Nat) (u:AV) (s:St) (K:St→Prop):Prop :=
 match u with
 | .vec id _ _=>bif Nat.beq id d then K s else stFrzK d s K
 | .vs id _ _ _=>bif Nat.beq id d then K s else stFrzK d s K
 | _=>stFrzK d s K
def heldK (s:St) (v:AV):List Nat→Prop
 | []=>True
 | q::r=>lookK s.slots q (fun u=>u = v)∧heldK s v r
theorem held_mem {v:AV}:∀ {qs:List Nat},heldK s v qs→∀ q ∈ qs,look s.slots q = v
 | q::r,h,p,hp=>by
  obtain ⟨h1,h2⟩:=h
  rw [lookK_eq] at h1
  rcases List.mem_cons.1 hp with rfl | hp
  ·exact h1
  ·exact held_mem h2 p hp
def putsK (N:Nat):List Nat→AV→St→(St→Prop)→Prop
 | [],_,s,K=>K s
 | q::r,v,s,K=>stPutK N s (some q) v fun s=>putsK N r v s K
theorem puts_ok {g:AV} {u:Value}:∀ (qs:List Nat) {s:St} {K:St→Prop},InvB W0 F X N s β a w→(∃ q,q < N∧look s.slots q = g∧a.tmps.getD q undef = u)→(∀ q ∈ qs,a.tmps.getD q undef = u)→putsK N qs g s K→∃ s',K s'∧InvB W0 F X N s' β a w∧(∀ n,Nm s' n→Nm s n)∧∃ q,q < N∧look s'.slots q = g∧a.tmps.getD q undef = u
 | [],s,K,hI,hq,_,h=>⟨s,h,hI,fun _ h=>h,hq⟩
 | q::r,s,K,hI,⟨q0,hq0,hl,hu⟩,hqs,h=>by
  have h:stPutK N s (some q) g fun s=>putsK N r g s K:=h
  rw [stPutK_some] at h
  cases hb:Nat.blt q N with
  | false=>rw [hb] at h; exact h.elim
  | true =>
   rw [hb,cond_true] at h
   rw [Nat.blt_eq] at hb
   have hr:=hI.slots q0
   rw [hl,hu] at hr
   have h1:=hI.put hb hr (fun n hn=>.inr (.inl ⟨q0,by rw [hl]; exact hn⟩))
   rw [put_same (hqs q (List.mem_cons_self ..)) (by rw [hI.size]; exact hb)] at h1
   obtain ⟨s',z1,z2,z3,z4⟩:=puts_ok r h1 ⟨q,hb,by simp [St.put,look_setL],hqs q (List.mem_cons_self ..)⟩ (fun p hp=>hqs p (List.mem_cons_of_mem _ hp)) h
   exact ⟨s',z1,z2,fun n hn=>Nm.of_put (fun m hm=>.inr (.inl ⟨q0,by rw [hl]; exact hm⟩)) (z3 n hn),z4⟩
def lnAppK (N d:Nat) (te:TI) (s:St) (id i2:Nat) {τ:Ty} (l m:List (den τ)) (K:St→Prop):Operand→Prop
 | .tmp q => chkK (Nat.beq i2 id && !(Nat.beq d q)) ((l.length + m.length) * te.bytes ≤ 140737488355328 ∧ (stKillK d s fun s => stPutK N s (some d) (.vec d τ (l ++ m)) fun s => stPutK N s (some d) (.ob d d (.ln τ (l ++ m))) K) ∧
   ∃ qs,(qs.all fun n=>!(Nat.beq n d)) = true∧heldK s (.ob id i2 (.ln τ l)) qs∧stKillK id s fun s=>stPutK N s (some d) (.vec d τ (l++m)) fun s=>stPutK N s (some d) (.ob d d (.ln τ (l++m))) fun s=>stPutK N s (some q) (.ob d d (.ln τ l)) fun s=>putsK N qs (.ob d d (.ln τ l)) s K)
 | _=>False
def app2K (N:Nat) (d:Nat) (x:Operand) (te:TI) (s:St):AV→AV→(St→Prop)→Prop
 | .nl,.nl,K=>stPutK N s (some d) .nl K
 | .nl,.rd τ l,K=>chkK (Nat.beq te.cells (esz τ)) (l.length * te.bytes≤140737488355328∧stKillK d s fun s=>stPutK N s (some d) (.vec d τ l) K)
 | .nl,.ob _ _ (.ln τ l),K=>chkK (Nat.beq te.cells (esz τ)) (l.length * te.bytes≤140737488355328∧stKillK d s fun s=>stPutK N s (some d) (.vec d τ l) K)
 | .vec id τ l,.ob _ _ (.ln _ m),K=>chkK (Nat.beq te.cells (esz τ)) (castK τ m fun m=>(l.length + m.length) * te.bytes≤140737488355328∧stKillK id s fun s=>stPutK N s (some d) (.vec d τ (l++m)) K)
 | .vec id τ l,.nl,K=>chkK (Nat.beq te.cells (esz τ)) (l.length * te.bytes≤140737488355328∧stKillK id s fun s=>stPutK N s (some d) (.vec d τ l) K)
 | .vec id τ l,.rd _ m,K=>chkK (Nat.beq te.cells (esz τ)) (castK τ m fun m=>(l.length + m.length) * te.bytes≤140737488355328∧stKillK id s fun s=>stPutK N s (some d) (.vec d τ (l++m)) K)
 | .vs id τ l k,.rd _ m,K=>chkK (Nat.beq te.cells (esz τ)) (castK τ m fun m=>(l.length - k + m.length) * te.bytes≤140737488355328∧stKillK id s fun s=>∀ pre:List (den τ),pre.length≤k→stPutK N s (some d) (.vs d τ (pre++(l.drop k++m)) pre.length) K)
 | .ob id i2 (.ln τ l),.rd _ m,K=>chkK (Nat.beq te.cells (esz τ)) (castK τ m fun m=>lnAppK N d te s id i2 l m K x)
 | _,_,_=>False
def appendK (Γ:Ctx) (N:Nat) (s:St) (args:List Operand) (ts:List TypeId) (dst:Option Nat) (K:St→Prop):Prop :=
 match args,ts with
 | [x, y], [t, t'] => tiK Γ t' fun ti' => sliceTK ti'.desc fun _ => (optK dst fun d => chkK (Nat.blt d N) (opVecsK s [(0, y)] fun ids => frzAllK ids s fun s => evK s x fun u => frzUnlessK d u s fun s => evK s x fun u => evK s y fun v =>
   tiK Γ t fun ti=>sliceTK ti.desc fun e=>tiK Γ e fun te=>chkK (Nat.ble 1 te.bytes) (app2K N d x te s u v K)))
 | _,_=>False

theorem frzUnless_ok (hI : InvB W0 F X N s β a w) {d : Nat} {u : AV} {K : St → Prop} (h : frzUnlessK d u s K) (hu : ∀ n ∈ ids u, Nm s n) :
  ∃ s',K s'∧InvB W0 F X N s' β a w∧((s' = s∧((∃ τ l,u = .vec d τ l)∨∃ τ l k,u = .vs d τ l k))∨¬ Nm s' d):=by
 have hf:stFrzK d s K→∃ s',K s'∧InvB W0 F X N s' β a w∧((s' = s∧((∃ τ l,u = .vec d τ l)∨∃ τ l k,u = .vs d τ l k))∨¬ Nm s' d):=by
  intro h; rw [stFrzK_eq] at h; exact ⟨_,h,hI.frz d,.inr (not_frz s d)⟩
 cases u with
 | vec id τ l =>
  have h:bif Nat.beq id d then K s else stFrzK d s K:=h
  cases hb:Nat.beq id d with
  | true=>rw [hb] at h; have:=Nat.eq_of_beq_eq_true hb; subst this; exact ⟨s,h,hI,.inl ⟨rfl,.inl ⟨τ,l,rfl⟩⟩⟩
  | false=>rw [hb] at h; exact hf h
 | vs id τ l k =>
  have h:bif Nat.beq id d then K s else stFrzK d s K:=h
  cases hb:Nat.beq id d with
  | true=>rw [hb] at h; have:=Nat.eq_of_beq_eq_true hb; subst this; exact ⟨s,h,hI,.inl ⟨rfl,.inr ⟨τ,l,k,rfl⟩⟩⟩
  | false=>rw [hb] at h; exact hf h
 | _=>exact hf h

theorem bytes_len {n b:Nat} (hb:1≤b) (h:n * b≤140737488355328):n≤maxLen:=by
 have:n≤n * b:=Nat.le_mul_of_pos_right _ hb
 unfold maxLen
 omega
theorem putVec {s:St} {d:Nat} {v:AV} {K:St→Prop} (hd:d < N) (h:stPutK N s (some d) v K):K (s.put d v):=by
 rw [stPutK_some,show Nat.blt d N = true from by rw [Nat.blt_eq]; exact hd,cond_true] at h
 exact h
theorem putS_inv {s:St} {d:Nat} {v:AV} {K:St→Prop} (h:stPutK N s (some d) v K):d < N∧K (s.put d v):=by
 rw [stPutK_some] at h
 cases hb:Nat.blt d N with
 | false=>rw [hb] at h; exact h.elim
 | true=>rw [hb] at h; exact ⟨by rw [Nat.blt_eq] at hb; exact hb,h⟩

theorem append_ok (hΓ : Γ.ok P) (hone : ∀ p ∈ Γ, (∀ v ∈ p.2.zero, v.oneCell' = true) ∧ p.2.zero.length = p.2.cells) (hI : InvB W0 F X N s β a w) {o : Oper} {args : Array Operand} {ts : Array TypeId}
  (ho:o.op = .call { callee:=.builtin .append,args:=args,argTypes:=ts }) {K:St→Prop} (h:appendK Γ N s args.toList ts.toList o.dst K)
  {next:Act→World→Prop} {Q:Exit→Act→World→Prop} (hn:∀ s' a' w',K s'→Inv W0 F X N s' a' w'→next a' w'):o.wp P a w next Q:=by
 obtain ⟨args⟩:=args
 obtain ⟨ts⟩:=ts
 rcases args with _ | ⟨x,_ | ⟨y,_ | ⟨z,r⟩⟩⟩
 ·exact h.elim
 ·exact h.elim
 ·rcases ts with _ | ⟨t,_ | ⟨t',_ | ⟨t'',r⟩⟩⟩
  ·exact h.elim
  ·exact h.elim
  ·obtain ⟨ti',hmt',hK0⟩:=tiK_mem (show tiK Γ t' fun ti'=>_ from h)
   clear h
   obtain ⟨e0,hK0,hu'⟩:=slice_ok (hΓ _ hmt') hK0
   obtain ⟨d,hd,h⟩:=(optK_iff _ _).1 hK0
   clear hK0
   obtain ⟨hdN,h⟩:=(chkK_iff _ _).1 h
   rw [Nat.blt_eq] at hdN
   rw [opVecsK_eq,frzAllK_eq,evK_eq] at h
   have hI1:=hI.frzAll (opVecs s [(0,y)])
   generalize frzAll (opVecs s [(0,y)]) s = s1 at h hI1
   obtain ⟨s2,h,hI2,hfree⟩:=frzUnless_ok hI1 h (ev_rel hI1 x).2
   rw [evK_eq,evK_eq] at h
   obtain ⟨ti,hmt,h⟩:=tiK_mem h
   obtain ⟨e,h,hu⟩:=slice_ok (hΓ _ hmt) h
   obtain ⟨te,hme,h⟩:=tiK_mem h
   have hte:=hΓ _ hme
   have hz1:=(hone _ hme).2
   obtain ⟨hb1,h⟩:=(chkK_iff _ _).1 h
   have hb1:=Nat.le_of_ble_eq_true hb1
   have hx:=ev_rel hI2 x
   have hy:=ev_rel hI2 y
   have hfree':∀ id1,Nm s2 d→(∀ τ l,ev s2 x≠.vec id1 τ l∨d = id1)→(∃ τ l,ev s2 x = .vec id1 τ l)→d = id1:=by
    intro id1 _ h1 ⟨τ,l,h2⟩
    rcases h1 τ l with h1 | h1
    ·exact absurd h2 h1
    ·exact h1
   have hrun:∀ {u:Value} {w':World},(Builtin.append_ #[t,t'] o.type #[a.eval x,a.eval y]).run P w = .ok u w'→(execOp a.eval o).run P w = .ok (.value u) w':=by
    intro u w' hr
    simp [execOp,ho,resolve,invoke,builtin,hr]
   have fin : ∀ {τ : Ty} {id1 : Nat} {l1 l2 : List (den τ)}, te.cells = esz τ → (Nm s2 d → d = id1) → ((l1 = [] ∧ a.eval x = .slice none 0 0) ∨ (Nm s2 id1 ∧ VecAt β (Own X s2 β) w id1 τ l1 (a.eval x))) →
     SrcOK P (Own X s2 β) w τ l2 (a.eval y)→(l1.length + l2.length) * te.bytes≤140737488355328→(stKillK id1 s2 fun s=>stPutK N s (some d) (.vec d τ (l1++l2)) K)→o.wp P a w next Q:=by
    intro τ id1 l1 l2 hsz hfr h1 h2 hby hK
    rw [stKillK_eq] at hK
    have hK:=putVec hdN hK
    obtain ⟨u,w',β',hr,hI',_⟩:=append_vec hI2 hu hu' hte hsz hz1 o.type hdN hfr h1 h2 hby (bytes_len hb1 hby)
    exact wp_val (hrun hr) (by rw [hd]; exact hn _ _ _ hK ⟨β',hI'⟩)
   have hnotvec:(∀ τ l,ev s2 x≠.vec d τ l)→ev s1 x = ev s2 x∨¬ Nm s2 d→True:=fun _ _=>trivial
   cases hxv:ev s2 x with
   | nl =>
    have hfr:Nm s2 d→d = d:=fun _=>rfl
    have hx1:a.eval x = .slice none 0 0:=by have:=hx.1; rw [hxv] at this; exact this.inv_nl
    cases hyv:ev s2 y with
    | nl =>
     rw [hxv,hyv] at h
     have hy1:a.eval y = .slice none 0 0:=by have:=hy.1; rw [hyv] at this; exact this.inv_nl
     have h:=putVec hdN (show stPutK N s2 (some d) .nl K from h)
     refine wp_val (u:=.slice none 0 0) (w':=w) (hrun ?_) (by rw [hd]; exact hn _ _ _ h ⟨β,hI2.put hdN (Rel.im .nl) (by intro n hn; cases hn)⟩)
     obtain ⟨i,z,hi,h1,h2,h3,h4⟩:=hte.info
     simp [hx1,hy1,Builtin.append_,run_underlying hu,run_underlying hu',sizeOf,typeInfo,hi,Builtin.lenOf,Builtin.firstCells]
    | rd τ l =>
     rw [hxv,hyv] at h
     obtain ⟨hsz,hby,hK⟩:=(chkK_iff _ _).1 (show chkK (Nat.beq te.cells (esz τ)) (l.length * te.bytes≤140737488355328∧stKillK d s2 fun s=>stPutK N s (some d) (.vec d τ l) K) from h)
     have hy1:=hy.1
     rw [hyv] at hy1
     exact fin (l1:=[]) (Nat.eq_of_beq_eq_true hsz) (fun _=>rfl) (.inl ⟨rfl,hx1⟩) (src_cells hy1) (by simpa using hby) hK
    | ob i2 i3 ob=>cases ob with
     | ln τ l =>
      rw [hxv,hyv] at h
      obtain ⟨hsz,hby,hK⟩:=(chkK_iff _ _).1 (show chkK (Nat.beq te.cells (esz τ)) (l.length * te.bytes≤140737488355328∧stKillK d s2 fun s=>stPutK N s (some d) (.vec d τ l) K) from h)
      have hy1:=hy.1
      rw [hyv] at hy1
      exact fin (l1:=[]) (Nat.eq_of_beq_eq_true hsz) (fun _=>rfl) (.inl ⟨rfl,hx1⟩) (vec_src (show _∧VecAt _ _ _ _ _ _ _ from hy1).2) (by simpa using hby) hK
     | _=>rw [hxv,hyv] at h; exact h.elim
    | _=>rw [hxv,hyv] at h; exact h.elim
   | vec id τ l =>
    have hx1:=hx.1
    rw [hxv] at hx1
    have hid:Nm s2 id:=hx.2 id (by rw [hxv]; simp [ids,ids0])
    have hfr:Nm s2 d→d = id:=by
     intro hdn
     rcases hfree with ⟨rfl,⟨τ',l',he⟩ | ⟨τ',l',k',he⟩⟩ | hfree
     ·rw [hxv] at he
      injection he with he
      exact he.symm
     ·rw [hxv] at he
      cases he
     ·exact absurd hdn hfree
    cases hyv:ev s2 y with
    | nl =>
     rw [hxv,hyv] at h
     obtain ⟨hsz,hby,hK⟩:=(chkK_iff _ _).1 (show chkK (Nat.beq te.cells (esz τ)) (l.length * te.bytes≤140737488355328∧stKillK id s2 fun s=>stPutK N s (some d) (.vec d τ l) K) from h)
     have hy1:=hy.1
     rw [hyv] at hy1
     have hy1:=hy1.inv_nl
     exact fin (l2:=[]) (Nat.eq_of_beq_eq_true hsz) hfr (.inr ⟨hid,hx1⟩) (by rw [hy1]; exact src_cells (.rd0 τ none 0 (Nat.zero_le _))) (by simpa using hby) (by simpa using hK)
    | rd σ m =>
     rw [hxv,hyv] at h
     obtain ⟨hsz,h⟩:=(chkK_iff _ _).1 (show chkK (Nat.beq te.cells (esz τ)) (castK τ m fun m=>(l.length + m.length) * te.bytes≤140737488355328∧stKillK id s2 fun s=>stPutK N s (some d) (.vec d τ (l++m)) K) from h)
     obtain ⟨e',hby,hK⟩:=castK_iff h
     subst e'
     have hy1:=hy.1
     rw [hyv] at hy1
     exact fin (Nat.eq_of_beq_eq_true hsz) hfr (.inr ⟨hid,hx1⟩) (src_cells hy1) hby hK
    | ob i2 i3 ob=>cases ob with
     | ln σ m =>
      rw [hxv,hyv] at h
      obtain ⟨hsz,h⟩:=(chkK_iff _ _).1 (show chkK (Nat.beq te.cells (esz τ)) (castK τ m fun m=>(l.length + m.length) * te.bytes≤140737488355328∧stKillK id s2 fun s=>stPutK N s (some d) (.vec d τ (l++m)) K) from h)
      obtain ⟨e',hby,hK⟩:=castK_iff h
      subst e'
      have hy1:=hy.1
      rw [hyv] at hy1
      exact fin (Nat.eq_of_beq_eq_true hsz) hfr (.inr ⟨hid,hx1⟩) (vec_src (show _∧VecAt _ _ _ _ _ _ _ from hy1).2) hby hK
     | _=>rw [hxv,hyv] at h; exact h.elim
    | _=>rw [hxv,hyv] at h; exact h.elim
   | vs id τ l k =>
    have hx1:=hx.1
    rw [hxv] at hx1
    have hid:Nm s2 id:=hx.2 id (by rw [hxv]; simp [ids,ids0])
    have hfr:Nm s2 d→d = id:=by
     intro hdn
     rcases hfree with ⟨rfl,⟨τ',l',he⟩ | ⟨τ',l',k',he⟩⟩ | hfree
     ·rw [hxv] at he
      cases he
     ·rw [hxv] at he
      injection he with he
      exact he.symm
     ·exact absurd hdn hfree
    cases hyv:ev s2 y with
    | rd σ m =>
     rw [hxv,hyv] at h
     obtain ⟨hsz,h⟩:=(chkK_iff _ _).1 (show chkK (Nat.beq te.cells (esz τ)) (castK τ m fun m=>(l.length - k + m.length) * te.bytes≤140737488355328∧stKillK id s2 fun s=>∀ pre:List (den τ),pre.length≤k→stPutK N s (some d) (.vs d τ (pre++(l.drop k++m)) pre.length) K) from h)
     obtain ⟨e',hby,hK⟩:=castK_iff h
     subst e'
     have hy1:=hy.1
     rw [hyv] at hy1
     rw [stKillK_eq] at hK
     have hsz:=Nat.eq_of_beq_eq_true hsz
     obtain ⟨u,w',β',pre,hpre,hr,hI'⟩:=append_suf hI2 hu hu' hte hsz hz1 o.type hdN hfr hid hx1 hy1 hby (bytes_len hb1 hby)
     have hK:=putVec hdN (hK pre hpre)
     exact wp_val (hrun hr) (by rw [hd]; exact hn _ _ _ hK ⟨β',hI'⟩)
    | _=>rw [hxv,hyv] at h; exact h.elim
   | ob id i2 ob=>cases ob with
    | ln τ l =>
     cases hyv:ev s2 y with
     | rd σ m =>
      rw [hxv,hyv] at h
      obtain ⟨hsz,h⟩:=(chkK_iff _ _).1 (show chkK (Nat.beq te.cells (esz τ)) (castK τ m fun m=>lnAppK N d te s2 id i2 l m K x) from h)
      obtain ⟨e',h⟩:=castK_iff h
      subst e'
      have hy1:=hy.1
      rw [hyv] at hy1
      have hsz:=Nat.eq_of_beq_eq_true hsz
      cases x with
      | tmp q =>
       obtain ⟨hc,hby,hK1,qs,hqs,hheld,hK2⟩:=(chkK_iff _ _).1 h
       rw [Bool.and_eq_true,Bool.not_eq_true'] at hc
       have hi2:=Nat.eq_of_beq_eq_true hc.1
       subst hi2
       have hne:d≠q:=fun e=>by have h2:=hc.2; rw [e,Nat.beq_refl] at h2; cases h2
       rw [stKillK_eq] at hK1 hK2
       have hK1:=putVec hdN (putVec hdN hK1)
       have hK2:=putVec hdN (putVec hdN hK2)
       obtain ⟨hqN,hK2⟩:=putS_inv hK2
       have hnd:¬ Nm s2 d:=by
        rcases hfree with ⟨e0,⟨τ',l',he⟩ | ⟨τ',l',k',he⟩⟩ | hfree
        ·rw [← e0,hxv] at he; cases he
        ·rw [← e0,hxv] at he; cases he
        ·exact hfree
       obtain ⟨u,w',β',hr,hI'⟩:=append_ln hI2 hu hu' hte hsz hz1 o.type hdN hqN hne hnd hxv (src_cells hy1) hby (bytes_len hb1 hby)
       refine wp_val (hrun hr) ?_
       rw [hd]
       rcases hI' with hI' | hI'
       ·exact hn _ _ _ hK1 ⟨β',hI'⟩
       ·have e0:∀ n,n≠d→(a.put (some d) u).tmps.getD n undef = a.tmps.getD n undef:=fun n hnd=>by rw [getD_put a d u (by rw [hI2.size]; exact hdN),if_neg fun e=>hnd e.symm]
        have e1:∀ n ∈ qs,(a.put (some d) u).tmps.getD n undef = a.tmps.getD q undef:=fun n hnq=>by
         have hnd:n≠d:=fun e=>by
          have:=List.all_eq_true.1 hqs n hnq
          rw [e,Nat.beq_refl] at this
          cases this
         rw [e0 n hnd]
         have r1:=hI2.slots n
         rw [held_mem hheld n hnq] at r1
         have r2:=hI2.slots q
         rw [show SX.look s2.slots q = .ob i2 i2 (.ln σ l) from hxv] at r2
         exact VecAt.uniq (show _∧VecAt _ _ _ _ _ _ _ from r1).2 (show _∧VecAt _ _ _ _ _ _ _ from r2).2
        obtain ⟨s3,k1,k2,_⟩:=puts_ok qs hI' ⟨q,hqN,by simp [St.put,look_setL],e0 q (fun e=>hne e.symm)⟩ e1 hK2
        exact hn _ _ _ k1 ⟨β',k2⟩
      | _=>exact h.elim
     | _=>rw [hxv,hyv] at h; exact h.elim
    | _=>rw [hxv] at h; exact h.elim
   | _=>rw [hxv] at h; exact h.elim
  ·exact h.elim
 ·exact h.elim

/-! ### calls -/
def PSpec (P:Program) (f:FuncId) (args:List AV) (r:AV):Prop :=
 (∀ (vs:Array Value) (w:World),(callFunc f vs).run P w = .ok (.enter f vs) w) ∧
 ∀ (O:Nat→Prop) (w:World) (vs:List Value),(∀ k,O k→k < w.heap.size)→GlobOK O w→All2 (Im O w) args vs →
  Calls P f vs.toArray w fun e w'=>∃ v,e = .returned v∧Stp (fun _=>False) w w'∧Im O w' r v

theorem PSpec.mono {f:FuncId} {args:List AV} {r r':AV} (h:PSpec P f args r) (hr:∀ (O:Nat→Prop) (w:World) (v:Value),Im O w r v→Im O w r' v):PSpec P f args r' :=
 ⟨h.1,fun O w vs h1 h2 h3=>(h.2 O w vs h1 h2 h3).mono fun _ _ ⟨v,h4,h5,h6⟩=>⟨v,h4,h5,hr _ _ _ h6⟩⟩
def vecsOf:List AV→List Nat
 | []=>[]
 | .vec id _ _::r=>id::vecsOf r
 | .vs id _ _ _::r=>id::vecsOf r
 | _::r=>vecsOf r
def vecsOfK:List AV→(List Nat→Prop)→Prop
 | [],K=>K []
 | .vec id _ _::r,K=>vecsOfK r fun l=>K (id::l)
 | .vs id _ _ _::r,K=>vecsOfK r fun l=>K (id::l)
 | _::r,K=>vecsOfK r K
theorem vecsOfK_eq (l:List AV):∀ K,vecsOfK l K = K (vecsOf l):=by
 induction l with
 | nil=>intro K; rfl
 | cons v r ih=>intro K; cases v<;>simp [vecsOfK,vecsOf,ih]
def imB:AV→Bool
 | .tup .. => false
 | .pt .. => false
 | .vec .. => false
 | .vp .. => false
 | .vs .. => false
 | .ag .. => false
 | .ob .. => false
 | _=>true
def imAll:List AV→Bool
 | []=>true
 | v::r=>bif imB v then imAll r else false
def fnArgs:List AV→Bool
 | []=>true
 | .fn _ caps::r=>bif imAll caps then fnArgs r else false
 | _::r=>fnArgs r
def callK (P:Program) (N:Nat) (s:St) (f:Operand) (args:List Operand) (dst:Option Nat) (K:St→Prop):Prop :=
 evsK s args fun vs=>vecsOfK vs fun ids=>frzAllK ids s fun s=>evK s f fun fv=>evsK s args fun vs =>
  match fv with
  | .fn g caps=>chkK (imAll vs) (chkK (fnArgs vs) (chkK (imAll caps) (∃ r,PSpec P g (callArgs vs caps) r∧stPutK N s dst r K)))
  | _=>False
theorem im_of_rel {O:Nat→Prop} {c:AV} {v:Value} (h:Rel β O w c v) (hb:imB c = true) (hf:fnArgs [c] = true):Im O w c v:=by
 cases c with
 | fn f caps =>
  obtain ⟨vs,rfl,h1⟩:=h
  refine .fn f caps vs h1.1 fun j av v hav hv=>?_
  have hc:imAll caps = true:=by
   simp only [fnArgs] at hf
   cases he:imAll caps with
   | true=>rfl
   | false=>rw [he] at hf; cases hf
  have hav':imB av = true:=by
   have hm:=List.mem_of_getElem? hav
   clear h1 hf hav hb
   induction caps with
   | nil=>cases hm
   | cons z r ih =>
    simp only [imAll] at hc
    cases hx:imB z with
    | false=>rw [hx] at hc; cases hc
    | true =>
     rw [hx] at hc
     rcases List.mem_cons.1 hm with rfl | hm
     ·exact hx
     ·exact ih hc hm
  have h2:=h1.2 j av v hav hv
  cases av<;>first | exact h2 | (cases hav'; done)
 | tup _=>cases hb
 | pt _ _=>cases hb
 | vec _ _ _=>cases hb
 | vp _ _ _ _ _=>cases hb
 | vs _ _ _ _=>cases hb
 | ag _ _=>cases hb
 | ob _ _ _=>cases hb
 | _=>exact h
theorem imAll_mem {l:List AV} (h:imAll l = true) {c:AV} (hc:c ∈ l):imB c = true:=by
 induction l with
 | nil=>cases hc
 | cons z r ih =>
  simp only [imAll] at h
  cases hx:imB z with
  | false=>rw [hx] at h; cases h
  | true =>
   rw [hx] at h
   rcases List.mem_cons.1 hc with rfl | hc
   ·exact hx
   ·exact ih h hc
theorem fnArgs_mem {l:List AV} (h:fnArgs l = true) {c:AV} (hc:c ∈ l):fnArgs [c] = true:=by
 induction l with
 | nil=>cases hc
 | cons z r ih =>
  cases z with
  | fn f caps =>
   simp only [fnArgs] at h
   cases hx:imAll caps with
   | false=>rw [hx] at h; cases h
   | true =>
    rw [hx] at h
    rcases List.mem_cons.1 hc with rfl | hc
    ·simp [fnArgs,hx]
    ·exact ih h hc
  | _ =>
   rcases List.mem_cons.1 hc with rfl | hc
   ·rfl
   ·exact ih h hc
theorem own_lt (hI:InvB W0 F X N s β a w):∀ k,Own X s β k→k < w.heap.size:=by
 rintro k (hX | ⟨n,hn,hb⟩)
 ·exact Nat.lt_of_lt_of_le (hI.ext2 k hX).1 hI.ext.size
 ·exact (hI.own n k hn hb).1

theorem callArgs_all {α : Type} {R : AV → α → Prop} {vs caps : List AV} {us cvs : List α} (h1 : All2 R vs us) (h2 : All2 R caps cvs) : All2 R (callArgs vs caps) (match headNp caps with
  | true=>cvs.drop 1++us
  | false=>us++cvs):=by
 cases caps with
 | nil=>exact h1.append h2
 | cons c r =>
  cases c with
  | np =>
   obtain ⟨v,vs',rfl,_,h4⟩:=h2.cons_inv
   exact h4.append h1
  | _=>exact h1.append h2
theorem mem_callArgs {vs caps:List AV} {c:AV} (h:c ∈ callArgs vs caps):c ∈ vs∨c ∈ caps:=by
 cases caps with
 | nil=>exact List.mem_append.1 h
 | cons x r =>
  cases x with
  | np=>exact (List.mem_append.1 (show c ∈ r++vs from h)).elim (fun h=>.inr (List.mem_cons_of_mem _ h)) .inl
  | _=>exact List.mem_append.1 h
theorem run_fnV {o : Oper} {f : Operand} {args : Array Operand} {ts : Array TypeId} (ho : o.op = .call { callee := .value f, args := args, argTypes := ts }) {caps : List AV} {g : FuncId} {cvs : List Value} (hfe : a.eval f = fnV caps g cvs)
  (hcall:∀ (vs:Array Value) (w:World),(callFunc g vs).run P w = .ok (.enter g vs) w):(execOp a.eval o).run P w = .ok (.enter g (cargs caps (args.toList.map a.eval) cvs).toArray) w:=by
 unfold fnV at hfe
 unfold cargs
 cases hp:headNp caps with
 | false =>
  rw [hp] at hfe
  have hfe:a.eval f = .func (.func g) #[] cvs.toArray:=hfe
  have e1:args.map a.eval++cvs.toArray = (args.toList.map a.eval++cvs).toArray:=by apply Array.ext'; simp
  simp [execOp,ho,resolve,hfe,Deferred.ofValue,invoke]
  rw [e1]
  exact hcall _ w
 | true =>
  rw [hp] at hfe
  have hfe:a.eval f = .func (.func g) (cvs.drop 1).toArray #[]:=hfe
  show _ = Result.ok (Next.enter g (cvs.drop 1++args.toList.map a.eval).toArray) w
  generalize cvs.drop 1 = d at hfe ⊢
  have e1:d.toArray++args.map a.eval = (d++args.toList.map a.eval).toArray:=by apply Array.ext'; simp
  simp [execOp,ho,resolve,hfe,Deferred.ofValue,invoke]
  rw [e1]
  exact hcall _ w
theorem call_ok (hI : InvB W0 F X N s β a w) {o : Oper} {f : Operand} {args : Array Operand} {ts : Array TypeId} (ho : o.op = .call { callee := .value f, args := args, argTypes := ts }) {K : St → Prop}
  (h:callK P N s f args.toList o.dst K) {next:Act→World→Prop} {Q:Exit→Act→World→Prop} (hn:∀ s' a' w',K s'→Inv W0 F X N s' a' w'→next a' w'):o.wp P a w next Q:=by
 unfold callK at h
 rw [evsK_eq,vecsOfK_eq,frzAllK_eq,evK_eq,evsK_eq] at h
 have hI1:=hI.frzAll (vecsOf (evs s args.toList))
 generalize frzAll (vecsOf (evs s args.toList)) s = s1 at h hI1
 have hf:=ev_rel hI1 f
 have hvs:=evs_rel hI1 args.toList
 cases hfv:ev s1 f with
 | fn g caps =>
  rw [hfv] at h hf
  obtain ⟨h1,h⟩:=(chkK_iff _ _).1 h
  obtain ⟨h2,h⟩:=(chkK_iff _ _).1 h
  obtain ⟨h3,h⟩:=(chkK_iff _ _).1 h
  obtain ⟨r,⟨hcall,hspec⟩,hK⟩:=h
  obtain ⟨cvs,hfe,hcaps⟩:=hf.1
  have himv:All2 (Im (Own X s1 β) w) (evs s1 args.toList) (args.toList.map a.eval) :=
   hvs.1.mono fun _ c v hc hr=>im_of_rel hr (imAll_mem h1 (List.mem_of_getElem? hc)) (fnArgs_mem h2 (List.mem_of_getElem? hc))
  have himc:All2 (Im (Own X s1 β) w) caps cvs:=hcaps.mono fun _ c v hc hr=>by
   have hb:=imAll_mem h3 (List.mem_of_getElem? hc)
   cases c<;>first | exact hr | (cases hb; done)
  have hs:=hspec (Own X s1 β) w _ (own_lt hI1) hI1.globs (callArgs_all himv himc)
  unfold Oper.wp
  have hrun:=run_fnV (w:=w) ho hfe hcall
  rw [hrun]
  refine hs.mono fun e w' hp=>?_
  obtain ⟨v,rfl,hst,him⟩:=hp
  obtain ⟨s',h4,h5⟩:=putIm_ok hI1 hst hK him
  exact hn _ _ _ h4 ⟨β,h5⟩
 | _=>rw [hfv] at h; exact h.elim
/-! ### calls that only read own slices, and hand back no memory -/
def rdB (b:List (Nat × List AV)):AV→AV
 | .vec _ τ l=>.rd τ l
 | .vs _ τ l k=>.rd τ (l.drop k)
 | .pt n o=>match o with
  | 0=>match lookB b n with
   | some cs=>bif imAll cs && fnArgs cs then .rp cs else .pt n 0
   | none=>.pt n 0
  | o + 1=>.pt n (o + 1)
 | v=>v
def rdBL (b:List (Nat × List AV)):List AV→List AV
 | []=>[]
 | v::r=>rdB b v::rdBL b r
def rdOf (b:List (Nat × List AV)):AV→AV
 | .fn g caps=>.fn g (rdBL b caps)
 | v=>rdB b v
def rdAll (b:List (Nat × List AV)):List AV→List AV
 | []=>[]
 | v::r=>rdOf b v::rdAll b r
theorem rdBL_eq (b:List (Nat × List AV)) (l:List AV):rdBL b l = l.map (rdB b):=by induction l with
 | nil=>rfl
 | cons v r ih=>simp [rdBL,ih]
def gr0:AV→Bool
 | .i .. | .b .. | .s .. => true
 | _=>false
def gr0All:List AV→Bool
 | []=>true
 | v::r=>bif gr0 v then gr0All r else false
def grx0:AV→Bool
 | .i .. | .b .. | .s .. | .x=>true
 | _=>false
def grx0All:List AV→Bool
 | []=>true
 | v::r=>bif grx0 v then grx0All r else false
def grx:AV→Bool
 | .agg l=>grx0All l
 | v=>grx0 v
def grxAll:List AV→Bool
 | []=>true
 | v::r=>bif grx v then grxAll r else false
def grB:AV→Bool
 | .tup cs=>grxAll cs
 | v=>grx v
theorem grx0_im {O O':Nat→Prop} {w:World} {c:AV} {v:Value} (hg:grx0 c = true) (h:Im O w c v):Im O' w c v:=by
 cases c<;>first | (cases hg; done) | (cases h; constructor; done) | (cases h; constructor; assumption)
theorem grx0All_mem {l:List AV} (h:grx0All l = true) {c:AV} (hc:c ∈ l):grx0 c = true:=by
 induction l with
 | nil=>cases hc
 | cons z r ih =>
  simp only [grx0All] at h
  cases hx:grx0 z with
  | false=>rw [hx] at h; cases h
  | true =>
   rw [hx] at h
   rcases List.mem_cons.1 hc with rfl | hc
   ·exact hx
   ·exact ih h hc
theorem grx_im {O O':Nat→Prop} {w:World} {c:AV} {v:Value} (hg:grx c = true) (h:Im O w c v):Im O' w c v:=by
 cases c with
 | agg l =>
  cases h with
  | agg _ vs h1 h0 h2=>exact .agg l vs h1 h0 fun j av v ha hv=>grx0_im (grx0All_mem hg (List.mem_of_getElem? ha)) (h2 j av v ha hv)
 | i k n=>exact grx0_im rfl h
 | b t=>exact grx0_im rfl h
 | s l=>exact grx0_im rfl h
 | x=>exact grx0_im rfl h
 | _=>cases hg
theorem grxAll_mem {l:List AV} (h:grxAll l = true) {c:AV} (hc:c ∈ l):grx c = true:=by
 induction l with
 | nil=>cases hc
 | cons z r ih =>
  simp only [grxAll] at h
  cases hx:grx z with
  | false=>rw [hx] at h; cases h
  | true =>
   rw [hx] at h
   rcases List.mem_cons.1 hc with rfl | hc
   ·exact hx
   ·exact ih h hc
theorem gr0All_mem {l:List AV} (h:gr0All l = true) {c:AV} (hc:c ∈ l):gr0 c = true:=by
 induction l with
 | nil=>cases hc
 | cons z r ih =>
  simp only [gr0All] at h
  cases hx:gr0 z with
  | false=>rw [hx] at h; cases h
  | true =>
   rw [hx] at h
   rcases List.mem_cons.1 hc with rfl | hc
   ·exact hx
   ·exact ih h hc
theorem gr_im {O O':Nat→Prop} {w:World} {c:AV} {v:Value} (hg:grB c = true) (h:Im O w c v):Im O' w c v:=by
 cases c with
 | tup cs =>
  cases h with
  | tup _ vs h1 h2=>exact .tup cs vs h1 fun j av v ha hv=>grx_im (grxAll_mem hg (List.mem_of_getElem? ha)) (h2 j av v ha hv)
 | i k n=>exact grx_im rfl h
 | b t=>exact grx_im rfl h
 | s l=>exact grx_im rfl h
 | x=>exact grx_im rfl h
 | agg l=>exact grx_im hg h
 | _=>cases hg
theorem vec_rd {β:Nat→Option Nat} {O:Nat→Prop} {w:World} {id:Nat} {τ:Ty} {l:List (den τ)} {v:Value} (h:VecAt β O w id τ l v):Im (fun _=>False) w (.rd τ l) v:=h.freeze fun _ h=>h.elim
theorem rdB_fn (b:List (Nat × List AV)) (c:AV):(∃ f caps,c = .fn f caps)∨fnArgs [rdB b c] = true:=by
 cases c with
 | fn f caps=>exact .inl ⟨_,_,rfl⟩
 | pt n o =>
  right
  cases o with
  | succ o=>rfl
  | zero =>
   simp only [rdB]
   cases lookB b n with
   | none=>rfl
   | some cs=>cases h:(imAll cs && fnArgs cs)<;>simp only [cond_true,cond_false,h]<;>rfl
 | _=>exact .inr rfl
theorem rdB_im (hI:InvB W0 F X N s β a w) {c:AV} {v:Value} (h:Rel0 β (Own X s β) w c v) (hb:imB (rdB s.boxes c) = true) (hf:fnArgs [rdB s.boxes c] = true):Im (fun _=>False) w (rdB s.boxes c) v:=by
 cases c with
 | vec id τ l=>exact vec_rd h
 | vs id τ l k=>exact VsAt.freeze (show VsAt β (Own X s β) w id τ l k v from h) fun _ h=>h.elim
 | pt n o =>
  obtain ⟨g,hg,rfl⟩:=h
  cases o with
  | succ o=>cases hb
  | zero =>
   cases hl:lookB s.boxes n with
   | none=>simp only [rdB,hl] at hb; cases hb
   | some cs =>
    cases hc:(imAll cs && fnArgs cs) with
    | false=>simp only [rdB,hl,hc] at hb; cases hb
    | true =>
     have e:rdB s.boxes (.pt n 0) = .rp cs:=by simp only [rdB,hl,hc,cond_true]
     rw [Bool.and_eq_true] at hc
     rw [e]
     obtain ⟨g',us,e',h1,h2,h3⟩:=hI.boxes n cs hl
     rw [hg] at h1
     injection h1 with h1
     subst h1
     refine Im.mk_rp fun j av hj=>⟨fun h=>h,?_⟩
     have hlt:j < us.toList.length:=by rw [← h3.1]; exact (List.getElem?_eq_some_iff.1 hj).1
     have hr:=h3.2 j av _ hj (List.getElem?_eq_getElem hlt)
     refine ⟨us.toList[j],?_,(im_of_rel hr.1 (imAll_mem hc.1 (List.mem_of_getElem? hj)) (fnArgs_mem hc.2 (List.mem_of_getElem? hj))).mono fun _ h=>h.elim,hr.2⟩
     rw [cell_of_row w g _ us e' (0,0) h2,Nat.zero_add,← Array.getElem?_toList,List.getElem?_eq_getElem hlt]
 | fn f caps=>exact Im.mono (show Im (Own X s β) w (.fn f caps) v from h) fun _ h=>h.elim
 | tup cs=>exact absurd hb (by simp [rdB,imB])
 | ag k cs=>exact absurd hb (by simp [rdB,imB])
 | _=>exact (im_of_rel (Rel.rel0 h) hb hf).mono fun _ h=>h.elim
theorem headNp_rdBL (b:List (Nat × List AV)) (caps:List AV):headNp (rdBL b caps) = headNp caps:=by
 cases caps with
 | nil=>rfl
 | cons c r =>
  cases c with
  | pt n o =>
   cases o with
   | zero =>
    show headNp (rdB b (.pt n 0)::rdBL b r) = false
    simp only [rdB]
    cases lookB b n with
    | none=>rfl
    | some cs=>simp only; cases (imAll cs && fnArgs cs)<;>rfl
   | succ o=>rfl
  | _=>rfl
theorem rdBL_all (hI:InvB W0 F X N s β a w) {caps:List AV} {vs:List Value} (h1:All2 (Rel0 β (Own X s β) w) caps vs) (hc:imAll (rdBL s.boxes caps) = true):All2 (Im (fun _=>False) w) (rdBL s.boxes caps) vs:=by
 refine ⟨by rw [rdBL_eq,List.length_map]; exact h1.1,fun j av v hav hv=>?_⟩
 have hm:=imAll_mem hc (List.mem_of_getElem? hav)
 rw [rdBL_eq,List.getElem?_map,Option.map_eq_some_iff] at hav
 obtain ⟨c,hc',rfl⟩:=hav
 have hr:=h1.2 j c v hc' hv
 rcases rdB_fn s.boxes c with ⟨f',caps',rfl⟩ | hfn
 ·exact Im.mono (show Im (Own X s β) w (.fn f' caps') v from hr) fun _ h=>h.elim
 ·exact rdB_im hI hr hm hfn
theorem rdOf_im (hI:InvB W0 F X N s β a w) {c:AV} {v:Value} (h:Rel β (Own X s β) w c v) (hb:imB (rdOf s.boxes c) = true) (hf:fnArgs [rdOf s.boxes c] = true):Im (fun _=>False) w (rdOf s.boxes c) v:=by
 cases c with
 | fn f caps =>
  obtain ⟨vs,rfl,h1⟩:=h
  have hc:imAll (rdBL s.boxes caps) = true:=by
   simp only [fnArgs,rdOf] at hf
   cases he:imAll (rdBL s.boxes caps) with
   | true=>rfl
   | false=>rw [he] at hf; cases hf
  rw [← fnV_of (headNp_rdBL s.boxes caps) f vs]
  have h9:=rdBL_all hI h1 hc
  exact .fn f _ vs h9.1 h9.2
 | tup cs=>exact absurd hb (by simp [rdOf,rdB,imB])
 | ag k cs=>exact absurd hb (by simp [rdOf,rdB,imB])
 | i k n=>exact rdB_im hI (c:=.i k n) h hb hf
 | b x=>exact rdB_im hI (c:=.b x) h hb hf
 | s x=>exact rdB_im hI (c:=.s x) h hb hf
 | nl=>exact rdB_im hI (c:=.nl) h hb hf
 | rd τ l=>exact rdB_im hI (c:=.rd τ l) h hb hf
 | rp cs=>exact rdB_im hI (c:=.rp cs) h hb hf
 | pt n o=>exact rdB_im hI (c:=.pt n o) h hb hf
 | vec id τ l=>exact rdB_im hI (c:=.vec id τ l) h hb hf
 | vp id τ l n o=>exact rdB_im hI (c:=.vp id τ l n o) h hb hf
 | agg cs=>exact rdB_im hI (c:=.agg cs) h hb hf
 | vs id τ l k=>exact rdB_im hI (c:=.vs id τ l k) h hb hf
 | ob i j o=>exact rdB_im hI (c:=.ob i j o) h hb hf
 | np=>exact rdB_im hI (c:=.np) h hb hf
 | er e=>exact rdB_im hI (c:=.er e) h hb hf
 | x=>exact rdB_im hI (c:=.x) h hb hf
def readGK (P:Program) (b:List (Nat × List AV)) (vs:List AV):AV→(AV→Prop)→Prop
 | .fn g caps,K=>chkK (imAll (rdAll b vs)) (chkK (fnArgs (rdAll b vs)) (chkK (imAll (rdBL b caps)) (∃ r,PSpec P g (callArgs (rdAll b vs) (rdBL b caps)) r∧chkK (grB r) (K r))))
 | _,_=>False
def readK (P:Program) (N:Nat) (s:St) (f:Operand) (args:List Operand) (dst:Option Nat) (K:St→Prop):Prop :=
 evsK s args fun vs=>evK s f fun fv=>readGK P s.boxes vs fv fun r=>stPutK N s dst r K
theorem rdAll_eq (b:List (Nat × List AV)) (l:List AV):rdAll b l = l.map (rdOf b):=by induction l with
 | nil=>rfl
 | cons v r ih=>simp [rdAll,ih]
theorem read_ok (hI : InvB W0 F X N s β a w) {o : Oper} {f : Operand} {args : Array Operand} {ts : Array TypeId} (ho : o.op = .call { callee := .value f, args := args, argTypes := ts }) {K : St → Prop}
  (h:readK P N s f args.toList o.dst K) {next:Act→World→Prop} {Q:Exit→Act→World→Prop} (hn:∀ s' a' w',K s'→Inv W0 F X N s' a' w'→next a' w'):o.wp P a w next Q:=by
 unfold readK at h
 rw [evsK_eq,evK_eq] at h
 have hf:=ev_rel hI f
 have hvs:=evs_rel hI args.toList
 cases hfv:ev s f with
 | fn g caps =>
  rw [hfv] at h hf
  obtain ⟨h1,h⟩:=(chkK_iff _ _).1 h
  obtain ⟨h2,h⟩:=(chkK_iff _ _).1 h
  obtain ⟨h3,h⟩:=(chkK_iff _ _).1 h
  obtain ⟨r,⟨hcall,hspec⟩,hK⟩:=h
  obtain ⟨hgr,hK⟩:=(chkK_iff _ _).1 hK
  obtain ⟨cvs,hfe,hcaps⟩:=hf.1
  have himv:All2 (Im (fun _=>False) w) (rdAll s.boxes (evs s args.toList)) (args.toList.map a.eval):=by
   rw [rdAll_eq]
   refine ⟨by rw [List.length_map]; exact hvs.1.1,fun j c v hc hv=>?_⟩
   have hm:=List.mem_of_getElem? hc
   rw [List.getElem?_map,Option.map_eq_some_iff] at hc
   obtain ⟨c',hc',rfl⟩:=hc
   rw [← rdAll_eq] at hm
   exact rdOf_im hI (hvs.1.2 j c' v hc' hv) (imAll_mem h1 hm) (fnArgs_mem h2 hm)
  have himc:All2 (Im (fun _=>False) w) (rdBL s.boxes caps) cvs:=by
   exact rdBL_all hI hcaps h3
  have hs:=hspec (fun _=>False) w _ (fun _ h=>h.elim) (fun p hp=>⟨fun h=>h,(hI.globs p hp).2⟩) (headNp_rdBL s.boxes caps ▸ callArgs_all himv himc)
  unfold Oper.wp
  have hrun:=run_fnV (w:=w) ho hfe hcall
  rw [hrun]
  refine hs.mono fun e w' hp=>?_
  obtain ⟨v,rfl,hst,him⟩:=hp
  obtain ⟨s',h4,h5⟩:=putIm_ok hI hst hK (gr_im hgr him)
  exact hn _ _ _ h4 ⟨β,h5⟩
 | _=>rw [hfv] at h; exact h.elim
def argSlots:Nat→List AV→List (Nat × AV)
 | _,[]=>[]
 | n,v::r=>(n,v)::argSlots (n + 1) r
theorem look_args (vs:List AV):∀ (n k:Nat),look (argSlots n vs) (n + k) = vs.getD k .x:=by
 induction vs with
 | nil=>intro n k; simp [argSlots,look]
 | cons v r ih =>
  intro n k
  simp only [argSlots,look]
  cases k with
  | zero=>simp
  | succ k=>rw [nbeq_ne (by omega),cond_false,show n + (k + 1) = (n + 1) + k from by omega,ih]; simp
end
end Go.SX
end
section
namespace Go.SX
variable [Globs]
def ren0 (ρ:Nat→Nat):AV→AV
 | .pt n o=>.pt (ρ n) o
 | .vec id τ l=>.vec (ρ id) τ l
 | .vp id τ l n off=>.vp (ρ id) τ l n off
 | .vs id τ l k=>.vs (ρ id) τ l k
 | .ob i i2 o=>.ob (ρ i) (ρ i2) o
 | v=>v
def ren (ρ:Nat→Nat):AV→AV
 | .fn f caps=>.fn f (mapC (ren0 ρ) caps)
 | .tup cs=>.tup (mapC (ren0 ρ) cs)
 | .ag k cs=>.ag k (mapC (ren0 ρ) cs)
 | v=>ren0 ρ v
theorem VecAt.ren {β β':Nat→Option Nat} {O:Nat→Prop} {w:World} {id id':Nat} {τ:Ty} {l:List (den τ)} {u:Value} (h:β' id' = β id):VecAt β' O w id' τ l u↔VecAt β O w id τ l u:=by
 unfold VecAt; rw [h]
theorem Rel0.ren {β β':Nat→Option Nat} {O:Nat→Prop} {w:World} {ρ:Nat→Nat} {v:AV} {u:Value} (h:∀ k ∈ ids0 v,β' (ρ k) = β k):Rel0 β' O w (ren0 ρ v) u↔Rel0 β O w v u:=by
 cases v with
 | pt n o=>simp only [ren0,Rel0]; rw [h n (by simp [ids0])]
 | vec id τ l=>exact VecAt.ren (h id (by simp [ids0]))
 | vp id τ l n off=>simp only [ren0,Rel0,VecAt.ren (h id (by simp [ids0]))]; rw [h id (by simp [ids0])]
 | vs id τ l k=>simp only [ren0,Rel0,VsAt,VecAt.ren (h id (by simp [ids0]))]
 | ob i i2 o =>
  have h1:=h i (by simp [ids0])
  have h2:=h i2 (by simp [ids0])
  cases o<;>simp only [ren0,Rel0,ObAt,GrAt,BufAt,h1,h2,VecAt.ren h1,VecAt.ren h2]
 | _=>exact Iff.rfl
theorem All2.iff {R S:AV→Value→Prop} {f:AV→AV} {l:List AV} {us:List Value} (h:∀ v ∈ l,∀ u,R (f v) u↔S v u):All2 R (mapC f l) us↔All2 S l us:=by
 rw [mapC_eq]
 constructor
 ·rintro ⟨h1,h2⟩
  refine ⟨by simpa using h1,fun j c u hc hu=>(h c (List.mem_of_getElem? hc) u).1 (h2 j (f c) u (by rw [List.getElem?_map,hc]; rfl) hu)⟩
 ·rintro ⟨h1,h2⟩
  refine ⟨by simpa using h1,fun j c u hc hu=>?_⟩
  rw [List.getElem?_map,Option.map_eq_some_iff] at hc
  obtain ⟨c',hc',rfl⟩:=hc
  exact (h c' (List.mem_of_getElem? hc') u).2 (h2 j c' u hc' hu)
theorem Rel.ren {β β':Nat→Option Nat} {O:Nat→Prop} {w:World} {ρ:Nat→Nat} {v:AV} {u:Value} (h:∀ k ∈ ids v,β' (ρ k) = β k):Rel β' O w (ren ρ v) u↔Rel β O w v u:=by
 cases v with
 | fn f caps =>
  have hh:∀ us:List Value,All2 (Rel0 β' O w) (mapC (ren0 ρ) caps) us↔All2 (Rel0 β O w) caps us:=fun us=>All2.iff fun v hv u=>Rel0.ren fun k hk=>h k (List.mem_flatMap.2 ⟨v,hv,hk⟩)
  have hf:∀ us,fnV (mapC (ren0 ρ) caps) f us = fnV caps f us:=fun us=>fnV_of (headNp_mapC (fun v=>by cases v<;>rfl) caps) f us
  simp only [SX.ren,Rel,hh,hf]
 | tup cs =>
  have hh:∀ us:List Value,All2 (Rel0 β' O w) (mapC (ren0 ρ) cs) us↔All2 (Rel0 β O w) cs us:=fun us=>All2.iff fun v hv u=>Rel0.ren fun k hk=>h k (List.mem_flatMap.2 ⟨v,hv,hk⟩)
  simp only [SX.ren,Rel,hh]
 | ag k cs =>
  have hh:∀ us:List Value,All2 (Rel0 β' O w) (mapC (ren0 ρ) cs) us↔All2 (Rel0 β O w) cs us:=fun us=>All2.iff fun v hv u=>Rel0.ren fun k hk=>h k (List.mem_flatMap.2 ⟨v,hv,hk⟩)
  simp only [SX.ren,Rel,hh]
 | vs id τ l k=>exact Rel0.ren (O:=O) (w:=w) (v:=.vs id τ l k) h
 | ob i i2 o=>exact Rel0.ren (O:=O) (w:=w) (v:=.ob i i2 o) h
 | pt n o=>exact Rel0.ren (O:=O) (w:=w) (v:=.pt n o) h
 | vec id τ l=>exact Rel0.ren (O:=O) (w:=w) (v:=.vec id τ l) h
 | vp id τ l n off=>exact Rel0.ren (O:=O) (w:=w) (v:=.vp id τ l n off) h
 | _=>exact Iff.rfl
theorem ids0_ren (ρ:Nat→Nat) (v:AV):ids0 (ren0 ρ v) = (ids0 v).map ρ:=by cases v<;>rfl
theorem ids_ren (ρ:Nat→Nat) (v:AV):ids (ren ρ v) = (ids v).map ρ:=by
 have h:∀ l:List AV,(mapC (ren0 ρ) l).flatMap ids0 = (l.flatMap ids0).map ρ:=by
  intro l
  induction l with
  | nil=>rfl
  | cons v r ih=>simp only [mapC,List.flatMap_cons,List.map_append,ih,ids0_ren]
 cases v with
 | fn f caps=>exact h caps
 | tup cs=>exact h cs
 | ag k cs=>exact h cs
 | vs id τ l k=>rfl
 | ob i i2 o=>rfl
 | pt n o=>rfl
 | vec id τ l=>rfl
 | vp id τ l n off=>rfl
 | _=>rfl

/-! ### many names dropped -/
def killAll:List Nat→St→St
 | [],s=>s
 | n::r,s=>killAll r (s.kill n)
def killAllK:List Nat→St→(St→Prop)→Prop
 | [],s,K=>K s
 | n::r,s,K=>stKillK n s fun s'=>killAllK r s' K
theorem killAllK_eq (l:List Nat):∀ (s:St) (K:St→Prop),killAllK l s K = K (killAll l s):=by
 induction l with
 | nil=>intro s K; rfl
 | cons n r ih=>intro s K; simp only [killAllK,killAll,stKillK_eq,ih]
theorem kill_cases (n:Nat) (v:AV):(kill n v = v∨kill n v = .x)∧n ∉ ids (kill n v):=by
 refine ⟨?_,fun h=>(kill_ids n v n h).2 rfl⟩
 unfold kill
 cases inL n (ids v)
 ·exact .inl rfl
 ·exact .inr rfl
theorem look_killAll (l:List Nat):∀ (s:St) (m:Nat),(look (killAll l s).slots m = look s.slots m∨look (killAll l s).slots m = .x)∧∀ k ∈ ids (look (killAll l s).slots m),k ∉ l:=by
 induction l with
 | nil=>intro s m; exact ⟨.inl rfl,fun k _ h=>by cases h⟩
 | cons n r ih =>
  intro s m
  obtain ⟨h1,h2⟩:=ih (s.kill n) m
  have hk:look (s.kill n).slots m = SX.kill n (look s.slots m):=look_mapV _ (kill_x n) _ _
  obtain ⟨h3,h4⟩:=kill_cases n (look s.slots m)
  simp only [killAll]
  rw [hk] at h1
  constructor
  ·rcases h1 with h1 | h1
   ·rw [h1]; exact h3
   ·exact .inr h1
  ·intro k hk' hkl
   rcases List.mem_cons.1 hkl with rfl | hkl
   ·rcases h1 with h1 | h1
    ·rw [h1] at hk'; exact h4 hk'
    ·rw [h1] at hk'; cases hk'
   ·exact h2 k hk' hkl
theorem lookB_killAll (l : List Nat) : ∀ (s : St) (n : Nat) (cs : List AV), lookB (killAll l s).boxes n = some cs → n ∉ l ∧ ∃ cs0, lookB s.boxes n = some cs0 ∧ cs.length = cs0.length ∧
  ∀ (j:Nat) c,cs[j]? = some c→(cs0[j]? = some c∨c = .x)∧∀ k ∈ ids c,k ∉ l:=by
 induction l with
 | nil=>intro s n cs h; exact ⟨by simp,cs,h,rfl,fun j c hc=>⟨.inl hc,fun k _ h=>by cases h⟩⟩
 | cons m r ih =>
  intro s n cs h
  obtain ⟨h1,cs1,h2,h3,h4⟩:=ih (s.kill m) n cs h
  simp only [St.kill,St.delBox,St.map,lookB_delL,lookB_mapB] at h2
  split at h2
  ·cases h2
  ·rename_i hne
   obtain ⟨cs0,h5,rfl⟩:=Option.map_eq_some_iff.1 h2
   refine ⟨?_,cs0,h5,by rw [h3,mapC_eq,List.length_map],fun j c hc=>?_⟩
   ·intro hm
    rcases List.mem_cons.1 hm with rfl | hm
    ·exact hne rfl
    ·exact h1 hm
   ·obtain ⟨h6,h7⟩:=h4 j c hc
    rcases h6 with h6 | h6
    ·rw [mapC_eq,List.getElem?_map,Option.map_eq_some_iff] at h6
     obtain ⟨c0,h8,h9⟩:=h6
     obtain ⟨h10,h11⟩:=kill_cases m c0
     rw [h9] at h10 h11
     refine ⟨?_,fun k hk hkm=>?_⟩
     ·rcases h10 with h10 | h10
      ·exact .inl (h10 ▸ h8)
      ·exact .inr h10
     ·rcases List.mem_cons.1 hkm with rfl | hkm
      ·exact h11 hk
      ·exact h7 k hk hkm
    ·subst h6
     exact ⟨.inr rfl,fun k hk=>by cases hk⟩

section
variable {N:Nat} {s:St}
def inB (j:Nat):List Nat→Bool
 | []=>false
 | k::r=>bif Nat.beq k j then true else inB j r
theorem inB_iff {j:Nat} {l:List Nat}:inB j l = true↔j ∈ l:=by
 induction l with
 | nil=>simp [inB]
 | cons k r ih =>
  simp only [inB]
  cases h:Nat.beq k j with
  | true=>have:=Nat.eq_of_beq_eq_true h; subst this; simp
  | false => have : j ≠ k := fun e => by subst e; rw [Nat.beq_refl] at h; cases h
             simp [ih,this]
def putO (s:St) (d:Option Nat) (v:AV):St:=match d with
 | some d=>s.put d v
 | none=>s
theorem look_putO (s:St) (d:Option Nat) (v:AV) (x:Nat):look (putO s d v).slots x = if d = some x then v else look s.slots x:=by
 cases d with
 | none=>simp [putO]
 | some d=>simp [putO,St.put,look_setL]
theorem boxes_putO (s:St) (d:Option Nat) (v:AV):(putO s d v).boxes = s.boxes:=by cases d<;>rfl
theorem stPut_inv {d:Option Nat} {v:AV} {K:St→Prop} (h:stPutK N s d v K):K (putO s d v)∧∀ e,d = some e→e < N:=by
 cases d with
 | none=>exact ⟨h,by intro e he; cases he⟩
 | some d =>
  rw [stPutK_some] at h
  cases hb:Nat.blt d N with
  | false=>rw [hb] at h; exact h.elim
  | true=>rw [hb] at h; exact ⟨h,by intro e he; injection he with he; subst he; rw [Nat.blt_eq] at hb; exact hb⟩
theorem stPut_mk {d:Option Nat} {v:AV} {K:St→Prop} (hd:∀ e,d = some e→e < N) (h:K (putO s d v)):stPutK N s d v K:=by
 cases d with
 | none=>exact h
 | some d=>rw [stPutK_some,show Nat.blt d N = true from by rw [Nat.blt_eq]; exact hd d rfl]; exact h

end
end Go.SX
end
section
namespace Go.SX
variable [Globs]
section
variable {P:Program} {N:Nat} {Γ:Ctx} {W0:World} {F:Fr} {X:Nat→Prop} {s:St} {β:Nat→Option Nat} {a:Act} {w:World}

def CSpec (P:Program) (f:FuncId) (args:List AV) (boxes:List (Nat × List AV)) (r:AV) (boxes':List (Nat × List AV)):Prop :=
 (∀ (vs:Array Value) (w:World),(callFunc f vs).run P w = .ok (.enter f vs) w) ∧
 ∀ (F:Fr) (X:Nat→Prop) (β:Nat→Option Nat) (w:World) (vs:List Value),vs.length = args.length→(∀ n g,F.pin n = some g→∃ cs,lookB boxes n = some cs) →
  InvB w F X vs.length ⟨argSlots 0 args,boxes⟩ β ⟨vs.toArray,[]⟩ w →
  Calls P f vs.toArray w fun e w'=>∃ v β',e = .returned v∧InvB w F X 1 ⟨[(0,r)],boxes'⟩ β' ⟨#[v],[]⟩ w'

def namesL (l:List AV):List Nat:=l.flatMap ids
def namesB:List (Nat × List AV)→List Nat
 | []=>[]
 | (n,cs)::r=>n::(namesL cs++namesB r)
def namesV (l:List AV) (b:List (Nat × List AV)):List Nat:=namesL l++namesB b
def boxNames:List (Nat × List AV)→List Nat
 | []=>[]
 | (n,_)::r=>n::boxNames r
theorem lookB_mem {b:List (Nat × List AV)} {n:Nat} {cs:List AV} (h:lookB b n = some cs):(n,cs) ∈ b:=by
 induction b with
 | nil=>cases h
 | cons p r ih =>
  obtain ⟨m,v⟩:=p
  simp only [lookB] at h
  cases hb:Nat.beq m n with
  | true=>rw [hb] at h; injection h with h; subst h; have:=Nat.eq_of_beq_eq_true hb; subst this; exact List.mem_cons_self ..
  | false=>rw [hb] at h; exact List.mem_cons_of_mem _ (ih h)
theorem namesB_mem {b:List (Nat × List AV)} {n:Nat} {cs:List AV} (h:(n,cs) ∈ b):n ∈ namesB b∧∀ c ∈ cs,∀ k ∈ ids c,k ∈ namesB b:=by
 induction b with
 | nil=>cases h
 | cons p r ih =>
  obtain ⟨m,v⟩:=p
  simp only [namesB,List.mem_cons,List.mem_append]
  rcases List.mem_cons.1 h with h | h
  ·injection h with h1 h2; subst h1 h2
   exact ⟨.inl rfl,fun c hc k hk=>.inr (.inl (List.mem_flatMap.2 ⟨c,hc,hk⟩))⟩
  ·obtain ⟨h1,h2⟩:=ih h
   exact ⟨.inr (.inr h1),fun c hc k hk=>.inr (.inr (h2 c hc k hk))⟩
theorem Nm_names {sl:List (Nat × AV)} {l:List AV} {b:List (Nat × List AV)} (hsl:∀ m,look sl m = .x∨look sl m ∈ l) {n:Nat} (h:Nm ⟨sl,b⟩ n):n ∈ namesV l b:=by
 rcases h with ⟨cs,h⟩ | ⟨m,h⟩ | ⟨k,cs,h,c,hc,hn⟩
 ·exact List.mem_append_right _ (namesB_mem (lookB_mem h)).1
 ·rcases hsl m with e | e
  ·simp only [e] at h; cases h
  ·exact List.mem_append_left _ (List.mem_flatMap.2 ⟨_,e,h⟩)
 ·exact List.mem_append_right _ ((namesB_mem (lookB_mem h)).2 c hc n hn)
theorem look_args_mem (l:List AV):∀ (k m:Nat),look (argSlots k l) m = .x∨look (argSlots k l) m ∈ l:=by
 induction l with
 | nil=>intro k m; exact .inl rfl
 | cons v r ih =>
  intro k m
  simp only [argSlots,look]
  cases Nat.beq k m with
  | true=>exact .inr (List.mem_cons_self ..)
  | false=>exact (ih (k + 1) m).imp id (List.mem_cons_of_mem _)

def renN:List (Nat × Nat)→Nat→Nat
 | [],n=>n
 | (m,k)::r,n=>bif Nat.beq m n then k else renN r n
def setBoxes (ρ:Nat→Nat):List (Nat × List AV)→St→St
 | [],s=>s
 | (n,cs)::r,s=>(setBoxes ρ r s).setBox (ρ n) (mapC (ren ρ) cs)
theorem slots_setBoxes (ρ:Nat→Nat) (b:List (Nat × List AV)) (s:St):(setBoxes ρ b s).slots = s.slots:=by
 induction b with
 | nil=>rfl
 | cons p r ih=>obtain ⟨n,cs⟩:=p; exact ih
theorem lookB_setBoxes (ρ : Nat → Nat) (b : List (Nat × List AV)) (s : St) (hinj : ∀ n ∈ boxNames b, ∀ m ∈ boxNames b, ρ n = ρ m → n = m) (k : Nat) :
  (∃ n cs,lookB b n = some cs∧k = ρ n∧lookB (setBoxes ρ b s).boxes k = some (mapC (ren ρ) cs))∨((∀ n ∈ boxNames b,k≠ρ n)∧lookB (setBoxes ρ b s).boxes k = lookB s.boxes k):=by
 induction b with
 | nil=>exact .inr ⟨by simp [boxNames],rfl⟩
 | cons p r ih =>
  obtain ⟨n,cs⟩:=p
  have ih:=ih fun n hn m hm=>hinj n (List.mem_cons_of_mem _ hn) m (List.mem_cons_of_mem _ hm)
  simp only [setBoxes,St.setBox,lookB_setL]
  by_cases hk:ρ n = k
  ·rw [if_pos hk]
   exact .inl ⟨n,cs,by simp [lookB],hk.symm,rfl⟩
  ·rw [if_neg hk]
   rcases ih with ⟨m,cs',h1,h2,h3⟩ | ⟨h1,h2⟩
   ·refine .inl ⟨m,cs',?_,h2,h3⟩
    have hne:n≠m:=fun e=>hk (by rw [e,h2])
    simp only [lookB,nbeq_ne hne,cond_false]
    exact h1
   ·refine .inr ⟨fun m hm=>?_,h2⟩
    rcases List.mem_cons.1 hm with rfl | hm
    ·exact fun e=>hk e.symm
    ·exact h1 m hm

def calleeF (β:Nat→Option Nat) (ρ:Nat→Nat) (fargs:List AV) (fboxes:List (Nat × List AV)):Fr :=
 ⟨fun k=>∃ n ∈ namesV fargs fboxes,β (ρ n) = some k,fun n=>if n ∈ boxNames fboxes then β (ρ n) else none,[]⟩
def calleeX (X:Nat→Prop) (s:St) (β:Nat→Option Nat) (F:Fr) (k:Nat):Prop:=Own X s β k∧¬ F.own k
theorem boxNames_mem {b:List (Nat × List AV)} {n:Nat}:n ∈ boxNames b↔∃ cs,lookB b n = some cs:=by
 induction b with
 | nil=>simp [boxNames,lookB]
 | cons p r ih =>
  obtain ⟨m,cs⟩:=p
  simp only [boxNames,List.mem_cons,lookB,ih]
  cases hb:Nat.beq m n with
  | true=>have:=Nat.eq_of_beq_eq_true hb; subst this; simp
  | false =>
   have:n≠m:=fun e=>by subst e; rw [Nat.beq_refl] at hb; cases hb
   simp [this]

structure CallOK (s:St) (β:Nat→Option Nat) (N:Nat) (ρ:Nat→Nat) (fargs:List AV) (fboxes:List (Nat × List AV)) (r:AV) (fboxes':List (Nat × List AV)):Prop where
 names:∀ k ∈ namesL fargs,Nm s (ρ k)
 boxes:∀ n cs,(n,cs) ∈ fboxes→lookB s.boxes (ρ n) = some (mapC (ren ρ) cs)
 inj:∀ k ∈ namesV fargs fboxes++namesV [r] fboxes',∀ k' ∈ namesV fargs fboxes++namesV [r] fboxes',ρ k = ρ k'→k = k'
 new:∀ k ∈ namesV [r] fboxes',k ∉ namesV fargs fboxes→ρ k < N∧¬ Nm s (ρ k)
 old:∀ k ∈ boxNames fboxes',k ∈ namesV fargs fboxes→k ∈ boxNames fboxes
 sep:∀ k ∈ boxNames fboxes',k ∈ namesV fargs fboxes→(∀ m,ρ k ∉ vids (look s.slots m))∧∀ b cs,lookB s.boxes b = some cs→∀ c ∈ cs,ρ k ∉ vids c
 low:∀ n ∈ boxNames fboxes,fargs.length≤n
 uniq:∀ n cs,(n,cs) ∈ fboxes'→lookB fboxes' n = some cs

theorem CallOK.pre {ρ:Nat→Nat} {fargs:List AV} {fboxes fboxes':List (Nat × List AV)} {r:AV} (h:CallOK s β N ρ fargs fboxes r fboxes'):∀ k ∈ namesV fargs fboxes,Nm s (ρ k):=by
 intro k hk
 rcases List.mem_append.1 hk with hk | hk
 ·exact h.names k hk
 ·have key : ∀ l : List (Nat × List AV), (∀ p ∈ l, p ∈ fboxes) → k ∈ namesB l → Nm s (ρ k) := by
   intro l
   induction l with
   | nil=>intro _ hk; cases hk
   | cons p t ih =>
    obtain ⟨n,cs⟩:=p
    intro hs hk
    have hb:=h.boxes n cs (hs _ (List.mem_cons_self ..))
    simp only [namesB,List.mem_cons,List.mem_append] at hk
    rcases hk with rfl | hk | hk
    ·exact .inl ⟨_,hb⟩
    ·obtain ⟨c,hc,hkc⟩:=List.mem_flatMap.1 hk
     refine .inr (.inr ⟨_,_,hb,ren ρ c,?_,?_⟩)
     ·rw [mapC_eq]; exact List.mem_map.2 ⟨c,hc,rfl⟩
     ·rw [ids_ren]; exact List.mem_map.2 ⟨k,hkc,rfl⟩
    ·exact ih (fun p hp=>hs p (List.mem_cons_of_mem _ hp)) hk
  exact key fboxes (fun _ h=>h) hk

theorem callIn (hI : InvB W0 F X N s β a w) {ρ : Nat → Nat} {fargs : List AV} {fboxes fboxes' : List (Nat × List AV)} {r : AV} (h : CallOK s β N ρ fargs fboxes r fboxes') {vs : List Value}
  (hvs:All2 (Rel β (Own X s β) w) (mapC (ren ρ) fargs) vs) :
  (∀ n g,(calleeF β ρ fargs fboxes).pin n = some g→∃ cs,lookB fboxes n = some cs) ∧
  InvB w (calleeF β ρ fargs fboxes) (calleeX X s β (calleeF β ρ fargs fboxes)) vs.length ⟨argSlots 0 fargs,fboxes⟩ (fun k=>β (ρ k)) ⟨vs.toArray,[]⟩ w:=by
 have hpin:∀ n g,(calleeF β ρ fargs fboxes).pin n = some g→n ∈ boxNames fboxes:=fun n g hg=>by
  simp only [calleeF] at hg
  split at hg
  ·assumption
  ·cases hg
 have hNm:∀ n,Nm ⟨argSlots 0 fargs,fboxes⟩ n→n ∈ namesV fargs fboxes:=fun n=>Nm_names (look_args_mem fargs 0)
 have hO:∀ k,Own (calleeX X s β (calleeF β ρ fargs fboxes)) ⟨argSlots 0 fargs,fboxes⟩ (fun k=>β (ρ k)) k→Own X s β k:=by
  rintro k (⟨hk,_⟩ | ⟨n,hn,hb⟩)
  ·exact hk
  ·exact .inr ⟨ρ n,h.pre n (hNm n hn),hb⟩
 have hlen:vs.length = fargs.length:=by have:=hvs.1; simpa [mapC_eq] using this.symm
 refine ⟨fun n g hg=>boxNames_mem.1 (hpin n g hg),Stp.refl _ _,fun n=>?_,by simp,fun n cs hc=>?_,fun n m g hn hm h1 h2=>?_,fun n g hn hg=>?_,rfl,fun k hk=>?_,fun n cs g hc hg=>?_,fun n hn=>?_,hI.globs.step (Stp.refl (fun _=>False) w) (fun _ _ h=>h.elim) fun k _ hk=>hk.elim (fun h=>h.1) fun ⟨n,hn,hb⟩=>.inr ⟨ρ n,h.pre n hn,hb⟩⟩
 ·have h1:=look_args fargs 0 n
  rw [Nat.zero_add] at h1
  show Rel _ _ _ (look (argSlots 0 fargs) n) _
  rw [h1]
  by_cases hm:n < fargs.length
  ·have hmv:n < vs.length:=by omega
   have h2:=hvs.2 n (ren ρ fargs[n]) _ (by rw [mapC_eq,List.getElem?_map,List.getElem?_eq_getElem hm]; rfl) (List.getElem?_eq_getElem hmv)
   rw [List.getD_eq_getElem?_getD,List.getElem?_eq_getElem hm]
   have h3:vs.toArray.getD n undef = vs[n]:=by simp [hmv]
   rw [show (some fargs[n]).getD AV.x = fargs[n] from rfl]
   show Rel _ _ _ _ (vs.toArray.getD n undef)
   rw [h3]
   exact ((Rel.ren (β:=fun k=>β (ρ k)) fun _ _=>rfl).1 h2).mono hO
  ·rw [List.getD_eq_getElem?_getD,List.getElem?_eq_none (by omega)]
   exact Rel.x
 ·obtain ⟨g,us,e,h1,h2,h3⟩:=hI.boxes (ρ n) _ (h.boxes n cs (lookB_mem hc))
  refine ⟨g,us,e,h1,h2,?_⟩
  refine ((All2.iff (R:=RelC β (Own X s β) w) (S:=RelC (fun k=>β (ρ k)) (Own X s β) w) (f:=ren ρ) fun v _ u=>?_).1 h3).mono fun j c v _ hr=>⟨hr.1.mono hO,hr.2⟩
  exact and_congr (Rel.ren (β:=fun k=>β (ρ k)) fun _ _=>rfl) Iff.rfl
 ·exact h.inj n (List.mem_append_left _ (hNm n hn)) m (List.mem_append_left _ (hNm m hm)) (hI.inj (ρ n) (ρ m) g (h.pre n (hNm n hn)) (h.pre m (hNm m hm)) h1 h2)
 ·exact ⟨(hI.own (ρ n) g (h.pre n (hNm n hn)) hg).1,.inr ⟨n,hNm n hn,hg⟩⟩
 ·exact ⟨own_lt hI k hk.1,hk.2⟩
 ·simp only [calleeF] at hg
  split at hg
  ·exact hg
  ·cases hg
 ·simp only [calleeF]
  rw [if_neg fun hm=>?_]
  have:=h.low n hm
  omega

def backβ (ρ:Nat→Nat) (post:List Nat) (β β':Nat→Option Nat) (m:Nat):Option Nat:=match post.find? fun k=>Nat.beq (ρ k) m with
 | some k=>β' k
 | none=>β m
def deadL (ρ:Nat→Nat) (pre:List Nat) (bn:List Nat):List Nat:=(pre.filter fun k=>!(inB k bn)).map ρ
def backSt (ρ:Nat→Nat) (pre:List Nat) (fboxes':List (Nat × List AV)) (s:St):St:=setBoxes ρ fboxes' (killAll (deadL ρ pre (boxNames fboxes')) s)

theorem callOut (hI : InvB W0 F X N s β a w) {ρ : Nat → Nat} {fargs : List AV} {fboxes fboxes' : List (Nat × List AV)} {r : AV} (h : CallOK s β N ρ fargs fboxes r fboxes') {v : Value} {β' : Nat → Option Nat} {w' : World}
  (hP:InvB w (calleeF β ρ fargs fboxes) (calleeX X s β (calleeF β ρ fargs fboxes)) 1 ⟨[(0,r)],fboxes'⟩ β' ⟨#[v],[]⟩ w') {dst:Option Nat} (hd:∀ d,dst = some d→d < N) :
  InvB W0 F X N (putO (backSt ρ (namesV fargs fboxes) fboxes' s) dst (ren ρ r)) (backβ ρ (namesV [r] fboxes') β β') (a.put dst v) w' ∧
   ∀ k,Own X (putO (backSt ρ (namesV fargs fboxes) fboxes' s) dst (ren ρ r)) (backβ ρ (namesV [r] fboxes') β β') k→Own (calleeX X s β (calleeF β ρ fargs fboxes)) ⟨[(0,r)],fboxes'⟩ β' k:=by
 generalize hpre:namesV fargs fboxes = pre
 generalize hpost:namesV [r] fboxes' = post
 have B1:∀ k ∈ post,backβ ρ post β β' (ρ k) = β' k:=by
  intro k hk
  unfold backβ
  cases hf:post.find? fun k'=>Nat.beq (ρ k') (ρ k) with
  | none=>exact absurd (List.find?_eq_none.1 hf k hk) (by simp)
  | some k' =>
   have h1:=List.find?_some hf
   have h2:=List.mem_of_find?_eq_some hf
   have:=h.inj k' (by rw [hpost]; exact List.mem_append_right _ h2) k (by rw [hpost]; exact List.mem_append_right _ hk) (Nat.eq_of_beq_eq_true h1)
   rw [this]
 have B2:∀ m,(∀ k ∈ post,m≠ρ k)→backβ ρ post β β' m = β m:=by
  intro m hm
  unfold backβ
  cases hf:post.find? fun k'=>Nat.beq (ρ k') m with
  | none=>rfl
  | some k' => 
   have h1:=List.find?_some hf
   exact absurd (Nat.eq_of_beq_eq_true h1).symm (hm k' (List.mem_of_find?_eq_some hf))
 have hdead:∀ k ∈ pre,ρ k ∉ deadL ρ pre (boxNames fboxes')→k ∈ boxNames fboxes':=by
  intro k hk hnd
  by_cases hb:k ∈ boxNames fboxes'
  ·exact hb
  ·exfalso
   apply hnd
   refine List.mem_map.2 ⟨k,List.mem_filter.2 ⟨hk,?_⟩,rfl⟩
   cases hi:inB k (boxNames fboxes') with
   | true=>exact absurd (inB_iff.1 hi) hb
   | false=>rfl
 have hboxpost:∀ k ∈ boxNames fboxes',k ∈ post:=fun k hk=>by
  obtain ⟨cs,hc⟩:=boxNames_mem.1 hk
  rw [← hpost]; exact List.mem_append_right _ (namesB_mem (lookB_mem hc)).1
 have hrpost:∀ k ∈ ids r,k ∈ post:=fun k hk=>by rw [← hpost]; exact List.mem_append_left _ (List.mem_flatMap.2 ⟨r,List.mem_singleton.2 rfl,hk⟩)
 have hcpost:∀ n cs,lookB fboxes' n = some cs→∀ c ∈ cs,∀ k ∈ ids c,k ∈ post:=fun n cs hc c hcc k hk=>by rw [← hpost]; exact List.mem_append_right _ ((namesB_mem (lookB_mem hc)).2 c hcc k hk)
 have hPre:∀ k ∈ pre,Nm s (ρ k):=fun k hk=>h.pre k (by rw [hpre]; exact hk)
 have hbinj:∀ n ∈ boxNames fboxes',∀ m ∈ boxNames fboxes',ρ n = ρ m→n = m:=fun n hn m hm e =>
  h.inj n (List.mem_append_right _ (by rw [hpost]; exact hboxpost n hn)) m (List.mem_append_right _ (by rw [hpost]; exact hboxpost m hm)) e
 -- the boxes of the new state
 have hbox : ∀ k cs, lookB (putO (backSt ρ pre fboxes' s) dst (ren ρ r)).boxes k = some cs →
   (∃ n cs',lookB fboxes' n = some cs'∧k = ρ n∧cs = mapC (ren ρ) cs') ∨
   ((∀ n ∈ boxNames fboxes',k≠ρ n)∧k ∉ deadL ρ pre (boxNames fboxes')∧∃ cs0,lookB s.boxes k = some cs0∧cs.length = cs0.length ∧
     ∀ (j:Nat) c,cs[j]? = some c→(cs0[j]? = some c∨c = .x)∧∀ k ∈ ids c,k ∉ deadL ρ pre (boxNames fboxes')):=by
  intro k cs hk
  rw [boxes_putO] at hk
  rcases lookB_setBoxes ρ fboxes' (killAll (deadL ρ pre (boxNames fboxes')) s) hbinj k with ⟨n,cs',h1,h2,h3⟩ | ⟨h1,h2⟩
  ·rw [show lookB (backSt ρ pre fboxes' s).boxes k = _ from h3] at hk
   injection hk with hk
   exact .inl ⟨n,cs',h1,h2,hk.symm⟩
  ·rw [show lookB (backSt ρ pre fboxes' s).boxes k = _ from h2] at hk
   obtain ⟨h3,h4⟩:=lookB_killAll _ _ _ _ hk
   exact .inr ⟨h1,h3,h4⟩
 have hslot : ∀ q, (dst = some q ∧ look (putO (backSt ρ pre fboxes' s) dst (ren ρ r)).slots q = ren ρ r) ∨
   (dst≠some q∧(look (putO (backSt ρ pre fboxes' s) dst (ren ρ r)).slots q = look s.slots q∨look (putO (backSt ρ pre fboxes' s) dst (ren ρ r)).slots q = .x) ∧
    ∀ k ∈ ids (look (putO (backSt ρ pre fboxes' s) dst (ren ρ r)).slots q),k ∉ deadL ρ pre (boxNames fboxes')):=by
  intro q
  rw [look_putO]
  by_cases hq:dst = some q
  ·rw [if_pos hq]; exact .inl ⟨hq,rfl⟩
  ·rw [if_neg hq,show (backSt ρ pre fboxes' s).slots = _ from slots_setBoxes _ _ _]
   exact .inr ⟨hq,look_killAll _ _ _⟩
 have hNm:∀ m,Nm (putO (backSt ρ pre fboxes' s) dst (ren ρ r)) m→(∃ k ∈ post,m = ρ k)∨(Nm s m∧m ∉ deadL ρ pre (boxNames fboxes')∧∀ k ∈ post,m≠ρ k):=by
  intro m hm
  by_cases hmp:∃ k ∈ post,m = ρ k
  ·exact .inl hmp
  have hno:∀ k ∈ post,m≠ρ k:=fun k hk e=>hmp ⟨k,hk,e⟩
  refine .inr ?_
  rcases hm with ⟨cs,hc⟩ | ⟨q,hq⟩ | ⟨b,cs,hc,c,hcc,hk⟩
  ·rcases hbox m cs hc with ⟨n,cs',h1,h2,_⟩ | ⟨_,h2,cs0,h3,_⟩
   ·exact absurd h2 (hno n (hboxpost n (boxNames_mem.2 ⟨cs',h1⟩)))
   ·exact ⟨.inl ⟨cs0,h3⟩,h2,hno⟩
  ·rcases hslot q with ⟨_,h2⟩ | ⟨_,h2,h3⟩
   ·rw [h2,ids_ren] at hq
    obtain ⟨k,hk,rfl⟩:=List.mem_map.1 hq
    exact absurd rfl (hno k (hrpost k hk))
   ·refine ⟨?_,h3 m hq,hno⟩
    rcases h2 with h2 | h2
    ·rw [h2] at hq; exact .inr (.inl ⟨q,hq⟩)
    ·rw [h2] at hq; cases hq
  ·rcases hbox b cs hc with ⟨n,cs',h1,h2,rfl⟩ | ⟨_,h2,cs0,h3,h4,h5⟩
   ·rw [mapC_eq] at hcc
    obtain ⟨c',hc',rfl⟩:=List.mem_map.1 hcc
    rw [ids_ren] at hk
    obtain ⟨k,hk',e⟩:=List.mem_map.1 hk
    exact absurd e.symm (hno k (hcpost n cs' h1 c' hc' k hk'))
   ·obtain ⟨j,hj⟩:=List.getElem?_of_mem hcc
    obtain ⟨h6,h7⟩:=h5 j c hj
    refine ⟨?_,h7 m hk,hno⟩
    rcases h6 with h6 | h6
    ·exact .inr (.inr ⟨b,cs0,h3,c,List.mem_of_getElem? h6,hk⟩)
    ·rw [h6] at hk; cases hk
 have hPost:∀ m,Nm ⟨[(0,r)],fboxes'⟩ m→m ∈ post:=fun m hm=>by
  rw [← hpost]
  refine Nm_names (fun q=>?_) hm
  simp only [look]
  cases Nat.beq 0 q with
  | true=>exact .inr (List.mem_singleton.2 rfl)
  | false=>exact .inl rfl
 have hPostNm:∀ k ∈ post,Nm ⟨[(0,r)],fboxes'⟩ k:=by
  intro k hk
  rw [← hpost] at hk
  rcases List.mem_append.1 hk with hk | hk
  ·obtain ⟨c,hc,hk2⟩:=List.mem_flatMap.1 hk
   rw [List.mem_singleton] at hc
   exact .inr (.inl ⟨0,hc ▸ hk2⟩)
  ·have key : ∀ l : List (Nat × List AV), (∀ p ∈ l, p ∈ fboxes') → k ∈ namesB l → Nm ⟨[(0, r)], fboxes'⟩ k := by
    intro l
    induction l with
    | nil=>intro _ hk; cases hk
    | cons p t ih =>
     obtain ⟨n,cs⟩:=p
     intro hs hk
     have hb:=h.uniq n cs (hs _ (List.mem_cons_self ..))
     simp only [namesB,List.mem_cons,List.mem_append] at hk
     rcases hk with rfl | hk | hk
     ·exact .inl ⟨_,hb⟩
     ·obtain ⟨c,hc,hkc⟩:=List.mem_flatMap.1 hk
      exact .inr (.inr ⟨_,_,hb,c,hc,hkc⟩)
     ·exact ih (fun p hp=>hs p (List.mem_cons_of_mem _ hp)) hk
   exact key fboxes' (fun _ h=>h) hk
 -- old names that are still there were not handed over, but for boxes
 have hold:∀ m,Nm s m→m ∉ deadL ρ pre (boxNames fboxes')→∀ k ∈ pre,m = ρ k→k ∈ boxNames fboxes':=fun m _ hnd k hk e=>hdead k hk (e ▸ hnd)
 have hnotpre:∀ m,Nm s m→m ∉ deadL ρ pre (boxNames fboxes')→(∀ k ∈ post,m≠ρ k)→∀ k ∈ pre,m≠ρ k:=fun m hm hnd hno k hk e=>hno k (hboxpost k (hold m hm hnd k hk e)) e
 have hF:∀ g,(calleeF β ρ fargs fboxes).own g↔∃ n ∈ pre,β (ρ n) = some g:=fun g=>by rw [← hpre]; exact Iff.rfl
 have hFown:∀ g,(calleeF β ρ fargs fboxes).own g→OwnN s β g:=fun g hg=>by
  obtain ⟨n,hn,hb⟩:=(hF g).1 hg
  exact ⟨ρ n,hPre n hn,hb⟩
 have hβ:∀ m,Nm s m→m ∉ deadL ρ pre (boxNames fboxes')→backβ ρ post β β' m = β m:=by
  intro m hm hnd
  by_cases hmp:∃ k ∈ post,m = ρ k
  ·obtain ⟨k,hk,rfl⟩:=hmp
   rw [B1 k hk]
   by_cases hkp:k ∈ pre
   ·have hkb:=hdead k hkp hnd
    obtain ⟨cs,hcs⟩:=boxNames_mem.1 hkb
    have hkold:=h.old k hkb (by rw [hpre]; exact hkp)
    obtain ⟨cs0,hcs0⟩:=boxNames_mem.1 hkold
    obtain ⟨g,_,_,hg,_⟩:=hI.boxes _ _ (h.boxes k cs0 (lookB_mem hcs0))
    rw [hP.pin k cs g hcs (by simp only [calleeF]; rw [if_pos hkold]; exact hg),hg]
   ·exact absurd hm (h.new k (by rw [hpost]; exact hk) (by rw [hpre]; exact hkp)).2
  ·exact B2 m fun k hk e=>hmp ⟨k,hk,e⟩
 have hO:∀ k,k < w.heap.size→Own X (putO (backSt ρ pre fboxes' s) dst (ren ρ r)) (backβ ρ post β β') k→Own X s β k:=by
  rintro k hk (hX | ⟨m,hm,hb⟩)
  ·exact .inl hX
  rcases hNm m hm with ⟨k',hk',rfl⟩ | ⟨h1,h2,h3⟩
  ·rw [B1 k' hk'] at hb
   rcases (hP.own k' k (hPostNm k' hk') hb).2 with h4 | h4
   ·omega
   ·exact .inr (hFown k h4)
  ·rw [B2 m h3] at hb
   exact .inr ⟨m,h1,hb⟩
 have hO':∀ k,Own X (putO (backSt ρ pre fboxes' s) dst (ren ρ r)) (backβ ρ post β β') k→Own (calleeX X s β (calleeF β ρ fargs fboxes)) ⟨[(0,r)],fboxes'⟩ β' k:=by
  rintro k (hX | ⟨m,hm,hb⟩)
  ·refine .inl ⟨.inl hX,fun hF'=>?_⟩
   obtain ⟨n,hn,hb⟩:=hFown k hF'
   exact hI.disj n k hn hb hX
  rcases hNm m hm with ⟨k',hk',rfl⟩ | ⟨h1,h2,h3⟩
  ·rw [B1 k' hk'] at hb
   exact .inr ⟨k',hPostNm k' hk',hb⟩
  ·rw [B2 m h3] at hb
   refine .inl ⟨.inr ⟨m,h1,hb⟩,fun hF'=>?_⟩
   obtain ⟨n,hn,hb'⟩:=(hF k).1 hF'
   exact hnotpre m h1 h2 h3 n hn (hI.inj m (ρ n) k h1 (hPre n hn) hb hb')
 have hkeep : ∀ {v1 : AV} {u : Value}, (∀ k ∈ ids v1, Nm s k ∧ k ∉ deadL ρ pre (boxNames fboxes')) → (∀ k ∈ boxNames fboxes', k ∈ pre → ρ k ∉ vids v1) → Rel β (Own X s β) w v1 u →
   Rel (backβ ρ post β β') (Own X (putO (backSt ρ pre fboxes' s) dst (ren ρ r)) (backβ ρ post β β')) w' v1 u:=fun {v1 u} hids hv hr =>
  hI.keep hP.ext (fun k _ hk=>hFown k hk) hO hr (fun n hn=>hβ n (hids n hn).1 (hids n hn).2) (fun n hn g hg=>hP.ext.block g (hI.own n g (hids n (vids_ids hn)).1 hg).1 (fun hF'=>by
   obtain ⟨n',hn',hb⟩:=(hF g).1 hF'
   have e:=hI.inj n (ρ n') g (hids n (vids_ids hn)).1 (hPre n' hn') hg hb
   exact hv n' (hold n (hids n (vids_ids hn)).1 (hids n (vids_ids hn)).2 n' hn' e) hn' (e ▸ hn)))
 refine ⟨hI.upd hP.ext (fun k _ hk=>hFown k hk) (fun n=>?_) (fun n cs hc=>?_) (fun m m' g hm hm' h1 h2=>?_) (fun m g hm hg=>?_) (size_put _ _ _) (defers_put _ _ _) (fun n cs g hc hg=>?_),hO'⟩
 ·rcases hslot n with ⟨h1,h2⟩ | ⟨h1,h2,h3⟩
  ·have e:(a.put dst v).tmps.getD n undef = v:=by rw [h1,getD_put a n v (by rw [hI.size]; exact hd n h1),if_pos rfl]
   rw [h2,e]
   refine (Rel.ren fun k hk=>B1 k (hrpost k hk)).2 ?_
   have:=hP.slots 0
   exact Rel.mono (show Rel β' _ w' r v from this) hO'
  ·have e : (a.put dst v).tmps.getD n undef = a.tmps.getD n undef := by
    cases dst with
    | none=>rfl
    | some d =>
     have hne:d≠n:=fun e=>h1 (by rw [e])
     rw [getD_put a d v (by rw [hI.size]; exact hd d rfl),if_neg hne]
   rw [e]
   rcases h2 with h2 | h2
   ·rw [h2] at h3 ⊢
    exact hkeep (fun k hk=>⟨.inr (.inl ⟨n,hk⟩),h3 k hk⟩) (fun k hk hkp=>(h.sep k hk (by rw [hpre]; exact hkp)).1 n) (hI.slots n)
   ·rw [h2]; exact Rel.x
 ·rcases hbox n cs hc with ⟨k,cs',h1,rfl,rfl⟩ | ⟨hnb,hnd,cs0,h3,h4,h5⟩
  ·obtain ⟨g,us,e,h6,h7,h8⟩:=hP.boxes k cs' h1
   refine ⟨g,us,e,(B1 k (hboxpost k (boxNames_mem.2 ⟨cs',h1⟩))).trans h6,h7,?_⟩
   rw [mapC_eq]
   refine ⟨by rw [List.length_map]; exact h8.1,fun j c u hcj hu=>?_⟩
   rw [List.getElem?_map,Option.map_eq_some_iff] at hcj
   obtain ⟨c0,hc0,rfl⟩:=hcj
   have hr:=h8.2 j c0 u hc0 hu
   exact ⟨(Rel.ren fun k hk=>B1 k (hcpost _ cs' h1 c0 (List.mem_of_getElem? hc0) k hk)).2 (hr.1.mono hO'),hr.2⟩
  ·obtain ⟨g,us,e,h6,h7,h8⟩:=hI.boxes n cs0 h3
   have hN:Nm s n:=.inl ⟨cs0,h3⟩
   have hng:∀ k ∈ post,n≠ρ k:=fun k hk e=>by
    by_cases hkp:k ∈ pre
    ·exact hnb k (hdead k hkp (e ▸ hnd)) e
    ·exact (h.new k (by rw [hpost]; exact hk) (by rw [hpre]; exact hkp)).2 (e ▸ hN)
   refine ⟨g,us,e,(B2 n hng).trans h6,(hP.ext.block g (hI.own n g hN h6).1 (fun hF'=>?_)).trans h7,⟨by rw [h4]; exact h8.1,fun j c u hcj hu=>?_⟩⟩
   ·obtain ⟨n',hn',hb⟩:=(hF g).1 hF'
    exact hnotpre n hN hnd hng n' hn' (hI.inj n (ρ n') g hN (hPre n' hn') h6 hb)
   ·obtain ⟨h9,h10⟩:=h5 j c hcj
    have hus:∃ c0,cs0[j]? = some c0:=by
     have hlt:=(List.getElem?_eq_some_iff.1 hcj).1
     exact ⟨cs0[j]'(by omega),List.getElem?_eq_getElem _⟩
    obtain ⟨c0,hc0⟩:=hus
    have hr:=h8.2 j c0 u hc0 hu
    rcases h9 with h9 | h9
    ·rw [hc0] at h9; injection h9 with h9; subst h9
     exact ⟨hkeep (fun k hk=>⟨.inr (.inr ⟨n,cs0,h3,c0,List.mem_of_getElem? hc0,hk⟩),h10 k hk⟩) (fun k hk hkp=>(h.sep k hk (by rw [hpre]; exact hkp)).2 n cs0 h3 c0 (List.mem_of_getElem? hc0)) hr.1,hr.2⟩
    ·rw [h9]; exact ⟨Rel.x,hr.2⟩
 ·have aux : ∀ k m, k ∈ post → Nm s m → m ∉ deadL ρ pre (boxNames fboxes') → (∀ k ∈ post, m ≠ ρ k) → ∀ g, β' k = some g → β m = some g → False := by
   intro k m hk hm hnd hno g hg1 hg2
   rcases (hP.own k g (hPostNm k hk) hg1).2 with h4 | h4
   ·have:=(hI.own m g hm hg2).1; omega
   ·obtain ⟨n',hn',hb⟩:=(hF g).1 h4
    exact hnotpre m hm hnd hno n' hn' (hI.inj m (ρ n') g hm (hPre n' hn') hg2 hb)
  rcases hNm m hm with ⟨k,hk,rfl⟩ | ⟨n1,n2,n3⟩<;>rcases hNm m' hm' with ⟨k',hk',rfl⟩ | ⟨m1,m2,m3⟩
  ·rw [B1 k hk] at h1; rw [B1 k' hk'] at h2
   rw [hP.inj k k' g (hPostNm k hk) (hPostNm k' hk') h1 h2]
  ·rw [B1 k hk] at h1; rw [B2 m' m3] at h2; exact (aux k m' hk m1 m2 m3 g h1 h2).elim
  ·rw [B2 m n3] at h1; rw [B1 k' hk'] at h2; exact (aux k' m hk' n1 n2 n3 g h2 h1).elim
  ·rw [B2 m n3] at h1; rw [B2 m' m3] at h2; exact hI.inj m m' g n1 m1 h1 h2
 ·rcases hNm m hm with ⟨k,hk,rfl⟩ | ⟨n1,n2,n3⟩
  ·rw [B1 k hk] at hg
   obtain ⟨h1,h2⟩:=hP.own k g (hPostNm k hk) hg
   refine ⟨h1,?_⟩
   rcases h2 with h2 | h2
   ·exact .inl (Nat.le_trans hI.ext.size h2)
   ·obtain ⟨n,hn,hb⟩:=hFown g h2
    exact (hI.own n g hn hb).2
  ·rw [B2 m n3] at hg
   obtain ⟨h1,h2⟩:=hI.own m g n1 hg
   exact ⟨Nat.lt_of_lt_of_le h1 hP.ext.size,h2⟩
 ·rcases hbox n cs hc with ⟨k,cs',h1,rfl,rfl⟩ | ⟨hnb,hnd,cs0,h3,h4,h5⟩
  ·have hkb:=boxNames_mem.2 ⟨cs',h1⟩
   have hk:=hboxpost k hkb
   rw [B1 k hk]
   by_cases hkp:k ∈ pre
   ·have hkold:=h.old k hkb (by rw [hpre]; exact hkp)
    obtain ⟨cs0,hcs0⟩:=boxNames_mem.1 hkold
    have h6:=hI.pin (ρ k) _ g (h.boxes k cs0 (lookB_mem hcs0)) hg
    exact hP.pin k cs' g h1 (by simp only [calleeF]; rw [if_pos hkold]; exact h6)
   ·rw [hI.pinN _ (h.new k (by rw [hpost]; exact hk) (by rw [hpre]; exact hkp)).1] at hg
    cases hg
  ·have hN:Nm s n:=.inl ⟨cs0,h3⟩
   rw [hβ n hN hnd]
   exact hI.pin n cs0 g h3 hg
end
end Go.SX
end
section
namespace Go.SX
variable [Globs]
section
variable {P:Program} {N:Nat} {Γ:Ctx} {W0:World} {F:Fr} {X:Nat→Prop} {s:St} {β:Nat→Option Nat} {a:Act} {w:World}

theorem InvB.nlBox (hI : InvB W0 F X N s β a w) {n j id : Nat} {cs : List AV} (hb : lookB s.boxes n = some cs) (hj : cs[j]? = some .nl) (hfree : ¬ Nm s id) (τ : Ty) :
  InvB W0 F X N (s.setBox n (cs.set j (.vec id τ []))) (setβ β id none) a w:=by
 have hmem:∀ c ∈ cs.set j (.vec id τ []),c = .vec id τ []∨c ∈ cs:=fun c hc=>by
  rcases List.mem_or_eq_of_mem_set hc with h | h
  ·exact .inr h
  ·exact .inl h
 have hNm:∀ m,Nm (s.setBox n (cs.set j (.vec id τ []))) m→m = id∨(Nm s m∧m≠id):=by
  intro m hm
  by_cases e:m = id
  ·exact .inl e
  ·refine .inr ⟨?_,e⟩
   rcases hm with ⟨cs',h⟩ | ⟨q,h⟩ | ⟨b,cs',h,c,hc,hk⟩
   ·simp only [St.setBox,lookB_setL] at h
    split at h
    ·rename_i e'; exact .inl ⟨cs,e' ▸ hb⟩
    ·exact .inl ⟨cs',h⟩
   ·exact .inr (.inl ⟨q,h⟩)
   ·simp only [St.setBox,lookB_setL] at h
    split at h
    ·injection h with h
     subst h
     rcases hmem c hc with rfl | hc
     ·simp [ids,ids0] at hk; exact absurd hk e
     ·exact .inr (.inr ⟨n,cs,hb,c,hc,hk⟩)
    ·exact .inr (.inr ⟨b,cs',h,c,hc,hk⟩)
 have hβ:∀ m,Nm s m→setβ β id none m = β m:=fun m hm=>by unfold setβ; rw [if_neg]; rintro rfl; exact hfree hm
 have hO:∀ k,k < w.heap.size→Own X (s.setBox n (cs.set j (.vec id τ []))) (setβ β id none) k→Own X s β k:=by
  rintro k _ (hX | ⟨m,hm,hb⟩)
  ·exact .inl hX
  rcases hNm m hm with rfl | ⟨hm,_⟩
  ·simp [setβ] at hb
  ·exact .inr ⟨m,hm,(hβ m hm) ▸ hb⟩
 have hk:∀ {av:AV} {v:Value},(∀ m ∈ SX.ids av,Nm s m)→Rel β (Own X s β) w av v→Rel (setβ β id none) (Own X (s.setBox n (cs.set j (.vec id τ []))) (setβ β id none)) w av v:=fun hav hrel =>
  hI.keep (Stp.refl (fun _=>False) w) (fun _ _ h=>h.elim) hO hrel (fun m hm=>hβ m (hav m hm)) (fun _ _ _ _=>rfl)
 refine hI.upd (Stp.refl (fun _=>False) w) (fun _ _ h=>h.elim) (fun m=>?_) (fun m cs' hcs=>?_) (fun m k g hm hk h1 h2=>?_) (fun m g hm hg=>?_) rfl rfl (fun m cs' g hc hp=>?_)
 ·exact hk (fun k hk=>.inr (.inl ⟨m,hk⟩)) (hI.slots m)
 ·simp only [St.setBox,lookB_setL] at hcs
  split at hcs
  ·rename_i e'
   subst e'
   injection hcs with hcs
   subst hcs
   obtain ⟨g,us,e,h1,h2,h3⟩:=hI.boxes _ cs hb
   refine ⟨g,us,e,(hβ _ (.inl ⟨cs,hb⟩)).trans h1,h2,⟨by rw [List.length_set]; exact h3.1,fun i c v hc hv=>?_⟩⟩
   rw [List.getElem?_set] at hc
   split at hc
   ·rename_i e'
    subst e'
    split at hc
    ·injection hc with hc
     subst hc
     have hr:=h3.2 _ _ v hj hv
     have hv0:v = .slice none 0 0:=by cases (show Im _ _ _ _ from hr.1); rfl
     subst hv0
     exact ⟨.inl ⟨rfl,rfl,by simp [setβ]⟩,hr.2⟩
    ·cases hc
   ·have hr:=h3.2 i c v hc hv
    exact ⟨hk (fun k hk=>.inr (.inr ⟨_,cs,hb,c,List.mem_of_getElem? hc,hk⟩)) hr.1,hr.2⟩
  ·obtain ⟨g,us,e,h1,h2,h3⟩:=hI.boxes m cs' hcs
   exact ⟨g,us,e,(hβ m (.inl ⟨cs',hcs⟩)).trans h1,h2,h3.mono fun i c v hc hr=>⟨hk (fun k hk=>.inr (.inr ⟨m,cs',hcs,c,List.mem_of_getElem? hc,hk⟩)) hr.1,hr.2⟩⟩
 ·rcases hNm m hm with rfl | ⟨hm,_⟩
  ·simp [setβ] at h1
  ·rcases hNm k hk with rfl | ⟨hk,_⟩
   ·simp [setβ] at h2
   ·rw [hβ m hm] at h1; rw [hβ k hk] at h2; exact hI.inj m k g hm hk h1 h2
 ·rcases hNm m hm with rfl | ⟨hm,_⟩
  ·simp [setβ] at hg
  ·rw [hβ m hm] at hg; exact hI.own m g hm hg
 ·simp only [St.setBox,lookB_setL] at hc
  split at hc
  ·rename_i e'
   subst e'
   exact (hβ _ (.inl ⟨cs,hb⟩)).trans (hI.pin _ cs g hb hp)
  ·exact (hβ m (.inl ⟨cs',hc⟩)).trans (hI.pin m cs' g hc hp)
def setNthK:List AV→Nat→AV→(List AV→Prop)→Prop
 | [],_,_,_=>False
 | .nl::r,0,v,K=>K (v::r)
 | _::_,0,_,_=>False
 | u::r,j + 1,v,K=>setNthK r j v fun r=>K (u::r)
theorem setNth_spec (l:List AV):∀ (j:Nat) (v:AV) (K:List AV→Prop),setNthK l j v K→l[j]? = some .nl∧K (l.set j v):=by
 induction l with
 | nil=>intro j v K h; cases j<;>exact h.elim
 | cons u r ih =>
  intro j v K h
  cases j with
  | zero=>cases u<;>first | exact ⟨rfl,h⟩ | exact h.elim
  | succ j =>
   have h:setNthK r j v fun r=>K (u::r):=by cases u<;>exact h
   obtain ⟨h1,h2⟩:=ih j v _ h
   exact ⟨by simpa using h1,by simpa using h2⟩
def nlBoxK:List (Nat × Nat × Nat × Ty)→St→(St→Prop)→Prop
 | [],s,K=>K s
 | (n,j,id,τ)::r,s,K=>stFrzK id s fun s=>lookBK s.boxes n fun cs=>setNthK cs j (.vec id τ []) fun cs=>match s with
  | ⟨sl,b⟩=>setLK b n cs fun b=>nlBoxK r ⟨sl,b⟩ K
theorem nlBox_ok (cv:List (Nat × Nat × Nat × Ty)):∀ {s:St} {β:Nat→Option Nat} {K:St→Prop},InvB W0 F X N s β a w→nlBoxK cv s K→∃ s' β',K s'∧InvB W0 F X N s' β' a w:=by
 induction cv with
 | nil=>intro s β K hI h; exact ⟨s,β,h,hI⟩
 | cons p r ih =>
  intro s β K hI h
  obtain ⟨n,j,id,τ⟩:=p
  simp only [nlBoxK,stFrzK_eq] at h
  have hI1:=hI.frz id
  have hfree:=not_frz s id
  obtain ⟨cs,h1,h⟩:=(lookBK_iff _ _ _).1 h
  obtain ⟨h2,h⟩:=setNth_spec _ _ _ _ h
  rw [setLK_eq] at h
  exact ih (hI1.nlBox h1 h2 hfree τ) h

def renNK:List (Nat × Nat)→Nat→(Nat→Prop)→Prop
 | [],n,K=>K n
 | (m,k)::r,n,K=>bif Nat.beq m n then K k else renNK r n K
theorem renNK_eq (l:List (Nat × Nat)) (n:Nat) (K:Nat→Prop):renNK l n K = K (renN l n):=by
 induction l with
 | nil=>rfl
 | cons p r ih=>obtain ⟨m,k⟩:=p; simp only [renNK,renN]; cases Nat.beq m n<;>simp [ih]
def ren0K (l:List (Nat × Nat)):AV→(AV→Prop)→Prop
 | .pt n o,K=>renNK l n fun m=>K (.pt m o)
 | .vec n τ x,K=>renNK l n fun m=>K (.vec m τ x)
 | .vp n τ x i o,K=>renNK l n fun m=>K (.vp m τ x i o)
 | .vs n τ x k,K=>renNK l n fun m=>K (.vs m τ x k)
 | .ob n n2 o,K=>renNK l n fun m=>renNK l n2 fun m2=>K (.ob m m2 o)
 | v,K=>K v
theorem ren0K_eq (l:List (Nat × Nat)) (v:AV) (K:AV→Prop):ren0K l v K = K (ren0 (renN l) v):=by
 cases v<;>first | exact renNK_eq _ _ _ | rfl | (simp only [ren0K,renNK_eq]; rfl)
def renK (l:List (Nat × Nat)):AV→(AV→Prop)→Prop
 | .fn f caps,K=>mapCK (ren0K l) caps fun caps=>K (.fn f caps)
 | .tup cs,K=>mapCK (ren0K l) cs fun cs=>K (.tup cs)
 | .ag k cs,K=>mapCK (ren0K l) cs fun cs=>K (.ag k cs)
 | v,K=>ren0K l v K
theorem renK_eq (l:List (Nat × Nat)) (v:AV) (K:AV→Prop):renK l v K = K (ren (renN l) v):=by
 cases v with
 | fn f caps=>exact mapCK_eq (ren0K_eq l) caps _
 | tup cs=>exact mapCK_eq (ren0K_eq l) cs _
 | ag k cs=>exact mapCK_eq (ren0K_eq l) cs _
 | vs n τ x k=>exact ren0K_eq l (.vs n τ x k) K
 | ob n n2 o=>exact ren0K_eq l (.ob n n2 o) K
 | pt n o=>exact ren0K_eq l (.pt n o) K
 | vec n τ x=>exact ren0K_eq l (.vec n τ x) K
 | vp n τ x i o=>exact ren0K_eq l (.vp n τ x i o) K
 | _=>rfl
def setBoxesK (l:List (Nat × Nat)):List (Nat × List AV)→St→(St→Prop)→Prop
 | [],s,K=>K s
 | (n,cs)::r,s,K=>setBoxesK l r s fun s=>renNK l n fun n=>mapCK (renK l) cs fun cs=>match s with
  | ⟨sl,b⟩=>setLK b n cs fun b=>K ⟨sl,b⟩
theorem setBoxesK_eq (l:List (Nat × Nat)) (b:List (Nat × List AV)):∀ (s:St) (K:St→Prop),setBoxesK l b s K = K (setBoxes (renN l) b s):=by
 induction b with
 | nil=>intro s K; rfl
 | cons p r ih =>
  obtain ⟨n,cs⟩:=p
  intro s K
  simp only [setBoxesK,setBoxes,ih,renNK_eq,mapCK_eq (renK_eq l)]
  generalize setBoxes (renN l) r s = s'
  obtain ⟨sl,b⟩:=s'
  simp only [setLK_eq]; rfl
def newL (ρ:Nat→Nat) (pre post:List Nat):List Nat:=(post.filter fun k=>!(inB k pre)).map ρ
def injB (ρ:Nat→Nat):List Nat→Bool
 | []=>true
 | k::r=>r.all (fun k'=>!(Nat.beq (ρ k) (ρ k')) || Nat.beq k k') && injB ρ r
def uniqB:List Nat→Bool
 | []=>true
 | k::r=>!(inB k r) && uniqB r
def callB (N:Nat) (ρ:Nat→Nat) (pre post:List Nat) (bn bn':List Nat) (nargs:Nat):Bool :=
 injB ρ (pre++post) && (post.all fun k=>inB k pre || Nat.blt (ρ k) N) && (bn'.all fun k=>!(inB k pre) || inB k bn) && (bn.all fun n=>Nat.ble nargs n) && uniqB bn'
def sepB (s:St) (ρ:Nat→Nat) (pre:List Nat) (bn':List Nat):Bool:=bn'.all fun k=>!(inB k pre) || (noVs (ρ k) s.slots && noVb (ρ k) s.boxes)
def boxEqK (s:St) (l:List (Nat × Nat)):List (Nat × List AV)→Prop→Prop
 | [],K=>K
 | (n,cs)::r,K=>renNK l n fun n=>lookBK s.boxes n fun cs'=>mapC (ren (renN l)) cs = cs'∧boxEqK s l r K
theorem boxEqK_spec {s:St} {l:List (Nat × Nat)} (b:List (Nat × List AV)):∀ {K:Prop},boxEqK s l b K→(∀ n cs,(n,cs) ∈ b→lookB s.boxes (renN l n) = some (mapC (ren (renN l)) cs))∧K:=by
 induction b with
 | nil=>intro K h; exact ⟨(by intro n cs h; cases h),h⟩
 | cons p r ih =>
  obtain ⟨n,cs⟩:=p
  intro K h
  simp only [boxEqK,renNK_eq] at h
  obtain ⟨cs',h1,h2,h3⟩:=(lookBK_iff _ _ _).1 h
  obtain ⟨h4,h5⟩:=ih h3
  refine ⟨fun m cs0 hm=>?_,h5⟩
  rcases List.mem_cons.1 hm with hm | hm
  ·injection hm with e1 e2; subst e1 e2; rw [h1,h2]
  ·exact h4 m cs0 hm
def callBK (P:Program) (N:Nat) (s:St) (f:Operand) (args:List Operand) (dst:Option Nat) (K:St→Prop):Prop :=
 ∃ cv,nlBoxK cv s fun s=>∃ g fargs fboxes r fboxes' ρ,CSpec P g fargs fboxes r fboxes' ∧
  frzAllK (newL (renN ρ) (namesV fargs fboxes) (namesV [r] fboxes')) s fun s=>evsK s args fun vs=>evK s f fun fv=>match fv with
   | .fn g' caps => g' = g ∧ mapC (ren (renN ρ)) fargs = callArgs vs caps ∧ boxEqK s ρ fboxes (callB N (renN ρ) (namesV fargs fboxes) (namesV [r] fboxes') (boxNames fboxes) (boxNames fboxes') fargs.length = true ∧
     sepB s (renN ρ) (namesV fargs fboxes) (boxNames fboxes') = true ∧
     killAllK (deadL (renN ρ) (namesV fargs fboxes) (boxNames fboxes')) s fun s=>setBoxesK ρ fboxes' s fun s=>renK ρ r fun r=>stPutK N s dst r K)
   | _=>False

theorem Nm.of_frzAll {l:List Nat}:∀ {s:St} {n:Nat},Nm (frzAll l s) n→Nm s n∧n ∉ l:=by
 induction l with
 | nil=>intro s n h; exact ⟨h,by simp⟩
 | cons m r ih =>
  intro s n h
  obtain ⟨h1,h2⟩:=ih (s:=s.frz m) h
  obtain ⟨h3,h4⟩:=Nm.of_frz h1
  exact ⟨h3,by simp [h4,h2]⟩
theorem injB_spec {ρ:Nat→Nat} {l:List Nat} (h:injB ρ l = true):∀ k ∈ l,∀ k' ∈ l,ρ k = ρ k'→k = k':=by
 induction l with
 | nil=>intro k hk; cases hk
 | cons m r ih =>
  simp only [injB,Bool.and_eq_true,List.all_eq_true,Bool.or_eq_true,Bool.not_eq_true'] at h
  have h1:∀ k ∈ r,ρ m = ρ k→m = k:=fun k hk e=>by
   rcases h.1 k hk with h2 | h2
   ·rw [e,Nat.beq_refl] at h2; cases h2
   ·exact Nat.eq_of_beq_eq_true h2
  intro k hk k' hk' e
  rcases List.mem_cons.1 hk with e1 | k1<;>rcases List.mem_cons.1 hk' with e2 | k2
  ·rw [e1,e2]
  ·rw [e1] at e ⊢; exact h1 k' k2 e
  ·rw [e2] at e ⊢; exact (h1 k k1 e.symm).symm
  ·exact ih h.2 k k1 k' k2 e
theorem uniqB_spec {b:List (Nat × List AV)} (h:uniqB (boxNames b) = true):∀ n cs,(n,cs) ∈ b→lookB b n = some cs:=by
 induction b with
 | nil=>intro n cs h; cases h
 | cons p r ih =>
  obtain ⟨m,cs0⟩:=p
  simp only [boxNames,uniqB,Bool.and_eq_true,Bool.not_eq_true'] at h
  intro n cs hn
  simp only [lookB]
  rcases List.mem_cons.1 hn with hn | hn
  ·injection hn with e1 e2; subst e1 e2; simp
  ·have hne : m ≠ n := fun e => by
    subst e
    have h2:m ∈ boxNames r:=boxNames_mem.2 ⟨cs,ih h.2 m cs hn⟩
    rw [inB_iff.2 h2] at h; cases h.1
   rw [nbeq_ne hne]
   exact ih h.2 n cs hn
theorem callB_ok (hI : InvB W0 F X N s β a w) {o : Oper} {f : Operand} {args : Array Operand} {ts : Array TypeId} (ho : o.op = .call { callee := .value f, args := args, argTypes := ts }) {K : St → Prop}
  (h:callBK P N s f args.toList o.dst K) {next:Act→World→Prop} {Q:Exit→Act→World→Prop} (hn:∀ s' a' w',K s'→Inv W0 F X N s' a' w'→next a' w'):o.wp P a w next Q:=by
 obtain ⟨cv,h⟩:=h
 obtain ⟨s0,β,⟨g,fargs,fboxes,r,fboxes',ρ,⟨hcall,hspec⟩,h⟩,hI0⟩:=nlBox_ok cv hI h
 rw [frzAllK_eq,evsK_eq,evK_eq] at h
 have hI1:=hI0.frzAll (newL (renN ρ) (namesV fargs fboxes) (namesV [r] fboxes'))
 have hnew:∀ n,n ∈ newL (renN ρ) (namesV fargs fboxes) (namesV [r] fboxes')→¬ Nm (frzAll (newL (renN ρ) (namesV fargs fboxes) (namesV [r] fboxes')) s0) n:=fun n hn hm=>(Nm.of_frzAll hm).2 hn
 generalize frzAll (newL (renN ρ) (namesV fargs fboxes) (namesV [r] fboxes')) s0 = s1 at h hI1 hnew
 have hf:=ev_rel hI1 f
 have hvs:=evs_rel hI1 args.toList
 cases hfv:ev s1 f with
 | fn g' caps =>
  rw [hfv] at h hf
  obtain ⟨rfl,hargs,h⟩:=h
  obtain ⟨hbox,hchk,hsep,h⟩:=boxEqK_spec fboxes h
  simp only [callB,Bool.and_eq_true,List.all_eq_true,Bool.or_eq_true,Bool.not_eq_true',Nat.blt_eq] at hchk
  obtain ⟨⟨⟨⟨c1,c2⟩,c3⟩,c4⟩,c5⟩:=hchk
  obtain ⟨cvs,hfe,hcaps⟩:=hf.1
  have hall:All2 (Rel β (Own X s1 β) w) (mapC (ren (renN ρ)) fargs) (cargs caps (args.toList.map a.eval) cvs):=by
   rw [hargs]
   exact callArgs_all hvs.1 (hcaps.mono fun _ _ _ _ hr=>Rel.rel0 hr)
  have hidsAll:∀ k ∈ namesL (mapC (ren (renN ρ)) fargs),Nm s1 k:=by
   rw [hargs]
   intro k hk
   obtain ⟨c,hc,hk⟩:=List.mem_flatMap.1 hk
   rcases mem_callArgs hc with hc | hc
   ·exact hvs.2 c hc k hk
   ·obtain ⟨j,hj⟩:=List.getElem?_of_mem hc
    have hlt:=(List.getElem?_eq_some_iff.1 hj).1
    have hr:=hcaps.2 j c _ hj (List.getElem?_eq_getElem (by rw [← hcaps.1]; exact hlt))
    exact hf.2 k (List.mem_flatMap.2 ⟨c,hc,hr.ids hk⟩)
  have hok:CallOK s1 β N (renN ρ) fargs fboxes r fboxes':=by
   refine ⟨fun k hk=>?_,hbox,injB_spec c1,fun k hk hkp=>⟨?_,hnew _ ?_⟩,fun k hk hkp=>?_,fun k hk hkp=>?_,fun n hn'=>Nat.le_of_ble_eq_true (c4 n hn'),uniqB_spec c5⟩
   ·obtain ⟨c,hc,hkc⟩:=List.mem_flatMap.1 hk
    refine hidsAll _ (List.mem_flatMap.2 ⟨ren (renN ρ) c,?_,?_⟩)
    ·rw [mapC_eq]; exact List.mem_map.2 ⟨c,hc,rfl⟩
    ·rw [ids_ren]; exact List.mem_map.2 ⟨k,hkc,rfl⟩
   ·rcases c2 k hk with h1 | h1
    ·exact absurd (inB_iff.1 h1) hkp
    ·exact h1
   ·refine List.mem_map.2 ⟨k,List.mem_filter.2 ⟨hk,?_⟩,rfl⟩
    cases hi:inB k (namesV fargs fboxes) with
    | true=>exact absurd (inB_iff.1 hi) hkp
    | false=>rfl
   ·rcases c3 k hk with h1 | h1
    ·rw [inB_iff.2 hkp] at h1; cases h1
    ·exact inB_iff.1 h1
   ·simp only [sepB,List.all_eq_true,Bool.or_eq_true,Bool.not_eq_true',Bool.and_eq_true] at hsep
    rcases hsep k hk with h1 | h1
    ·rw [inB_iff.2 hkp] at h1; cases h1
    ·exact ⟨noVs_spec h1.1,noVb_spec h1.2⟩
  obtain ⟨hpin,hIn⟩:=callIn hI1 hok hall
  have hlen:(cargs caps (args.toList.map a.eval) cvs).length = fargs.length:=by have:=hall.1; simpa [mapC_eq] using this.symm
  have hs:=hspec _ _ _ w _ hlen hpin hIn
  unfold Oper.wp
  have hrun:=run_fnV (w:=w) ho hfe hcall
  rw [hrun]
  refine hs.mono fun e w' hp=>?_
  obtain ⟨v,β',rfl,hP⟩:=hp
  rw [killAllK_eq,setBoxesK_eq,renK_eq] at h
  obtain ⟨h1,h2⟩:=stPut_inv h
  exact hn _ _ _ h1 ⟨_,(callOut hI1 hok hP h2).1⟩
 | _=>rw [hfv] at h; exact h.elim

/-! ### one name for another -/
def ren1 (n m k:Nat):Nat:=if k = n then m else k
theorem InvB.ren1 (hI:InvB W0 F X N s β a w) {n m:Nat} (hfree:¬ Nm s m) (hnb:lookB s.boxes n = none):InvB W0 F X N (s.map (ren (SX.ren1 n m))) (setβ β m (β n)) a w:=by
 have hbox:∀ k cs,lookB (s.map (ren (SX.ren1 n m))).boxes k = some cs→∃ cs',lookB s.boxes k = some cs'∧cs = cs'.map (ren (SX.ren1 n m)):=fun k cs hk=>by
  simp only [St.map,lookB_mapB,Option.map_eq_some_iff] at hk
  obtain ⟨cs',h1,rfl⟩:=hk
  exact ⟨cs',h1,mapC_eq _ _⟩
 have hslot:∀ q,look (s.map (ren (SX.ren1 n m))).slots q = ren (SX.ren1 n m) (look s.slots q):=fun q=>look_mapV _ rfl _ _
 have hNm:∀ k,Nm (s.map (ren (SX.ren1 n m))) k→∃ j,Nm s j∧k = SX.ren1 n m j:=by
  rintro k (⟨cs,h⟩ | ⟨q,h⟩ | ⟨b,cs,h,c,hc,hk⟩)
  ·obtain ⟨cs',h1,_⟩:=hbox k cs h
   refine ⟨k,.inl ⟨cs',h1⟩,?_⟩
   unfold SX.ren1
   rw [if_neg]
   rintro rfl
   rw [hnb] at h1; cases h1
  ·rw [hslot,ids_ren] at h
   obtain ⟨j,hj,rfl⟩:=List.mem_map.1 h
   exact ⟨j,.inr (.inl ⟨q,hj⟩),rfl⟩
  ·obtain ⟨cs',h1,rfl⟩:=hbox b cs h
   obtain ⟨c',hc',rfl⟩:=List.mem_map.1 hc
   rw [ids_ren] at hk
   obtain ⟨j,hj,rfl⟩:=List.mem_map.1 hk
   exact ⟨j,.inr (.inr ⟨b,cs',h1,c',hc',hj⟩),rfl⟩
 have hβ:∀ k,Nm s k→setβ β m (β n) (SX.ren1 n m k) = β k:=by
  intro k hk
  unfold SX.ren1 setβ
  by_cases e:k = n
  ·subst e; simp
  ·rw [if_neg e,if_neg]
   rintro rfl
   exact hfree hk
 have hO:∀ k,Own X (s.map (ren (SX.ren1 n m))) (setβ β m (β n)) k→Own X s β k:=by
  rintro k (hX | ⟨q,hq,hb⟩)
  ·exact .inl hX
  ·obtain ⟨j,hj,rfl⟩:=hNm q hq
   rw [hβ j hj] at hb
   exact .inr ⟨j,hj,hb⟩
 refine hI.upd (Stp.refl (fun _=>False) w) (fun _ _ h=>h.elim) (fun q=>?_) (fun k cs hc=>?_) (fun k k' g hk hk' h1 h2=>?_) (fun k g hk hg=>?_) rfl rfl (fun k cs g hc hp=>?_)
 ·rw [hslot]
  exact (Rel.ren fun k hk=>hβ k (.inr (.inl ⟨q,hk⟩))).2 ((hI.slots q).mono hO)
 ·obtain ⟨cs',h1,rfl⟩:=hbox k cs hc
  obtain ⟨g,us,e,h2,h3,h4⟩:=hI.boxes k cs' h1
  have hk:SX.ren1 n m k = k:=by unfold SX.ren1; rw [if_neg]; rintro rfl; rw [hnb] at h1; cases h1
  refine ⟨g,us,e,by rw [← hk,hβ k (.inl ⟨cs',h1⟩)]; exact h2,h3,⟨by rw [List.length_map]; exact h4.1,fun j c u hj hu=>?_⟩⟩
  rw [List.getElem?_map,Option.map_eq_some_iff] at hj
  obtain ⟨c',hc',rfl⟩:=hj
  have hr:=h4.2 j c' u hc' hu
  exact ⟨(Rel.ren fun q hq=>hβ q (.inr (.inr ⟨k,cs',h1,c',List.mem_of_getElem? hc',hq⟩))).2 (hr.1.mono hO),hr.2⟩
 ·obtain ⟨j,hj,rfl⟩:=hNm k hk
  obtain ⟨j',hj',rfl⟩:=hNm k' hk'
  rw [hβ j hj] at h1
  rw [hβ j' hj'] at h2
  rw [hI.inj j j' g hj hj' h1 h2]
 ·obtain ⟨j,hj,rfl⟩:=hNm k hk
  rw [hβ j hj] at hg
  exact hI.own j g hj hg
 ·obtain ⟨cs',h1,rfl⟩:=hbox k cs hc
  have hk:SX.ren1 n m k = k:=by unfold SX.ren1; rw [if_neg]; rintro rfl; rw [hnb] at h1; cases h1
  rw [← hk,hβ k (.inl ⟨cs',h1⟩)]
  exact hI.pin k cs' g h1 hp
def noBoxB (n:Nat):List (Nat × List AV)→Bool
 | []=>true
 | (m,_)::r=>bif Nat.beq m n then false else noBoxB n r
theorem noBox_spec {n:Nat} {b:List (Nat × List AV)} (h:noBoxB n b = true):lookB b n = none:=by
 induction b with
 | nil=>rfl
 | cons p r ih =>
  obtain ⟨m,cs⟩:=p
  simp only [noBoxB] at h
  simp only [lookB]
  cases hb:Nat.beq m n with
  | true=>rw [hb] at h; cases h
  | false=>rw [hb] at h; exact ih h
def renStK:List (Nat × Nat)→St→(St→Prop)→Prop
 | [],s,K=>K s
 | (n,m)::r,s,K=>stFrzK m s fun s=>match s with
  | ⟨sl,b⟩=>chkK (noBoxB n b) (mapVK (renK [(n,m)]) sl fun sl=>mapBK (renK [(n,m)]) b fun b=>renStK r ⟨sl,b⟩ K)
theorem renN_one (n m:Nat):renN [(n,m)] = SX.ren1 n m:=by
 funext k
 simp only [renN,SX.ren1]
 cases hb:Nat.beq n k with
 | true=>have:=Nat.eq_of_beq_eq_true hb; subst this; simp
 | false => have : k ≠ n := fun e => by subst e; rw [Nat.beq_refl] at hb; cases hb
            simp [this]
theorem renSt_ok (l:List (Nat × Nat)):∀ {s:St} {β:Nat→Option Nat} {K:St→Prop},InvB W0 F X N s β a w→renStK l s K→∃ s' β',K s'∧InvB W0 F X N s' β' a w:=by
 induction l with
 | nil=>intro s β K hI h; exact ⟨s,β,h,hI⟩
 | cons p r ih =>
  obtain ⟨n,m⟩:=p
  intro s β K hI h
  simp only [renStK,stFrzK_eq] at h
  have hI1:=hI.frz m
  have hfree:=not_frz s m
  generalize s.frz m = s1 at h hI1 hfree
  obtain ⟨sl,b⟩:=s1
  obtain ⟨h1,h⟩:=(chkK_iff _ _).1 h
  rw [mapVK_eq (renK_eq [(n,m)]),mapBK_eq (renK_eq [(n,m)]),renN_one] at h
  exact ih (hI1.ren1 hfree (noBox_spec h1)) h
end
end Go.SX
end
section
namespace Go.SX
variable [Globs]
section
variable {P:Program} {N:Nat} {Γ:Ctx} {W0:World} {F:Fr} {X:Nat→Prop} {s:St} {β:Nat→Option Nat} {a:Act} {w:World}

def ObSpec (P:Program) (f:FuncId) (o:Ob) (args:List AV) (r:AV) (o':Ob):Prop :=
 (∀ (vs:Array Value) (w:World),(callFunc f vs).run P w = .ok (.enter f vs) w) ∧
 ∀ (β:Nat→Option Nat) (O:Nat→Prop) (w:World) (id id2:Nat) (v:Value) (vs:List Value),id≠id2→(∀ k,O k→k < w.heap.size)→(∀ g,β id = some g→O g)→(∀ g,β id2 = some g→O g)→(∀ g,β id2 = some g→β id≠some g) →
  GlobOK O w→ObAt β O w id id2 o v→All2 (Im O w) args vs →
  Calls P f (v::vs).toArray w fun e w'=>∃ u b2,e = .returned u∧Stp (fun k=>β id = some k∨β id2 = some k) w w'∧(∀ g,b2 = some g→g < w'.heap.size∧(β id2 = some g∨w.heap.size≤g)) ∧
   Im (fun _=>True) w' r u∧∀ O':Nat→Prop,(∀ k,k < w.heap.size→O' k→O k)→ObAt (setβ β id2 b2) O' w' id id2 o' v

def turnObK (id id2:Nat) (o:Ob) (s:St) (K:St→Prop):Prop :=
 mapVK (updOK id id2 o) s.slots fun sl=>mapBK (updOK id id2 o) s.boxes fun b=>delLK b id fun b=>delLK b id2 fun b=>K ⟨sl,b⟩
theorem turnObK_eq (id id2:Nat) (o:Ob) (s:St) (K:St→Prop):turnObK id id2 o s K = K (((s.map (updO id id2 o)).delBox id).delBox id2):=by
 simp only [turnObK,mapVK_eq (updOK_eq id id2 o),mapBK_eq (updOK_eq id id2 o),delLK_eq]; rfl
def callSbK (P:Program) (N:Nat) (s:St) (f:Operand) (id id2:Nat) (o:Ob) (rest:List AV) (dst:Option Nat) (K:St→Prop):Prop :=
 evK s f fun fv=>match fv with
  | .fn g []=>chkK (imAll rest) (chkK (fnArgs rest) (chkK (!(Nat.beq id id2) && !o.grid) (∃ r o',ObSpec P g o rest r o'∧turnObK id id2 o' s fun s=>stPutK N s dst r K)))
  | _=>False

theorem win_cells {O : Nat → Prop} {id id2 : Nat} {τ : Ty} {l : List (den τ)} {x y : Nat} {v v1 : Value} (h : ObAt β O w id id2 (.vw τ l x y) v1) {b : Nat} {B : Obj} (hb : β id = some b) (hB : w.heap[b]? = some B)
  (hn:∀ cur e f,B≠.cells cur e f):v1 = v:=by
 obtain ⟨g,c,j1,_,_,_,_,j6⟩:=h
 rcases j6 with ⟨_,q,_⟩ | ⟨g',c',cur,e,q1,_,q3,_⟩
 ·cases q
 ·rw [hb] at q1
  injection q1 with q1
  subst q1
  rw [hB] at q3
  injection q3 with q3
  exact absurd q3 (hn _ _ _)
theorem ln_cells {O:Nat→Prop} {id id2:Nat} {τ:Ty} {l:List (den τ)} {v1:Value} (h:ObAt β O w id id2 (.ln τ l) v1) {b:Nat} (hb:β id = some b):β id2 = some b∧∃ cur e,w.heap[b]? = some (.cells cur e (0,0)):=by
 obtain ⟨h1,⟨_,_,q⟩ | ⟨g',c',cur,e,q1,_,q3,_⟩⟩:=h
 ·rw [hb] at q; cases q
 ·rw [hb] at q1
  injection q1 with q1
  subst q1
  exact ⟨h1.trans hb,cur,e,q3⟩
theorem ObAt.uniq {O : Nat → Prop} {id id2 : Nat} {o o1 : Ob} {v v1 : Value} (hg : o.grid = false) (hg1 : o1.grid = false) (h : ObAt β O w id id2 o v) (h1 : ObAt β O w id id2 o1 v1)
  (hq:(∀ g,β id2 = some g→β id≠some g)∨((∃ κ τ es,o = .mp κ τ es)∨∃ s p,o = .it s p)∨o = o1):v1 = v:=by
 cases o with
 | gr=>cases hg
 | gp=>cases hg
 | sb T e l =>
  obtain ⟨b,p,u,k1,rfl,k3,_⟩:=h
  cases o1 with
  | gr=>cases hg1
  | gp=>cases hg1
  | ln τ l =>
   have j2:=(ln_cells h1 k1).1
   rcases hq with hq | (⟨_,_,_,hq⟩ | ⟨_,_,hq⟩) | hq
   ·exact absurd k1 (hq _ j2)
   all_goals cases hq
  | vw τ l a b =>
   obtain ⟨g,c,j1,j2,_⟩:=h1
   rcases hq with hq | (⟨_,_,_,hq⟩ | ⟨_,_,hq⟩) | hq
   ·exact absurd j1 (hq g j2)
   all_goals cases hq
  | nw zs=>obtain ⟨b1,_,j1,rfl,_⟩:=h1; rw [k1] at j1; injection j1 with j1; rw [j1]
  | sb T1 e1 l1=>obtain ⟨b1,_,_,j1,rfl,_⟩:=h1; rw [k1] at j1; injection j1 with j1; rw [j1]
  | it t pos=>obtain ⟨b1,j1,rfl,j3,_⟩:=h1; rw [k1] at j1; injection j1 with j1; rw [j1]
  | mp κ τ es=>obtain ⟨b1,_,_,j1,rfl,j3,_⟩:=h1; rw [k1] at j1; injection j1 with j1; subst j1; rw [k3] at j3; cases j3
 | it t pos =>
  obtain ⟨b,k1,rfl,k3,_⟩:=h
  cases o1 with
  | gr=>cases hg1
  | gp=>cases hg1
  | ln τ l=>obtain ⟨_,cur,e,j3⟩:=ln_cells h1 k1; rw [k3] at j3; cases j3
  | vw τ l x y=>exact win_cells h1 k1 k3 nofun
  | nw zs=>obtain ⟨b1,_,j1,rfl,_⟩:=h1; rw [k1] at j1; injection j1 with j1; rw [j1]
  | sb T1 e1 l1=>obtain ⟨b1,_,_,j1,rfl,_⟩:=h1; rw [k1] at j1; injection j1 with j1; rw [j1]
  | it t pos=>obtain ⟨b1,j1,rfl,j3,_⟩:=h1; rw [k1] at j1; injection j1 with j1; rw [j1]
  | mp κ τ es=>obtain ⟨b1,_,_,j1,rfl,j3,_⟩:=h1; rw [k1] at j1; injection j1 with j1; subst j1; rw [k3] at j3; cases j3
 | mp κ τ es =>
  obtain ⟨b,_,_,k1,rfl,k3,_⟩:=h
  cases o1 with
  | gr=>cases hg1
  | gp=>cases hg1
  | ln τ l=>obtain ⟨_,cur,e,j3⟩:=ln_cells h1 k1; rw [k3] at j3; cases j3
  | vw τ l x y=>exact win_cells h1 k1 k3 nofun
  | nw zs=>obtain ⟨b1,_,j1,rfl,j3,_⟩:=h1; rw [k1] at j1; injection j1 with j1; subst j1; rw [k3] at j3; cases j3
  | sb T1 e1 l1=>obtain ⟨b1,_,_,j1,rfl,j3,_⟩:=h1; rw [k1] at j1; injection j1 with j1; subst j1; rw [k3] at j3; cases j3
  | it t pos=>obtain ⟨b1,j1,rfl,j3,_⟩:=h1; rw [k1] at j1; injection j1 with j1; subst j1; rw [k3] at j3; cases j3
  | mp κ τ es=>obtain ⟨b1,_,_,j1,rfl,_⟩:=h1; rw [k1] at j1; injection j1 with j1; rw [j1]
 | nw zs =>
  obtain ⟨b,_,k1,rfl,k3,_⟩:=h
  cases o1 with
  | gr=>cases hg1
  | gp=>cases hg1
  | ln τ l =>
   have j2:=(ln_cells h1 k1).1
   rcases hq with hq | (⟨_,_,_,hq⟩ | ⟨_,_,hq⟩) | hq
   ·exact absurd k1 (hq _ j2)
   all_goals cases hq
  | vw τ l a b =>
   obtain ⟨g,c,j1,j2,_⟩:=h1
   rcases hq with hq | (⟨_,_,_,hq⟩ | ⟨_,_,hq⟩) | hq
   ·exact absurd j1 (hq g j2)
   all_goals cases hq
  | sb T1 e1 l1=>obtain ⟨b1,_,_,j1,rfl,_⟩:=h1; rw [k1] at j1; injection j1 with j1; rw [j1]
  | it t pos=>obtain ⟨b1,j1,rfl,j3,_⟩:=h1; rw [k1] at j1; injection j1 with j1; rw [j1]
  | mp κ τ es=>obtain ⟨b1,_,_,j1,rfl,j3,_⟩:=h1; rw [k1] at j1; injection j1 with j1; subst j1; rw [k3] at j3; cases j3
  | nw zs=>obtain ⟨b1,_,j1,rfl,_⟩:=h1; rw [k1] at j1; injection j1 with j1; rw [j1]
 | vw τ l x y =>
  obtain ⟨g,c,k1,k2,k3,k4,rfl,k6⟩:=h
  rcases hq with hq | (⟨_,_,_,hq⟩ | ⟨_,_,hq⟩) | rfl
  ·exact absurd k1 (hq g k2)
  ·cases hq
  ·cases hq
  obtain ⟨g',c',j1,_,_,_,rfl,j6⟩:=h1
  have:=VecAt.uniq k6 j6
  injection this with e1 _ e3
  injection e1 with e1
  injection e1 with e1 _ _
  rw [e1,e3]
 | ln τ l =>
  rcases hq with hq | (⟨_,_,_,hq⟩ | ⟨_,_,hq⟩) | rfl
  ·obtain ⟨h2,h3⟩:=h
   rcases h3 with ⟨_,rfl,q⟩ | ⟨g,_,_,_,q,_⟩
   ·cases o1 with
    | gr=>cases hg1
    | gp=>cases hg1
    | vw τ l a b=>obtain ⟨g,c,j1,_⟩:=h1; rw [q] at j1; cases j1
    | nw zs=>obtain ⟨g,_,j1,_⟩:=h1; rw [q] at j1; cases j1
    | sb T1 e1 l1=>obtain ⟨g,_,_,j1,_⟩:=h1; rw [q] at j1; cases j1
    | it t pos=>obtain ⟨g,j1,_⟩:=h1; rw [q] at j1; cases j1
    | mp κ τ es=>obtain ⟨g,_,_,j1,_⟩:=h1; rw [q] at j1; cases j1
    | ln σ m =>
     obtain ⟨_,⟨_,e,_⟩ | ⟨g,_,_,_,j1,_⟩⟩:=h1
     ·exact e
     ·rw [q] at j1; cases j1
   ·exact absurd q (hq g (h2.trans q))
  ·cases hq
  ·cases hq
  ·exact VecAt.uniq h1.2 h.2

theorem callSb_ok (hI : InvB W0 F X N s β a w) {o : Oper} {f : Operand} {args : Array Operand} {ts : Array TypeId} (ho : o.op = .call { callee := .value f, args := args, argTypes := ts }) {id id2 : Nat} {ob : Ob} {rest : List AV}
  (hev:evs s args.toList = .ob id id2 ob::rest) {K:St→Prop} (h:callSbK P N s f id id2 ob rest o.dst K)
  {next:Act→World→Prop} {Q:Exit→Act→World→Prop} (hn:∀ s' a' w',K s'→Inv W0 F X N s' a' w'→next a' w'):o.wp P a w next Q:=by
 unfold callSbK at h
 rw [evK_eq] at h
 have hf:=ev_rel hI f
 have hvs:=evs_rel hI args.toList
 rw [hev] at hvs
 cases hfv:ev s f with
 | fn g caps =>
  rw [hfv] at h hf
  cases caps with
  | cons _ _=>exact h.elim
  | nil =>
   obtain ⟨h1,h⟩:=(chkK_iff _ _).1 h
   obtain ⟨h2,h⟩:=(chkK_iff _ _).1 h
   obtain ⟨h3,h⟩:=(chkK_iff _ _).1 h
   obtain ⟨r,o',⟨hcall,hspec⟩,hK⟩:=h
   obtain ⟨cvs,hfe,hcaps⟩:=hf.1
   have hc0:cvs = []:=hcaps.nil_inv
   subst hc0
   have hfe:a.eval f = .func (.func g) #[] #[]:=hfe
   obtain ⟨v,vs,hve,hv,hrest⟩:=hvs.1.cons_inv
   rw [Bool.and_eq_true] at h3
   have hgb:ob.grid = false:=by simpa using h3.2
   have h3:=h3.1
   have hne:id≠id2:=fun e=>by subst e; rw [Nat.beq_refl] at h3; cases h3
   have hNm:Nm s id:=hvs.2 _ (List.mem_cons_self ..) id (by simp [SX.ids,ids0])
   have hNm2:Nm s id2:=hvs.2 _ (List.mem_cons_self ..) id2 (by simp [SX.ids,ids0])
   have himr:All2 (Im (Own X s β) w) rest vs :=
    hrest.mono fun _ c v hc hr=>im_of_rel hr (imAll_mem h1 (List.mem_of_getElem? hc)) (fnArgs_mem h2 (List.mem_of_getElem? hc))
   have hob:ObAt β (Own X s β) w id id2 ob v:=hv
   have hs:=hspec β (Own X s β) w id id2 v vs hne (own_lt hI) (fun g hg=>.inr ⟨id,hNm,hg⟩) (fun g hg=>.inr ⟨id2,hNm2,hg⟩) (fun g hg e=>hne (hI.inj id id2 g hNm hNm2 e hg)) hI.globs hob himr
   unfold Oper.wp
   have hrun:(execOp a.eval o).run P w = .ok (.enter g (v::vs).toArray) w:=by
    have e1:args.map a.eval = (v::vs).toArray:=by
     apply Array.ext'
     rw [← hve]; simp
    simp [execOp,ho,resolve,hfe,Deferred.ofValue,invoke,e1]
    exact hcall _ w
   rw [hrun]
   refine hs.mono fun e w' hp=>?_
   obtain ⟨u,b2,rfl,hst,hb2,him,hafter⟩:=hp
   rw [turnObK_eq] at hK
   have hI':=hI.turnOb hNm hNm2 hst (by unfold setβ; rw [if_neg hne]) hb2 (o':=o') (v0:=v) (fun o1 v1 hg1 h1=>hob.uniq hgb hg1 h1 (.inl fun g hg e=>hne (hI.inj id id2 g hNm hNm2 e hg))) hafter
   obtain ⟨s',h7,h8⟩:=put_ok hI' hK (Rel.im (him.mono fun _ _=>trivial)) (by rw [him.ids_nil]; intro n hn; cases hn)
   exact hn _ _ _ h7 ⟨_,h8⟩
 | _=>rw [hfv] at h; exact h.elim

def allocSbK (N:Nat) (s:St) (t:TypeId) (ti:TI) (e:TypeId) (dst:Option Nat) (K:St→Prop):Prop :=
 ∃ d2,optK dst fun d=>ti.zero = [.pointer none,.slice none 0 0]∧chkK (!(Nat.beq d d2)) (stFrzK d s fun s=>stFrzK d2 s fun s=>stPutK N s (some d) (.ob d d2 (.sb t e [])) K)
theorem allocSb_ok (hI : InvB W0 F X N s β a w) {o : Oper} {t : TypeId} (ho : o.op = .alloc t) {ti : TI} (hti : ti.ok P t) {e : TypeId} {K : St → Prop} (h : allocSbK N s t ti e o.dst K)
  {next:Act→World→Prop} {Q:Exit→Act→World→Prop} (hn:∀ s' a' w',K s'→Inv W0 F X N s' a' w'→next a' w'):o.wp P a w next Q:=by
 obtain ⟨d2,h⟩:=h
 obtain ⟨d,hd,hz,h⟩:=(optK_iff _ _).1 h
 obtain ⟨hne,h⟩:=(chkK_iff _ _).1 h
 rw [stFrzK_eq,stFrzK_eq] at h
 have hne:d≠d2:=fun e=>by subst e; rw [Nat.beq_refl] at hne; cases hne
 obtain ⟨hK,hdN⟩:=stPut_inv h
 obtain ⟨z,hz1,hz2⟩:=hti.zeroValue w
 have hI':=(hI.frz d).frz d2
 have hf:¬ Nm ((s.frz d).frz d2) d:=fun h=>not_frz s d (Nm.of_frz h).1
 have hcs:z.cells = #[.pointer none,.slice none 0 0]:=by rw [hz2,hz]
 have hI2:=hI'.newOb (hdN d rfl) hf (not_frz _ d2) (Stp.alloc w (.cells z.cells t)) (Nat.le_refl _) (by simp) (o:=.sb t e []) (u:=.pointer (some ⟨w.heap.size,0,none⟩)) (fun O'=>by
  refine ⟨w.heap.size,.pointer none,.slice none 0 0,by simp [setβ],rfl,?_,.inl rfl,.inl ⟨rfl,rfl,?_⟩⟩
  ·rw [heap_alloc_new,hcs]
  ·unfold setβ; rw [if_neg (fun e=>hne e.symm),if_pos rfl])
 refine wp_val (u:=.pointer (some ⟨w.heap.size,0,none⟩)) (w':=w.alloc (.cells z.cells t)) ?_ (by rw [hd]; exact hn _ _ _ hK ⟨_,hI2⟩)
 simp [execOp,ho,Instr.alloc,hz1,newVar_run]

def rangeK (Γ:Ctx) (N:Nat) (s:St) (t:TypeId) (x:Operand) (dst:Option Nat) (K:St→Prop):Prop :=
 tiK Γ t fun ti=>chkK (isStrT ti.desc) (optK dst fun d=>stFrzK d s fun s=>evK s x fun v=>match v with
  | .s l=>stPutK N s (some d) (.ob d d (.it l 0)) K
  | _=>False)
theorem range_ok (hΓ : Γ.ok P) (hI : InvB W0 F X N s β a w) {o : Oper} {t : TypeId} {x : Operand} (ho : o.op = .range t x) {K : St → Prop} (h : rangeK Γ N s t x o.dst K)
  {next:Act→World→Prop} {Q:Exit→Act→World→Prop} (hn:∀ s' a' w',K s'→Inv W0 F X N s' a' w'→next a' w'):o.wp P a w next Q:=by
 obtain ⟨ti,hti,h⟩:=tiK_ok hΓ h
 obtain ⟨hs,h⟩:=(chkK_iff _ _).1 h
 obtain ⟨d,hd,h⟩:=(optK_iff _ _).1 h
 rw [stFrzK_eq,evK_eq] at h
 have hu:P.underlying t = some .string:=by
  obtain ⟨dd,h1,h2⟩:=hti.desc
  cases hde:ti.desc<;>rw [hde] at hs h2<;>first | (cases hs; done) | exact h1.trans (congrArg some h2)
 have hI1:=hI.frz d
 have hr:=(ev_rel hI1 x).1
 cases hv:ev (s.frz d) x with
 | s l =>
  rw [hv] at h hr
  obtain ⟨hve,hl⟩:=hr.inv_s
  obtain ⟨hK,hdN⟩:=stPut_inv h
  have hI2:=hI1.newOb (hdN d rfl) (not_frz s d) (not_frz s d) (Stp.alloc w (.stringIter ⟨l.toArray⟩ 0)) (Nat.le_refl _) (by simp) (o:=.it l 0) (u:=.pointer (some ⟨w.heap.size,0,none⟩)) (fun O' =>
   ⟨w.heap.size,by simp [setβ],rfl,heap_alloc_new w _,hl,Nat.zero_le _⟩)
  refine wp_val (u:=.pointer (some ⟨w.heap.size,0,none⟩)) (w':=w.alloc (.stringIter ⟨l.toArray⟩ 0)) ?_ (by rw [hd]; exact hn _ _ _ hK ⟨_,hI2⟩)
  have hrr:=run_range_string (P:=P) w t ⟨l.toArray⟩ hu
  simp [execOp,ho,hve,hrr,World.iter]
 | _=>rw [hv] at h; exact h.elim
theorem decAt_eq (l:Str) (p:Nat):Utf8.decode ⟨l.toArray⟩ p = decAt l p:=by rw [Lib.decode_N]; simp [decAt]
theorem decAt_le (l:Str) {p:Nat} (h:p < l.length):p + (decAt l p).2≤l.length:=by
 have:=Lib.decodeN_width_le (l.length - p) (l.getD p 0).toNat (l.getD (p + 1) 0).toNat (l.getD (p + 2) 0).toNat (l.getD (p + 3) 0).toNat (by omega)
 unfold decAt
 omega
def nextK (N:Nat) (s:St) (x:Operand) (dst:Option Nat) (K:St→Prop):Prop :=
 evK s x fun v=>match v with
  | .ob id id2 (.it l p) => chkK (Nat.beq id id2) ((p < l.length → turnObK id id2 (.it l (p + (decAt l p).2)) s fun s => stPutK N s dst (.tup [.b true, .i .i64 p, .i .i32 (decAt l p).1]) K) ∧
    (¬ p < l.length→stPutK N s dst (.tup [.b false]) K))
  | _=>False
theorem next_ok (hI : InvB W0 F X N s β a w) {o : Oper} {x : Operand} (ho : o.op = .next x true) {K : St → Prop} (h : nextK N s x o.dst K)
  {next:Act→World→Prop} {Q:Exit→Act→World→Prop} (hn:∀ s' a' w',K s'→Inv W0 F X N s' a' w'→next a' w'):o.wp P a w next Q:=by
 unfold nextK at h
 rw [evK_eq] at h
 have hr:=(ev_rel hI x).1
 have hids:=(ev_rel hI x).2
 cases hv:ev s x with
 | ob id id2 ob =>
  rw [hv] at h hr hids
  cases ob with
  | it l p =>
   obtain ⟨he,h1,h2⟩:=(chkK_iff _ _).1 h
   have:=Nat.eq_of_beq_eq_true he
   subst this
   have hNm:Nm s id:=hids id (by simp [SX.ids,ids0])
   obtain ⟨g,hg,hve,hh,hl,hp⟩:=(show ObAt β (Own X s β) w id id (.it l p) (a.eval x) from hr)
   by_cases hlt:p < l.length
   ·have h1:=h1 hlt
    rw [turnObK_eq] at h1
    have hsz:(⟨l.toArray⟩:ByteArray).size = l.length:=by simp [ByteArray.size]
    have hdec:=decAt_eq l p
    have hle:=decAt_le l hlt
    have hit:=Lib.iterAt_heap w g ⟨l.toArray⟩ p (p + (decAt l p).2) hh
    have hst:Stp (fun k=>β id = some k∨β id = some k) w (w.iterAt g ⟨l.toArray⟩ (p + (decAt l p).2)) :=
     ⟨rfl,rfl,rfl,by rw [Lib.iterAt_size]; exact Nat.le_refl _,fun k _ hk=>Lib.iterAt_other w g k _ _ fun e=>hk (.inl (by rw [hg,e]))⟩
    have hβ:setβ β id (β id) id = β id:=by simp [setβ]
    have hI':=hI.turnOb hNm hNm hst (b2:=β id) hβ (fun k hk=>⟨by rw [Lib.iterAt_size]; exact (hI.own id k hNm hk).1,.inl hk⟩) (o':=.it l (p + (decAt l p).2)) (v0:=a.eval x)
     (fun o1 v1 hg1 h1=>ObAt.uniq (o:=.it l p) rfl hg1 ⟨g,hg,hve,hh,hl,hp⟩ h1 (.inr (.inl (.inr ⟨_,_,rfl⟩)))) (fun O' hO=>⟨g,by rw [hβ]; exact hg,hve,hit,hl,hle⟩)
    have hrel:Im (fun _=>True) (w.iterAt g ⟨l.toArray⟩ (p + (decAt l p).2)) (.tup [.b true,.i .i64 p,.i .i32 (decAt l p).1]) (.tuple #[.bool true,.int .i64 p,.int .i32 (decAt l p).1]):=by
     refine .tup _ [.bool true,.int .i64 p,.int .i32 (decAt l p).1] rfl fun j c u hc hu=>?_
     match j with
     | 0=>simp at hc hu; subst hc hu; exact .b _
     | 1=>simp at hc hu; subst hc hu; exact .i _ _
     | 2=>simp at hc hu; subst hc hu; exact .i _ _
     | j + 3=>simp at hc
    obtain ⟨s',h7,h8⟩:=put_ok hI' h1 (Rel.im (hrel.mono fun _ _=>trivial)) (by rw [hrel.ids_nil]; intro n hn; cases hn)
    refine wp_val ?_ (hn _ _ _ h7 ⟨_,h8⟩)
    have:=Lib.run_next_any_at (P:=P) w g ⟨l.toArray⟩ p o.type hh (by rw [hsz]; exact hlt)
    rw [hdec] at this
    simp [execOp,ho,hve,this]
   ·have h2:=h2 hlt
    have hsz:(⟨l.toArray⟩:ByteArray).size = l.length:=by simp [ByteArray.size]
    have hrel:Im (fun _=>True) w (.tup [.b false]) (.tuple #[.bool false]):=by
     refine .tup _ [.bool false] rfl fun j c u hc hu=>?_
     match j with
     | 0=>simp at hc hu; subst hc hu; exact .b _
     | j + 1=>simp at hc
    obtain ⟨s',h7,h8⟩:=put_ok hI h2 (Rel.im (hrel.mono fun _ _=>trivial)) (by rw [hrel.ids_nil]; intro n hn; cases hn)
    refine wp_val ?_ (hn _ _ _ h7 ⟨_,h8⟩)
    have:=Lib.run_next_end_at (P:=P) w g ⟨l.toArray⟩ p o.type hh (by rw [hsz]; exact hlt)
    simp [execOp,ho,hve,this]
  | _=>exact h.elim
 | _=>rw [hv] at h; exact h.elim
end
end Go.SX
end
section
namespace Go.SX
open Go.MapKept
def keyK:Ty→Option IntKind
 | .int | .i64 | .errno=>some .i64
 | .u32=>some .u32
 | .u64=>some .u64
 | .u8=>some .u8
 | .rune=>some .i32
 | _=>none
def keyD:TD→Ty→Bool
 | .int k,κ=>match keyK κ with
  | some k'=>decide (k = k')
  | none=>false
 | .str,.str=>true
 | .bool,.bool=>true
 | _,_=>false
def keq:(κ:Ty)→den κ→den κ→Bool
 | .int,a,b | .i64,a,b | .u32,a,b | .u64,a,b | .u8,a,b | .rune,a,b | .errno,a,b=>decide (a = b)
 | .str,a,b=>decide (a = b)
 | .bool,a,b=>decide (a = b)
 | _,_,_=>false
def mpGet {κ τ:Ty}:List (den κ × den τ)→den κ→Option (den τ)
 | [],_=>none
 | (a,v)::r,k=>bif keq κ k a then some v else mpGet r k
def mpSet {κ τ:Ty}:List (den κ × den τ)→den κ→den τ→List (den κ × den τ)
 | [],k,v=>[(k,v)]
 | (a,u)::r,k,v=>bif keq κ k a then (k,v)::r else (a,u)::mpSet r k v
theorem mpSet_len {κ τ:Ty} (es:List (den κ × den τ)) (k:den κ) (v:den τ):(mpSet es k v).length≤es.length + 1:=by
 induction es with
 | nil=>simp [mpSet]
 | cons p r ih =>
  obtain ⟨a,u⟩:=p
  simp only [mpSet]
  cases keq κ k a<;>simp<;>omega
def mapTK:TD→(Nat→Nat→Prop)→Prop
 | .mp k e,K=>K k e
 | _,_=>False
variable [Globs]
section
variable {P:Program} {N:Nat} {Γ:Ctx} {W0:World} {F:Fr} {X:Nat→Prop} {s:St} {β:Nat→Option Nat} {a:Act} {w:World}
theorem mapT_ok {t:Nat} {ti:TI} (hti:ti.ok P t) {K:Nat→Nat→Prop} (h:mapTK ti.desc K):∃ k e,K k e∧P.underlying t = some (.map k e):=by
 obtain ⟨de,h1,h2⟩:=hti.desc
 cases hd:ti.desc with
 | mp k e=>rw [hd] at h h2; exact ⟨k,e,h,(show de = .map k e from h2) ▸ h1⟩
 | _=>rw [hd] at h; exact h.elim
theorem key_kind {O : Nat → Prop} {t : Nat} {ti : TI} (hti : ti.ok P t) {κ : Ty} (h : keyD ti.desc κ = true) : ∃ d, P.underlying t = some d ∧
  (∀ (k:den κ) u,All2 (Im O w) (enc κ k) [u]→IsKey d u)∧∀ (k k':den κ) u u',All2 (Im O w) (enc κ k) [u]→All2 (Im O w) (enc κ k') [u']→Instr.sameNow d u u' = some (keq κ k k'):=by
 obtain ⟨de,h1,h2⟩:=hti.desc
 refine ⟨de,h1,?_⟩
 cases hd:ti.desc with
 | int k =>
  rw [hd] at h h2
  obtain rfl:=(show de = .int k from h2)
  have fin : ∀ (e : den κ → Int), (∀ x : den κ, enc κ x = [.i k (e x)]) → (∀ x y, keq κ x y = decide (e x = e y)) → (∀ (k_1 : den κ) u, All2 (Im O w) (enc κ k_1) [u] → IsKey (.int k) u) ∧
    ∀ (k_1 k':den κ) u u',All2 (Im O w) (enc κ k_1) [u]→All2 (Im O w) (enc κ k') [u']→Instr.sameNow (.int k) u u' = some (keq κ k_1 k'):=by
   intro e he hq
   have inv:∀ x u,All2 (Im O w) (enc κ x) [u]→u = .int k (e x):=fun x u hu=>by
    rw [he] at hu
    have:=hu.head
    cases this
    rfl
   refine ⟨fun x u hu=>by rw [inv x u hu]; simp [IsKey],fun x y u u' hu hu'=>?_⟩
   rw [inv x u hu,inv y u' hu',hq]
   simp only [Instr.sameNow,if_true]
   congr 1
  cases κ<;>simp [keyD,keyK] at h<;>subst h<;>exact fin (fun x=>x) (fun _=>rfl) (fun _ _=>rfl)
 | str =>
  rw [hd] at h h2
  obtain rfl:=(show de = .string from h2)
  cases κ<;>simp [keyD] at h
  have inv:∀ (x:Str) u,All2 (Im O w) (enc .str x) [u]→u = .string ⟨x.toArray⟩:=fun x u hu=>by
   have:=hu.head
   cases this
   rfl
  refine ⟨fun x u hu=>by rw [inv x u hu]; simp [IsKey],fun x y u u' hu hu'=>?_⟩
  rw [inv x u hu,inv y u' hu']
  simp only [Instr.sameNow]
  congr 1
  rw [Bool.eq_iff_iff,bytes_beq]
  show _↔decide (x = y) = true
  rw [decide_eq_true_eq,beq_iff_eq]
 | bool =>
  rw [hd] at h h2
  obtain rfl:=(show de = .bool from h2)
  cases κ<;>simp [keyD] at h
  have inv:∀ (x:Bool) u,All2 (Im O w) (enc .bool x) [u]→u = .bool x:=fun x u hu=>by
   have:=hu.head
   cases this
   rfl
  refine ⟨fun x u hu=>by rw [inv x u hu]; simp [IsKey],fun x y u u' hu hu'=>?_⟩
  rw [inv x u hu,inv y u' hu']
  simp only [Instr.sameNow]
  congr 1
 | _=>rw [hd] at h; cases h
abbrev EntAt (O:Nat→Prop) (w:World) (κ τ:Ty) (p:den κ × den τ) (e:MapEntry):Prop:=All2 (Im O w) (enc κ p.1) [e.key]∧All2 (Im O w) (enc τ p.2) [e.val]
theorem find_mp {O : Nat → Prop} {κ τ : Ty} {d : TypeDesc} {k : den κ} {u : Value} (hs : ∀ (k k' : den κ) u u', All2 (Im O w) (enc κ k) [u] → All2 (Im O w) (enc κ k') [u'] → Instr.sameNow d u u' = some (keq κ k k'))
  (hu:All2 (Im O w) (enc κ k) [u]):∀ (es:List (den κ × den τ)) (ents:List MapEntry) (i:Nat),All2 (EntAt O w κ τ) es ents →
   (Instr.findNow d u ents i = some none∧mpGet es k = none∧∀ v,mpSet es k v = es++[(k,v)]) ∨
   ∃ j e x,Instr.findNow d u ents i = some (some (i + j,e.val))∧ents[j]? = some e∧mpGet es k = some x∧All2 (Im O w) (enc τ x) [e.val]∧Instr.sameNow d u e.key = some true∧∀ v,mpSet es k v = es.set j (k,v):=by
 intro es
 induction es with
 | nil =>
  intro ents i h
  have:=h.1
  have:ents = []:=List.eq_nil_of_length_eq_zero (by simpa using this.symm)
  subst this
  exact .inl ⟨rfl,rfl,fun _=>rfl⟩
 | cons p r ih =>
  intro ents i h
  obtain ⟨x,y⟩:=p
  obtain ⟨e,ents,rfl,he,ht⟩:=h.cons_inv
  have hk:=hs k x u e.key hu he.1
  cases hq:keq κ k x with
  | true =>
   rw [hq] at hk
   exact .inr ⟨0,e,y,by simp [Instr.findNow,hk],rfl,by simp [mpGet,hq],he.2,hk,fun v=>by simp [mpSet,hq]⟩
  | false =>
   rw [hq] at hk
   rcases ih ents (i + 1) ht with ⟨h1,h2,h3⟩ | ⟨j,e',z,h1,h2,h3,h4,h5,h6⟩
   ·exact .inl ⟨by simp [Instr.findNow,hk,h1],by simp [mpGet,hq,h2],fun v=>by simp [mpSet,hq,h3]⟩
   ·exact .inr ⟨j + 1,e',z,by simp [Instr.findNow,hk,h1]; omega,by simpa using h2,by simp [mpGet,hq,h3],h4,h5,fun v=>by simp [mpSet,hq,h6]⟩

/-! ### a map is made -/
def mkMapK (Γ:Ctx) (N:Nat) (s:St) (t:TypeId) (dst:Option Nat) (K:St→Prop):Prop :=
 tiK Γ t fun ti=>mapTK ti.desc fun k e=>tiK Γ k fun tk=>tiK Γ e fun te=>tyK tk.ty fun κ=>tyK te.ty fun τ=>optK dst fun d=>stFrzK d s fun s=>stPutK N s (some d) (.ob d d (.mp κ τ [])) K
theorem mkMap_ok (hΓ : Γ.ok P) (hI : InvB W0 F X N s β a w) {o : Oper} {t : TypeId} (ho : o.op = .makeMap t none) {K : St → Prop} (h : mkMapK Γ N s t o.dst K)
  {next:Act→World→Prop} {Q:Exit→Act→World→Prop} (hn:∀ s' a' w',K s'→Inv W0 F X N s' a' w'→next a' w'):o.wp P a w next Q:=by
 obtain ⟨ti,hti,h⟩:=tiK_ok hΓ h
 obtain ⟨k,e,h,hu⟩:=mapT_ok hti h
 obtain ⟨tk,htk,h⟩:=tiK_ok hΓ h
 obtain ⟨te,hte,h⟩:=tiK_ok hΓ h
 obtain ⟨κ,hκ,h⟩:=(tyK_iff _ _).1 h
 obtain ⟨τ,hτ,h⟩:=(tyK_iff _ _).1 h
 obtain ⟨d,hd,h⟩:=(optK_iff _ _).1 h
 rw [stFrzK_eq] at h
 have hI1:=hI.frz d
 obtain ⟨hK,hdN⟩:=stPut_inv h
 have hI2:=hI1.newOb (hdN d rfl) (not_frz s d) (not_frz s d) (Stp.alloc w (.map #[] 0)) (Nat.le_refl _) (by simp) (o:=.mp κ τ []) (u:=.map (some w.heap.size)) (fun O' =>
  ⟨w.heap.size,#[],0,by simp [setβ],rfl,heap_alloc_new w _,by simp,All2.nil _⟩)
 refine wp_val (u:=.map (some w.heap.size)) (w':=w.alloc (.map #[] 0)) ?_ (by rw [hd]; exact hn _ _ _ hK ⟨_,hI2⟩)
 simp [execOp,ho,Instr.makeMap,newObj]
 rfl

/-! ### a map is asked -/
def oneK:List AV→(AV→Prop)→Prop
 | [v],K=>K v
 | _,_=>False
theorem oneK_iff (l:List AV) (K:AV→Prop):oneK l K↔∃ v,l = [v]∧K v:=by
 cases l with
 | nil=>simp [oneK]
 | cons v r=>cases r<;>simp [oneK]
def mpK (v:AV) (K:(id:Nat)→(κ τ:Ty)→List (den κ × den τ)→Prop):Prop:=match v with
 | .ob id id2 (.mp κ τ es)=>chkK (Nat.beq id id2) (K id κ τ es)
 | _=>False
theorem mpK_inv {v:AV} {K:(id:Nat)→(κ τ:Ty)→List (den κ × den τ)→Prop} (h:mpK v K):∃ id κ τ es,v = .ob id id (.mp κ τ es)∧K id κ τ es:=by
 cases v with
 | ob id id2 o =>
  cases o with
  | mp κ τ es =>
   obtain ⟨he,h'⟩:=(chkK_iff _ _).1 (show chkK (Nat.beq id id2) (K id κ τ es) from h)
   have:=Nat.eq_of_beq_eq_true he
   subst this
   exact ⟨id,κ,τ,es,rfl,h'⟩
  | _=>exact h.elim
 | _=>exact h.elim
def mapLookK (Γ:Ctx) (N:Nat) (s:St) (t:TypeId) (x i:Operand) (ok:Bool) (dst:Option Nat) (K:St→Prop):Prop :=
 evK s x fun m=>mpK m fun _ κ τ es=>evK s i fun kv=>tiK Γ t fun ti=>mapTK ti.desc fun kt et=>tiK Γ kt fun tk=>tiK Γ et fun te=>chkK (keyD tk.desc κ) (chkK (!isStruct te.desc) (optK (dec κ [kv]) fun k=>ofValsK te.zero fun zs=>optK (dec τ zs) fun z =>
  oneK (enc τ ((mpGet es k).getD z)) fun v=>match ok with
   | true=>stPutK N s dst (.tup [v,.b (mpGet es k).isSome]) K
   | false=>stPutK N s dst v K))
theorem plain_of_le {c e:AV} (h:AVle c e) (he:e.plain = true):c.plain = true:=by
 rcases h with rfl | ⟨rfl,_⟩
 ·exact he
 ·rfl
theorem dec_im {O:Nat→Prop} {κ:Ty} {c:AV} {k:den κ} {u:Value} (h:dec κ [c] = some k) (hr:Rel β O w c u):All2 (Im O w) (enc κ k) [u]:=by
 have hle:=dec_le h
 have hpl:c.plain = true:=by
  cases he:enc κ k with
  | nil=>rw [he] at hle; exact hle.elim
  | cons e r =>
   rw [he] at hle
   exact plain_of_le hle.1 (enc_plain κ k e (by rw [he]; exact List.mem_cons_self ..))
 have hc:Im O w c u:=by cases c<;>first | exact hr | cases hpl
 exact all_le (All2.cons hc (All2.nil _)) hle
theorem one_im {O:Nat→Prop} {τ:Ty} {x:den τ} {v:AV} {u:Value} (h:enc τ x = [v]) (hr:All2 (Im O w) (enc τ x) [u]):Im O w v u:=by
 rw [h] at hr
 exact hr.head
theorem mapLook_ok (hΓ : Γ.ok P) (hI : InvB W0 F X N s β a w) {o : Oper} {t : TypeId} {x i : Operand} {ok : Bool} (ho : o.op = .lookup t x i ok) {K : St → Prop} (h : mapLookK Γ N s t x i ok o.dst K)
  {next:Act→World→Prop} {Q:Exit→Act→World→Prop} (hn:∀ s' a' w',K s'→Inv W0 F X N s' a' w'→next a' w'):o.wp P a w next Q:=by
 unfold mapLookK at h
 rw [evK_eq] at h
 obtain ⟨id,κ,τ,es,hx,h⟩:=mpK_inv h
 rw [evK_eq] at h
 have hrx:=(ev_rel hI x).1
 have hri:=(ev_rel hI i).1
 obtain ⟨ti,hti,h⟩:=tiK_ok hΓ h
 obtain ⟨kt,et,h,hu⟩:=mapT_ok hti h
 obtain ⟨tk,htk,h⟩:=tiK_ok hΓ h
 obtain ⟨te,hte,h⟩:=tiK_ok hΓ h
 obtain ⟨hkd,h⟩:=(chkK_iff _ _).1 h
 obtain ⟨hns,h⟩:=(chkK_iff _ _).1 h
 obtain ⟨k,hk,h⟩:=(optK_iff _ _).1 h
 rw [ofValsK_eq] at h
 obtain ⟨z,hz,h⟩:=(optK_iff _ _).1 h
 obtain ⟨v,hv,h⟩:=(oneK_iff _ _).1 h
 rw [hx] at hrx
 obtain ⟨g,ents,clock,hg,hxe,hh,_,hall⟩:=(show ObAt β (Own X s β) w id id (.mp κ τ es) (a.eval x) from hrx)
 obtain ⟨d,hd,hkey,hsame⟩:=key_kind (w:=w) (O:=Own X s β) htk hkd
 have hki:=dec_im hk hri
 have hfind:=find_mp hsame hki es ents.toList 0 hall
 obtain ⟨zv,hzr,hzc⟩:=hte.zeroValue w
 have hchk:=run_checkKey (P:=P) (w:=w) hd (hkey k _ hki) ents.isEmpty 9999
 -- the value found, or zero
 have hval:∃ u,(Instr.lookup t (a.eval x) (a.eval i) ok).run P w = .ok (if ok then .tuple #[u,.bool (mpGet es k).isSome] else u) w∧Im (Own X s β) w v u:=by
  rcases hfind with ⟨h1,h2,_⟩ | ⟨j,e,y,h1,h2,h3,h4,_,_⟩
  ·have hfk:=run_findKey (P:=P) (w:=w) hd h1
   have hzim:All2 (Im (Own X s β) w) (enc τ z) te.zero:=by
    refine all_le ?_ (dec_le hz)
    have:∀ l:List Value,All2 (Im (Own X s β) w) (ofVals l) l:=fun l=>by
     induction l with
     | nil=>exact All2.nil _
     | cons q r ih=>exact All2.cons (ofVal_im _ _ _) ih
    exact this _
   rw [h2] at hv
   have hzv:te.zero = [zv]:=by
    have h5:=hzim.1
    have hv':enc τ z = [v]:=hv
    rw [hv'] at h5
    obtain ⟨i,hi1,hi2⟩:=hte.one (by simpa using hns)
    match hte0:te.zero,h5 with
    | [q],_ =>
     rw [hte0] at hi2
     have hq:i.zero = some q:=hi2
     have:(zeroValue et).run P w = .ok q w:=by simp [zeroValue,typeInfo,hi1,hq]
     rw [this] at hzr
     injection hzr with e1 _
     rw [e1]
   rw [hzv] at hzim
   refine ⟨zv,?_,one_im (show enc τ z = [v] from hv) hzim⟩
   rw [h2]
   simp only [Instr.lookup,Sem.run_bind,run_underlying hu,Result.andThen_ok,hxe,MapKept.run_getObj_map hh,Sem.run_pure,hchk,hfk,hzr]
   cases ok<;>rfl
  ·have hfk:=run_findKey (P:=P) (w:=w) hd h1
   rw [h3] at hv
   refine ⟨e.val,?_,one_im (show enc τ y = [v] from hv) h4⟩
   rw [h3]
   simp only [Instr.lookup,Sem.run_bind,run_underlying hu,Result.andThen_ok,hxe,MapKept.run_getObj_map hh,Sem.run_pure,hchk,hfk]
   cases ok<;>rfl
 obtain ⟨u,hrun,him⟩:=hval
 have hrun':(execOp a.eval o).run P w = .ok (.value (if ok then .tuple #[u,.bool (mpGet es k).isSome] else u)) w:=by
  simp only [execOp,ho,Sem.run_bind,hrun,Result.andThen_ok]
  rfl
 cases ok with
 | true =>
  have h:stPutK N s o.dst (.tup [v,.b (mpGet es k).isSome]) K:=h
  have hrel:Im (Own X s β) w (.tup [v,.b (mpGet es k).isSome]) (.tuple #[u,.bool (mpGet es k).isSome]):=by
   refine .tup _ [u,.bool (mpGet es k).isSome] rfl fun j c u' hc hu'=>?_
   match j with
   | 0=>simp at hc hu'; subst hc hu'; exact him
   | 1=>simp at hc hu'; subst hc hu'; exact .b _
   | j + 2=>simp at hc
  exact val_ok hI h hn hrun' (Rel.im hrel) (by rw [hrel.ids_nil]; intro n hn; cases hn)
 | false =>
  have h:stPutK N s o.dst v K:=h
  exact val_ok hI h hn hrun' (Rel.im him) (by rw [him.ids_nil]; intro n hn; cases hn)

/-! ### a map is written -/
def mapUpdK (Γ:Ctx) (s:St) (t:TypeId) (x i y:Operand) (dst:Option Nat) (K:St→Prop):Prop :=
 evK s x fun m=>mpK m fun id κ τ es=>evK s i fun kv=>evK s y fun yv=>tiK Γ t fun ti=>mapTK ti.desc fun kt et=>tiK Γ kt fun tk=>chkK (keyD tk.desc κ) (optK (dec κ [kv]) fun k=>optK (dec τ [yv]) fun v =>
  es.length < 9223372036854775807∧turnObK id id (.mp κ τ (mpSet es k v)) s (match dst with
   | none=>K
   | some _=>fun _=>False))
theorem setIf_other {w:World} {g k:Nat} {o:Obj} (h:k≠g):({ w with heap:=w.heap.setIfInBounds g o }:World).heap[k]? = w.heap[k]?:=by
 simp [Ne.symm h]
theorem mapUpd_ok (hΓ : Γ.ok P) (hI : InvB W0 F X N s β a w) {o : Oper} {t : TypeId} {x i y : Operand} (ho : o.op = .mapUpdate t x i y ∨ o.op = .insert t x i y) {K : St → Prop} (h : mapUpdK Γ s t x i y o.dst K)
  {next:Act→World→Prop} {Q:Exit→Act→World→Prop} (hn:∀ s' a' w',K s'→Inv W0 F X N s' a' w'→next a' w'):o.wp P a w next Q:=by
 unfold mapUpdK at h
 rw [evK_eq] at h
 obtain ⟨id,κ,τ,es,hx,h⟩:=mpK_inv h
 rw [evK_eq,evK_eq] at h
 have hrx:=(ev_rel hI x).1
 have hids:=(ev_rel hI x).2
 have hri:=(ev_rel hI i).1
 have hry:=(ev_rel hI y).1
 obtain ⟨ti,hti,h⟩:=tiK_ok hΓ h
 obtain ⟨kt,et,h,hu⟩:=mapT_ok hti h
 obtain ⟨tk,htk,h⟩:=tiK_ok hΓ h
 obtain ⟨hkd,h⟩:=(chkK_iff _ _).1 h
 obtain ⟨k,hk,h⟩:=(optK_iff _ _).1 h
 obtain ⟨v,hv,hlen,h⟩:=(optK_iff _ _).1 h
 rw [turnObK_eq] at h
 cases hdst:o.dst with
 | some d=>rw [hdst] at h; exact h.elim
 | none =>
 rw [hdst] at h
 rw [hx] at hrx hids
 have hNm:Nm s id:=hids id (by simp [SX.ids,ids0])
 obtain ⟨g,ents,clock,hg,hxe,hh,hle,hall⟩:=(show ObAt β (Own X s β) w id id (.mp κ τ es) (a.eval x) from hrx)
 obtain ⟨d,hd,hkey,hsame⟩:=key_kind (w:=w) (O:=Own X s β) htk hkd
 have hki:=dec_im hk hri
 have hvi:=dec_im hv hry
 have hfind:=find_mp hsame hki es ents.toList 0 hall
 have hchk:=run_checkKey (P:=P) (w:=w) hd (hkey k _ hki) false 9999
 have hgs:g < w.heap.size:=(Array.getElem?_eq_some_iff.1 hh).1
 -- what is written, and that it reads as told
 have key : ∃ ents' clock', (Instr.mapUpdate t (a.eval x) (a.eval i) (a.eval y)).run P w = .ok () { w with heap := w.heap.setIfInBounds g (.map ents' clock') } ∧
   All2 (EntAt (Own X s β) w κ τ) (mpSet es k v) ents'.toList:=by
  rcases hfind with ⟨h1,_,h3⟩ | ⟨j,e,z,h1,h2,_,_,h5,h6⟩
  ·have hfk:=run_findKey (P:=P) (w:=w) hd h1
   refine ⟨ents.push { key:=a.eval i,val:=a.eval y,born:=clock },clock + 1,?_,?_⟩
   ·simp only [Instr.mapUpdate,Sem.run_bind,run_underlying hu,Result.andThen_ok,hxe,MapKept.run_getObj_map hh,Sem.run_pure,hchk,hfk,MapKept.run_setObj_map _ hh]
   ·rw [h3,Array.toList_push]
    exact hall.append (All2.cons ⟨hki,hvi⟩ (All2.nil _))
  ·have hfk:=run_findKey (P:=P) (w:=w) hd h1
   have hej:ents[j]? = some e:=by simpa using h2
   have hst:∀ w':World,(Instr.keyThatStays e.key (a.eval i)).run P w' = .ok (a.eval i) w':=by
    intro w'
    have hek:IsKey d e.key:=by
     have hjl:j < es.length:=by rw [hall.1]; exact (List.getElem?_eq_some_iff.1 h2).1
     exact hkey _ _ (hall.2 j _ _ (List.getElem?_eq_getElem hjl) h2).1
    obtain ⟨r,hr1,hr2⟩:=sameNow_of_keys (hkey k _ hki) hek
    rw [h5] at hr1
    injection hr1 with hr1
    have he:a.eval i = e.key:=hr2.1 hr1.symm
    rw [he]
    exact MapKept.run_keyThatStays hek
   refine ⟨ents.modify j fun e=>{ e with key:=a.eval i,val:=a.eval y },clock,?_,?_⟩
   ·simp only [Instr.mapUpdate,Sem.run_bind,run_underlying hu,Result.andThen_ok,hxe,MapKept.run_getObj_map hh,Sem.run_pure,hchk,hfk,Nat.zero_add,hej,Option.map_some,Option.getD_some,hst,MapKept.run_setObj_map _ hh]
   ·rw [h6]
    refine ⟨by simpa using hall.1,fun q p e' hp he'=>?_⟩
    rw [List.getElem?_set] at hp
    rw [Array.getElem?_toList,Array.getElem?_modify] at he'
    by_cases hjq:j = q
    ·subst hjq
     rw [if_pos rfl] at he'
     rw [hej] at he'
     injection he' with he'
     subst he'
     rw [if_pos rfl] at hp
     split at hp
     ·injection hp with hp
      subst hp
      exact ⟨hki,hvi⟩
     ·cases hp
    ·rw [if_neg hjq] at hp he'
     exact hall.2 q p e' hp (by simpa using he')
 obtain ⟨ents',clock',hrun,hall'⟩:=key
 have hst:Stp (fun k=>β id = some k∨β id = some k) w { w with heap:=w.heap.setIfInBounds g (.map ents' clock') } :=
  ⟨rfl,rfl,rfl,by simp,fun k _ hk=>setIf_other fun e=>hk (.inl (by rw [hg,e]))⟩
 have hβ:setβ β id (β id) id = β id:=by simp [setβ]
 have hI':=hI.turnOb hNm hNm hst (b2:=β id) hβ (fun k hk=>⟨by simpa using (hI.own id k hNm hk).1,.inl hk⟩) (o':=.mp κ τ (mpSet es k v)) (v0:=a.eval x)
  (fun o1 v1 hg1 h1=>ObAt.uniq (o:=.mp κ τ es) rfl hg1 ⟨g,ents,clock,hg,hxe,hh,hle,hall⟩ h1 (.inr (.inl (.inl ⟨_,_,_,rfl⟩)))) (fun O' hO=>by
   refine ⟨g,ents',clock',by rw [hβ]; exact hg,hxe,by simp [hgs],?_,?_⟩
   ·have:=mpSet_len es k v
    unfold maxLen
    omega
   ·refine hall'.mono fun j p e _ hpe=>?_
    have stp:∀ {l:List AV} {us:List Value},All2 (Im (Own X s β) w) l us→All2 (Im O' { w with heap:=w.heap.setIfInBounds g (.map ents' clock') }) l us:=fun h=>h.mono fun _ _ _ _ hi=>hi.step hst (fun k hk ho=>.inr (ho.elim (fun h=>⟨id,hNm,h⟩) fun h=>⟨id,hNm,h⟩)) hO
    exact ⟨stp hpe.1,stp hpe.2⟩)
 have hfun:setβ β id (β id) = β:=by
  funext q
  unfold setβ
  split
  ·rename_i e; rw [e]
  ·rfl
 refine wp_skp (w':={ w with heap:=w.heap.setIfInBounds g (.map ents' clock') }) ?_ (by rw [hdst]; exact hn _ _ _ h ⟨_,hI'⟩)
 rcases ho with ho | ho
 ·simp only [execOp,ho,Sem.run_bind,hrun,Result.andThen_ok]
  rfl
 ·simp only [execOp,ho,Sem.run_bind,hrun,Result.andThen_ok]
  rfl
end
end Go.SX
end
section
namespace Go.Vl
open Go.SX
def orI (a b:Int):Int:=if a = 0 then b else a
def cmpI (a b:Int):Int:=if a = b then 0 else if a < b then -1 else 1
def cmpS (a b:Str):Int:=if a = b then 0 else if Op.bytesLess a b = true then -1 else 1
def rank (f:Int):Int:=if f < 9223372036854775808 then f + 9223372036854775808 else 18446744073709551615 - f
mutual
def cmpV:Val→Val→Int
 | ⟨k,n,f,s,l,e⟩,b=>orI (cmpI k b.kind) (orI (cmpI n b.n) (orI (cmpI (rank f) (rank b.f)) (orI (cmpS s b.s) (orI (cmpL l b.l) (cmpE e b.e)))))
def cmpL:List Val→List Val→Int
 | [],[]=>0
 | [],_::_=>-1
 | _::_,[]=>1
 | x::xs,y::ys=>orI (cmpV x y) (cmpL xs ys)
def cmpE:List (Str × Val)→List (Str × Val)→Int
 | [],[]=>0
 | [],_::_=>-1
 | _::_,[]=>1
 | x::xs,y::ys=>orI (cmpP x y) (cmpE xs ys)
def cmpP:Str × Val→Str × Val→Int
 | (a,x),q=>orI (cmpS a q.1) (cmpV x q.2)
end
theorem less_irrefl:∀ a:Str,Op.bytesLess a a = false
 | []=>rfl
 | c::r=>by
  rw [Op.bytesLess,less_irrefl r]
  simp
theorem cmpI_self (a:Int):cmpI a a = 0:=if_pos rfl
theorem cmpS_self (a:Str):cmpS a a = 0:=if_pos rfl
theorem cmpI_zero {a b:Int}:cmpI a b = 0↔a = b:=by
 unfold cmpI
 split
 ·simp [*]
 ·split<;>simp [*]
theorem cmpS_zero {a b:Str}:cmpS a b = 0↔a = b:=by
 unfold cmpS
 split
 ·simp [*]
 ·split<;>simp [*]
theorem cmpV_eq (a b:Val):cmpV a b = orI (cmpI a.kind b.kind) (orI (cmpI a.n b.n) (orI (cmpI (rank a.f) (rank b.f)) (orI (cmpS a.s b.s) (orI (cmpL a.l b.l) (cmpE a.e b.e))))):=by
 cases a
 rw [cmpV]
theorem cmpP_eq (p q:Str × Val):cmpP p q = orI (cmpS p.1 q.1) (cmpV p.2 q.2):=by
 cases p
 rw [cmpP]
theorem orI_ne {a b:Int} (h:a≠0):orI a b = a:=if_neg h
theorem orI_right {a:Int}:orI a 0 = a:=by unfold orI; split<;>simp [*]
theorem orI_zero {b:Int}:orI 0 b = b:=if_pos rfl
theorem cmpL_drop {l m:List Val} {k:Nat} (hl:k < l.length) (hm:k < m.length):cmpL (l.drop k) (m.drop k) = orI (cmpV l[k] m[k]) (cmpL (l.drop (k + 1)) (m.drop (k + 1))):=by
 rw [List.drop_eq_getElem_cons hl,List.drop_eq_getElem_cons hm,cmpL]
theorem cmpL_short {l m:List Val} {k:Nat} (hl:k < l.length) (hm:m.length≤k):cmpL (l.drop k) (m.drop k) = 1:=by
 rw [List.drop_eq_getElem_cons hl,List.drop_eq_nil_of_le hm,cmpL]
theorem cmpL_long {l m:List Val} {k:Nat} (hl:l.length≤k) (hm:k < m.length):cmpL (l.drop k) (m.drop k) = -1:=by
 rw [List.drop_eq_getElem_cons hm,List.drop_eq_nil_of_le hl,cmpL]
theorem cmpL_end {l m:List Val} {k:Nat} (hl:l.length≤k) (hm:m.length≤k):cmpL (l.drop k) (m.drop k) = 0:=by
 rw [List.drop_eq_nil_of_le hm,List.drop_eq_nil_of_le hl,cmpL]
theorem cmpE_drop {l m:List (Str × Val)} {k:Nat} (hl:k < l.length) (hm:k < m.length):cmpE (l.drop k) (m.drop k) = orI (cmpP l[k] m[k]) (cmpE (l.drop (k + 1)) (m.drop (k + 1))):=by
 rw [List.drop_eq_getElem_cons hl,List.drop_eq_getElem_cons hm,cmpE]
theorem cmpE_short {l m:List (Str × Val)} {k:Nat} (hl:k < l.length) (hm:m.length≤k):cmpE (l.drop k) (m.drop k) = 1:=by
 rw [List.drop_eq_getElem_cons hl,List.drop_eq_nil_of_le hm,cmpE]
theorem cmpE_long {l m:List (Str × Val)} {k:Nat} (hl:l.length≤k) (hm:k < m.length):cmpE (l.drop k) (m.drop k) = -1:=by
 rw [List.drop_eq_getElem_cons hm,List.drop_eq_nil_of_le hl,cmpE]
theorem cmpE_end {l m:List (Str × Val)} {k:Nat} (hl:l.length≤k) (hm:m.length≤k):cmpE (l.drop k) (m.drop k) = 0:=by
 rw [List.drop_eq_nil_of_le hm,List.drop_eq_nil_of_le hl,cmpE]
theorem val_sz_l {v x:Val} (h:x ∈ v.l):SizeOf.sizeOf x < SizeOf.sizeOf v:=by
 cases v
 have:=List.sizeOf_lt_of_mem h
 simp only [Val.mk.sizeOf_spec] at this ⊢
 omega
theorem val_sz_e {v:Val} {p:Str × Val} (h:p ∈ v.e):SizeOf.sizeOf p.2 < SizeOf.sizeOf v:=by
 cases v
 have:=List.sizeOf_lt_of_mem h
 obtain ⟨a,x⟩:=p
 simp only [Val.mk.sizeOf_spec,Prod.mk.sizeOf_spec] at this ⊢
 omega
mutual
theorem cmpV_self:∀ v:Val,cmpV v v = 0
 | ⟨k,n,f,s,l,e⟩=>by
  rw [cmpV]
  simp only [cmpI_self,cmpS_self,cmpL_self l,cmpE_self e,orI_zero]
theorem cmpL_self:∀ l:List Val,cmpL l l = 0
 | []=>by rw [cmpL]
 | x::xs=>by rw [cmpL,cmpV_self x,cmpL_self xs,orI_zero]
theorem cmpE_self:∀ l:List (Str × Val),cmpE l l = 0
 | []=>by rw [cmpE]
 | x::xs=>by rw [cmpE,cmpP_self x,cmpE_self xs,orI_zero]
theorem cmpP_self:∀ p:Str × Val,cmpP p p = 0
 | (a,x)=>by rw [cmpP,cmpV_self x,cmpS_self,orI_zero]
end
def firstN:List Int→Int
 | []=>0
 | x::r=>orI x (firstN r)
theorem firstN_drop {l:List Int} {k:Nat} (h:k < l.length):firstN (l.drop k) = orI l[k] (firstN (l.drop (k + 1))):=by
 rw [List.drop_eq_getElem_cons h,firstN]
theorem val_eta (v:Val):(⟨v.kind,v.n,v.f,v.s,v.l,v.e⟩:Val) = v:=by cases v; rfl
abbrev Ent:=Str × Val
def keyIs (k:Str) (p:Ent):Bool:=p.1 == k
def keyGt (k:Str) (p:Ent):Bool:=!(Op.bytesLess p.1 k || p.1 == k)
def ixI (l:List Ent) (q:Ent→Bool):Int:=if l.findIdx q < l.length then (l.findIdx q:Nat) else -1
def withoutE (l:List Ent) (k:Str):List Ent:=l.filter fun p=>!keyIs k p
theorem ix_hit {l:List Ent} {q:Ent→Bool} {i:Nat} (hi:i < l.length) (hf:i≤l.findIdx q) (h:q l[i] = true):ixI l q = i:=by
 have:l.findIdx q = i:=by
  rcases Nat.lt_or_ge i (l.findIdx q) with h1 | h1
  ·have:=List.not_of_lt_findIdx h1
   rw [h] at this
   cases this
  ·omega
 rw [ixI,this,if_pos hi]
theorem ix_miss {l:List Ent} {q:Ent→Bool} {i:Nat} (hi:i < l.length) (hf:i≤l.findIdx q) (h:q l[i] = false):i + 1≤l.findIdx q:=by
 rcases Nat.lt_or_ge i (l.findIdx q) with h1 | h1
 ·exact h1
 ·have e:l.findIdx q = i:=by omega
  have:=List.findIdx_getElem (w:=by rw [e]; exact hi) (xs:=l) (p:=q)
  simp only [e] at this
  rw [h] at this
  cases this
theorem ix_none {l:List Ent} {q:Ent→Bool} (hf:l.length≤l.findIdx q):ixI l q = -1:=by
 rw [ixI,if_neg (by omega)]
theorem filter_next {l:List Ent} {k:Str} {i:Nat} (hi:i < l.length) (h:keyIs k l[i] = false):withoutE (l.take (i + 1)) k = withoutE (l.take i) k++[l[i]]:=by
 rw [List.take_add_one,List.getElem?_eq_getElem hi,withoutE,withoutE,List.filter_append]
 simp [h]
theorem filter_skip {l:List Ent} {k:Str} {i:Nat} (hi:i < l.length) (h:keyIs k l[i] = true):withoutE (l.take (i + 1)) k = withoutE (l.take i) k:=by
 rw [List.take_add_one,List.getElem?_eq_getElem hi,withoutE,withoutE,List.filter_append]
 simp [h]
theorem filter_len {l:List Ent} {k:Str} {i:Nat}:(withoutE (l.take i) k).length≤l.length:=by
 refine Nat.le_trans (List.length_filter_le _ _) ?_
 rw [List.length_take]
 omega
def putE (l:List Ent) (k:Str) (a:Val):List Ent:=(withoutE l k).take ((withoutE l k).findIdx (keyGt k))++(k,a)::(withoutE l k).drop ((withoutE l k).findIdx (keyGt k))
end Go.Vl
end
section
namespace Go.Ut
open Go.SX

theorem dec2 {n b0 b1 b2 b3:Nat} (h:192≤b0) (h2:b0 < 224) (h1:b1 < 256):Lib.decodeN n b0 b1 b2 b3 = if 2≤n∧(128≤b1∧b1 < 192)∧128≤(b0 - 192) * 64 + (b1 - 128) then ((b0 - 192) * 64 + (b1 - 128),2) else (65533,1):=by
 unfold Lib.decodeN
 rw [if_neg (by omega)]
 by_cases c:2≤n∧(128≤b1∧b1 < 192)
 ·have e:b0 % 32 * 64 + b1 % 64 = (b0 - 192) * 64 + (b1 - 128):=by omega
  rw [if_pos (by omega),e]
  by_cases d:128≤(b0 - 192) * 64 + (b1 - 128)
  ·rw [if_pos d,if_pos ⟨c.1,c.2,d⟩]
  ·rw [if_neg d,if_neg (fun h=>d h.2.2)]
 ·rw [if_neg (by omega),if_neg (by omega),if_neg (by omega),if_neg (fun h=>c ⟨h.1,h.2.1⟩)]
theorem dec3 {n b0 b1 b2 b3:Nat} (h:224≤b0) (h2:b0 < 240) (h1:b1 < 256) (h3:b2 < 256):Lib.decodeN n b0 b1 b2 b3 = if (3≤n∧(128≤b1∧b1 < 192)∧(128≤b2∧b2 < 192))∧2048≤(b0 - 224) * 4096 + (b1 - 128) * 64 + (b2 - 128)∧((b0 - 224) * 4096 + (b1 - 128) * 64 + (b2 - 128) < 55296∨57343 < (b0 - 224) * 4096 + (b1 - 128) * 64 + (b2 - 128)) then ((b0 - 224) * 4096 + (b1 - 128) * 64 + (b2 - 128),3) else (65533,1):=by
 unfold Lib.decodeN
 rw [if_neg (by omega),if_neg (by omega)]
 by_cases c:3≤n∧(128≤b1∧b1 < 192)∧(128≤b2∧b2 < 192)
 ·have e:b0 % 16 * 4096 + b1 % 64 * 64 + b2 % 64 = (b0 - 224) * 4096 + (b1 - 128) * 64 + (b2 - 128):=by omega
  rw [if_pos (by omega),e]
  generalize hv:(b0 - 224) * 4096 + (b1 - 128) * 64 + (b2 - 128) = v
  have hle:v < 65536:=by omega
  by_cases d:2048≤v∧(v < 55296∨57343 < v)
  ·rw [if_pos (by omega),if_pos ⟨c,d⟩]
  ·rw [if_neg (by omega),if_neg (fun h=>d h.2)]
 ·rw [if_neg (by omega),if_neg (by omega),if_neg (fun h=>c h.1)]
theorem dec4 {n b0 b1 b2 b3:Nat} (h:240≤b0) (h2:b0 < 248) (h1:b1 < 256) (h3:b2 < 256) (h4:b3 < 256):Lib.decodeN n b0 b1 b2 b3 = if (4≤n∧(128≤b1∧b1 < 192)∧(128≤b2∧b2 < 192)∧(128≤b3∧b3 < 192))∧65536≤(b0 - 240) * 262144 + (b1 - 128) * 4096 + (b2 - 128) * 64 + (b3 - 128)∧(b0 - 240) * 262144 + (b1 - 128) * 4096 + (b2 - 128) * 64 + (b3 - 128)≤1114111 then ((b0 - 240) * 262144 + (b1 - 128) * 4096 + (b2 - 128) * 64 + (b3 - 128),4) else (65533,1):=by
 unfold Lib.decodeN
 rw [if_neg (by omega),if_neg (by omega),if_neg (by omega)]
 by_cases c:4≤n∧(128≤b1∧b1 < 192)∧(128≤b2∧b2 < 192)∧(128≤b3∧b3 < 192)
 ·have e:b0 % 8 * 262144 + b1 % 64 * 4096 + b2 % 64 * 64 + b3 % 64 = (b0 - 240) * 262144 + (b1 - 128) * 4096 + (b2 - 128) * 64 + (b3 - 128):=by omega
  rw [if_pos (by omega),e]
  generalize hv:(b0 - 240) * 262144 + (b1 - 128) * 4096 + (b2 - 128) * 64 + (b3 - 128) = v
  by_cases d:65536≤v∧v≤1114111
  ·rw [if_pos (by omega),if_pos ⟨c,d⟩]
  ·rw [if_neg (by omega),if_neg (fun h=>d h.2)]
 ·rw [if_neg (by omega),if_neg (fun h=>c h.1)]
def b8 (s:Str) (i:Nat):Int:=((s.getD i 0).toNat:Int)
theorem b8_rng (s:Str) (i:Nat):0≤b8 s i∧b8 s i≤255:=by have:=(s.getD i 0).toNat_lt; unfold b8; omega
def scalar (n:Int):Prop:=0≤n∧n≤1114111∧(n < 55296∨57343 < n)
instance (n:Int):Decidable (scalar n):=by unfold scalar; infer_instance
def code (s:Str):Int × Nat :=
 if s = [] then (-1,0) else if (decAt s 0).1 = 65533∧(decAt s 0).2 = 1 then (-1,1) else (((decAt s 0).1:Int),(decAt s 0).2)
theorem code1 {s:Str} (h0:s≠[]) (h:b8 s 0 < 128):code s = (b8 s 0,1):=by
 have hd:decAt s 0 = ((s.getD 0 0).toNat,1):=by
  unfold decAt Lib.decodeN
  rw [if_pos (by unfold b8 at h; omega)]
 unfold code
 rw [if_neg h0,hd,if_neg (by simp only; unfold b8 at h; omega)]
 rfl
theorem code_bad {s:Str} (h0:s≠[]) (h:128≤b8 s 0∧b8 s 0 < 192∨248≤b8 s 0):code s = (-1,1):=by
 have hd:decAt s 0 = (65533,1):=by
  unfold decAt Lib.decodeN
  unfold b8 at h
  rw [if_neg (by omega),if_neg (by omega),if_neg (by omega),if_neg (by omega)]
 unfold code
 rw [if_neg h0,hd,if_pos ⟨rfl,rfl⟩]
def cont (s:Str) (i:Nat):Prop:=128≤b8 s i∧b8 s i < 192
def acc (s:Str) (r:Int):Nat→Int
 | 0=>r
 | 1=>r
 | i + 1=>acc s r i * 64 + b8 s i - 128
def lead (s:Str):Nat × Int × Int :=
 if b8 s 0 < 224 then (2,128,b8 s 0 - 192) else if b8 s 0 < 240 then (3,2048,b8 s 0 - 224) else (4,65536,b8 s 0 - 240)
def good (s:Str):Prop:=(lead s).1≤s.length∧(∀ i,1≤i→i < (lead s).1→cont s i)∧(lead s).2.1≤acc s (lead s).2.2 (lead s).1∧scalar (acc s (lead s).2.2 (lead s).1)
theorem good2 {s:Str} (hl:lead s = (2,128,b8 s 0 - 192)):good s↔(2≤s.length∧cont s 1∧128≤(b8 s 0 - 192) * 64 + b8 s 1 - 128∧scalar ((b8 s 0 - 192) * 64 + b8 s 1 - 128)):=by
 unfold good
 rw [hl]
 refine ⟨fun ⟨a,b,c,d⟩=>⟨a,b 1 (by decide) (show 1 < 2 by decide),c,d⟩,fun ⟨a,b,c,d⟩=>⟨a,fun i h1 h2=>?_,c,d⟩⟩
 have:i = 1:=by simp only at h2; omega
 subst this
 exact b
theorem good3 {s:Str} (hl:lead s = (3,2048,b8 s 0 - 224)):good s↔(3≤s.length∧(cont s 1∧cont s 2)∧2048≤((b8 s 0 - 224) * 64 + b8 s 1 - 128) * 64 + b8 s 2 - 128∧scalar (((b8 s 0 - 224) * 64 + b8 s 1 - 128) * 64 + b8 s 2 - 128)):=by
 unfold good
 rw [hl]
 refine ⟨fun ⟨a,b,c,d⟩=>⟨a,⟨b 1 (by decide) (show 1 < 3 by decide),b 2 (by decide) (show 2 < 3 by decide)⟩,c,d⟩,fun ⟨a,b,c,d⟩=>⟨a,fun i h1 h2=>?_,c,d⟩⟩
 have:i = 1∨i = 2:=by simp only at h2; omega
 rcases this with rfl | rfl
 ·exact b.1
 ·exact b.2
theorem good4 {s:Str} (hl:lead s = (4,65536,b8 s 0 - 240)):good s↔(4≤s.length∧(cont s 1∧cont s 2∧cont s 3)∧65536≤(((b8 s 0 - 240) * 64 + b8 s 1 - 128) * 64 + b8 s 2 - 128) * 64 + b8 s 3 - 128∧scalar ((((b8 s 0 - 240) * 64 + b8 s 1 - 128) * 64 + b8 s 2 - 128) * 64 + b8 s 3 - 128)):=by
 unfold good
 rw [hl]
 refine ⟨fun ⟨a,b,c,d⟩=>⟨a,⟨b 1 (by decide) (show 1 < 4 by decide),b 2 (by decide) (show 2 < 4 by decide),b 3 (by decide) (show 3 < 4 by decide)⟩,c,d⟩,fun ⟨a,b,c,d⟩=>⟨a,fun i h1 h2=>?_,c,d⟩⟩
 have:i = 1∨i = 2∨i = 3:=by simp only at h2; omega
 rcases this with rfl | rfl | rfl
 ·exact b.1
 ·exact b.2.1
 ·exact b.2.2
theorem code_many {s : Str} (h0 : s ≠ []) (h : 192 ≤ b8 s 0) (h2 : b8 s 0 < 248) :
  (good s→code s = (acc s (lead s).2.2 (lead s).1,(lead s).1))∧(¬ good s→code s = (-1,1)):=by
 have r0:=(s.getD 0 0).toNat_lt
 have r1:=(s.getD 1 0).toNat_lt
 have r2:=(s.getD 2 0).toNat_lt
 have r3:=(s.getD 3 0).toNat_lt
 have hd:decAt s 0 = Lib.decodeN s.length (s.getD 0 0).toNat (s.getD 1 0).toNat (s.getD 2 0).toNat (s.getD 3 0).toNat:=rfl
 have hbad:decAt s 0 = (65533,1)→code s = (-1,1):=fun e=>by unfold code; rw [if_neg h0,e,if_pos ⟨rfl,rfl⟩]
 have hok:∀ v k,decAt s 0 = (v,k)→1 < k→code s = ((v:Int),k):=fun v k e hk=>by unfold code; rw [if_neg h0,e,if_neg (fun h=>by have:=h.2; simp only at this; omega)]
 by_cases c1:b8 s 0 < 224
 ·have hl:lead s = (2,128,b8 s 0 - 192):=by unfold lead; rw [if_pos c1]
  rw [good2 hl,hl]
  unfold b8 at c1 h h2
  rw [dec2 (by omega) (by omega) r1] at hd
  unfold cont scalar
  simp only [b8,acc]
  constructor
  ·rintro ⟨a,b,c,d⟩
   rw [if_pos (by omega)] at hd
   rw [hok _ _ hd (by decide)]
   exact Prod.ext (by simp only; omega) rfl
  ·intro hn
   rw [if_neg (by omega)] at hd
   exact hbad hd
 by_cases c2:b8 s 0 < 240
 ·have hl:lead s = (3,2048,b8 s 0 - 224):=by unfold lead; rw [if_neg c1,if_pos c2]
  rw [good3 hl,hl]
  unfold b8 at c1 c2 h h2
  rw [dec3 (by omega) (by omega) r1 r2] at hd
  unfold cont scalar
  simp only [b8,acc]
  constructor
  ·rintro ⟨a,b,c,d⟩
   rw [if_pos (by omega)] at hd
   rw [hok _ _ hd (by decide)]
   exact Prod.ext (by simp only; omega) rfl
  ·intro hn
   rw [if_neg (by omega)] at hd
   exact hbad hd
 ·have hl:lead s = (4,65536,b8 s 0 - 240):=by unfold lead; rw [if_neg c1,if_neg c2]
  rw [good4 hl,hl]
  unfold b8 at c1 c2 h h2
  rw [dec4 (by omega) (by omega) r1 r2 r3] at hd
  unfold cont scalar
  simp only [b8,acc]
  constructor
  ·rintro ⟨a,b,c,d⟩
   rw [if_pos (by omega)] at hd
   rw [hok _ _ hd (by decide)]
   exact Prod.ext (by simp only; omega) rfl
  ·intro hn
   rw [if_neg (by omega)] at hd
   exact hbad hd
theorem getD_drop {α:Type} (l:List α) (i j:Nat) (d:α):(l.drop i).getD j d = l.getD (i + j) d:=by simp [List.getD_eq_getElem?_getD]
theorem decAt_drop (s:Str) (i:Nat):decAt (s.drop i) 0 = decAt s i:=by
 unfold decAt
 simp only [List.length_drop,getD_drop,Nat.add_zero,Nat.zero_add,Nat.sub_zero]
theorem dec_pos (s:Str) (i:Nat):1≤(decAt s i).2:=by
 unfold decAt Lib.decodeN
 (repeat' split)<;>simp
theorem dec_le {s:Str} {i:Nat} (h:i < s.length):i + (decAt s i).2≤s.length:=by
 have:(decAt s i).2≤s.length - i:=by
  unfold decAt Lib.decodeN
  (repeat' split)<;>simp only<;>omega
 omega
theorem drop_ne {s:Str} {a:Nat} (h:a < s.length):s.drop a≠[]:=by
 intro e
 have:=congrArg List.length e
 rw [List.length_drop] at this
 simp at this
 omega
def badF (s:Str):Nat→Nat→Int
 | 0,_=>-1
 | f + 1,i=>if i < s.length then (if (decAt s i).1 = 65533∧(decAt s i).2 = 1 then (i:Int) else badF s f (i + (decAt s i).2)) else -1
theorem badF_fuel (s:Str):∀ (f g i:Nat),s.length≤f + i→s.length≤g + i→badF s f i = badF s g i:=by
 intro f
 induction f with
 | zero =>
  intro g i hf hg
  cases g with
  | zero=>rfl
  | succ g=>simp only [badF]; rw [if_neg (by omega)]
 | succ f ih =>
  intro g i hf hg
  cases g with
  | zero=>simp only [badF]; rw [if_neg (by omega)]
  | succ g =>
   have:=dec_pos s i
   simp only [badF]
   rw [ih g _ (by omega) (by omega)]
def badFrom (s:Str) (i:Nat):Int:=badF s s.length i
def bad (s:Str):Int:=badFrom s 0
theorem bad_step {s:Str} {i:Nat} (h:i < s.length):badFrom s i = if (decAt s i).1 = 65533∧(decAt s i).2 = 1 then (i:Int) else badFrom s (i + (decAt s i).2):=by
 have hp:=dec_pos s i
 unfold badFrom
 rw [badF_fuel s s.length (s.length + 1) i (by omega) (by omega),badF,if_pos h]
theorem bad_end {s:Str} {i:Nat} (h:s.length≤i):badFrom s i = -1:=by
 unfold badFrom
 rw [badF_fuel s s.length 0 i (by omega) (by omega)]
 rfl
def runesFrom (s:Str) (i:Nat):List Int:=runesF s s.length i
theorem code_at {s:Str} {i:Nat} (h:i < s.length):code (s.drop i) = if (decAt s i).1 = 65533∧(decAt s i).2 = 1 then (-1,1) else (((decAt s i).1:Int),(decAt s i).2):=by
 unfold code
 rw [if_neg (drop_ne h),decAt_drop]
end Go.Ut
end
section
namespace Go.Ck
open Go.SX Go.Vl Go.Ut
def oddF (f:Int):Prop:=(f / 4503599627370496) % 2048 = 2047∧f % 4503599627370496≠0∧f≠9221120237041090561
def kindBad (v:Val):Prop :=
 (v.kind < 0∨6 < v.kind)∨(v.kind≠1∧v.kind≠2∧v.n≠0)∨(v.kind = 1∧v.n≠0∧v.n≠1)∨(v.kind≠3∧v.f≠0)∨oddF v.f∨(v.kind≠4∧v.s≠[])∨(v.kind≠5∧0 < v.l.length)∨(v.kind≠6∧0 < v.e.length)
instance (f:Int):Decidable (oddF f):=by unfold oddF; infer_instance
instance (v:Val):Decidable (kindBad v):=by unfold kindBad; infer_instance
def ownF (v:Val) (above:Int):Int :=
 if 20≤above then 5 else if kindBad v then 10 else if 4000 < v.s.length∨200 < v.l.length∨200 < v.e.length then 2 else if 0≤bad v.s then 3 else 0
def keyF (p:Option Str) (k:Str):Int :=
 if 100 < k.length then 2 else if 0≤bad k then 3 else match p with
  | some q=>if Op.bytesLess q k = true then 0 else 14
  | none=>0
def entF:Option Str→List (Str × Val)→Int
 | _,[]=>0
 | p,x::r=>orI (keyF p x.1) (entF (some x.1) r)
def oneF (v:Val) (above:Int):Int:=orI (ownF v above) (entF none v.e)
def docF (v:Val):Int:=if kindBad v then 10 else if 4000 < v.s.length∨200 < v.l.length∨200 < v.e.length then 2 else if 0≤bad v.s then 3 else entF none v.e
theorem docF_kind {v:Val} (h:kindBad v):10 = docF v:=by rw [docF,if_pos h]
theorem docF_large {v:Val} (h:¬ kindBad v) (h2:4000 < v.s.length∨200 < v.l.length∨200 < v.e.length):2 = docF v:=by rw [docF,if_neg h,if_pos h2]
theorem docF_text {v:Val} (h:¬ kindBad v) (h2:¬ (4000 < v.s.length∨200 < v.l.length∨200 < v.e.length)) (h3:0≤bad v.s):3 = docF v:=by rw [docF,if_neg h,if_neg h2,if_pos h3]
theorem docF_ent {v:Val} (h:¬ kindBad v) (h2:¬ (4000 < v.s.length∨200 < v.l.length∨200 < v.e.length)) (h3:¬ 0≤bad v.s):docF v = entF none v.e:=by rw [docF,if_neg h,if_neg h2,if_neg h3]
theorem oneF_doc (v:Val) (a:Int):oneF v a = if 20≤a then 5 else docF v:=by
 unfold oneF ownF docF
 by_cases h:20≤a
 ·rw [if_pos h,if_pos h]; rfl
 ·rw [if_neg h,if_neg h]
  by_cases h1:kindBad v
  ·rw [if_pos h1,if_pos h1]; rfl
  ·rw [if_neg h1,if_neg h1]
   by_cases h2:4000 < v.s.length∨200 < v.l.length∨200 < v.e.length
   ·rw [if_pos h2,if_pos h2]; rfl
   ·rw [if_neg h2,if_neg h2]
    by_cases h3:0≤bad v.s
    ·rw [if_pos h3,if_pos h3]; rfl
    ·rw [if_neg h3,if_neg h3]; rfl
def keyAt (e:List (Str × Val)) (i:Nat):Option Str:=if 0 < i then some (e.getD (i - 1) ([],default)).1 else none
theorem entF_drop {e:List (Str × Val)} {i:Nat} (h:i < e.length):entF (keyAt e i) (e.drop i) = orI (keyF (keyAt e i) e[i].1) (entF (keyAt e (i + 1)) (e.drop (i + 1))):=by
 rw [List.drop_eq_getElem_cons h,entF]
 have:keyAt e (i + 1) = some e[i].1:=by
  unfold keyAt
  rw [if_pos (by omega),Nat.add_sub_cancel,List.getD_eq_getElem?_getD,List.getElem?_eq_getElem h]
  rfl
 rw [this]
theorem entF_stop {e:List (Str × Val)} {i:Nat} (h:i < e.length) (h2:keyF (keyAt e i) e[i].1≠0):entF (keyAt e i) (e.drop i) = keyF (keyAt e i) e[i].1:=by
 rw [entF_drop h,orI_ne h2]
theorem entF_go {e:List (Str × Val)} {i:Nat} (h:i < e.length) (h2:keyF (keyAt e i) e[i].1 = 0):entF (keyAt e i) (e.drop i) = entF (keyAt e (i + 1)) (e.drop (i + 1)):=by
 rw [entF_drop h,h2,orI_zero]
theorem entF_end (p:Option Str) {e:List (Str × Val)} {i:Nat} (h:e.length≤i):entF p (e.drop i) = 0:=by
 rw [List.drop_eq_nil_of_le h,entF]
def lastK (e:List (Str × Val)) (i:Nat):Str:=if 0 < i then (e.getD (i - 1) ([],default)).1 else []
theorem lastK_succ {e:List (Str × Val)} {i:Nat} (h:i < e.length):lastK e (i + 1) = e[i].1:=by
 unfold lastK
 rw [if_pos (by omega),Nat.add_sub_cancel,List.getD_eq_getElem?_getD,List.getElem?_eq_getElem h]
 rfl
theorem keyF_large {p:Option Str} {k:Str} (h:100 < k.length):keyF p k = 2:=by unfold keyF; rw [if_pos h]
theorem keyF_text {p:Option Str} {k:Str} (h:¬ 100 < k.length) (h2:0≤bad k):keyF p k = 3:=by unfold keyF; rw [if_neg h,if_pos h2]
theorem keyF_order {e:List (Str × Val)} {i:Nat} {k:Str} (h:¬ 100 < k.length) (h2:¬ 0≤bad k) (h0:0 < i) (h3:Op.bytesLess (lastK e i) k = false):keyF (keyAt e i) k = 14:=by
 unfold keyF keyAt; rw [if_neg h,if_neg h2,if_pos h0]
 rw [lastK,if_pos h0] at h3
 simp only [h3]
 rfl
theorem keyF_ok {e:List (Str × Val)} {i:Nat} {k:Str} (h:¬ 100 < k.length) (h2:¬ 0≤bad k) (h3:0 < i→Op.bytesLess (lastK e i) k = true):keyF (keyAt e i) k = 0:=by
 unfold keyF keyAt; rw [if_neg h,if_neg h2]
 by_cases h0:0 < i
 ·have h3:=h3 h0
  rw [lastK,if_pos h0] at h3
  rw [if_pos h0]
  simp only [h3]
  rfl
 ·rw [if_neg h0]
def partsOf (v:Val):List Val:=v.l++v.e.map (·.2)
mutual
def chkV:Val→Int→Int→Int × Int
 | ⟨k,n,f,s,l,e⟩,above,m =>
  if 2000 < m + 1 then (2,m + 1) else if oneF ⟨k,n,f,s,l,e⟩ above≠0 then (oneF ⟨k,n,f,s,l,e⟩ above,m + 1) else
   match chkL l (above + 1) (m + 1) with
   | (r,m')=>if r≠0 then (r,m') else chkE e (above + 1) m'
def chkL:List Val→Int→Int→Int × Int
 | [],_,m=>(0,m)
 | x::xs,above,m=>match chkV x above m with
  | (r,m')=>if r≠0 then (r,m') else chkL xs above m'
def chkE:List (Str × Val)→Int→Int→Int × Int
 | [],_,m=>(0,m)
 | x::xs,above,m=>match chkQ x above m with
  | (r,m')=>if r≠0 then (r,m') else chkE xs above m'
def chkQ:Str × Val→Int→Int→Int × Int
 | (_,x),above,m=>chkV x above m
end
theorem chkE_eq:∀ (e:List (Str × Val)) (a m:Int),chkE e a m = chkL (e.map (·.2)) a m
 | [],a,m=>by rw [chkE,List.map_nil,chkL]
 | (k,x)::r,a,m=>by
  rw [chkE,chkQ,List.map_cons,chkL]
  cases chkV x a m
  simp only [chkE_eq r]
theorem chkL_append : ∀ (l k : List Val) (a m : Int), chkL (l ++ k) a m = match chkL l a m with
  | (r,m')=>if r≠0 then (r,m') else chkL k a m'
 | [],k,a,m=>by simp [chkL]
 | x::r,k,a,m=>by
  rw [List.cons_append,chkL,chkL]
  cases h:chkV x a m with
  | mk e m1 =>
   simp only [chkL_append r k]
   by_cases c:e≠0
   ·simp [c]
   ·simp [c]
theorem chkV_eq (v:Val) (a m:Int):chkV v a m = if 2000 < m + 1 then (2,m + 1) else if oneF v a≠0 then (oneF v a,m + 1) else chkL (partsOf v) (a + 1) (m + 1):=by
 obtain ⟨k,n,f,s,l,e⟩:=v
 rw [chkV,partsOf,chkL_append]
 simp only [chkE_eq]
theorem chkL_snoc {l:List Val} {a m m':Int} (h:chkL l a m = (0,m')) (x:Val):chkL (l++[x]) a m = chkV x a m':=by
 rw [chkL_append,h]
 simp only [ne_eq,not_true_eq_false,if_false,chkL]
 cases chkV x a m' with
 | mk e m2=>by_cases c:e = 0<;>simp [c]
theorem chkL_stop {l:List Val} {a m m' e:Int} {x:Val} (h:chkL l a m = (0,m')) (he:(chkV x a m').1 = e) (h0:e≠0) (r:List Val):chkL (l++x::r) a m = chkV x a m':=by
 rw [chkL_append,h]
 simp only [ne_eq,not_true_eq_false,if_false,chkL]
 cases hx:chkV x a m' with
 | mk e' m2 =>
  rw [hx] at he
  simp only at he
  subst he
  simp [h0]
/-! how the count runs -/
mutual
theorem chkV_le:∀ (v:Val) (a m:Int),0≤m→m≤2000→m≤(chkV v a m).2∧(chkV v a m).2≤2001∧((chkV v a m).1 = 0→(chkV v a m).2≤2000)
 | ⟨k,n,f,s,l,e⟩,a,m,h0,h=>by
  rw [chkV]
  by_cases c:2000 < m + 1
  ·rw [if_pos c]
   exact ⟨by simp only; omega,by simp only; omega,fun h=>by simp at h⟩
  ·rw [if_neg c]
   by_cases d:oneF ⟨k,n,f,s,l,e⟩ a≠0
   ·rw [if_pos d]
    exact ⟨by simp only; omega,by simp only; omega,fun h=>absurd h d⟩
   ·rw [if_neg d]
    have h1:=chkL_le l (a + 1) (m + 1) (by omega) (by omega)
    cases hx:chkL l (a + 1) (m + 1) with
    | mk r m' =>
     rw [hx] at h1
     simp only at h1 ⊢
     by_cases g:r≠0
     ·rw [if_pos g]; exact ⟨by simp only; omega,by simp only; omega,fun h=>absurd h g⟩
     ·rw [if_neg g]
      have h2:=chkE_le e (a + 1) m' (by omega) (h1.2.2 (by simpa using g))
      exact ⟨by omega,h2.2.1,h2.2.2⟩
theorem chkL_le:∀ (l:List Val) (a m:Int),0≤m→m≤2000→m≤(chkL l a m).2∧(chkL l a m).2≤2001∧((chkL l a m).1 = 0→(chkL l a m).2≤2000)
 | [],a,m,h0,h=>by rw [chkL]; exact ⟨Int.le_refl _,by simp only; omega,fun _=>h⟩
 | x::xs,a,m,h0,h=>by
  rw [chkL]
  have h1:=chkV_le x a m h0 h
  cases hx:chkV x a m with
  | mk r m' =>
   rw [hx] at h1
   simp only at h1 ⊢
   by_cases g:r≠0
   ·rw [if_pos g]; exact ⟨h1.1,h1.2.1,fun h=>absurd h g⟩
   ·rw [if_neg g]
    have h2:=chkL_le xs a m' (by omega) (h1.2.2 (by simpa using g))
    exact ⟨by omega,h2.2.1,h2.2.2⟩
theorem chkE_le:∀ (l:List (Str × Val)) (a m:Int),0≤m→m≤2000→m≤(chkE l a m).2∧(chkE l a m).2≤2001∧((chkE l a m).1 = 0→(chkE l a m).2≤2000)
 | [],a,m,h0,h=>by rw [chkE]; exact ⟨Int.le_refl _,by simp only; omega,fun _=>h⟩
 | x::xs,a,m,h0,h=>by
  rw [chkE]
  have h1:=chkQ_le x a m h0 h
  cases hx:chkQ x a m with
  | mk r m' =>
   rw [hx] at h1
   simp only at h1 ⊢
   by_cases g:r≠0
   ·rw [if_pos g]; exact ⟨h1.1,h1.2.1,fun h=>absurd h g⟩
   ·rw [if_neg g]
    have h2:=chkE_le xs a m' (by omega) (h1.2.2 (by simpa using g))
    exact ⟨by omega,h2.2.1,h2.2.2⟩
theorem chkQ_le:∀ (x:Str × Val) (a m:Int),0≤m→m≤2000→m≤(chkQ x a m).2∧(chkQ x a m).2≤2001∧((chkQ x a m).1 = 0→(chkQ x a m).2≤2000)
 | (_,x),a,m,h0,h=>by rw [chkQ]; exact chkV_le x a m h0 h
end
def chkT:List VPlace→Int→Int
 | [],_=>0
 | x::r,m=>match chkV x.v x.above m with
  | (e,m')=>if e≠0 then e else chkT r m'
theorem chkT_append (l : List Val) (a : Int) (r : List VPlace) : ∀ m, chkT (l.map (fun v => (⟨v, a⟩ : VPlace)) ++ r) m = match chkL l a m with
  | (e,m')=>if e≠0 then e else chkT r m':=by
 induction l with
 | nil=>intro m; simp [chkL]
 | cons x t ih =>
  intro m
  rw [List.map_cons,List.cons_append,chkT,chkL]
  cases chkV x a m with
  | mk e m' =>
   simp only
   by_cases c:e≠0
   ·simp [c]
   ·rw [if_neg c,if_neg c,ih]
theorem chkT_step (x:VPlace) (r:List VPlace) (m:Int):chkT (x::r) m = if 2000 < m + 1 then 2 else if oneF x.v x.above≠0 then oneF x.v x.above else chkT ((partsOf x.v).map (fun v=>(⟨v,x.above + 1⟩:VPlace))++r) (m + 1):=by
 rw [chkT,chkV_eq]
 by_cases c:2000 < m + 1
 ·simp [c]
 ·rw [if_neg c,if_neg c]
  by_cases d:oneF x.v x.above≠0
  ·rw [if_pos d,if_pos d]
   simp [d]
  ·rw [if_neg d,if_neg d,chkT_append]
/-! how deep, and how many -/
mutual
def sizV:Val→Int × Int
 | ⟨_,_,_,_,l,e⟩=>let p:=sizL l (0,1); let q:=sizE e p; (q.1 + 1,q.2)
def sizL:List Val→Int × Int→Int × Int
 | [],p=>p
 | x::xs,p=>sizL xs (let q:=sizV x; (if p.1 < q.1 then q.1 else p.1,p.2 + q.2))
def sizE:List (Str × Val)→Int × Int→Int × Int
 | [],p=>p
 | x::xs,p=>sizE xs (let q:=sizQ x; (if p.1 < q.1 then q.1 else p.1,p.2 + q.2))
def sizQ:Str × Val→Int × Int
 | (_,x)=>sizV x
end
def addS (p q:Int × Int):Int × Int:=(if p.1 < q.1 then q.1 else p.1,p.2 + q.2)
def foldS (l:List Val) (p:Int × Int):Int × Int:=l.foldl (fun p x=>addS p (sizV x)) p
theorem sizL_eq:∀ (l:List Val) (p:Int × Int),sizL l p = foldS l p
 | [],p=>by rw [sizL]; rfl
 | x::r,p=>by rw [sizL,sizL_eq r]; rfl
theorem sizE_eq:∀ (l:List (Str × Val)) (p:Int × Int),sizE l p = foldS (l.map (·.2)) p
 | [],p=>by rw [sizE]; rfl
 | (k,x)::r,p=>by rw [sizE,sizQ,sizE_eq r]; rfl
theorem sizV_eq (v:Val):sizV v = ((foldS (partsOf v) (0,1)).1 + 1,(foldS (partsOf v) (0,1)).2):=by
 obtain ⟨k,n,f,s,l,e⟩:=v
 rw [sizV]
 simp only [sizL_eq,sizE_eq,partsOf,foldS,List.foldl_append]
theorem foldS_snoc (l:List Val) (x:Val) (p:Int × Int):foldS (l++[x]) p = addS (foldS l p) (sizV x):=by
 rw [foldS,List.foldl_append]; rfl
theorem parts_sz {v x:Val} (h:x ∈ partsOf v):SizeOf.sizeOf x < SizeOf.sizeOf v:=by
 rcases List.mem_append.1 h with h | h
 ·exact val_sz_l h
 ·obtain ⟨p,hp,rfl⟩:=List.mem_map.1 h
  exact val_sz_e hp
theorem fold_ok:∀ (l:List Val) (p:Int × Int),(∀ x ∈ l,1≤(sizV x).1∧(sizV x).1≤(sizV x).2)→0≤p.1→p.1 < p.2→p.1≤(foldS l p).1∧(foldS l p).1 < (foldS l p).2∧p.2 + (l.length:Int)≤(foldS l p).2
 | [],p,_,h0,h1=>⟨Int.le_refl _,h1,by simp [foldS]⟩
 | x::r,p,h,h0,h1=>by
  have hx:=h x (.head _)
  have e:foldS (x::r) p = foldS r (addS p (sizV x)):=rfl
  have h2:(addS p (sizV x)).2 = p.2 + (sizV x).2:=rfl
  have h3:p.1≤(addS p (sizV x)).1∧(addS p (sizV x)).1 < p.2 + (sizV x).2:=by
   unfold addS
   simp only
   split<;>omega
  have:=fold_ok r (addS p (sizV x)) (fun y hy=>h y (.tail _ hy)) (by omega) (by omega)
  rw [e,List.length_cons]
  omega
theorem fold_mem:∀ (l:List Val) (p:Int × Int),(∀ x ∈ l,1≤(sizV x).1∧(sizV x).1≤(sizV x).2)→0≤p.1→p.1 < p.2→∀ x ∈ l,(sizV x).2 < (foldS l p).2
 | [],_,_,_,_=>fun x hx=>nomatch hx
 | y::r,p,h,h0,h1=>fun x hx=>by
  have hy:=h y (.head _)
  have e:foldS (y::r) p = foldS r (addS p (sizV y)):=rfl
  have h2:(addS p (sizV y)).2 = p.2 + (sizV y).2:=rfl
  have h3:p.1≤(addS p (sizV y)).1∧(addS p (sizV y)).1 < p.2 + (sizV y).2:=by
   unfold addS
   simp only
   split<;>omega
  rw [e]
  rcases List.mem_cons.1 hx with rfl | hx
  ·have:=fold_ok r (addS p (sizV x)) (fun z hz=>h z (.tail _ hz)) (by omega) (by omega)
   omega
  ·exact fold_mem r _ (fun z hz=>h z (.tail _ hz)) (by omega) (by omega) x hx
theorem siz_ok:∀ (n:Nat) (v:Val),SizeOf.sizeOf v < n→1≤(sizV v).1∧(sizV v).1≤(sizV v).2:=by
 intro n
 induction n with
 | zero=>intro v h; exact absurd h (Nat.not_lt_zero _)
 | succ n ih =>
  intro v h
  have hp:∀ x ∈ partsOf v,1≤(sizV x).1∧(sizV x).1≤(sizV x).2:=fun x hx=>ih x (by have:=parts_sz hx; omega)
  have:=fold_ok (partsOf v) (0,1) hp (by decide) (by decide)
  rw [sizV_eq]
  simp only at this ⊢
  omega
theorem siz_pos (v:Val):1≤(sizV v).1∧(sizV v).1≤(sizV v).2:=siz_ok _ v (Nat.lt_succ_self _)
theorem siz_parts (v:Val):((partsOf v).length:Int) + 1≤(sizV v).2∧∀ x ∈ partsOf v,(sizV x).2 < (sizV v).2:=by
 have h:=fold_ok (partsOf v) (0,1) (fun x _=>siz_pos x) (by decide) (by decide)
 have h2:=fold_mem (partsOf v) (0,1) (fun x _=>siz_pos x) (by decide) (by decide)
 rw [sizV_eq]
 simp only at h ⊢
 exact ⟨by omega,h2⟩
theorem siz_len (v:Val):(v.l.length:Int) + (v.e.length:Int) + 1≤(sizV v).2:=by
 have:=(siz_parts v).1
 unfold partsOf at this
 rw [List.length_append,List.length_map] at this
 omega
theorem siz_pre {v:Val} {l k:List Val} (h:partsOf v = l++k):0≤(foldS l (0,1)).1∧(foldS l (0,1)).1 < (foldS l (0,1)).2∧(foldS l (0,1)).2≤(sizV v).2:=by
 have h1:=fold_ok l (0,1) (fun x _=>siz_pos x) (by decide) (by decide)
 have h2:=fold_ok k (foldS l (0,1)) (fun x _=>siz_pos x) (by simp only at h1; omega) h1.2.1
 have e:foldS (partsOf v) (0,1) = foldS k (foldS l (0,1)):=by rw [h]; exact List.foldl_append
 rw [sizV_eq,e]
 simp only at h1 h2 ⊢
 omega
def sumT:List VPlace→Int
 | []=>0
 | p::r=>(sizV p.v).2 + sumT r
theorem sumT_append (l k:List VPlace):sumT (l++k) = sumT l + sumT k:=by
 induction l with
 | nil=>simp [sumT]
 | cons p r ih=>rw [List.cons_append,sumT,sumT,ih]; omega
theorem sumT_len (l:List VPlace):(l.length:Int)≤sumT l:=by
 induction l with
 | nil=>simp [sumT]
 | cons p r ih =>
  have h1:=siz_pos p.v
  rw [sumT,List.length_cons]
  omega
theorem fold_sum:∀ (l:List Val) (p:Int × Int) (a:Int),(foldS l p).2 = p.2 + sumT (l.map fun v=>(⟨v,a⟩:VPlace))
 | [],p,a=>by simp [foldS,sumT]
 | x::r,p,a=>by
  have e:foldS (x::r) p = foldS r (addS p (sizV x)):=rfl
  rw [e,fold_sum r _ a,List.map_cons,sumT]
  exact Int.add_assoc _ _ _
def placesOf (x:VPlace):List VPlace:=(partsOf x.v).map fun v=>(⟨v,x.above + 1⟩:VPlace)
theorem sumT_parts (x:VPlace):sumT (placesOf x) = (sizV x.v).2 - 1:=by
 have:=fold_sum (partsOf x.v) (0,1) (x.above + 1)
 rw [sizV_eq]
 simp only at this ⊢
 rw [this,placesOf]
 omega
theorem vplace_eta (v:Val) (a:Int):(⟨⟨v.kind,v.n,v.f,v.s,v.l,v.e⟩,a⟩:VPlace) = ⟨v,a⟩:=by cases v; rfl
end Go.Ck
end
section
namespace Go.Up
open Go.SX Go.Vl Go.Ut Go.Ck
def zeroV:Val:=⟨0,0,0,[],[],[]⟩
def stepF (p:PStep):Int:=if p.i < -1∨(0≤p.i∧p.key≠[]) then 1 else if 100 < p.key.length then 2 else if 0≤bad p.key then 3 else 0
def stepsF:List PStep→Int
 | []=>0
 | p::r=>orI (stepF p) (stepsF r)
def pathF (p:List PStep):Int:=if 20 < p.length then 5 else stepsF p
theorem stepsF_drop {p:List PStep} {i:Nat} (h:i < p.length):stepsF (p.drop i) = orI (stepF p[i]) (stepsF (p.drop (i + 1))):=by
 rw [List.drop_eq_getElem_cons h,stepsF]
theorem stepsF_mem:∀ {p:List PStep},stepsF p = 0→∀ q ∈ p,stepF q = 0
 | x::r,h,q,hq=>by
  rw [stepsF] at h
  have h1:stepF x = 0:=by
   by_cases c:stepF x = 0
   ·exact c
   ·rw [orI_ne c] at h; exact h
  rw [h1,orI_zero] at h
  rcases List.mem_cons.1 hq with rfl | hq
  ·exact h1
  ·exact stepsF_mem h q hq
def partV (v:Val) (p:PStep):Val × Int :=
 if p.i < 0 then (if v.kind≠6 then (zeroV,10) else if ixI v.e (keyIs p.key) < 0 then (zeroV,8) else ((v.e.getD (ixI v.e (keyIs p.key)).toNat ([],default)).2,0))
 else if v.kind≠5 then (zeroV,10) else if (v.l.length:Int)≤p.i then (zeroV,8) else (v.l.getD p.i.toNat default,0)
def ledV:Val→List PStep→Val × Int
 | v,[]=>(v,0)
 | v,p::r=>if (partV v p).2≠0 then (zeroV,(partV v p).2) else ledV (partV v p).1 r
theorem ledV_one (v:Val) (p:PStep):ledV v [p] = if (partV v p).2≠0 then (zeroV,(partV v p).2) else ((partV v p).1,0):=by
 rw [ledV,ledV]
theorem ix_bound {l:List Ent} {q:Ent→Bool} (h:¬ ixI l q < 0):0≤ixI l q∧(ixI l q).toNat < l.length∧ixI l q = ((ixI l q).toNat:Int):=by
 unfold ixI at h ⊢
 split
 ·omega
 ·rename_i c; rw [if_neg c] at h; omega
theorem partV_mem (v:Val) (p:PStep) (h:0≤p.i∨p.i < 0):(partV v p).1 = zeroV∨(partV v p).1 ∈ partsOf v:=by
 unfold partV
 split
 ·split
  ·exact .inl rfl
  ·split
   ·exact .inl rfl
   ·rename_i c
    right
    have hb:=(ix_bound c).2.1
    refine List.mem_append_right _ (List.mem_map.2 ⟨v.e[(ixI v.e (keyIs p.key)).toNat],List.getElem_mem hb,?_⟩)
    simp only
    rw [List.getD_eq_getElem?_getD,List.getElem?_eq_getElem hb]
    rfl
 ·split
  ·exact .inl rfl
  ·split
   ·exact .inl rfl
   ·rename_i c d e
    right
    have hb:p.i.toNat < v.l.length:=by omega
    refine List.mem_append_left _ ?_
    simp only
    rw [List.getD_eq_getElem?_getD,List.getElem?_eq_getElem hb]
    exact List.getElem_mem hb
theorem ledV_keep {R:Val→Prop} (h0:R zeroV) (hp:∀ v,R v→∀ x ∈ partsOf v,R x):∀ (l:List PStep) (v:Val),R v→R (ledV v l).1
 | [],v,h=>by rw [ledV]; exact h
 | p::r,v,h=>by
  rw [ledV]
  split
  ·exact h0
  ·refine ledV_keep h0 hp r _ ?_
   rcases partV_mem v p (by omega) with e | e
   ·rw [e]; exact h0
   ·exact hp v h _ e
def setAt (v:Val) (p:PStep) (w:Val):Val:=if p.i < 0 then { v with e:=putE v.e p.key w } else { v with l:=v.l.set p.i.toNat w }
def lastU (v:Val) (p:PStep) (o:OpR):Val × Int :=
 if o.kind = 2 then
  (if (partV v p).2 = 10 then (v,10) else if p.i < 0 then (if (partV v p).2 = 0 then (v,9) else ({ v with e:=putE v.e p.key o.v },0)) else if (v.l.length:Int) < p.i then (v,8) else ({ v with l:=v.l.take p.i.toNat++o.v::v.l.drop p.i.toNat },0))
 else if (partV v p).2≠0 then (v,(partV v p).2)
 else if o.kind = 3 then (if p.i < 0 then ({ v with e:=withoutE v.e p.key },0) else ({ v with l:=v.l.take p.i.toNat++v.l.drop (p.i.toNat + 1) },0))
 else if ¬ p.i < 0 then (v,10) else if o.key≠p.key∧0≤ixI v.e (keyIs o.key) then (v,9) else ({ v with e:=putE (withoutE v.e p.key) o.key (partV v p).1 },0)
def upV:Val→List PStep→OpR→Val × Int
 | _,[],o=>(o.v,0)
 | v,p::r,o =>
  if o.kind = 1∨r≠[] then
   (if (partV v p).2≠0 then (v,(partV v p).2) else if (upV (partV v p).1 r o).2≠0 then (v,(upV (partV v p).1 r o).2) else (setAt v p (upV (partV v p).1 r o).1,0))
  else lastU v p o
def opF (o:OpR):Int :=
 if o.kind < 1∨4 < o.kind then 1 else orI (pathF o.p) (orI (if o.kind≤2 then chkT [⟨o.v,0⟩] 0 else 0) (if o.kind = 4∧100 < o.key.length then 2 else if o.kind = 4∧0≤bad o.key then 3 else if 1 < o.kind∧o.p = [] then 1 else 0))
abbrev faultV (v:Val):Int:=chkT [⟨v,0⟩] 0
def applyV (v:Val) (o:OpR):Val × Int :=
 if faultV v≠0 then (zeroV,faultV v) else if opF o≠0 then (zeroV,opF o) else if (upV v o.p o).2≠0 then (zeroV,(upV v o.p o).2) else
  if faultV (upV v o.p o).1≠0 then (zeroV,faultV (upV v o.p o).1) else ((upV v o.p o).1,0)
end Go.Up
end
section
namespace Go.Df
open Go Go.SX Go.Vl Go.Ck Go.Up
set_option maxRecDepth 100000
def nd (v:Val):Int:=(sizV v).2
def sumN (l:List Val):Int:=(l.map nd).sum
theorem nd_pos (v:Val):1≤nd v:=by have:=siz_pos v; unfold nd; omega
theorem sumN_cons (x:Val) (l:List Val):sumN (x::l) = nd x + sumN l:=by unfold sumN; rw [List.map_cons,List.sum_cons]
theorem sumN_app (l m:List Val):sumN (l++m) = sumN l + sumN m:=by unfold sumN; rw [List.map_append,List.sum_append]
theorem sumN_nn:∀ l:List Val,(l.length:Int)≤sumN l
 | []=>Int.le_refl _
 | x::l=>by have:=sumN_nn l; have:=nd_pos x; rw [sumN_cons,List.length_cons]; omega
theorem sumN_rev (l:List Val):sumN l.reverse = sumN l:=by
 induction l with
 | nil=>rfl
 | cons x l ih=>rw [List.reverse_cons,sumN_app,ih,sumN_cons,sumN_cons]; show sumN l + (nd x + 0) = _; omega
theorem sumN_take (l:List Val) (i:Nat):sumN (l.take i)≤sumN l:=by
 have h:=sumN_app (l.take i) (l.drop i)
 rw [List.take_append_drop] at h
 have:=sumN_nn (l.drop i)
 omega
theorem foldS_snd:∀ (l:List Val) (p:Int × Int),(foldS l p).2 = p.2 + sumN l
 | [],p=>by show p.2 = p.2 + 0; omega
 | x::l,p=>by
  show (foldS l (addS p (sizV x))).2 = _
  rw [foldS_snd l,sumN_cons]
  show p.2 + (sizV x).2 + sumN l = p.2 + ((sizV x).2 + sumN l)
  omega
theorem nd_eq (v:Val):nd v = 1 + sumN (partsOf v):=by
 unfold nd
 rw [sizV_eq]
 exact foldS_snd _ _
theorem nd_l {v x:Val} (h:x ∈ v.l):nd x < nd v:=(siz_parts v).2 x (List.mem_append_left _ h)
theorem nd_e {v:Val} {p:Ent} (h:p ∈ v.e):nd p.2 < nd v:=(siz_parts v).2 p.2 (List.mem_append_right _ (List.mem_map_of_mem h))
theorem sum_l (v:Val):sumN v.l + sumN (v.e.map (·.2)) + 1 = nd v:=by
 rw [nd_eq]; unfold partsOf; rw [sumN_app]; omega
/-! ### the least of three ways -/
def m3 (a b c:Int):Int:=if c < (if b < a then b else a) then c else if b < a then b else a
theorem m3_le (a b c:Int):m3 a b c≤a∧m3 a b c≤b∧m3 a b c≤c:=by unfold m3; split<;>split<;>omega
theorem m3_is (a b c:Int):m3 a b c = a∨m3 a b c = b∨m3 a b c = c:=by unfold m3; split<;>split<;>omega
def ed (d:Val→Val→Int):List Val→List Val→Int
 | [],[]=>0
 | [],y::ys=>ed d [] ys + nd y
 | x::xs,[]=>ed d xs [] + nd x
 | x::xs,y::ys=>m3 (ed d xs (y::ys) + nd x) (ed d (x::xs) ys + nd y) (ed d xs ys + d x y)
termination_by xs ys=>xs.length + ys.length
inductive Al (d:Val→Val→Int):List Val→List Val→Int→Prop
 | nil:Al d [] [] 0
 | drop {xs ys:List Val} {c:Int} (x:Val):Al d xs ys c→Al d (x::xs) ys (c + nd x)
 | ins {xs ys:List Val} {c:Int} (y:Val):Al d xs ys c→Al d xs (y::ys) (c + nd y)
 | sub {xs ys:List Val} {c:Int} (x y:Val):Al d xs ys c→Al d (x::xs) (y::ys) (c + d x y)
theorem ed_al (d:Val→Val→Int):∀ xs ys,Al d xs ys (ed d xs ys)
 | [],[]=>by rw [ed]; exact .nil
 | [],y::ys=>by rw [ed]; exact .ins y (ed_al d [] ys)
 | x::xs,[]=>by rw [ed]; exact .drop x (ed_al d xs [])
 | x::xs,y::ys=>by
  rw [ed]
  rcases m3_is (ed d xs (y::ys) + nd x) (ed d (x::xs) ys + nd y) (ed d xs ys + d x y) with h | h | h<;>rw [h]
  ·exact .drop x (ed_al d xs _)
  ·exact .ins y (ed_al d _ ys)
  ·exact .sub x y (ed_al d xs ys)
termination_by xs ys=>xs.length + ys.length
theorem ed_min {d:Val→Val→Int} {xs ys:List Val} {c:Int} (h:Al d xs ys c):ed d xs ys≤c:=by
 induction h with
 | nil=>rw [ed]; exact Int.le_refl _
 | @drop xs ys c x h ih =>
  cases ys with
  | nil=>rw [ed]; omega
  | cons y ys=>rw [ed]; have:=(m3_le (ed d xs (y::ys) + nd x) (ed d (x::xs) ys + nd y) (ed d xs ys + d x y)).1; omega
 | @ins xs ys c y h ih =>
  cases xs with
  | nil=>rw [ed]; omega
  | cons x xs=>rw [ed]; have:=(m3_le (ed d xs (y::ys) + nd x) (ed d (x::xs) ys + nd y) (ed d xs ys + d x y)).2.1; omega
 | @sub xs ys c x y h ih=>rw [ed]; have:=(m3_le (ed d xs (y::ys) + nd x) (ed d (x::xs) ys + nd y) (ed d xs ys + d x y)).2.2; omega
theorem Al.cast {d:Val→Val→Int} {xs ys:List Val} {c e:Int} (h:Al d xs ys c) (he:c = e):Al d xs ys e:=he ▸ h
theorem Al.dropR {d:Val→Val→Int} {xs ys:List Val} {c:Int} (h:Al d xs ys c) (x:Val):Al d (xs++[x]) ys (c + nd x):=by
 induction h with
 | nil=>exact .drop x .nil
 | drop z _ ih=>exact (Al.drop z ih).cast (by omega)
 | ins z _ ih=>exact (Al.ins z ih).cast (by omega)
 | sub z y _ ih=>exact (Al.sub z y ih).cast (by omega)
theorem Al.insR {d:Val→Val→Int} {xs ys:List Val} {c:Int} (h:Al d xs ys c) (x:Val):Al d xs (ys++[x]) (c + nd x):=by
 induction h with
 | nil=>exact .ins x .nil
 | drop z _ ih=>exact (Al.drop z ih).cast (by omega)
 | ins z _ ih=>exact (Al.ins z ih).cast (by omega)
 | sub z y _ ih=>exact (Al.sub z y ih).cast (by omega)
theorem Al.subR {d:Val→Val→Int} {xs ys:List Val} {c:Int} (h:Al d xs ys c) (x y:Val):Al d (xs++[x]) (ys++[y]) (c + d x y):=by
 induction h with
 | nil=>exact .sub x y .nil
 | drop z _ ih=>exact (Al.drop z ih).cast (by omega)
 | ins z _ ih=>exact (Al.ins z ih).cast (by omega)
 | sub z q _ ih=>exact (Al.sub z q ih).cast (by omega)
theorem Al.rev {d:Val→Val→Int} {xs ys:List Val} {c:Int} (h:Al d xs ys c):Al d xs.reverse ys.reverse c:=by
 induction h with
 | nil=>exact .nil
 | drop z _ ih=>rw [List.reverse_cons]; exact ih.dropR z
 | ins z _ ih=>rw [List.reverse_cons]; exact ih.insR z
 | sub z q _ ih=>rw [List.reverse_cons,List.reverse_cons]; exact ih.subR z q
theorem ed_rev (d:Val→Val→Int) (xs ys:List Val):ed d xs.reverse ys.reverse = ed d xs ys:=by
 refine Int.le_antisymm (ed_min (ed_al d xs ys).rev) ?_
 have h:=(ed_al d xs.reverse ys.reverse).rev
 rw [List.reverse_reverse,List.reverse_reverse] at h
 exact ed_min h
theorem ed_nn {d:Val→Val→Int} (hd:∀ x y,0≤d x y) (xs ys:List Val):0≤ed d xs ys:=by
 have key:∀ {xs ys c},Al d xs ys c→0≤c:=fun h=>by
  induction h with
  | nil=>exact Int.le_refl _
  | drop z _ ih=>have:=nd_pos z; omega
  | ins z _ ih=>have:=nd_pos z; omega
  | sub z q _ ih=>have:=hd z q; omega
 exact key (ed_al d xs ys)
theorem al_all (d:Val→Val→Int):∀ xs ys,Al d xs ys (sumN xs + sumN ys)
 | [],[]=>.nil
 | [],y::ys=>(Al.ins y (al_all d [] ys)).cast (by rw [sumN_cons]; omega)
 | x::xs,ys=>(Al.drop x (al_all d xs ys)).cast (by rw [sumN_cons]; omega)
termination_by xs ys=>xs.length + ys.length
theorem ed_le (d:Val→Val→Int) (xs ys:List Val):ed d xs ys≤sumN xs + sumN ys:=ed_min (al_all d xs ys)
/-! ### how far -/
def tabA (d:Val→Val→Int) (b:List Ent) (x:Ent):Int:=if 0≤ixI b (keyIs x.1) then d x.2 (b.getD (ixI b (keyIs x.1)).toNat ([],default)).2 else nd x.2
def tabB (a:List Ent) (x:Ent):Int:=if ixI a (keyIs x.1) < 0 then nd x.2 else 0
def tabF (d:Val→Val→Int) (a b:List Ent):Int:=(a.map (tabA d b)).sum + (b.map (tabB a)).sum
def farF:Nat→Val→Val→Int
 | 0,_,_=>0
 | n + 1,a,b=>if cmpV a b = 0 then 0 else if a.kind = 6∧b.kind = 6 then tabF (farF n) a.e b.e else if a.kind = 5∧b.kind = 5 then ed (farF n) a.l b.l else nd a + nd b
theorem sum_nn:∀ l:List Int,(∀ x ∈ l,0≤x)→0≤l.sum
 | [],_=>Int.le_refl _
 | x::l,h=>by
  have h1:=h x (.head _)
  have h2:=sum_nn l fun y hy=>h y (.tail _ hy)
  rw [List.sum_cons]
  omega
theorem tabB_b (a:List Ent) (x:Ent):0≤tabB a x∧tabB a x≤nd x.2:=by
 have:=nd_pos x.2
 unfold tabB
 split<;>omega
theorem tabA_nn {d:Val→Val→Int} (hd:∀ x y,0≤d x y) (b:List Ent) (x:Ent):0≤tabA d b x:=by
 have:=nd_pos x.2
 unfold tabA
 split
 ·exact hd _ _
 ·omega
theorem far_nn:∀ (n:Nat) (a b:Val),0≤farF n a b
 | 0,_,_=>Int.le_refl _
 | n + 1,a,b=>by
  rw [farF]
  split
  ·exact Int.le_refl _
  split
  ·have h1 := sum_nn (a.e.map (tabA (farF n) b.e)) fun x hx => by
    obtain ⟨y,_,rfl⟩:=List.mem_map.1 hx
    exact tabA_nn (far_nn n) _ _
   have h2:=sum_nn (b.e.map (tabB a.e)) fun x hx=>by
    obtain ⟨y,_,rfl⟩:=List.mem_map.1 hx
    exact (tabB_b _ _).1
   unfold tabF
   omega
  split
  ·exact ed_nn (far_nn n) _ _
  ·have:=nd_pos a; have:=nd_pos b; omega
theorem sum_mul {α:Type} (f g:α→Int) (k:Int):∀ l:List α,(∀ x ∈ l,f x≤k * g x)→(l.map f).sum≤k * (l.map g).sum
 | [],_=>by simp
 | x::l,h=>by
  have h1:=h x (.head _)
  have h2:=sum_mul f g k l fun y hy=>h y (.tail _ hy)
  rw [List.map_cons,List.sum_cons,List.map_cons,List.sum_cons,Int.mul_add]
  omega
theorem far_le:∀ (n:Nat) (a b:Val),farF n a b≤2 * nd b * nd a
 | 0,a,b=>by
  have h1:=nd_pos a
  have h2:=nd_pos b
  rw [farF]
  exact Int.mul_nonneg (by omega) (by omega)
 | n + 1,a,b=>by
  have pa:=nd_pos a
  have pb:=nd_pos b
  have hab:nd a + nd b≤2 * nd b * nd a:=by
   have h1:nd a * 1≤nd a * nd b:=Int.mul_le_mul_of_nonneg_left pb (by omega)
   have h2:nd b * 1≤nd b * nd a:=Int.mul_le_mul_of_nonneg_left pa (by omega)
   have e:nd b * nd a = nd a * nd b:=Int.mul_comm ..
   rw [Int.mul_assoc]
   omega
  rw [farF]
  split
  ·omega
  split
  ·have h1 := sum_mul (tabA (farF n) b.e) (fun x => nd x.2) (2 * nd b) a.e fun x hx => by
    have px:=nd_pos x.2
    unfold tabA
    split
    ·rename_i h
     have hb:=ix_bound (l:=b.e) (q:=keyIs x.1) (by omega)
     have hy:nd (b.e.getD (ixI b.e (keyIs x.1)).toNat ([],default)).2 < nd b:=by
      rw [List.getD_eq_getElem?_getD,List.getElem?_eq_getElem hb.2.1]
      exact nd_e (List.getElem_mem _)
     refine Int.le_trans (far_le n _ _) ?_
     have:=nd_pos (b.e.getD (ixI b.e (keyIs x.1)).toNat ([],default)).2
     exact Int.mul_le_mul_of_nonneg_right (by omega) (by omega)
    ·have h1:nd x.2 * 1≤nd x.2 * (2 * nd b):=Int.mul_le_mul_of_nonneg_left (by omega) (by omega)
     rw [Int.mul_comm (2 * nd b)]
     omega
   have h2:=sum_mul (tabB a.e) (fun x=>nd x.2) 1 b.e fun x _=>by have:=(tabB_b a.e x).2; omega
   have ea:(a.e.map fun x=>nd x.2).sum = sumN (a.e.map (·.2)):=by unfold sumN; rw [List.map_map]; rfl
   have eb:(b.e.map fun x=>nd x.2).sum = sumN (b.e.map (·.2)):=by unfold sumN; rw [List.map_map]; rfl
   have sa:=sum_l a
   have sb:=sum_l b
   have na:=sumN_nn a.l
   have nb:=sumN_nn b.l
   rw [ea] at h1
   rw [eb] at h2
   unfold tabF
   have h3:2 * nd b * sumN (a.e.map (·.2))≤2 * nd b * (nd a - 1):=Int.mul_le_mul_of_nonneg_left (by omega) (by omega)
   rw [Int.mul_sub] at h3
   omega
  split
  ·have h1:=ed_le (farF n) a.l b.l
   have sa:=sum_l a
   have sb:=sum_l b
   have na:=sumN_nn (a.e.map (·.2))
   have nb:=sumN_nn (b.e.map (·.2))
   omega
  ·exact hab
theorem far_small (n:Nat) {a b:Val} (ha:nd a≤1000) (hb:nd b≤1000):farF n a b≤2000000:=by
 have h:=far_le n a b
 have pa:=nd_pos a
 have pb:=nd_pos b
 have h1:2 * nd b * nd a≤2000 * 1000:=Int.mul_le_mul (by omega) ha (by omega) (by omega)
 omega
/-! ### the grid -/
def gP (d:Val→Val→Int) (a b:List Val) (i j:Nat):Int:=ed d (a.take i).reverse (b.take j).reverse
def rowP (d:Val→Val→Int) (a b:List Val) (i:Nat):List Int:=(List.range (b.length + 1)).map (gP d a b i)
def gridP (d:Val→Val→Int) (a b:List Val):List (List Int):=(List.range (a.length + 1)).map (rowP d a b)
theorem take_rev {l:List Val} {i:Nat} (h:i < l.length):(l.take (i + 1)).reverse = l[i]::(l.take i).reverse:=by
 rw [List.take_add_one,List.getElem?_eq_getElem h]
 simp
theorem gP_00 (d:Val→Val→Int) (a b:List Val):gP d a b 0 0 = 0:=by unfold gP; simp [ed]
theorem gP_0s (d:Val→Val→Int) (a:List Val) {b:List Val} {j:Nat} (h:j < b.length):gP d a b 0 (j + 1) = gP d a b 0 j + nd b[j]:=by
 unfold gP; rw [take_rev h,List.take_zero,List.reverse_nil,ed]
theorem gP_s0 (d:Val→Val→Int) {a:List Val} (b:List Val) {i:Nat} (h:i < a.length):gP d a b (i + 1) 0 = gP d a b i 0 + nd a[i]:=by
 unfold gP; rw [take_rev h,List.take_zero,List.reverse_nil,ed]
theorem gP_ss (d:Val→Val→Int) {a b:List Val} {i j:Nat} (h:i < a.length) (k:j < b.length):gP d a b (i + 1) (j + 1) = m3 (gP d a b i (j + 1) + nd a[i]) (gP d a b (i + 1) j + nd b[j]) (gP d a b i j + d a[i] b[j]):=by
 unfold gP; rw [take_rev h,take_rev k,ed]
theorem gP_end (d:Val→Val→Int) (a b:List Val):gP d a b a.length b.length = ed d a b:=by
 unfold gP; rw [List.take_length,List.take_length,ed_rev]
theorem gP_b {d:Val→Val→Int} (hd:∀ x y,0≤d x y) (a b:List Val) (i j:Nat):0≤gP d a b i j∧gP d a b i j≤sumN a + sumN b:=by
 refine ⟨ed_nn hd _ _,?_⟩
 have h:=ed_le d (a.take i).reverse (b.take j).reverse
 rw [sumN_rev,sumN_rev] at h
 have h1:=sumN_take a i
 have h2:=sumN_take b j
 exact Int.le_trans h (by omega)
end Go.Df
end
section
namespace Go.Df
open Go Go.SX Go.Vl Go.Ck Go.Up
set_option maxRecDepth 100000
inductive OKV:Int→Val→Prop
 | mk (a:Int) (v:Val):a < 20→docF v = 0→(∀ x ∈ partsOf v,OKV (a + 1) x)→OKV a v
theorem OKV.doc {a:Int} {v:Val} (h:OKV a v):docF v = 0:=by cases h; assumption
theorem OKV.lt {a:Int} {v:Val} (h:OKV a v):a < 20:=by cases h; assumption
theorem OKV.part {a:Int} {v:Val} (h:OKV a v) {x:Val} (hx:x ∈ partsOf v):OKV (a + 1) x:=by cases h with | mk _ _ _ _ h=>exact h x hx
theorem OKV.l {a:Int} {v:Val} (h:OKV a v) {x:Val} (hx:x ∈ v.l):OKV (a + 1) x:=h.part (List.mem_append_left _ hx)
theorem OKV.e {a:Int} {v:Val} (h:OKV a v) {p:Ent} (hx:p ∈ v.e):OKV (a + 1) p.2:=h.part (List.mem_append_right _ (List.mem_map_of_mem hx))
theorem doc_kind {v:Val} (h:docF v = 0):0≤v.kind∧v.kind≤6:=by
 by_cases hk:kindBad v
 ·rw [← docF_kind hk] at h; exact absurd h (by decide)
 ·unfold kindBad at hk
  omega
theorem OKV.kind {a:Int} {v:Val} (h:OKV a v):0≤v.kind∧v.kind≤6:=doc_kind h.doc
theorem OKV.mono {a c:Int} {v:Val} (h:OKV a v) (hc:c≤a):OKV c v:=by
 induction h generalizing c with
 | mk a v h1 h2 _ ih=>exact .mk c v (by omega) h2 fun x hx=>ih x hx (by omega)
theorem chkL_ok {a:Int}:∀ (l:List Val) (m:Int),(∀ x ∈ l,∀ k,(chkV x a k).1 = 0→OKV a x∧(chkV x a k).2 = k + nd x)→(chkL l a m).1 = 0→(∀ x ∈ l,OKV a x)∧(chkL l a m).2 = m + sumN l
 | [],m,_,_=>⟨(fun _ h=>nomatch h),by rw [chkL]; show m = m + 0; omega⟩
 | x::l,m,hh,h=>by
  have hx:=hh x (.head _) m
  rw [chkL] at h ⊢
  cases hc:chkV x a m with
  | mk e k =>
   rw [hc] at h hx
   simp only at h hx ⊢
   by_cases he:e = 0
   ·subst he
    rw [if_neg (by simp)] at h ⊢
    obtain ⟨h1,h2⟩:=hx rfl
    obtain ⟨h3,h4⟩:=chkL_ok l k (fun y hy=>hh y (.tail _ hy)) h
    refine ⟨fun y hy=>?_,?_⟩
    ·rcases List.mem_cons.1 hy with rfl | hy
     ·exact h1
     ·exact h3 y hy
    ·rw [h4,h2,sumN_cons]; omega
   ·rw [if_pos he] at h
    exact absurd h he
theorem okv_of:∀ (n:Nat) (v:Val),SizeOf.sizeOf v < n→∀ (a m:Int),(chkV v a m).1 = 0→OKV a v∧(chkV v a m).2 = m + nd v
 | 0,_,h=>absurd h (Nat.not_lt_zero _)
 | n + 1,v,hs=>fun a m h=>by
  rw [chkV_eq] at h ⊢
  by_cases h1:2000 < m + 1
  ·rw [if_pos h1] at h; exact absurd (show (2:Int) = 0 from h) (by decide)
  rw [if_neg h1] at h ⊢
  by_cases h2:oneF v a≠0
  ·rw [if_pos h2] at h; exact absurd h h2
  rw [if_neg h2] at h ⊢
  have h2:oneF v a = 0:=by simpa using h2
  rw [oneF_doc] at h2
  by_cases h3:20≤a
  ·rw [if_pos h3] at h2; exact absurd h2 (by decide)
  rw [if_neg h3] at h2
  obtain ⟨h4,h5⟩:=chkL_ok (partsOf v) (m + 1) (fun x hx k hk=>okv_of n x (by have:=parts_sz hx; omega) (a + 1) k hk) h
  exact ⟨.mk a v (by omega) h2 h4,by rw [h5,nd_eq]; omega⟩
theorem chk_okv {v:Val} (h:(chkV v 0 0).1 = 0):OKV 0 v:=(okv_of _ v (Nat.lt_succ_self _) 0 0 h).1
theorem chkL_put {a:Int}:∀ (l:List Val) (m:Int),(∀ x ∈ l,∀ k,k + nd x≤2000→chkV x a k = (0,k + nd x))→m + sumN l≤2000→chkL l a m = (0,m + sumN l)
 | [],m,_,_=>by rw [chkL]; show (0,m) = (0,m + 0); rw [Int.add_zero]
 | x::l,m,hh,h=>by
  rw [sumN_cons] at h ⊢
  have hl:=sumN_nn l
  rw [chkL,hh x (.head _) m (by omega)]
  simp only [ne_eq,not_true_eq_false,if_false]
  rw [chkL_put l (m + nd x) (fun y hy=>hh y (.tail _ hy)) (by omega),Int.add_assoc]
theorem okv_chk {a:Int} {v:Val} (h:OKV a v):∀ m,m + nd v≤2000→chkV v a m = (0,m + nd v):=by
 induction h with
 | mk a v h1 h2 _ ih =>
  intro m hm
  have hp:=nd_pos v
  have e:oneF v a = 0:=by rw [oneF_doc,if_neg (by omega),h2]
  rw [chkV_eq,if_neg (by omega),if_neg (by rw [e]; simp),chkL_put _ _ (fun x hx k hk=>ih x hx k hk) (by rw [nd_eq] at hm; omega),nd_eq,← Int.add_assoc]
/-! ### the document's rows -/
def rowD (d:Val→Val→Int) (a b:List Val) (i:Nat):List Int:=(List.range (b.length + 1)).map fun j=>ed d (a.drop i) (b.drop j)
theorem rowD_len (d:Val→Val→Int) (a b:List Val) (i:Nat):(rowD d a b i).length = b.length + 1:=by unfold rowD; simp
theorem rowD_at (d:Val→Val→Int) (a b:List Val) (i:Nat) {j:Nat} (h:j < b.length + 1):(rowD d a b i)[j]? = some (ed d (a.drop i) (b.drop j)):=by unfold rowD; simp [h]
theorem rowD_get (d:Val→Val→Int) (a b:List Val) (i:Nat) {j:Nat} (h:j < b.length + 1):(rowD d a b i).getD j (dflt .int) = ed d (a.drop i) (b.drop j):=by
 rw [List.getD_eq_getElem?_getD,rowD_at d a b i h]; rfl
def backTo (d:Val→Val→Int) (a b:List Val) (i c:Nat):List Int:=List.replicate c 0++(rowD d a b i).drop c
theorem backTo_len (d:Val→Val→Int) (a b:List Val) (i:Nat) {c:Nat} (h:c≤b.length + 1):(backTo d a b i c).length = b.length + 1:=by
 unfold backTo; rw [List.length_append,List.length_drop,rowD_len,List.length_replicate]; omega
theorem backTo_all (d:Val→Val→Int) (a b:List Val) (i:Nat):backTo d a b i 0 = rowD d a b i:=rfl
theorem backTo_none (d:Val→Val→Int) (a b:List Val) (i:Nat):backTo d a b i (b.length + 1) = List.replicate (b.length + 1) 0:=by
 unfold backTo; rw [List.drop_eq_nil_of_le (by rw [rowD_len]; omega),List.append_nil]
theorem backTo_get (d:Val→Val→Int) (a b:List Val) (i:Nat) {c j:Nat} (h:c≤j) (hj:j < b.length + 1):(backTo d a b i c).getD j (dflt .int) = ed d (a.drop i) (b.drop j):=by
 unfold backTo
 rw [List.getD_eq_getElem?_getD,List.getElem?_append_right (by rw [List.length_replicate]; exact h),List.length_replicate,List.getElem?_drop,show c + (j - c) = j by omega,rowD_at d a b i hj]
 rfl
theorem backTo_set (d:Val→Val→Int) (a b:List Val) (i:Nat) {c:Nat} (h:c < b.length + 1):(backTo d a b i (c + 1)).set c (ed d (a.drop i) (b.drop c)) = backTo d a b i c:=by
 unfold backTo
 have e:(rowD d a b i).drop c = ed d (a.drop i) (b.drop c)::(rowD d a b i).drop (c + 1):=by
  have hl:c < (rowD d a b i).length:=by rw [rowD_len]; exact h
  rw [List.drop_eq_getElem_cons hl]
  congr 1
  have:=rowD_at d a b i h
  rw [List.getElem?_eq_getElem hl] at this
  injection this
 rw [e,List.replicate_succ',List.append_assoc,List.set_append_right _ _ (by rw [List.length_replicate]; exact Nat.le_refl _),List.length_replicate,Nat.sub_self]
 rfl
theorem ed_drop_nil (d:Val→Val→Int) (a:List Val) {b:List Val} {j:Nat} (h:j < b.length):ed d (a.drop a.length) (b.drop j) = ed d (a.drop a.length) (b.drop (j + 1)) + nd b[j]:=by
 rw [List.drop_length,List.drop_eq_getElem_cons h,ed]
theorem ed_drop_end (d:Val→Val→Int) {a:List Val} (b:List Val) {i:Nat} (h:i < a.length):ed d (a.drop i) (b.drop b.length) = ed d (a.drop (i + 1)) (b.drop b.length) + nd a[i]:=by
 rw [List.drop_length,List.drop_eq_getElem_cons h,ed]
theorem ed_drop (d:Val→Val→Int) {a b:List Val} {i j:Nat} (h:i < a.length) (k:j < b.length):ed d (a.drop i) (b.drop j) = m3 (ed d (a.drop (i + 1)) (b.drop j) + nd a[i]) (ed d (a.drop i) (b.drop (j + 1)) + nd b[j]) (ed d (a.drop (i + 1)) (b.drop (j + 1)) + d a[i] b[j]):=by
 conv=>lhs; rw [List.drop_eq_getElem_cons h,List.drop_eq_getElem_cons k]
 rw [ed,← List.drop_eq_getElem_cons h,← List.drop_eq_getElem_cons k]
theorem sumN_drop (l:List Val) (i:Nat):sumN (l.drop i)≤sumN l:=by
 have h:=sumN_app (l.take i) (l.drop i)
 rw [List.take_append_drop] at h
 have:=sumN_nn (l.take i)
 omega
theorem edD_b {d:Val→Val→Int} (hd:∀ x y,0≤d x y) (a b:List Val) (i j:Nat):0≤ed d (a.drop i) (b.drop j)∧ed d (a.drop i) (b.drop j)≤sumN a + sumN b:=by
 refine ⟨ed_nn hd _ _,?_⟩
 have h:=ed_le d (a.drop i) (b.drop j)
 have h1:=sumN_drop a i
 have h2:=sumN_drop b j
 exact Int.le_trans h (by omega)
end Go.Df
end
section
namespace Go.Up
open Go.SX Go.Vl Go.Ut Go.Ck
theorem less_trans:∀ {a b c:Str},Op.bytesLess a b = true→Op.bytesLess b c = true→Op.bytesLess a c = true
 | _,[],[],_,h=>by simp [Op.bytesLess] at h
 | [],[],_::_,h,_=>by simp [Op.bytesLess] at h
 | _::_,[],_::_,h,_=>by simp [Op.bytesLess] at h
 | _,_::_,[],_,h=>by simp [Op.bytesLess] at h
 | [],_::_,_::_,_,_=>by simp [Op.bytesLess]
 | x::a,y::b,z::c,h1,h2=>by
  have ih:=@less_trans a b c
  simp only [Op.bytesLess,Bool.or_eq_true,decide_eq_true_eq,Bool.and_eq_true,beq_iff_eq] at h1 h2 ⊢
  rcases h1 with h1 | ⟨rfl,h1⟩
  ·rcases h2 with h2 | ⟨rfl,h2⟩
   ·exact .inl (UInt8.lt_trans h1 h2)
   ·exact .inl h1
  ·rcases h2 with h2 | ⟨rfl,h2⟩
   ·exact .inl h2
   ·exact .inr ⟨rfl,ih h1 h2⟩
def Rise (e:List Ent):Prop:=e.Pairwise fun p q=>Op.bytesLess p.1 q.1 = true
theorem orI_0 {a b:Int} (h:orI a b = 0):a = 0∧b = 0:=by
 by_cases c:a = 0
 ·subst c; rw [orI_zero] at h; exact ⟨rfl,h⟩
 ·rw [orI_ne c] at h; exact absurd h c
theorem ent_rise:∀ (e:List Ent) (q:Option Str),entF q e = 0→Rise e∧∀ k,q = some k→∀ p ∈ e,Op.bytesLess k p.1 = true
 | [],_,_=>⟨List.Pairwise.nil,fun _ _ p hp=>nomatch hp⟩
 | x::r,q,h=>by
  rw [entF] at h
  obtain ⟨h1,h2⟩:=orI_0 h
  obtain ⟨h3,h4⟩:=ent_rise r (some x.1) h2
  refine ⟨List.Pairwise.cons (fun p hp=>h4 x.1 rfl p hp) h3,fun k hk=>?_⟩
  subst hk
  have hx:Op.bytesLess k x.1 = true:=by
   unfold keyF at h1
   by_cases c:100 < x.1.length
   ·rw [if_pos c] at h1; exact absurd h1 (by decide)
   ·rw [if_neg c] at h1
    by_cases d:0≤bad x.1
    ·rw [if_pos d] at h1; exact absurd h1 (by decide)
    ·rw [if_neg d] at h1
     simp only at h1
     by_cases b:Op.bytesLess k x.1 = true
     ·exact b
     ·rw [if_neg b] at h1; exact absurd h1 (by decide)
  intro p hp
  rcases List.mem_cons.1 hp with rfl | hp
  ·exact hx
  ·exact less_trans hx (h4 x.1 rfl p hp)
theorem less_ne' {a b:Str} (h:Op.bytesLess a b = true):a≠b:=fun e=>by rw [e,less_irrefl] at h; cases h
theorem putE_set {e:List Ent} (hr:Rise e) {k:Str} {w:Val} {i:Nat} (hi:i < e.length) (hk:e[i].1 = k):putE e k w = e.set i (k,w):=by
 have hA:∀ p ∈ e.take i,Op.bytesLess p.1 k = true:=fun p hp=>by
  obtain ⟨j,hj,rfl⟩:=List.getElem_of_mem hp
  rw [List.length_take] at hj
  rw [List.getElem_take,← hk]
  exact List.pairwise_iff_getElem.1 hr j i (by omega) hi (by omega)
 have hB:∀ p ∈ e.drop (i + 1),Op.bytesLess k p.1 = true:=fun p hp=>by
  obtain ⟨j,hj,rfl⟩:=List.getElem_of_mem hp
  rw [List.length_drop] at hj
  rw [List.getElem_drop,← hk]
  exact List.pairwise_iff_getElem.1 hr i (i + 1 + j) hi (by omega) (by omega)
 have hw:withoutE e k = e.take i++e.drop (i + 1):=by
  have he:e = e.take i++e[i]::e.drop (i + 1):=by rw [← List.drop_eq_getElem_cons hi,List.take_append_drop]
  unfold withoutE
  conv=>lhs; rw [he]
  rw [List.filter_append,List.filter_cons]
  have h1:(e.take i).filter (fun p=>!keyIs k p) = e.take i:=List.filter_eq_self.2 fun p hp=>by
   simp only [keyIs,Bool.not_eq_true',beq_eq_false_iff_ne]
   exact less_ne' (hA p hp)
  have h2:(e.drop (i + 1)).filter (fun p=>!keyIs k p) = e.drop (i + 1):=List.filter_eq_self.2 fun p hp=>by
   simp only [keyIs,Bool.not_eq_true',beq_eq_false_iff_ne]
   exact (less_ne' (hB p hp)).symm
  have h3:(!keyIs k e[i]) = false:=by simp [keyIs,hk]
  rw [h1,h2,h3]
  rfl
 have hlen:(e.take i).length = i:=by rw [List.length_take]; omega
 have hf:(withoutE e k).findIdx (keyGt k) = i:=by
  rw [hw,List.findIdx_append]
  have h1:(e.take i).findIdx (keyGt k) = (e.take i).length:=List.findIdx_eq_length.2 fun p hp=>by
   simp [keyGt,hA p hp]
  rw [h1,hlen,if_neg (by omega)]
  cases hd:e.drop (i + 1) with
  | nil=>simp
  | cons q r =>
   have hq:=hB q (by rw [hd]; exact .head _)
   have hn:Op.bytesLess q.1 k = false:=by
    cases hh:Op.bytesLess q.1 k with
    | false=>rfl
    | true=>exact absurd (less_trans hq hh) (by rw [less_irrefl]; decide)
   have hne:(q.1 == k) = false:=beq_eq_false_iff_ne.2 (less_ne' hq).symm
   rw [List.findIdx_cons]
   simp [keyGt,hn,hne]
 unfold putE
 rw [hf,hw,List.take_append_of_le_length (by omega),List.take_of_length_le (by omega),List.drop_append_of_le_length (by omega),List.drop_of_length_le (by omega),List.nil_append,List.set_eq_take_append_cons_drop,if_pos hi]
end Go.Up
end
section
namespace Go.Up
open Go.SX Go.Vl Go.Ut Go.Ck
theorem ix_key {l:List Ent} {k:Str} (h:¬ ixI l (keyIs k) < 0):(l.getD (ixI l (keyIs k)).toNat ([],default)).1 = k:=by
 have hb:=ix_bound h
 rw [List.getD_eq_getElem?_getD,List.getElem?_eq_getElem hb.2.1]
 have e:(ixI l (keyIs k)).toNat = l.findIdx (keyIs k):=by
  unfold ixI at h ⊢
  split
  ·rfl
  ·rename_i c; rw [if_neg c] at h; omega
 have hlt:l.findIdx (keyIs k) < l.length:=by rw [← e]; exact hb.2.1
 have:=List.findIdx_getElem (w:=hlt) (xs:=l) (p:=keyIs k)
 simp only [e,Option.getD_some]
 exact eq_of_beq this
theorem partV_in {v:Val} {p:PStep} (h:(partV v p).2 = 0):(partV v p).1 ∈ partsOf v:=by
 unfold partV at h ⊢
 split
 ·rename_i c
  rw [if_pos c] at h
  split
  ·rename_i d; rw [if_pos d] at h; exact absurd h (by decide)
  ·rename_i d
   rw [if_neg d] at h
   split
   ·rename_i e; rw [if_pos e] at h; exact absurd h (by decide)
   ·rename_i e
    have hb:=(ix_bound e).2.1
    refine List.mem_append_right _ (List.mem_map.2 ⟨v.e[(ixI v.e (keyIs p.key)).toNat],List.getElem_mem hb,?_⟩)
    simp only
    rw [List.getD_eq_getElem?_getD,List.getElem?_eq_getElem hb]
    rfl
 ·rename_i c
  rw [if_neg c] at h
  split
  ·rename_i d; rw [if_pos d] at h; exact absurd h (by decide)
  ·rename_i d
   rw [if_neg d] at h
   split
   ·rename_i e; rw [if_pos e] at h; exact absurd h (by decide)
   ·rename_i e
    have hb:p.i.toNat < v.l.length:=by omega
    refine List.mem_append_left _ ?_
    simp only
    rw [List.getD_eq_getElem?_getD,List.getElem?_eq_getElem hb]
    exact List.getElem_mem hb
end Go.Up
end
section
namespace Go.SX
variable [Globs]
section
variable {P:Program} {N:Nat} {Γ:Ctx} {W0:World} {F:Fr} {X:Nat→Prop} {s:St} {β:Nat→Option Nat} {a:Act} {w:World}

def fbx0 (n:Nat) (cs:List AV):AV→AV
 | .pt m o=>bif Nat.beq m n then .rp (cs.drop o) else .pt m o
 | v=>kill n v
theorem headNp_fbx0 (n:Nat) (cs:List AV) (v:AV):headNp [fbx0 n cs v] = headNp [v]:=by
 cases v with
 | pt m o=>simp only [fbx0]; cases Nat.beq m n<;>rfl
 | _=>simp only [fbx0]; first | rfl | (rcases (kill_cases n _).1 with e | e<;>rw [e]<;>rfl)
def fbx0K (n:Nat) (cs:List AV):AV→(AV→Prop)→Prop
 | .pt m o,K=>bif Nat.beq m n then forceL (cs.drop o) fun l=>K (.rp l) else K (.pt m o)
 | v,K=>killK n v K
theorem fbx0K_eq (n:Nat) (cs:List AV) (v:AV) (K:AV→Prop):fbx0K n cs v K = K (fbx0 n cs v):=by
 cases v with
 | pt m o=>simp only [fbx0K,fbx0,forceL_eq]; cases Nat.beq m n<;>rfl
 | _=>simp only [fbx0K,fbx0,killK_eq]
def fbx (n:Nat) (cs:List AV):AV→AV
 | .fn f caps=>.fn f (mapC (fbx0 n cs) caps)
 | v=>fbx0 n cs v
def fbxK (n:Nat) (cs:List AV):AV→(AV→Prop)→Prop
 | .fn f caps,K=>mapCK (fbx0K n cs) caps fun caps=>K (.fn f caps)
 | v,K=>fbx0K n cs v K
theorem fbxK_eq (n:Nat) (cs:List AV) (v:AV) (K:AV→Prop):fbxK n cs v K = K (fbx n cs v):=by
 cases v with
 | fn f caps=>exact mapCK_eq (fbx0K_eq n cs) caps _
 | _=>simp only [fbxK,fbx,fbx0K_eq]
theorem ids0_sub {v:AV} {m:Nat} (h:m ∈ ids0 v):m ∈ ids v:=by cases v<;>first | exact h | cases h
theorem fbx0_ids {n:Nat} {cs:List AV} {v:AV} {m:Nat} (h:m ∈ ids0 (fbx0 n cs v)):m ∈ ids0 v∧m≠n:=by
 have key:∀ v,m ∈ ids0 (kill n v)→m ∈ ids0 v∧m≠n:=fun v h=>by
  have h2:=kill_cases n v
  refine ⟨?_,fun e=>h2.2 (by subst e; exact ids0_sub h)⟩
  rcases h2.1 with e | e
  ·rw [e] at h; exact h
  ·rw [e] at h; cases h
 cases v with
 | pt k o =>
  simp only [fbx0] at h
  cases hb:Nat.beq k n with
  | true=>rw [hb] at h; cases h
  | false =>
   rw [hb] at h
   have hm:m = k:=by simpa [ids0] using h
   refine ⟨h,fun e=>?_⟩
   have hkn:k = n:=by omega
   rw [hkn,Nat.beq_refl] at hb
   cases hb
 | _=>simp only [fbx0] at h; exact key _ h
theorem fbx_ids {n:Nat} {cs:List AV} {v:AV} {m:Nat} (h:m ∈ ids (fbx n cs v)):m ∈ ids v∧m≠n:=by
 cases v with
 | fn f caps =>
  obtain ⟨c,hc,hm⟩:=List.mem_flatMap.1 (show m ∈ (mapC (fbx0 n cs) caps).flatMap ids0 from h)
  rw [mapC_eq] at hc
  obtain ⟨c',hc',rfl⟩:=List.mem_map.1 hc
  have:=fbx0_ids hm
  exact ⟨List.mem_flatMap.2 ⟨c',hc',this.1⟩,this.2⟩
 | pt k o =>
  have h:m ∈ ids (fbx0 n cs (.pt k o)):=h
  have h':m ∈ ids0 (fbx0 n cs (.pt k o)):=by
   simp only [fbx0] at h ⊢
   cases hb:Nat.beq k n<;>rw [hb] at h<;>exact h
  have:=fbx0_ids h'
  exact ⟨this.1,this.2⟩
 | _=>simp only [fbx,fbx0] at h; exact kill_ids n _ m h
structure BoxAt (β:Nat→Option Nat) (O':Nat→Prop) (w:World) (n:Nat) (cs:List AV) (g:Nat):Prop where
 b:β n = some g
 o:¬ O' g
 c:∀ (j:Nat) av,cs[j]? = some av→∃ u,w.cell? ⟨g,j,none⟩ = some u∧Im O' w av u∧u.oneCell' = true
theorem Rel0.monoO {O O':Nat→Prop} (hO:∀ k,O' k→O k) {v:AV} {u:Value} (h:Rel0 β O w v u):Rel0 β O' w v u :=
 Rel0.step h (Stp.refl (fun _=>False) w) (fun _ _ h=>h.elim) (fun k _ hk=>hO k hk) (fun _ _=>rfl) (fun _ _ _ _=>rfl)
theorem Rel0.fbx0 {O O':Nat→Prop} {n g:Nat} {cs:List AV} (hb:BoxAt β O' w n cs g) (hO:∀ k,O' k→O k) {v:AV} {u:Value} (h:Rel0 β O w v u):Rel0 β O' w (SX.fbx0 n cs v) u:=by
 have key:∀ v,Rel0 β O w v u→Rel0 β O' w (SX.kill n v) u:=fun v h=>by
  rcases (kill_cases n v).1 with e | e
  ·rw [e]; exact Rel0.monoO hO h
  ·rw [e]; exact Im.x u
 cases v with
 | pt k o =>
  simp only [SX.fbx0]
  cases hk:Nat.beq k n with
  | false=>exact h
  | true =>
   have:=Nat.eq_of_beq_eq_true hk
   subst this
   obtain ⟨g',hg',rfl⟩:=h
   rw [hb.b] at hg'
   injection hg' with hg'
   subst hg'
   refine Im.mk_rp fun j av hj=>⟨hb.o,?_⟩
   rw [List.getElem?_drop] at hj
   exact hb.c (o + j) av hj
 | _=>simp only [SX.fbx0]; exact key _ h
theorem Rel.fbx {O O':Nat→Prop} {n g:Nat} {cs:List AV} (hb:BoxAt β O' w n cs g) (hO:∀ k,O' k→O k) {v:AV} {u:Value} (h:Rel β O w v u):Rel β O' w (SX.fbx n cs v) u:=by
 have key:∀ v,Rel β O w v u→Rel β O' w (SX.kill n v) u:=fun v h=>by
  rcases (kill_cases n v).1 with e | e
  ·rw [e]; exact h.mono hO
  ·rw [e]; exact Rel.x
 cases v with
 | fn f caps =>
  obtain ⟨vs,rfl,h1⟩:=h
  refine ⟨vs,(fnV_of (headNp_mapC (headNp_fbx0 n cs) caps) f vs).symm,by rw [mapC_eq,List.length_map]; exact h1.1,fun j c v hc hv=>?_⟩
  rw [mapC_eq,List.getElem?_map,Option.map_eq_some_iff] at hc
  obtain ⟨c',hc',rfl⟩:=hc
  exact Rel0.fbx0 hb hO (h1.2 j c' v hc' hv)
 | pt k o=>exact Rel.rel0 (Rel0.fbx0 hb hO (show Rel0 β O w (.pt k o) u from h))
 | _=>simp only [SX.fbx,SX.fbx0]; exact key _ h
def St.fbx (s:St) (n:Nat) (cs:List AV):St:=⟨mapV (SX.fbx n cs) s.slots,delL (mapB (SX.fbx n cs) s.boxes) n⟩
theorem Nm.of_fbx {n m:Nat} {cs:List AV} (h:Nm (s.fbx n cs) m):Nm s m∧m≠n:=by
 rcases h with ⟨cs',h⟩ | ⟨q,h⟩ | ⟨b,cs',h,c,hc,hk⟩
 ·simp only [St.fbx,lookB_delL,lookB_mapB] at h
  split at h
  ·cases h
  ·rename_i hne
   obtain ⟨cs0,h1,_⟩:=Option.map_eq_some_iff.1 h
   exact ⟨.inl ⟨cs0,h1⟩,fun e=>hne e.symm⟩
 ·rw [St.fbx,look_mapV _ (show SX.fbx n cs .x = .x from rfl)] at h
  have:=fbx_ids h
  exact ⟨.inr (.inl ⟨q,this.1⟩),this.2⟩
 ·simp only [St.fbx,lookB_delL,lookB_mapB] at h
  split at h
  ·cases h
  ·obtain ⟨cs0,h1,rfl⟩:=Option.map_eq_some_iff.1 h
   rw [mapC_eq] at hc
   obtain ⟨c',hc',rfl⟩:=List.mem_map.1 hc
   have:=fbx_ids hk
   exact ⟨.inr (.inr ⟨b,cs0,h1,c',hc',this.1⟩),this.2⟩
theorem InvB.fbx (h:InvB W0 F X N s β a w) {n:Nat} {cs:List AV} (hn:lookB s.boxes n = some cs) (hi:imAll cs = true) (hf:fnArgs cs = true):InvB W0 F X N (s.fbx n cs) β a w:=by
 obtain ⟨g,us,e,h1,h2,h3⟩:=h.boxes n cs hn
 have hnm:Nm s n:=.inl ⟨cs,hn⟩
 have hO:∀ k,Own X (s.fbx n cs) β k→Own X s β k∧k≠g:=by
  rintro k (hX | ⟨m,hm,hb⟩)
  ·exact ⟨.inl hX,fun e=>h.disj n g hnm h1 (e ▸ hX)⟩
  ·obtain ⟨k1,k2⟩:=Nm.of_fbx hm
   exact ⟨.inr ⟨m,k1,hb⟩,fun e=>k2 (h.inj m n g k1 hnm (e ▸ hb) h1)⟩
 have hbx:BoxAt β (Own X (s.fbx n cs) β) w n cs g:=by
  refine ⟨h1,fun ho=>(hO g ho).2 rfl,fun j av hj=>?_⟩
  have hlt:j < us.toList.length:=by rw [← h3.1]; exact (List.getElem?_eq_some_iff.1 hj).1
  have hr:=h3.2 j av _ hj (List.getElem?_eq_getElem hlt)
  refine ⟨us.toList[j],?_,(im_of_rel hr.1 (imAll_mem hi (List.mem_of_getElem? hj)) (fnArgs_mem hf (List.mem_of_getElem? hj))).mono fun k hk=>(hO k hk).1,hr.2⟩
  rw [cell_of_row w g j us e (0,0) h2,← Array.getElem?_toList,List.getElem?_eq_getElem hlt]
 have hOO:∀ k,Own X (s.fbx n cs) β k→Own X s β k:=fun k hk=>(hO k hk).1
 refine h.upd (Stp.refl (fun _=>False) w) (fun _ _ h=>h.elim) (fun m=>?_) (fun m cs' hcs=>?_) (fun k m g hk hm=>h.inj k m g (Nm.of_fbx hk).1 (Nm.of_fbx hm).1)
  (fun m g hm hg=>h.own m g (Nm.of_fbx hm).1 hg) rfl rfl (fun m cs' g hc hp=>?_)
 ·rw [St.fbx,look_mapV _ (show SX.fbx n cs .x = .x from rfl)]
  exact Rel.fbx hbx hOO (h.slots m)
 ·simp only [St.fbx,lookB_delL,lookB_mapB] at hcs
  split at hcs
  ·cases hcs
  ·obtain ⟨cs0,k1,rfl⟩:=Option.map_eq_some_iff.1 hcs
   obtain ⟨g',us',e',k2,k3,k4⟩:=h.boxes m cs0 k1
   refine ⟨g',us',e',k2,k3,?_⟩
   rw [mapC_eq]
   refine ⟨by simpa using k4.1,fun j c v hc hv=>?_⟩
   rw [List.getElem?_map,Option.map_eq_some_iff] at hc
   obtain ⟨c',hc',rfl⟩:=hc
   exact ⟨Rel.fbx hbx hOO (k4.2 j c' v hc' hv).1,(k4.2 j c' v hc' hv).2⟩
 ·simp only [St.fbx,lookB_delL,lookB_mapB] at hc
  split at hc
  ·cases hc
  ·obtain ⟨cs0,k1,_⟩:=Option.map_eq_some_iff.1 hc
   exact h.pin m cs0 g k1 hp
def stFbxK (n:Nat) (s:St) (K:St→Prop):Prop:=lookBK s.boxes n fun cs=>chkK (imAll cs) (chkK (fnArgs cs) (mapVK (fbxK n cs) s.slots fun sl=>mapBK (fbxK n cs) s.boxes fun b=>delLK b n fun b=>K ⟨sl,b⟩))
def stFbxAllK:List Nat→St→(St→Prop)→Prop
 | [],s,K=>K s
 | n::r,s,K=>stFbxK n s fun s=>stFbxAllK r s K
theorem fbxAll_ok (l:List Nat):∀ {s:St} {K:St→Prop},InvB W0 F X N s β a w→stFbxAllK l s K→∃ s',K s'∧InvB W0 F X N s' β a w:=by
 induction l with
 | nil=>intro s K hI h; exact ⟨s,h,hI⟩
 | cons n r ih =>
  intro s K hI h
  simp only [stFbxAllK,stFbxK] at h
  obtain ⟨cs,h1,h⟩:=(lookBK_iff _ _ _).1 h
  obtain ⟨h2,h⟩:=(chkK_iff _ _).1 h
  obtain ⟨h3,h⟩:=(chkK_iff _ _).1 h
  rw [mapVK_eq (fbxK_eq n cs),mapBK_eq (fbxK_eq n cs),delLK_eq] at h
  exact ih (hI.fbx h1 h2 h3) h
def callFK (P:Program) (N:Nat) (s:St) (f:Operand) (args:List Operand) (dst:Option Nat) (K:St→Prop):Prop :=
 ∃ bs,stFbxAllK bs s fun s=>callK P N s f args dst K
theorem callF_ok (hI : InvB W0 F X N s β a w) {o : Oper} {f : Operand} {args : Array Operand} {ts : Array TypeId} (ho : o.op = .call { callee := .value f, args := args, argTypes := ts }) {K : St → Prop}
  (h:callFK P N s f args.toList o.dst K) {next:Act→World→Prop} {Q:Exit→Act→World→Prop} (hn:∀ s' a' w',K s'→Inv W0 F X N s' a' w'→next a' w'):o.wp P a w next Q:=by
 obtain ⟨bs,h⟩:=h
 obtain ⟨s',h1,h2⟩:=fbxAll_ok bs hI h
 exact call_ok h2 ho h1 hn
end
end Go.SX
end
