/-
  A part of a proof: plain laws and walks, one after the other. No conditions.
-/
import Derived.Test.YtiijpgmpnijidaaGreatDoorSe2
import Derived.Orders
import Derived.Below
import Derived.ChangeSame
import Derived.Deep.Slices
import Derived.Carry
import Derived.DataReads
set_option linter.constructorNameAsVariable false
set_option linter.unusedVariables false
set_option linter.unusedSimpArgs false
set_option linter.unusedSectionVars false
section
namespace Go.Ty
open Go Go.SX Go.Ck Go.Vl Go.Ut
set_option maxRecDepth 100000
abbrev yX:=aT × Int × Bool
abbrev qf:=ab->Int->Bool->yX
def qa (w:qf) (y:ab):Nat->List aT->Int->Bool->List aT × Int × Bool
 | 0,acc,m,g=>(acc,m,g)
 | k + 1,acc,m,g=>if g = true then (acc,m,g) else qa w y k (acc++[(w y m g).1]) (w y m g).2.1 (w y m g).2.2
def jV (w:qf) (y:ab):Nat->List aT->Int->Bool->List aT × Int × Bool
 | 0,acc,m,g=>(acc,m,g)
 | k + 1,acc,m,g=>jV w y k (acc++[(w y m g).1]) (w y m g).2.1 (w y m g).2.2
def mK (w:qf):List gL->List kA->Int->Bool->List kA × Int × Bool
 | [],acc,m,g=>(acc,m,g)
 | f::r,acc,m,g=>if gM f = true then mK w r (acc++[(f.name,(w f.t m g).1)]) (w f.t m g).2.1 (w f.t m g).2.2 else mK w r acc m g
def bare (k:Int):aT:=⟨k,0,0,[],[],[]⟩
def oH (w:qf) (x:ab) (m:Int):yX :=
 if x.kind = 3 then (bare 1,m,false) else if x.kind = 4 then (⟨2,min (max 0 x.lo) x.hi,0,[],[],[]⟩,m,false) else if x.kind = 5 then (bare 3,m,false)
 else if x.kind = 6 then (if 4000 < x.lo then (zeroV,m,true) else (⟨4,0,0,List.replicate x.lo.toNat 97,[],[]⟩,m,false)) else if x.kind = 7 then (⟨4,0,0,x.texts.getD 0 [],[],[]⟩,m,false)
 else if x.kind = 8 then (⟨5,0,0,[],(qa w (x.t.getD 0 (aD .typ)) x.lo.toNat [] m (decide (200 < x.lo))).1,[]⟩,(qa w (x.t.getD 0 (aD .typ)) x.lo.toNat [] m (decide (200 < x.lo))).2)
 else if x.kind = 9 then (bare 6,m,false) else if x.kind = 10 then (⟨6,0,0,[],[],(mK w x.f [] m false).1⟩,(mK w x.f [] m false).2) else (zeroV,m,false)
def kr (w:qf) (x:ab) (m:Int):yX :=
 if x.kind = 3 then (bare 1,m,false) else if x.kind = 4 then (⟨2,if x.hi < 0 then x.hi else if 0 < x.lo then x.lo else 0,0,[],[],[]⟩,m,false) else if x.kind = 5 then (bare 3,m,false)
 else if x.kind = 6 then (if 4000 < x.lo then (zeroV,m,true) else (⟨4,0,0,List.replicate x.lo.toNat 97,[],[]⟩,m,false)) else if x.kind = 7 then (⟨4,0,0,x.texts.getD 0 [],[],[]⟩,m,false)
 else if x.kind = 8 then (if 200 < x.lo then (bare 5,m,true) else (⟨5,0,0,[],(jV w (x.t.getD 0 (aD .typ)) x.lo.toNat [] m false).1,[]⟩,(jV w (x.t.getD 0 (aD .typ)) x.lo.toNat [] m false).2))
 else if x.kind = 9 then (bare 6,m,false) else if x.kind = 10 then (⟨6,0,0,[],[],(mK w x.f [] m false).1⟩,(mK w x.f [] m false).2) else (zeroV,m,false)
section
variable (C:ab->List ab) (R:ab->Int)
def GL:Nat->qf
 | 0,_,m,_=>(zeroV,m + 1,true)
 | n + 1,t,m,g=>if g = true\/2000 < m + 1 then (zeroV,m + 1,true) else match (C t).find? fun x=>R x == R t with
  | none=>(zeroV,m + 1,false)
  | some x=>oH (GL n) x (m + 1)
def qS:Nat->qf
 | 0,_,m,_=>(zeroV,m + 1,true)
 | n + 1,t,m,g=>if g = true\/2000 < m + 1 then (zeroV,m + 1,true) else match (C t).find? fun x=>R x == R t with
  | none=>(zeroV,m + 1,false)
  | some x=>kr (qS n) x (m + 1)
end
def Dk (U:ab->Prop) (w w':qf):Prop:=∀ t m g,U t->((w t m g).2.2 = (w' t m g).2.2)/\((w t m g).2.2 = false->w t m g = w' t m g)
def oL (w:qf):Prop:=∀ t m,(w t m true).2.2 = true
theorem va {w:qf} (h:oL w) (y:ab):∀ (k:Nat) (acc:List aT) (m:Int),(jV w y k acc m true).2.2 = true
 | 0,_,_=>rfl
 | k + 1,acc,m=>by rw [jV,h y m]; exact va h y k _ _
theorem nu {w:qf} (h:oL w):∀ (r:List gL) (acc:List kA) (m:Int),(mK w r acc m true).2.2 = true
 | [],_,_=>rfl
 | f::r,acc,m=>by
  rw [mK]
  split
  ·rw [h f.t m]; exact nu h r _ _
  ·exact nu h r _ _
theorem xn {U:ab->Prop} {w w':qf} (h:Dk U w w') (hs:oL w') {y:ab} (hy:U y):∀ (k:Nat) (acc:List aT) (m:Int),(qa w y k acc m false).2.2 = (jV w' y k acc m false).2.2/\((qa w y k acc m false).2.2 = false->qa w y k acc m false = jV w' y k acc m false)
 | 0,_,_=>⟨rfl,fun _=>rfl⟩
 | k + 1,acc,m=>by
  obtain ⟨h1,h2⟩:=h y m false hy
  rw [qa,jV,if_neg (by decide)]
  by_cases c:(w y m false).2.2 = false
  ·rw [<- h2 c,c]
   exact xn h hs hy k _ _
  ·have c:(w y m false).2.2 = true:=by simpa using c
   rw [<- h1,c,va hs]
   have e:qa w y k (acc++[(w y m false).1]) (w y m false).2.1 true = (acc++[(w y m false).1],(w y m false).2.1,true):=by
    cases k with
    | zero=>rw [qa]
    | succ k=>rw [qa,if_pos rfl]
   rw [e]
   exact ⟨rfl,fun h=>absurd h (by simp)⟩
theorem qR {U:ab->Prop} {w w':qf} (h:Dk U w w') (hs:oL w) (Px:oL w'):∀ (r:List gL) (acc:List kA) (m:Int),(∀ f ∈ r,U f.t)->(mK w r acc m false).2.2 = (mK w' r acc m false).2.2/\((mK w r acc m false).2.2 = false->mK w r acc m false = mK w' r acc m false)
 | [],_,_,_=>⟨rfl,fun _=>rfl⟩
 | f::r,acc,m,hu=>by
  obtain ⟨h1,h2⟩:=h f.t m false (hu f (.head _))
  rw [mK,mK]
  by_cases a:gM f = true
  ·rw [if_pos a,if_pos a]
   by_cases c:(w f.t m false).2.2 = false
   ·rw [<- h2 c,c]
    exact qR h hs Px r _ _ fun f hf=>hu f (.tail _ hf)
   ·have c:(w f.t m false).2.2 = true:=by simpa using c
    rw [<- h1,c,nu hs,nu Px]
    exact ⟨rfl,fun h=>absurd h (by simp)⟩
  ·rw [if_neg a,if_neg a]
   exact qR h hs Px r _ _ fun f hf=>hu f (.tail _ hf)
theorem Gj {U:ab->Prop} {w w':qf} (h:Dk U w w') (hs:oL w) (Px:oL w') {x:ab} (hx:x.kind = 4->x.lo<=x.hi) (h8:x.kind = 8->U (x.t.getD 0 (aD .typ))) (gQ:∀ f ∈ x.f,U f.t) (m:Int):(oH w x m).2.2 = (kr w' x m).2.2/\((oH w x m).2.2 = false->oH w x m = kr w' x m):=by
 unfold oH kr
 by_cases k3:x.kind = 3
 ·rw [if_pos k3,if_pos k3]; exact ⟨rfl,fun _=>rfl⟩
 rw [if_neg k3,if_neg k3]
 by_cases k4:x.kind = 4
 ·rw [if_pos k4,if_pos k4]
  have:=hx k4
  have e:min (max 0 x.lo) x.hi = if x.hi < 0 then x.hi else if 0 < x.lo then x.lo else 0:=by split<;>(try split)<;>omega
  rw [e]
  exact ⟨rfl,fun _=>rfl⟩
 rw [if_neg k4,if_neg k4]
 by_cases k5:x.kind = 5
 ·rw [if_pos k5,if_pos k5]; exact ⟨rfl,fun _=>rfl⟩
 rw [if_neg k5,if_neg k5]
 by_cases k6:x.kind = 6
 ·rw [if_pos k6,if_pos k6]; exact ⟨rfl,fun _=>rfl⟩
 rw [if_neg k6,if_neg k6]
 by_cases k7:x.kind = 7
 ·rw [if_pos k7,if_pos k7]; exact ⟨rfl,fun _=>rfl⟩
 rw [if_neg k7,if_neg k7]
 by_cases k8:x.kind = 8
 ·rw [if_pos k8,if_pos k8]
  by_cases c:200 < x.lo
  ·rw [if_pos c,decide_eq_true c]
   have e:qa w (x.t.getD 0 (aD .typ)) x.lo.toNat [] m true = ([],m,true):=by
    cases x.lo.toNat with
    | zero=>rw [qa]
    | succ k=>rw [qa,if_pos rfl]
   rw [e]
   exact ⟨rfl,fun h=>absurd h (by simp)⟩
  ·rw [if_neg c,decide_eq_false c]
   obtain ⟨h1,h2⟩:=xn h Px (h8 k8) x.lo.toNat [] m
   refine ⟨h1,fun h3=>?_⟩
   rw [h2 h3]
 rw [if_neg k8,if_neg k8]
 by_cases k9:x.kind = 9
 ·rw [if_pos k9,if_pos k9]; exact ⟨rfl,fun _=>rfl⟩
 rw [if_neg k9,if_neg k9]
 by_cases k10:x.kind = 10
 ·rw [if_pos k10,if_pos k10]
  obtain ⟨h1,h2⟩:=qR h hs Px x.f [] m gQ
  refine ⟨h1,fun h3=>?_⟩
  rw [h2 h3]
 ·rw [if_neg k10,if_neg k10]; exact ⟨rfl,fun _=>rfl⟩
theorem Gk (C:ab->List ab) (R:ab->Int):∀ n,oL (GL C R n)
 | 0=>fun _ _=>rfl
 | n + 1=>fun t m=>by rw [GL,if_pos (.inl rfl)]
theorem CY (C:ab->List ab) (R:ab->Int):∀ n,oL (qS C R n)
 | 0=>fun _ _=>rfl
 | n + 1=>fun t m=>by rw [qS,if_pos (.inl rfl)]
theorem Bp (C:ab->List ab) (R:ab->Int) {U:ab->Prop} (hC:∀ t,U t->∀ x ∈ C t,(x.kind = 4->x.lo<=x.hi)/\(x.kind = 8->U (x.t.getD 0 (aD .typ)))/\∀ f ∈ x.f,U f.t):∀ n,Dk U (GL C R n) (qS C R n)
 | 0=>fun _ _ _ _=>⟨rfl,fun _=>rfl⟩
 | n + 1=>fun t m g ht=>by
  rw [GL,qS]
  by_cases c:g = true\/2000 < m + 1
  ·rw [if_pos c,if_pos c]; exact ⟨rfl,fun _=>rfl⟩
  ·rw [if_neg c,if_neg c]
   cases e:(C t).find? fun x=>R x == R t with
   | none=>exact ⟨rfl,fun _=>rfl⟩
   | some x =>
    obtain ⟨h4,h8,gQ⟩:=hC t ht x (List.mem_of_find?_eq_some e)
    exact Gj (Bp C R hC n) (Gk C R n) (CY C R n) h4 h8 gQ (m + 1)
end Go.Ty
end
section
namespace Go.Ty
open Go Go.SX Go.Ck Go.Vl Go.Ut
set_option maxRecDepth 100000
abbrev a7:=List (aH × Int)
def aG (es:a7) (k:aH):Int:=(cf (κ:=.str) (τ:=.int) es k).getD 0
def ib (es:a7) (k:aH) (v:Int):a7:=gS (κ:=.str) (τ:=.int) es k v
theorem jH (es:a7) (k:aH) (v:Int) (q:aH):aG (ib es k v) q = if q = k then v else aG es q:=by
 induction es with
 | nil =>
  show (cf (κ:=.str) (τ:=.int) [(k,v)] q).getD 0 = _
  rw [cf,gA]
  by_cases h:q = k
  ·rw [decide_eq_true h,if_pos h]; rfl
  ·rw [decide_eq_false h,if_neg h]; rfl
 | cons p r ih =>
  obtain ⟨a,u⟩:=p
  unfold ib aG at *
  rw [gS,gA]
  by_cases h:k = a
  ·rw [decide_eq_true h]
   simp only [cond_true]
   rw [cf,cf,gA,gA]
   by_cases h1:q = k
   ·rw [decide_eq_true h1,if_pos h1]; rfl
   ·rw [decide_eq_false h1,if_neg h1,decide_eq_false (fun h2=>h1 (h2.trans h.symm))]; rfl
  ·rw [decide_eq_false h]
   simp only [cond_false]
   rw [cf,cf,gA]
   by_cases h1:q = a
   ·rw [decide_eq_true h1,if_neg (fun h2:q = k=>h (h2.symm.trans h1))]
    simp
   ·rw [decide_eq_false h1]
    simp only [cond_false]
    exact ih
def dH (n:aH) (d:Nat):aH:=n++[0,UInt8.ofNat d,UInt8.ofNat (d / 256)]
theorem IM {n n':aH} {d d':Nat} (hd:d < 65536) (Lv:d' < 65536) (h:dH n d = dH n' d'):n = n'/\d = d':=by
 unfold dH at h
 obtain ⟨h1,h2⟩:=List.append_inj' h rfl
 refine ⟨h1,?_⟩
 simp only [List.cons.injEq,true_and,and_true] at h2
 have e1:d % 256 = d' % 256:=by have:=congrArg UInt8.toNat h2.1; simpa using this
 have e2:d / 256 % 256 = d' / 256 % 256:=by have:=congrArg UInt8.toNat h2.2; simpa using this
 omega
def yY (h:ab->a7->Bool × a7) (d:Nat) (t:ab) (es:a7):Bool × a7 :=
 if t.kind≠12 then h t es
 else if aG es (dH t.name d) = 0 then
  (decide (aG (if (h t (ib es (dH t.name d) 1)).1 = true then ib (h t (ib es (dH t.name d) 1)).2 (dH t.name d) 2 else (h t (ib es (dH t.name d) 1)).2) (dH t.name d) = 2),
   if (h t (ib es (dH t.name d) 1)).1 = true then ib (h t (ib es (dH t.name d) 1)).2 (dH t.name d) 2 else (h t (ib es (dH t.name d) 1)).2)
 else (decide (aG es (dH t.name d) = 2),es)
def xX (e:ab->a7->Bool × a7):List gL->Bool->a7->Bool × a7
 | [],ok,es=>(ok,es)
 | f::r,ok,es=>if gM f = true then (if ok = true then xX e r (e f.t es).1 (e f.t es).2 else xX e r false es) else xX e r ok es
def CI (e:ab->a7->Bool × a7) (x:ab) (es:a7):Bool × a7 :=
 if x.kind = 8 then (if x.lo = 0 then (true,es) else e (x.t.getD 0 (aD .typ)) es) else if x.kind = 10 then xX e x.f true es else (true,es)
def CK (e:ab->a7->Bool × a7):List ab->a7->Bool × a7
 | [],es=>(false,es)
 | x::r,es=>if (CI e x es).1 = true then (true,(CI e x es).2) else CK e r (CI e x es).2
def QJ (C:ab->List ab):Nat->ab->a7->Bool × a7
 | 0,_,es=>(false,es)
 | d + 1,t,es=>CK (yY (QJ C d) d) (C t) es
def iZ (l:List az) (d:Nat) (es:a7):Prop:=∀ n e,e < d->0<=cq l n->aG es (dH n e) = 0\/(aG es (dH n e) = 2/\di l e (bo l n))\/(aG es (dH n e) = 1/\¬ di l e (bo l n))
def dj (d:Nat) (es fs:a7):Prop:=∀ n e,d<=e->e < 65536->aG fs (dH n e) = aG es (dH n e)
theorem dj.refl (d:Nat) (es:a7):dj d es es:=fun _ _ _ _=>rfl
theorem dj.trans {d:Nat} {es fs gs:a7} (h:dj d es fs) (k:dj d fs gs):dj d es gs:=fun n e h1 h2=>(k n e h1 h2).trans (h n e h1 h2)
def sP (l:List az) (U:ab->Prop) (d k:Nat) (e:ab->a7->Bool × a7):Prop:=∀ t es,U t->iZ l k es->((e t es).1 = true↔di l d t)/\iZ l k (e t es).2/\dj k es (e t es).2
section
variable {l:List az} {U:ab->Prop}
theorem uo {d k:Nat} {es:a7} (h:iZ l k es) (hd:d<=k):iZ l d es:=fun n e he=>h n e (by omega)
theorem jf {d:Nat} {t:ab} (h:t.kind = 12):di l d t↔di l d (bo l t.name):=by
 refine ⟨fun hh=>?_,tO h⟩
 cases d with
 | zero=>rw [di] at hh; exact hh.elim
 | succ d =>
  rw [di] at hh ⊢
  obtain ⟨n,y,h1,h2⟩:=hh
  obtain ⟨m,_,h3⟩:=h1.yq h
  exact ⟨m,y,h3,h2⟩
theorem Fl (hU:∀ t,U t->GT l t) {h:ab->a7->Bool × a7} {d:Nat} (hd:d < 65536) (hh:sP l U d d h):sP l U d (d + 1) (yY h d):=by
 intro t es ht hm
 unfold yY
 by_cases k:t.kind≠12
 ·rw [if_pos k]
  obtain ⟨h1,h2,h3⟩:=hh t es ht (uo hm (Nat.le_succ d))
  refine ⟨h1,fun n e he hn=>?_,fun n e he=>h3 n e (by omega)⟩
  by_cases c:e < d
  ·exact h2 n e c hn
  ·rw [h3 n e (by omega) (by omega)]
   exact hm n e he hn
 rw [if_neg k]
 have k:t.kind = 12:=by simpa using k
 have Ih:=(hU t ht).name k
 have kin:∀ n e,e < 65536->dH n e = dH t.name d->n = t.name/\e = d:=fun n e he h=>IM he hd h
 by_cases z:aG es (dH t.name d) = 0
 ·rw [if_pos z]
  have Ao:iZ l d (ib es (dH t.name d) 1):=fun n e he hn=>by
   rw [jH,if_neg (fun c=>by have:=(kin n e (by omega) c).2; omega)]
   exact hm n e (by omega) hn
  obtain ⟨h1,h2,h3⟩:=hh t (ib es (dH t.name d) 1) ht Ao
  have h1:=h1.trans (jf k)
  have hk:aG (h t (ib es (dH t.name d) 1)).2 (dH t.name d) = 1:=by rw [h3 t.name d (Nat.le_refl _) hd,jH,if_pos rfl]
  have ho:∀ n e,d<=e->e < 65536->dH n e≠dH t.name d->aG (h t (ib es (dH t.name d) 1)).2 (dH n e) = aG es (dH n e):=fun n e h4 h5 h6=>by rw [h3 n e h4 h5,jH,if_neg h6]
  generalize h t (ib es (dH t.name d) 1) = r at *
  by_cases c:r.1 = true
  ·rw [if_pos c,jH,if_pos rfl]
   refine ⟨?_,fun n e he hn=>?_,fun n e he TT=>?_⟩
   ·rw [jf k]
    exact ⟨fun _=>h1.1 c,fun _=>rfl⟩
   ·rw [jH]
    by_cases q:dH n e = dH t.name d
    ·obtain ⟨e1,e2⟩:=kin n e (by omega) q
     rw [if_pos q,e1,e2]
     exact .inr (.inl ⟨rfl,h1.1 c⟩)
    ·rw [if_neg q]
     by_cases c2:e < d
     ·exact h2 n e c2 hn
     ·rw [ho n e (by omega) (by omega) q]
      exact hm n e he hn
   ·have q:dH n e≠dH t.name d:=fun q=>by have:=(kin n e TT q).2; omega
    rw [jH,if_neg q]
    exact ho n e (by omega) TT q
  ·rw [if_neg c,hk]
   refine ⟨?_,fun n e he hn=>?_,fun n e he TT=>?_⟩
   ·rw [jf k]
    exact ⟨fun h=>absurd h (by simp),fun h=>absurd (h1.2 h) c⟩
   ·by_cases q:dH n e = dH t.name d
    ·obtain ⟨e1,e2⟩:=kin n e (by omega) q
     rw [e1,e2,hk]
     exact .inr (.inr ⟨rfl,fun h=>c (h1.2 h)⟩)
    ·by_cases c2:e < d
     ·exact h2 n e c2 hn
     ·rw [ho n e (by omega) (by omega) q]
      exact hm n e he hn
   ·exact ho n e (by omega) TT fun q=>by have:=(kin n e TT q).2; omega
 ·rw [if_neg z]
  refine ⟨?_,hm,dj.refl _ _⟩
  rw [jf k]
  rcases hm t.name d (Nat.lt_succ_self d) Ih with c | c | c
  ·exact absurd c z
  ·rw [c.1]; exact ⟨fun _=>c.2,fun _=>rfl⟩
  ·rw [c.1]; exact ⟨fun h=>absurd (show decide ((1:Int) = 2) = true from h) (by decide),fun h=>absurd h c.2⟩
theorem na {e : ab -> a7 -> Bool × a7} {d k : Nat} (he : sP l U d k e) : ∀ (r : List gL) (ok : Bool) (es : a7), (∀ f ∈ r, U f.t) -> iZ l k es ->
  ((xX e r ok es).1 = true↔ok = true/\∀ f ∈ r,gM f = true->di l d f.t)/\iZ l k (xX e r ok es).2/\dj k es (xX e r ok es).2
 | [],ok,es,_,hm=>by rw [xX]; exact ⟨⟨fun h=>⟨h,fun _ h=>nomatch h⟩,And.left⟩,hm,dj.refl _ _⟩
 | f::r,ok,es,hu,hm=>by
  rw [xX]
  have iN:=fun g (hg:g ∈ r)=>hu g (.tail _ hg)
  by_cases a:gM f = true
  ·rw [if_pos a]
   by_cases o:ok = true
   ·rw [if_pos o]
    obtain ⟨h1,h2,h3⟩:=he f.t es (hu f (.head _)) hm
    obtain ⟨g1,g2,g3⟩:=na he r (e f.t es).1 (e f.t es).2 iN h2
    refine ⟨g1.trans ?_,g2,h3.trans g3⟩
    rw [h1]
    constructor
    ·rintro ⟨c1,c2⟩
     refine ⟨o,fun g hg ha=>?_⟩
     rcases List.mem_cons.1 hg with rfl | hg
     ·exact c1
     ·exact c2 g hg ha
    ·exact fun c=>⟨c.2 f (.head _) a,fun g hg ha=>c.2 g (.tail _ hg) ha⟩
   ·rw [if_neg o]
    obtain ⟨g1,g2,g3⟩:=na he r false es iN hm
    refine ⟨g1.trans ?_,g2,g3⟩
    exact ⟨fun c=>absurd c.1 (by decide),fun c=>absurd c.1 o⟩
  ·rw [if_neg a]
   obtain ⟨g1,g2,g3⟩:=na he r ok es iN hm
   refine ⟨g1.trans ?_,g2,g3⟩
   constructor
   ·rintro ⟨c1,c2⟩
    refine ⟨c1,fun g hg ha=>?_⟩
    rcases List.mem_cons.1 hg with rfl | hg
    ·exact absurd ha a
    ·exact c2 g hg ha
   ·exact fun c=>⟨c.1,fun g hg ha=>c.2 g (.tail _ hg) ha⟩
def PR (l:List az) (d:Nat) (y:ab):Prop:=(y.kind = 8->y.lo = 0\/di l d (y.t.getD 0 (aD .typ)))/\(y.kind = 10->∀ f ∈ y.f,gM f = true->di l d f.t)
theorem FR {e : ab -> a7 -> Bool × a7} {d k : Nat} (he : sP l U d k e) {x : ab} (h8 : x.kind = 8 -> U (x.t.getD 0 (aD .typ))) (gQ : ∀ f ∈ x.f, U f.t) {es : a7} (hm : iZ l k es) :
  ((CI e x es).1 = true↔PR l d x)/\iZ l k (CI e x es).2/\dj k es (CI e x es).2:=by
 unfold CI PR
 by_cases k8:x.kind = 8
 ·rw [if_pos k8]
  by_cases z:x.lo = 0
  ·rw [if_pos z]
   exact ⟨⟨fun _=>⟨fun _=>.inl z,fun c=>absurd (k8.symm.trans c) (by decide)⟩,fun _=>rfl⟩,hm,dj.refl _ _⟩
  ·rw [if_neg z]
   obtain ⟨h1,h2,h3⟩:=he _ es (h8 k8) hm
   refine ⟨h1.trans ?_,h2,h3⟩
   exact ⟨fun c=>⟨fun _=>.inr c,fun c=>absurd (k8.symm.trans c) (by decide)⟩,fun c=>(c.1 k8).resolve_left z⟩
 rw [if_neg k8]
 by_cases k10:x.kind = 10
 ·rw [if_pos k10]
  obtain ⟨h1,h2,h3⟩:=na he x.f true es gQ hm
  refine ⟨h1.trans ?_,h2,h3⟩
  exact ⟨fun c=>⟨fun q=>absurd q k8,fun _=>c.2⟩,fun c=>⟨rfl,c.2 k10⟩⟩
 ·rw [if_neg k10]
  exact ⟨⟨fun _=>⟨fun q=>absurd q k8,fun q=>absurd q k10⟩,fun _=>rfl⟩,hm,dj.refl _ _⟩
theorem xd {e : ab -> a7 -> Bool × a7} {d k : Nat} (he : sP l U d k e) : ∀ (ps : List ab) (es : a7), (∀ x ∈ ps, (x.kind = 8 -> U (x.t.getD 0 (aD .typ))) /\ ∀ f ∈ x.f, U f.t) -> iZ l k es ->
  ((CK e ps es).1 = true↔∃ x ∈ ps,PR l d x)/\iZ l k (CK e ps es).2/\dj k es (CK e ps es).2
 | [],es,_,hm=>by rw [CK]; exact ⟨⟨fun h=>Bool.noConfusion (show false = true from h),fun ⟨_,h,_⟩=>nomatch h⟩,hm,dj.refl _ _⟩
 | x::r,es,hu,hm=>by
  obtain ⟨h1,h2,h3⟩:=FR he (hu x (.head _)).1 (hu x (.head _)).2 hm
  rw [CK]
  by_cases c:(CI e x es).1 = true
  ·rw [if_pos c]
   exact ⟨⟨fun _=>⟨x,.head _,h1.1 c⟩,fun _=>rfl⟩,h2,h3⟩
  ·rw [if_neg c]
   obtain ⟨g1,g2,g3⟩:=xd he r (CI e x es).2 (fun y hy=>hu y (.tail _ hy)) h2
   refine ⟨g1.trans ?_,g2,h3.trans g3⟩
   constructor
   ·rintro ⟨y,hy,q⟩
    exact ⟨y,.tail _ hy,q⟩
   ·rintro ⟨y,hy,q⟩
    rcases List.mem_cons.1 hy with rfl | hy
    ·exact absurd (h1.2 q) c
    ·exact ⟨y,hy,q⟩
theorem wU (hU:∀ t,U t->GT l t) {C:ab->List ab} (hC:∀ t,U t->∀ y,y ∈ C t↔∃ n,Reach l n t y) (hP:∀ t,U t->∀ x ∈ C t,(x.kind = 8->U (x.t.getD 0 (aD .typ)))/\∀ f ∈ x.f,U f.t):∀ d,d < 65536->sP l U d d (QJ C d)
 | 0,_=>fun t es _ hm=>by rw [QJ,di]; exact ⟨⟨fun h=>Bool.noConfusion (show false = true from h),False.elim⟩,hm,dj.refl _ _⟩
 | d + 1,hd=>fun t es ht hm=>by
  obtain ⟨h1,h2,h3⟩:=xd (Fl hU (by omega) (wU hU hC hP d (by omega))) (C t) es (hP t ht) hm
  rw [QJ]
  refine ⟨h1.trans ?_,h2,h3⟩
  rw [di]
  constructor
  ·rintro ⟨y,hy,q⟩
   obtain ⟨n,hn⟩:=(hC t ht y).1 hy
   exact ⟨n,y,hn,q⟩
  ·rintro ⟨n,y,hn,q⟩
   exact ⟨y,(hC t ht y).2 ⟨n,hn⟩,q⟩
end
end Go.Ty
end
section
namespace Go.Up
open Go.SX Go.Vl Go.Ut Go.Ck
def zeroV:aT:=⟨0,0,0,[],[],[]⟩
end Go.Up
end
section
namespace Go.Df
open Go Go.SX Go.Vl Go.Ck Go.Up
set_option maxRecDepth 100000
def nd (v:aT):Int:=(cu v).2
def cP (l:List aT):Int:=(l.map nd).sum
theorem nd_pos (v:aT):1<=nd v:=by have:=nA v; unfold nd; omega
theorem dt (x:aT) (l:List aT):cP (x::l) = nd x + cP l:=by unfold cP; rw [List.map_cons,List.sum_cons]
theorem vr (l m:List aT):cP (l++m) = cP l + cP m:=by unfold cP; rw [List.map_append,List.sum_append]
theorem wJ:∀ (l:List aT) (p:Int × Int),(fM l p).2 = p.2 + cP l
 | [],p=>by show p.2 = p.2 + 0; omega
 | x::l,p=>by
  show (fM l (nU p (cu x))).2 = _
  rw [wJ l,dt]
  show p.2 + (cu x).2 + cP l = p.2 + ((cu x).2 + cP l)
  omega
theorem nd_eq (v:aT):nd v = 1 + cP (partsOf v):=by
 unfold nd
 rw [pQ]
 exact wJ _ _
theorem QW {v x:aT} (h:x ∈ v.l):nd x < nd v:=(nz v).2 x (List.mem_append_left _ h)
theorem QV {v:aT} {p:kA} (h:p ∈ v.e):nd p.2 < nd v:=(nz v).2 p.2 (List.mem_append_right _ (List.mem_map_of_mem h))
/-! ### the least of three ways -/
def m3 (a b c:Int):Int:=if c < (if b < a then b else a) then c else if b < a then b else a
def ed (d:aT->aT->Int):List aT->List aT->Int
 | [],[]=>0
 | [],y::ys=>ed d [] ys + nd y
 | x::xs,[]=>ed d xs [] + nd x
 | x::xs,y::ys=>m3 (ed d xs (y::ys) + nd x) (ed d (x::xs) ys + nd y) (ed d xs ys + d x y)
 termination_by xs ys=>xs.length + ys.length
inductive Al (d:aT->aT->Int):List aT->List aT->Int->Prop
 | nil:Al d [] [] 0
 | drop {xs ys:List aT} {c:Int} (x:aT):Al d xs ys c->Al d (x::xs) ys (c + nd x)
 | ins {xs ys:List aT} {c:Int} (y:aT):Al d xs ys c->Al d xs (y::ys) (c + nd y)
 | sub {xs ys:List aT} {c:Int} (x y:aT):Al d xs ys c->Al d (x::xs) (y::ys) (c + d x y)
/-! ### wQ far -/
/-! ### the n8 -/
end Go.Df
end
section
namespace Go.SX
variable [Globs]
section
variable {P:Program} {N:Nat} {Γ:Ctx} {W0:World} {F:Fr} {X:Nat->Prop} {s:St} {β:Nat->Option Nat} {a:Act} {w:World}

def jE (n:Nat) (cs:List AV):AV->AV
 | .pt m o=>bif Nat.beq m n then .rp (cs.drop o) else .pt m o
 | v=>kill n v
theorem Ac (n:Nat) (cs:List AV) (v:AV):bQ [jE n cs v] = bQ [v]:=by
 cases v with
 | pt m o=>simp only [jE]; cases Nat.beq m n<;>rfl
 | _=>simp only [jE]; first | rfl | (rcases (fX n _).1 with e | e<;>rw [e]<;>rfl)
def zK (n:Nat) (cs:List AV):AV->(AV->Prop)->Prop
 | .pt m o,K=>bif Nat.beq m n then iS (cs.drop o) fun l=>K (.rp l) else K (.pt m o)
 | v,K=>kg n v K
theorem zL (n:Nat) (cs:List AV) (v:AV) (K:AV->Prop):zK n cs v K = K (jE n cs v):=by
 cases v with
 | pt m o=>simp only [zK,jE,nb]; cases Nat.beq m n<;>rfl
 | _=>simp only [zK,jE,mr]
def qo (n:Nat) (cs:List AV):AV->AV
 | .fn f ak=>.fn f (ez (jE n cs) ak)
 | v=>jE n cs v
def Ml (n:Nat) (cs:List AV):AV->(AV->Prop)->Prop
 | .fn f ak,K=>lR (zK n cs) ak fun ak=>K (.fn f ak)
 | v,K=>zK n cs v K
theorem DD (n:Nat) (cs:List AV) (v:AV) (K:AV->Prop):Ml n cs v K = K (qo n cs v):=by
 cases v with
 | fn f ak=>exact gE (zL n cs) ak _
 | _=>simp only [Ml,qo,zL]
theorem IH {v:AV} {m:Nat} (h:m ∈ aw v):m ∈ ids v:=by cases v<;>first | exact h | cases h
theorem zM {n:Nat} {cs:List AV} {v:AV} {m:Nat} (h:m ∈ aw (jE n cs v)):m ∈ aw v/\m≠n:=by
 have key:∀ v,m ∈ aw (kill n v)->m ∈ aw v/\m≠n:=fun v h=>by
  have h2:=fX n v
  refine ⟨?_,fun e=>h2.2 (by subst e; exact IH h)⟩
  rcases h2.1 with e | e
  ·rw [e] at h; exact h
  ·rw [e] at h; cases h
 cases v with
 | pt k o =>
  simp only [jE] at h
  cases hb:Nat.beq k n with
  | true=>rw [hb] at h; cases h
  | false =>
   rw [hb] at h
   have hm:m = k:=by simpa [aw] using h
   refine ⟨h,fun e=>?_⟩
   have V3:k = n:=by omega
   rw [V3,Nat.beq_refl] at hb
   cases hb
 | _=>simp only [jE] at h; exact key _ h
theorem DE {n:Nat} {cs:List AV} {v:AV} {m:Nat} (h:m ∈ ids (qo n cs v)):m ∈ ids v/\m≠n:=by
 cases v with
 | fn f ak =>
  obtain ⟨c,hc,hm⟩:=List.mem_flatMap.1 (show m ∈ (ez (jE n cs) ak).flatMap aw from h)
  rw [bz] at hc
  obtain ⟨c',dv,rfl⟩:=List.mem_map.1 hc
  have:=zM hm
  exact ⟨List.mem_flatMap.2 ⟨c',dv,this.1⟩,this.2⟩
 | pt k o =>
  have h:m ∈ ids (jE n cs (.pt k o)):=h
  have h':m ∈ aw (jE n cs (.pt k o)):=by
   simp only [jE] at h ⊢
   cases hb:Nat.beq k n<;>rw [hb] at h<;>exact h
  have:=zM h'
  exact ⟨this.1,this.2⟩
 | _=>simp only [qo,jE] at h; exact fg n _ m h
structure GN (β:Nat->Option Nat) (O':Nat->Prop) (w:World) (n:Nat) (cs:List AV) (g:Nat):Prop where
 b:β n = some g
 o:¬ O' g
 c:∀ (j:Nat) av,cs[j]? = some av->∃ u,w.cell? ⟨g,j,none⟩ = some u/\Im O' w av u/\u.oneCell' = true
theorem cj.U6 {O O':Nat->Prop} (hO:∀ k,O' k->O k) {v:AV} {u:Value} (h:cj β O w v u):cj β O' w v u :=
 cj.step h (ca.refl (fun _=>False) w) (fun _ _ h=>h.elim) (fun k _ hk=>hO k hk) (fun _ _=>rfl) (fun _ _ _ _=>rfl)
theorem cj.jE {O O':Nat->Prop} {n g:Nat} {cs:List AV} (hb:GN β O' w n cs g) (hO:∀ k,O' k->O k) {v:AV} {u:Value} (h:cj β O w v u):cj β O' w (SX.jE n cs v) u:=by
 have key:∀ v,cj β O w v u->cj β O' w (SX.kill n v) u:=fun v h=>by
  rcases (fX n v).1 with e | e
  ·rw [e]; exact cj.U6 hO h
  ·rw [e]; exact Im.x u
 cases v with
 | pt k o =>
  simp only [SX.jE]
  cases hk:Nat.beq k n with
  | false=>exact h
  | true =>
   have:=Nat.eq_of_beq_eq_true hk
   subst this
   obtain ⟨g',kL,rfl⟩:=h
   rw [hb.b] at kL
   injection kL with kL
   subst kL
   refine Im.ur fun j av hj=>⟨hb.o,?_⟩
   rw [List.getElem?_drop] at hj
   exact hb.c (o + j) av hj
 | _=>simp only [SX.jE]; exact key _ h
theorem Rel.qo {O O':Nat->Prop} {n g:Nat} {cs:List AV} (hb:GN β O' w n cs g) (hO:∀ k,O' k->O k) {v:AV} {u:Value} (h:Rel β O w v u):Rel β O' w (SX.qo n cs v) u:=by
 have key:∀ v,Rel β O w v u->Rel β O' w (SX.kill n v) u:=fun v h=>by
  rcases (fX n v).1 with e | e
  ·rw [e]; exact h.mono hO
  ·rw [e]; exact Rel.x
 cases v with
 | fn f ak =>
  obtain ⟨vs,rfl,h1⟩:=h
  refine ⟨vs,(tv (mn (Ac n cs) ak) f vs).symm,by rw [bz,List.length_map]; exact h1.1,fun j c v hc hv=>?_⟩
  rw [bz,List.getElem?_map,Option.map_eq_some_iff] at hc
  obtain ⟨c',dv,rfl⟩:=hc
  exact cj.jE hb hO (h1.2 j c' v dv hv)
 | pt k o=>exact Rel.jk (cj.jE hb hO (show cj β O w (.pt k o) u from h))
 | _=>simp only [SX.qo,SX.jE]; exact key _ h
def St.qo (s:St) (n:Nat) (cs:List AV):St:=⟨rZ (SX.qo n cs) s.aj,rS (AJ (SX.qo n cs) s.boxes) n⟩
theorem Nm.yp {n m:Nat} {cs:List AV} (h:Nm (s.qo n cs) m):Nm s m/\m≠n:=by
 rcases h with ⟨cs',h⟩ | ⟨q,h⟩ | ⟨b,cs',h,c,hc,hk⟩
 ·simp only [St.qo,bV,aV] at h
  split at h
  ·cases h
  ·rename_i da
   obtain ⟨fE,h1,_⟩:=Option.map_eq_some_iff.1 h
   exact ⟨.inl ⟨fE,h1⟩,fun e=>da e.symm⟩
 ·rw [St.qo,bH _ (show SX.qo n cs .x = .x from rfl)] at h
  have:=DE h
  exact ⟨.inr (.inl ⟨q,this.1⟩),this.2⟩
 ·simp only [St.qo,bV,aV] at h
  split at h
  ·cases h
  ·obtain ⟨fE,h1,rfl⟩:=Option.map_eq_some_iff.1 h
   rw [bz] at hc
   obtain ⟨c',dv,rfl⟩:=List.mem_map.1 hc
   have:=DE hk
   exact ⟨.inr (.inr ⟨b,fE,h1,c',dv,this.1⟩),this.2⟩
theorem ao.qo (h:ao W0 F X N s β a w) {n:Nat} {cs:List AV} (hn:ax s.boxes n = some cs) (hi:cI cs = true) (hf:bN cs = true):ao W0 F X N (s.qo n cs) β a w:=by
 obtain ⟨g,us,e,h1,h2,h3⟩:=h.boxes n cs hn
 have QD:Nm s n:=.inl ⟨cs,hn⟩
 have hO:∀ k,Own X (s.qo n cs) β k->Own X s β k/\k≠g:=by
  rintro k (hX | ⟨m,hm,hb⟩)
  ·exact ⟨.inl hX,fun e=>h.Cd n g QD h1 (e ▸ hX)⟩
  ·obtain ⟨k1,k2⟩:=Nm.yp hm
   exact ⟨.inr ⟨m,k1,hb⟩,fun e=>k2 (h.inj m n g k1 QD (e ▸ hb) h1)⟩
 have qu:GN β (Own X (s.qo n cs) β) w n cs g:=by
  refine ⟨h1,fun ho=>(hO g ho).2 rfl,fun j av hj=>?_⟩
  have hlt:j < us.toList.length:=by rw [<- h3.1]; exact (List.getElem?_eq_some_iff.1 hj).1
  have hr:=h3.2 j av _ hj (List.getElem?_eq_getElem hlt)
  refine ⟨us.toList[j],?_,(dF hr.1 (eR hi (List.mem_of_getElem? hj)) (fU hf (List.mem_of_getElem? hj))).mono fun k hk=>(hO k hk).1,hr.2⟩
  rw [cell_of_row w g j us e (0,0) h2,<- Array.getElem?_toList,List.getElem?_eq_getElem hlt]
 have VV:∀ k,Own X (s.qo n cs) β k->Own X s β k:=fun k hk=>(hO k hk).1
 refine h.yS (ca.refl (fun _=>False) w) (fun _ _ h=>h.elim) (fun m=>?_) (fun m cs' cZ=>?_) (fun k m g hk hm=>h.inj k m g (Nm.yp hk).1 (Nm.yp hm).1)
  (fun m g hm hg=>h.own m g (Nm.yp hm).1 hg) rfl rfl (fun m cs' g hc hp=>?_)
 ·rw [St.qo,bH _ (show SX.qo n cs .x = .x from rfl)]
  exact Rel.qo qu VV (h.aj m)
 ·simp only [St.qo,bV,aV] at cZ
  split at cZ
  ·cases cZ
  ·obtain ⟨fE,k1,rfl⟩:=Option.map_eq_some_iff.1 cZ
   obtain ⟨g',us',e',k2,k3,k4⟩:=h.boxes m fE k1
   refine ⟨g',us',e',k2,k3,?_⟩
   rw [bz]
   refine ⟨by simpa using k4.1,fun j c v hc hv=>?_⟩
   rw [List.getElem?_map,Option.map_eq_some_iff] at hc
   obtain ⟨c',dv,rfl⟩:=hc
   exact ⟨Rel.qo qu VV (k4.2 j c' v dv hv).1,(k4.2 j c' v dv hv).2⟩
 ·simp only [St.qo,bV,aV] at hc
  split at hc
  ·cases hc
  ·obtain ⟨fE,k1,_⟩:=Option.map_eq_some_iff.1 hc
   exact h.fP m fE g k1 hp
def Kg (n:Nat) (s:St) (K:St->Prop):Prop:=eE s.boxes n fun cs=>aC (cI cs) (aC (bN cs) (mA (Ml n cs) s.aj fun sl=>mz (Ml n cs) s.boxes fun b=>mf b n fun b=>K ⟨sl,b⟩))
def nE:List Nat->St->(St->Prop)->Prop
 | [],s,K=>K s
 | n::r,s,K=>Kg n s fun s=>nE r s K
theorem Fo (l:List Nat):∀ {s:St} {K:St->Prop},ao W0 F X N s β a w->nE l s K->∃ s',K s'/\ao W0 F X N s' β a w:=by
 induction l with
 | nil=>intro s K hI h; exact ⟨s,h,hI⟩
 | cons n r ih =>
  intro s K hI h
  simp only [nE,Kg] at h
  obtain ⟨cs,h1,h⟩:=(cJ _ _ _).1 h
  obtain ⟨h2,h⟩:=(af _ _).1 h
  obtain ⟨h3,h⟩:=(af _ _).1 h
  rw [iE (DD n cs),iD (DD n cs),kH] at h
  exact ih (hI.qo h1 h2 h3) h
def xL (P:Program) (N:Nat) (s:St) (f:Operand) (args:List Operand) (dst:Option Nat) (K:St->Prop):Prop :=
 ∃ bs,nE bs s fun s=>sY P N s f args dst K
theorem Hh (hI : ao W0 F X N s β a w) {o : Oper} {f : Operand} {args : Array Operand} {ts : Array TypeId} (ho : o.op = .call { callee := .value f, args := args, argTypes := ts }) {K : St -> Prop}
  (h:xL P N s f args.toList o.dst K) {next:Act->World->Prop} {Q:Exit->Act->World->Prop} (hn:∀ s' a' w',K s'->Inv W0 F X N s' a' w'->next a' w'):o.wp P a w next Q:=by
 obtain ⟨bs,h⟩:=h
 obtain ⟨s',h1,h2⟩:=Fo bs hI h
 exact Dt h2 ho h1 hn
end
end Go.SX
end
section
namespace Go.SX
variable [Globs]
section
variable {P:Program} {N:Nat} {Γ:Ctx} {W0:World} {F:Fr} {X:Nat->Prop} {s:St} {β:Nat->Option Nat} {a:Act} {w:World}

def dK (P:Program) (f:FuncId) (args:List AV) (boxes:List (Nat × List AV)) (r:AV) (j:Nat) (g:AV) (aB:List (Nat × List AV)):Prop :=
 (∀ (vs:Array Value) (w:World),(callFunc f vs).run P w = .ok (.enter f vs) w) /\
 ∀ (F:Fr) (X:Nat->Prop) (β:Nat->Option Nat) (w:World) (vs:List Value),vs.length = args.length->(∀ n g,F.fP n = some g->∃ cs,ax boxes n = some cs) ->
  ao w F X vs.length ⟨ae 0 args,boxes⟩ β ⟨vs.toArray,[]⟩ w ->
  Calls P f vs.toArray w fun e w'=>∃ v u bJ,e = .returned v/\vs[j]? = some u/\Im (Own X ⟨[(0,g)],aB⟩ bJ) w' r v/\ao w F X 1 ⟨[(0,g)],aB⟩ bJ ⟨#[u],[]⟩ w'

def xt:AV->Bool
 | .ob _ _ o=>!o.n8
 | .vec .. => true
 | _=>false
theorem Rel.uniq {O:Nat->Prop} {v:AV} {u u':Value} (ht:xt v = true) (h:Rel β O w v u) (h':Rel β O w v u'):u = u':=by
 cases v with
 | ob i i2 o =>
  have hg:o.n8 = false:=by simpa [xt] using ht
  exact (fG.uniq hg hg (show fG β O w i i2 o u' from h') (show fG β O w i i2 o u from h) (.inr (.inr rfl)))
 | vec id τ l=>exact aU.uniq (show aU β O w id τ l u from h) (show aU β O w id τ l u' from h')
 | _=>cases ht
def Ym:Operand->(Nat->Prop)->Prop
 | .tmp q,K=>K q
 | _,_=>False
def Zt (u:AV) (K:Nat->(τ:Ty)->List (den τ)->Prop):Prop:=match u with
 | .ob i _ (.ln τ l)=>K i τ l
 | _=>False
theorem M1 {u:AV} {K:Nat->(τ:Ty)->List (den τ)->Prop} (h:Zt u K):∃ i i2 τ l,u = .ob i i2 (.ln τ l)/\K i τ l:=by
 cases u with
 | ob i i2 o=>cases o with
  | ln τ l=>exact ⟨i,i2,τ,l,rfl,h⟩
  | _=>exact h.elim
 | _=>exact h.elim
theorem M3 {sM β:Nat->Option Nat} {O0 O:Nat->Prop} {w0 w:World} {i j:Nat} {τ:Ty} {l t t':List (den τ)} {u up:Value} (h1:aU sM O0 w0 i τ l up) (h2:aU sM O0 w0 i τ (l++t) u) (h3:aU β O w j τ (l++t') u):aU β O w j τ l up:=by
 rcases h2 with ⟨e1,rfl,e3⟩ | ⟨g,c,cur,e,a1,rfl,a3,a4,a5,a6,_⟩
 ·obtain ⟨rfl,rfl⟩:=List.append_eq_nil_iff.1 e1
  rcases h1 with ⟨_,rfl,_⟩ | ⟨g,_,_,_,b1,_⟩
  ·rcases h3 with ⟨c1,_,c3⟩ | ⟨_,_,_,_,_,c2,_⟩
   ·exact .inl ⟨rfl,rfl,c3⟩
   ·cases c2
  ·rw [e3] at b1; cases b1
 ·rcases h1 with ⟨_,_,b3⟩ | ⟨g',c',cur',e',b1,rfl,b3,b4,b5,b6,_⟩
  ·rw [a1] at b3; cases b3
  ·rw [a1] at b1
   injection b1 with b1
   subst b1
   rw [a3] at b3
   injection b3 with b3
   injection b3 with b3 _ _
   subst b3
   have hc:c = c':=by
    rw [a6] at b6
    exact Nat.eq_of_mul_eq_mul_right (gq τ) b6
   subst hc
   have hl:(l++t).length = (l++t').length:=by
    rcases h3 with ⟨_,c2,_⟩ | ⟨_,_,_,_,_,c2,_⟩
    ·cases c2
    ·injection c2 with _ c2 _
   rw [hl] at h3
   exact aU.pre h3
def VH (N:Nat) (LF:List (Nat × AV)) (v g:AV) (s:St) (K:St->Prop):List Nat->Prop
 | []=>K s
 | p::r=>match v,g with
  | .ob i _ (.vw τ l a _),.ob j _ (.vw σ m c _)=>aC (Nat.beq a c) (jY τ m fun m=>m.length = l.length/\wO ⟨LF,[]⟩ (.vec i τ l) (p::r)/\rB N (p::r) (.vec j τ m) s K)
  | .ob i _ (.ln τ l'),.ob j j2 (.ln σ m)=>aC (Nat.beq j2 j) (fF LF p fun u=>Zt u fun i' ρ l=>aC (Nat.beq i' i) (jY τ l fun l=>jY τ m fun m=>(∃ t,l' = l++t)/\(∃ t,m = l++t)/\r = []/\al N s (some p) (.ob j j (.ln τ l)) K))
  | _,_=>False
theorem SU {LF : List (Nat × AV)} {v g : AV} {u : Value} {ps : List Nat} {s : St} {sM β : Nat -> Option Nat} {O0 : Nat -> Prop} {w0 w : World} {K : St -> Prop} (hI : ao W0 F X N s β a w)
  (hu:Rel sM O0 w0 v u) (Iw:∀ q,Rel sM O0 w0 (look LF q) (a.tmps.getD q undef)) (hg:∃ q,look s.aj q = g/\a.tmps.getD q undef = u)
  (h:VH N LF v g s K ps):∃ s',K s'/\ao W0 F X N s' β a w/\∀ n,Nm s' n->Nm s n:=by
 cases ps with
 | nil=>exact ⟨s,h,hI,fun _ h=>h⟩
 | cons p r =>
  obtain ⟨q,hq,XR⟩:=hg
  have Lz:=hI.aj q
  rw [hq,XR] at Lz
  have hn:∀ n,n ∈ ids g->Nm s n:=fun n hn=>.inr (.inl ⟨q,by rw [hq]; exact hn⟩)
  cases v with
  | ob i i2 o=>cases o with
   | vw τ l x y=>cases g with
    | ob j j2 o'=>cases o' with
     | vw σ m c d =>
      obtain ⟨WU,hK⟩:=(af _ _).1 (show aC (Nat.beq x c) (jY τ m fun m=>m.length = l.length/\wO ⟨LF,[]⟩ (.vec i τ l) (p::r)/\rB N (p::r) (.vec j τ m) s K) from h)
      obtain ⟨e,hh⟩:=gX hK
      clear hK
      subst e
      clear h
      obtain ⟨hlen,Ah,h⟩:=hh
      have WU:=Nat.eq_of_beq_eq_true WU
      subst WU
      have hlen:m.length = l.length:=hlen
      obtain ⟨b0,c0,k1,_,k3,k4,k5,k6⟩:=(show fG sM O0 w0 i i2 (.vw σ l x y) u from hu)
      obtain ⟨b1,c1,m1,m2,m3,m4,m5,m6⟩:=(show fG β (Own X s β) w j j2 (.vw σ m x d) u from Lz)
      rw [k5] at m5
      injection m5 with e1 e2 e3
      injection e1 with e1
      injection e1 with e1 _ _
      subst e1
      have q1:=(show aU sM O0 w0 i σ l _ from k6)
      have sn:l.length<=c0:=by
       rcases q1 with ⟨_,q,_⟩ | ⟨_,_,_,_,_,q,_,q2,_⟩
       ·cases q
       ·injection q with _ _ q; subst q; exact q2
      have qv:m.length<=c1:=by
       rcases m6 with ⟨_,q,_⟩ | ⟨_,_,_,_,_,q,_,q2,_⟩
       ·cases q
       ·injection q with _ _ q; subst q; exact q2
      have:c1 = c0:=by omega
      subst this
      have hval:∀ p' ∈ p::r,a.tmps.getD p' undef = .slice (some ⟨b0,0,none⟩) l.length c1:=fun p' XJ=>by
       have h1:=Iw p'
       rw [pd Ah p' XJ] at h1
       exact aU.uniq (show aU sM O0 w0 i σ l _ from h1) k6
      have h:al N s (some p) (.vec j σ m) fun s=>rB N r (.vec j σ m) s K:=h
      rw [bZ] at h
      cases hb:Nat.blt p N with
      | false=>rw [hb] at h; exact h.elim
      | true =>
       rw [hb,cond_true] at h
       rw [Nat.blt_eq] at hb
       have hr:Rel β (Own X s β) w (.vec j σ m) (.slice (some ⟨b0,0,none⟩) l.length c1):=by
        have m6:aU β (Own X s β) w j σ m (.slice (some ⟨b0,0,none⟩) m.length c1):=m6
        rw [hlen] at m6
        exact m6
       have fV:=hI.put (d:=p) hb hr (fun n jg=>hn n (by
        have:n = j:=by simpa [ids,aw] using jg
        subst this; simp [ids,aw]))
       rw [kQ (hval p (List.mem_cons_self ..)) (by rw [hI.size]; exact hb)] at fV
       obtain ⟨s',z1,z2,z3,_⟩:=sA r fV ⟨p,hb,by simp [St.put,bI],hval p (List.mem_cons_self ..)⟩ (fun p' XJ=>hval p' (List.mem_cons_of_mem _ XJ)) h
       exact ⟨s',z1,z2,fun n jg=>Nm.uI (fun m hm=>hn m (by
        have:m = j:=by simpa [ids,aw] using hm
        subst this; simp [ids,aw])) (z3 n jg)⟩
     | _=>exact h.elim
    | _=>exact h.elim
   | ln τ l'=>cases g with
    | ob j j2 o'=>cases o' with
     | ln σ m =>
      obtain ⟨Pn,h⟩:=(af _ _).1 (show aC (Nat.beq j2 j) _ from h)
      have Pn:=Nat.eq_of_beq_eq_true Pn
      subst Pn
      rw [dA] at h
      obtain ⟨i',i2,ρ,l,hp,h⟩:=M1 h
      obtain ⟨hi,k1⟩:=(af _ _).1 h
      clear h
      have hi:=Nat.eq_of_beq_eq_true hi
      subst hi
      obtain ⟨e1,k2⟩:=gX k1
      clear k1
      subst e1
      obtain ⟨e2,k3⟩:=gX k2
      clear k2
      subst e2
      obtain ⟨⟨t,ht⟩,⟨t',wT⟩,_,hK⟩:=k3
      simp only at ht wT
      subst ht wT
      obtain ⟨h1,h2⟩:=fB hK
      have hb:=h2 p rfl
      have r1:=Iw p
      rw [hp] at r1
      have r1:aU sM O0 w0 i' σ l (a.tmps.getD p undef):=(show fG sM O0 w0 i' i2 (.ln σ l) _ from r1).2
      have r2:aU sM O0 w0 i' σ (l++t) u:=(show _/\aU sM O0 w0 i' σ (l++t) u from hu).2
      have r3:aU β (Own X s β) w j2 σ (l++t') u:=(show fG β (Own X s β) w j2 j2 (.ln σ (l++t')) u from Lz).2
      have Y6:∀ n ∈ ids (AV.ob j2 j2 (.ln σ l)),Nm s n:=fun n jg=>hn n (by simpa [ids,aw] using jg)
      have fV:=hI.put (d:=p) (v:=.ob j2 j2 (.ln σ l)) hb (show Rel β _ w _ _ from ⟨rfl,M3 r1 r2 r3⟩) Y6
      rw [kQ rfl (by rw [hI.size]; exact hb)] at fV
      exact ⟨_,h1,fV,fun n jg=>Nm.uI Y6 jg⟩
     | _=>exact h.elim
    | _=>exact h.elim
   | _=>exact (by cases g<;>exact h.elim)
  | _=>exact (by cases g<;>exact h.elim)
def xM (P:Program) (N:Nat) (s:St) (f:Operand) (args:List Operand) (dst:Option Nat) (K:St->Prop):Prop :=
 ∃ cv,qH cv s fun s=>∃ h aS aJ r j g au ρ qs ps,dK P h aS aJ r j g au /\
  dP (vT (eN ρ) (bb aS aJ) (bb [g] au)) s fun s1=>fc s1 args fun vs=>bG s1 f fun fv=>match fv with
   | .fn h' ak => bQ ak = false /\ h' = h /\ ez (e7 (eN ρ)) aS = gn vs ak /\ sW s1 ρ aJ (Dr N (eN ρ) (bb aS aJ) (bb [g] au) (aA aJ) (aA au) aS.length = true /\
     NM s1 (eN ρ) (bb aS aJ) (aA au) = true /\
     dp args j fun x=>Ym x fun q=>fF s1.aj q fun v=>aC (xt v) (wO s1 v qs /\
     mq (j5 (eN ρ) (bb aS aJ) (aA au)) s1 fun s=>kT ρ au s fun s=>F5 ρ g fun g=>al N s (some q) g fun s=>rB N qs g s fun s=>VH N s1.aj v g s (fun s=>al N s dst r K) ps))
   | _=>False
theorem Hj (hI : ao W0 F X N s β a w) {o : Oper} {f : Operand} {args : Array Operand} {ts : Array TypeId} (ho : o.op = .call { callee := .value f, args := args, argTypes := ts }) {K : St -> Prop}
  (h:xM P N s f args.toList o.dst K) {next:Act->World->Prop} {Q:Exit->Act->World->Prop} (hn:∀ s' a' w',K s'->Inv W0 F X N s' a' w'->next a' w'):o.wp P a w next Q:=by
 obtain ⟨cv,h⟩:=h
 obtain ⟨s0,β,⟨g,aS,aJ,r,j,gh,au,ρ,qs,ps,⟨cY,ja⟩,h⟩,fS⟩:=mB cv hI h
 rw [dL,dc,aE] at h
 have dg:=fS.cA (vT (eN ρ) (bb aS aJ) (bb [gh] au))
 have rU:∀ n,n ∈ vT (eN ρ) (bb aS aJ) (bb [gh] au)->¬ Nm (cA (vT (eN ρ) (bb aS aJ) (bb [gh] au)) s0) n:=fun n hn hm=>(Nm.nk hm).2 hn
 generalize cA (vT (eN ρ) (bb aS aJ) (bb [gh] au)) s0 = s1 at h dg rU
 have hf:=aF dg f
 have p9:=iv dg args.toList
 cases Af:ev s1 f with
 | fn g' ak =>
  rw [Af] at h hf
  obtain ⟨XG,rfl,dV,h⟩:=h
  obtain ⟨lX,tQ,Ap,h⟩:=rf aJ h
  simp only [Dr,Bool.and_eq_true,List.all_eq_true,Bool.or_eq_true,Bool.not_eq_true',Nat.blt_eq] at tQ
  obtain ⟨⟨⟨⟨c1,c2⟩,c3⟩,c4⟩,c5⟩:=tQ
  obtain ⟨lY,pf,gu⟩:=hf.1
  have ei:All2 (Rel β (Own X s1 β) w) (ez (e7 (eN ρ)) aS) (s4 ak (args.toList.map a.eval) lY):=by
   rw [dV]
   exact jd p9.1 (gu.mono fun _ _ _ _ hr=>Rel.jk hr)
  have yb:∀ k ∈ qE (ez (e7 (eN ρ)) aS),Nm s1 k:=by
   rw [dV]
   intro k hk
   obtain ⟨c,hc,hk⟩:=List.mem_flatMap.1 hk
   rcases pA hc with hc | hc
   ·exact p9.2 c hc k hk
   ·obtain ⟨j,hj⟩:=List.getElem?_of_mem hc
    have hlt:=(List.getElem?_eq_some_iff.1 hj).1
    have hr:=gu.2 j c _ hj (List.getElem?_eq_getElem (by rw [<- gu.1]; exact hlt))
    exact hf.2 k (List.mem_flatMap.2 ⟨c,hc,hr.ids hk⟩)
  have rr:qb s1 β N (eN ρ) aS aJ gh au:=by
   refine ⟨fun k hk=>?_,lX,wV c1,fun k hk nQ=>⟨?_,rU _ ?_⟩,fun k hk nQ=>?_,fun k hk nQ=>?_,fun n jg=>Nat.le_of_ble_eq_true (c4 n jg),vv c5⟩
   ·obtain ⟨c,hc,MG⟩:=List.mem_flatMap.1 hk
    refine yb _ (List.mem_flatMap.2 ⟨e7 (eN ρ) c,?_,?_⟩)
    ·rw [bz]; exact List.mem_map.2 ⟨c,hc,rfl⟩
    ·rw [jh]; exact List.mem_map.2 ⟨k,MG,rfl⟩
   ·rcases c2 k hk with h1 | h1
    ·exact absurd (cR.1 h1) nQ
    ·exact h1
   ·refine List.mem_map.2 ⟨k,List.mem_filter.2 ⟨hk,?_⟩,rfl⟩
    cases hi:lQ k (bb aS aJ) with
    | true=>exact absurd (cR.1 hi) nQ
    | false=>rfl
   ·rcases c3 k hk with h1 | h1
    ·rw [cR.2 nQ] at h1; cases h1
    ·exact cR.1 h1
   ·simp only [NM,List.all_eq_true,Bool.or_eq_true,Bool.not_eq_true',Bool.and_eq_true] at Ap
    rcases Ap k hk with h1 | h1
    ·rw [cR.2 nQ] at h1; cases h1
    ·exact ⟨qI h1.1,kO h1.2⟩
  obtain ⟨iT,hIn⟩:=Hi dg rr ei
  have hlen:(s4 ak (args.toList.map a.eval) lY).length = aS.length:=by have:=ei.1; simpa [bz] using this.symm
  have hs:=ja _ _ _ w _ hlen iT hIn
  unfold Oper.wp
  have bu:=sD (w:=w) ho pf cY
  rw [bu]
  refine hs.mono fun e w' hp=>?_
  obtain ⟨v,u,bJ,rfl,hu,dw,hP⟩:=hp
  obtain ⟨x,hx,h⟩:=(bA _ _ _).1 h
  cases x with
  | tmp q =>
   have h:fF s1.aj q _:=h
   rw [dA] at h
   obtain ⟨X1,Ah,h⟩:=(af _ _).1 h
   rw [ry,pP,pI] at h
   obtain ⟨h1,h2⟩:=fB h
   have hq:q < N:=h2 q rfl
   have S4:a.tmps.getD q undef = u:=by
    have hj:j < (args.toList.map a.eval).length:=by rw [List.length_map]; exact (List.getElem?_eq_some_iff.1 hx).1
    have hu:(args.toList.map a.eval++lY)[j]? = some u:=by
     unfold s4 at hu
     rw [XG] at hu
     exact hu
    rw [List.getElem?_append_left hj,List.getElem?_map,hx] at hu
    injection hu
   have LB:∀ p ∈ qs,a.tmps.getD p undef = u:=fun p hp=>by
    have e:=pd Ah p hp
    have r1:=dg.aj p
    rw [e] at r1
    rw [Rel.uniq X1 r1 (dg.aj q),S4]
   obtain ⟨hB,hOB⟩:=Ds dg rr hP h2
   rw [kQ S4 (by rw [dg.size]; exact hq)] at hB
   obtain ⟨s2,h3,fV,Io,qg,_,hqg,XR⟩:=sA qs hB ⟨q,hq,by rw [gb,if_pos rfl],S4⟩ LB h1
   have Zh:=dg.aj q
   rw [S4] at Zh
   obtain ⟨s2,h3,fV,UC⟩:=SU fV Zh dg.aj ⟨qg,hqg,XR⟩ h3
   obtain ⟨s3,h4,h5⟩:=iI fV (ca.refl _ _) h3 (dw.mono fun k hk=>hOB k (hk.imp id fun ⟨n,jg,hb⟩=>⟨n,Io n (UC n jg),hb⟩))
   exact hn _ _ _ h4 ⟨_,h5⟩
  | _=>exact h.elim
 | _=>rw [Af] at h; exact h.elim
end
end Go.SX
end
section
namespace Go.SX
variable [Globs]
section
variable {P:Program} {N:Nat} {Γ:Ctx} {W0:World} {F:Fr} {X:Nat->Prop} {s:St} {β:Nat->Option Nat} {a:Act} {w:World}

def kz:List Value->Nat->Bool
 | [],0=>true
 | .int .u8 (.ofNat 0)::r,n + 1=>kz r n
 | _,_=>false
theorem Gw:∀ {l:List Value} {n:Nat},kz l n = true->l = List.replicate n (.int .u8 0):=by
 intro l
 induction l with
 | nil =>
  intro n h
  cases n with
  | zero=>rfl
  | succ n=>simp [kz] at h
 | cons v r ih =>
  intro n h
  cases n with
  | zero=>cases v<;>simp [kz] at h
  | succ n =>
   cases v with
   | int k m =>
    cases k<;>cases m with
    | ofNat m =>
     cases m with
     | zero=>first | (rw [List.replicate_succ,<- ih (show kz r n = true from h)]; rfl) | simp [kz] at h
     | succ m=>first | exact absurd (show false = true from h) Bool.false_ne_true | simp [kz] at h
    | negSucc m=>simp [kz] at h
   | _=>simp [kz] at h
def r7 (N:Nat) (s:St) (ti:TI) (n:Nat) (dst:Option Nat) (K:St->Prop):Prop :=
 jU dst fun d=>dx d s fun s=>aC (Nat.ble 1 n) (aC (Nat.ble n 1000000) (aC (kz ti.zero n) (dh d s fun s=>al N s (some d) (.vp d .u8 (List.replicate n 0) 0 0) K)))
theorem Di {O:Nat->Prop}:∀ n:Nat,All2 (Im O w) (flat .u8 (List.replicate n 0)) (List.replicate n (.int .u8 0)):=by
 intro n
 induction n with
 | zero=>exact All2.nil _
 | succ n ih=>rw [List.replicate_succ,List.replicate_succ]; exact All2.cons (.i _ _) ih
theorem EZ (hI : ao W0 F X N s β a w) {o : Oper} {t : TypeId} (ho : o.op = .alloc t) {ti : TI} (cw : ti.ok P t) {n : Nat} {K : St -> Prop} (h : r7 N s ti n o.dst K)
  {next:Act->World->Prop} {Q:Exit->Act->World->Prop} (hn:∀ s' a' w',K s'->Inv W0 F X N s' a' w'->next a' w'):o.wp P a w next Q:=by
 obtain ⟨d,hd,h⟩:=(cn _ _).1 (show jU o.dst fun d=>_ from h)
 rw [cO] at h
 have dg:=hI.cy d
 obtain ⟨wP,h⟩:=(af _ _).1 h
 obtain ⟨Io,h⟩:=(af _ _).1 h
 obtain ⟨hz,h⟩:=(af _ _).1 h
 have wP:=Nat.le_of_ble_eq_true wP
 have Io:=Nat.le_of_ble_eq_true Io
 rw [fi] at h
 cases jS:Nat.blt d N with
 | false=>rw [bZ,jS] at h; exact h.elim
 | true =>
  rw [bZ,jS,cond_true] at h
  rw [Nat.blt_eq] at jS
  obtain ⟨z,QN,vQ⟩:=cw.zeroValue w
  have BU:=Gw hz
  have cZ:z.cells.size = n:=by rw [vQ,BU]; simp
  have fV:=dg.AN (Ow:=fun _=>False) (d:=d) (id1:=d) (b:=some w.heap.size) (av0:=.vp d .u8 (List.replicate n 0) 0 0) (u:=.pointer (some ⟨w.heap.size,0,none⟩)) jS (fun _=>rfl)
   (ca.alloc w (.cells z.cells t)) (fun _ h=>h.elim)
   (fun g hg=>by injection hg with hg; subst hg; exact ⟨by simp,.inr (Nat.le_refl _)⟩) rfl (fun O' Aa=>by
    refine ⟨by simp; omega,⟨w.heap.size,by simp [ay],by simp⟩,.slice (some ⟨w.heap.size,0,none⟩) (List.replicate n (0:Int)).length n,?_⟩
    refine oD (τ:=.u8) (us:=List.replicate n (.int .u8 0)) (cur:=z.cells) (e:=t) (by simp [ay]) (heap_alloc_new w _) (by simp) (by unfold maxLen; omega) (by rw [cZ]; simp [aX]) (Di n) (fun j u hu=>?_)
    rw [vQ,BU,List.getElem?_toArray]
    exact hu)
  refine eI (u:=.pointer (some ⟨w.heap.size,0,none⟩)) (w':=w.alloc (.cells z.cells t)) ?_ (by rw [hd]; exact hn _ _ _ h ⟨_,fV⟩)
  simp [execOp,ho,Instr.alloc,QN,jL]
def oO (Γ:Ctx) (N:Nat) (s:St) (t:TypeId) (lo hi mx:Option Operand) (dst:Option Nat) (K:St->Prop) (E:Prop):AV->Prop
 | .vp id τ l i o => aC (Nat.beq i 0) (aC (Nat.beq o 0) (aC hi.isNone (aC mx.isNone (cp Γ t fun ti => match ti.desc with
   | .arr n e=>cp Γ e fun te=>aC (Nat.beq te.cells (aX τ)) (cH s lo 0 fun lo=>(0<=lo/\lo<=(n:Int)/\l.length = n)/\dx id s fun s=>al N s dst (.rd τ (l.drop lo.toNat)) K)
   | _=>False))))
 | _=>E
theorem EX (aY : Γ.ok P) (hI : ao W0 F X N s β a w) {o : Oper} {t : TypeId} {x : Operand} {lo hi mx : Option Operand} (ho : o.op = .slice t x lo hi mx) {K : St -> Prop} {E : Prop} (h : oO Γ N s t lo hi mx o.dst K E (ev s x))
  {next:Act->World->Prop} {Q:Exit->Act->World->Prop} (hE:E->o.wp P a w next Q) (hn:∀ s' a' w',K s'->Inv W0 F X N s' a' w'->next a' w'):o.wp P a w next Q:=by
 have hx:=(aF hI x).1
 have Zs:=(aF hI x).2
 generalize ev s x = v at h hx Zs
 cases v with
 | vp id τ l i off =>
  obtain ⟨h1,h⟩:=(af _ _).1 (show aC (Nat.beq i 0) _ from h)
  obtain ⟨h2,h⟩:=(af _ _).1 h
  obtain ⟨h3,h⟩:=(af _ _).1 h
  obtain ⟨h4,h⟩:=(af _ _).1 h
  obtain rfl:=Nat.eq_of_beq_eq_true h1
  obtain rfl:=Nat.eq_of_beq_eq_true h2
  obtain rfl:=Option.isNone_iff_eq_none.1 h3
  obtain rfl:=Option.isNone_iff_eq_none.1 h4
  obtain ⟨ti,cw,h⟩:=bq aY h
  obtain ⟨de,g1,g2⟩:=cw.desc
  cases y8:ti.desc with
  | arr n e =>
   rw [y8] at h g2
   have hu:P.underlying t = some (.array n e):=(show de = .array n e from g2) ▸ g1
   obtain ⟨te,gO,h⟩:=bq aY (show cp Γ e _ from h)
   obtain ⟨bO,h⟩:=(af _ _).1 h
   obtain ⟨m,⟨⟨p0,p1,p2⟩,hK⟩,hm⟩:=ey hI h
   rw [cO] at hK
   obtain ⟨Ur,⟨g,hg,hv⟩,v',Wg⟩:=(show (0 < l.length/\(∃ g,β id = some g/\a.eval x = .pointer (some ⟨g,0 * aX τ + 0,none⟩))/\∃ v',aU β (Own X s β) w id τ l v') from hx)
   have bP:Nm s id:=Zs id (by simp [ids,aw])
   have hO:∀ k,Own X (s.cy id) β k->Own X s β k/\β id≠some k:=by
    rintro k (hX | ⟨m,hm,hb⟩)
    ·exact ⟨.inl hX,fun e=>hI.Cd id k bP e hX⟩
    ·obtain ⟨h1,h2⟩:=Nm.ic hm
     exact ⟨.inr ⟨m,h1,hb⟩,fun e=>h2 (hI.inj m id k h1 bP hb e)⟩
   have dw:=Wg.freeze hO
   rcases Wg with ⟨rfl,_,_⟩ | ⟨g',c,cur,e',q1,rfl,q3,q4,q5,q6,q7⟩
   ·simp at Ur
   rw [hg] at q1
   injection q1 with q1
   subst q1
   have vD:m.toNat<=l.length:=by omega
   have ix:Im (Own X (s.cy id) β) w (.rd τ l) (.slice (some ⟨g,0,none⟩) l.length l.length):=by
    cases dw with
    | uR _ _ _ hc=>exact .uR τ _ _ (Nat.zero_le _)
    | rd _ _ _ _ _ u kL hc Y4 da gR dw=>exact .rd τ l g 0 _ u kL (Nat.le_refl _) (by omega) da gR dw
   have W7:=ix.Eo (k:=m.toNat) (ad:=if l.length = m.toNat then ⟨g,0,none⟩ else (⟨g,0,none⟩:Addr).add (m.toNat * aX τ)) vD (fun hlt=>by rw [if_neg (by omega),dm])
   refine gJ (hI.cy id) hK hn (u:=.slice (some (if l.length = m.toNat then ⟨g,0,none⟩ else (⟨g,0,none⟩:Addr).add (m.toNat * aX τ))) (l.length - m.toNat) (l.length - m.toNat)) ?_ (Rel.im W7) (fun n hn=>by simp [ids,aw] at hn)
   have hb:=gW (P:=P) (w:=w) (a:=a) (y:=none) (hi:=(n:Int)) false n n hm (.inl ⟨rfl,rfl⟩) p0 p1 (Int.le_refl _) (Nat.le_refl _)
   have bO:=Nat.eq_of_beq_eq_true bO
   simp only [Option.map_none] at hb
   simp [execOp,ho,hv,Instr.sliceAt,run_underlying hu,Instr.sureAddr,hb,gO.sizeOf,p2,bO]
  | _=>rw [y8] at h; exact h.elim
 | _=>exact hE h
theorem EW {t : TypeId} {x : Operand} {lo hi : Option Operand} {dst : Option Nat} {K : St -> Prop} (h : qY Γ s (.slice t x lo hi none) fun v => al N s dst v K) :
  oO Γ N s t lo hi none dst K (qY Γ s (.slice t x lo hi none) fun v=>al N s dst v K) (ev s x):=by
 have h':=h
 have h' : bG s x fun a => cp Γ t fun ti => match gZ ti.desc with
   | true=>fC s lo hi a fun v=>al N s dst v K
   | false=>cW ti.desc fun e=>cp Γ e fun te=>fQ s te.cells lo hi a fun v=>al N s dst v K:=h'
 rw [aE] at h'
 cases hv:ev s x with
 | vp id τ l i o =>
  exfalso
  rw [hv] at h'
  obtain ⟨ti,_,h'⟩:=eZ h'
  cases hs:gZ ti.desc with
  | true=>rw [hs] at h'; exact h'
  | false =>
   rw [hs] at h'
   have h':cW ti.desc fun e=>cp Γ e fun te=>fQ s te.cells lo hi (.vp id τ l i o) fun v=>al N s dst v K:=h'
   cases hd:ti.desc with
   | slice e =>
    rw [hd] at h'
    obtain ⟨te,_,h'⟩:=eZ (show cp Γ e _ from h')
    exact h'
   | _=>rw [hd] at h'; exact h'
 | _=>exact h
end
end Go.SX
end
section
namespace Go.SX
variable [Globs]
section
variable {P:Program} {N:Nat} {Γ:Ctx} {W0:World} {F:Fr} {X:Nat->Prop} {s:St} {β:Nat->Option Nat} {a:Act} {w:World}
def Tj (P:Program) (f:FuncId) (args:List AV) (r:AV):Prop :=
 ∀ (O:Nat->Prop) (w:World) (vs:List Value),All2 (Im O w) args vs->∃ v,(callFunc f vs.toArray).run P w = .ok (.value v) w/\Im O w r v
def sZ (P:Program) (N:Nat) (s:St) (f:Operand) (args:List Operand) (dst:Option Nat) (K:St->Prop):Prop :=
 bG s f fun fv=>fc s args fun vs=>match fv with
  | .fn g []=>aC (cI vs) (aC (bN vs) (∃ r,Tj P g vs r/\al N s dst r K))
  | _=>False
theorem Hk (hI : ao W0 F X N s β a w) {o : Oper} {f : Operand} {args : Array Operand} {ts : Array TypeId} (ho : o.op = .call { callee := .value f, args := args, argTypes := ts }) {K : St -> Prop}
  (h:sZ P N s f args.toList o.dst K) {next:Act->World->Prop} {Q:Exit->Act->World->Prop} (hn:∀ s' a' w',K s'->Inv W0 F X N s' a' w'->next a' w'):o.wp P a w next Q:=by
 unfold sZ at h
 rw [aE,dc] at h
 have hf:=aF hI f
 have p9:=iv hI args.toList
 cases Af:ev s f with
 | fn g ak =>
  rw [Af] at h hf
  cases ak with
  | cons _ _=>exact h.elim
  | nil =>
   obtain ⟨h1,h⟩:=(af _ _).1 (show aC _ _ from h)
   obtain ⟨h2,h⟩:=(af _ _).1 h
   obtain ⟨r,ja,hK⟩:=h
   obtain ⟨lY,pf,gu⟩:=hf.1
   obtain rfl:lY = []:=gu.iz
   have pf:a.eval f = .func (.func g) #[] #[]:=pf
   have Ik:All2 (Im (Own X s β) w) (kC s args.toList) (args.toList.map a.eval) :=
    p9.1.mono fun _ c v hc hr=>dF hr (eR h1 (List.mem_of_getElem? hc)) (fU h2 (List.mem_of_getElem? hc))
   obtain ⟨v,hv,dw⟩:=ja (Own X s β) w _ Ik
   have bu:(execOp a.eval o).run P w = .ok (.value v) w:=by
    have e1:args.map a.eval++#[] = (args.toList.map a.eval).toArray:=by apply Array.ext'; simp
    simp [execOp,ho,resolve,pf,Deferred.ofValue,invoke]
    have e2:args.map a.eval = (args.toList.map a.eval).toArray:=by apply Array.ext'; simp
    first | (rw [e1]; exact hv) | (rw [e2]; exact hv)
   exact gJ hI hK hn bu (Rel.im dw) (fun n hn=>by rw [dw.cQ] at hn; cases hn)
 | _=>rw [Af] at h; exact h.elim
end
end Go.SX
end
section
namespace Go.SX
variable [Globs]
section
variable {P:Program} {N:Nat} {Γ:Ctx} {W0:World} {F:Fr} {X:Nat->Prop} {s:St} {β:Nat->Option Nat} {a:Act} {w:World}

structure Ctx.bR (P:Program) (Γ:Ctx):Prop where
 ok:Γ.ok P
 one:∀ p ∈ Γ,(∀ v ∈ p.2.zero,v.oneCell' = true)/\p.2.zero.length = p.2.cells
 mixed:P.follows .mixedOrders = true

/-! ### one operation -/
def PE:Ctx->Nat->Bool
 | [],_=>false
 | (m,_)::r,n=>bif Nat.beq m n then true else PE r n
def iq:Ctx->Nat->Bool
 | [],_=>false
 | (m,_)::r,n=>bif Nat.beq m n then PE r n else iq r n
def Ctx.kp (Γ:Ctx) (t:Nat):Ctx:=match Γ.find? fun p=>Nat.beq p.1 t with
 | some p=>p::Γ
 | none=>Γ
theorem Ctx.aO {P:Program} {Γ:Ctx} (h:Γ.bR P) (t:Nat):(Γ.kp t).bR P:=by
 unfold Ctx.kp
 split
 ·rename_i p hp
  have hm:=List.mem_of_find?_eq_some hp
  refine ⟨fun q hq=>?_,fun q hq=>?_,h.mixed⟩
  ·rcases List.mem_cons.1 hq with rfl | hq
   ·exact h.ok _ hm
   ·exact h.ok q hq
  ·rcases List.mem_cons.1 hq with rfl | hq
   ·exact h.one _ hm
   ·exact h.one q hq
 ·exact h
def ui (Γ:Ctx) (s:St) (t:TypeId):AV->(St->Prop)->Prop
 | .pt n o,K=>bif iq Γ t then K s else eE s.boxes n fun cs=>cp Γ t fun ti=>match aK ti.desc with
  | true=>fj ti.cells (cs.drop o) fun l=>eG l fun ids=>dP ids s K
  | false=>K s
 | _,K=>K s
def tH:Ty->Nat->AV->Option (Nat × List Int)
 | .ints,0,.vec r .int row=>some (r,row)
 | _,_,_=>none
theorem zV {τ:Ty} {o:Nat} {v:AV} {r:Nat} {row:List Int} (h:tH τ o v = some (r,row)):τ = .ints/\o = 0/\v = .vec r .int row:=by
 unfold tH at h
 split at h
 ·cases h; exact ⟨rfl,rfl,rfl⟩
 ·cases h
def I8:Option (Nat × List Int)->(Nat->List Int->Prop)->Prop->Prop
 | some (r,row),A,_=>A r row
 | none,_,B=>B
def Ki (s:St) (ti:TI):AV->AV->(St->Prop)->Prop
 | .pt n o,v,K=>xq s n o ti.cells v K
 | .vp id τ _ n o,v,K=>I8 (tH τ o v) (fun r row=>vo s id r n row ti.cells K) (vq s id τ n o ti.cells v K)
 | _,_,_=>False
def lI:List AV->(Nat->Nat->Ob->List AV->Prop)->Prop->Prop
 | .ob id aR (.sb T e l)::rest,A,_=>A id aR (.sb T e l) rest
 | _,_,B=>B
theorem yI {vs:List AV} {A:Nat->Nat->Ob->List AV->Prop} {B:Prop} (h:lI vs A B):(∃ id aR o rest,vs = .ob id aR o::rest/\A id aR o rest)\/B:=by
 unfold lI at h
 split at h
 ·exact .inl ⟨_,_,_,_,rfl,h⟩
 ·exact .inr h
theorem xl {vs:List AV} {A:Nat->Nat->Ob->List AV->Prop} {B:Prop} {b:List (Nat × List AV)} (h:cI (jO b vs) = true) (hb:B):lI vs A B:=by
 unfold lI
 split
 ·simp [jO,uV,vH,cI,rW] at h
 ·exact hb
def Mb (P:Program) (Γ:Ctx) (N:Nat) (s:St) (op:Op) (args:List Operand) (ts:List TypeId) (dst:Option Nat) (K:St->Prop):Callee->Prop
 | .value f=>fc s args fun vs=>lI vs (fun id aR o rest=>oU P N s f id aR o rest dst K) (sY P N s f args dst K\/xK P N s f args dst K\/xf P N s f args dst K\/xL P N s f args dst K\/sZ P N s f args dst K\/xM P N s f args dst K)
 | .builtin .append=>Dn Γ N s args ts dst K
 | _=>qY Γ s op fun v=>al N s dst v K
def qG (op:BinOp) (e:Bool) (K:AV->Prop):Prop :=
 match op with
 | .eql=>∀ x:Bool,(e = false->x = false)->K (.b x)
 | .neq=>∀ x:Bool,(e = false->x = false)->K (.b (!x))
 | _=>False
def zp (Γ:Ctx) (op:BinOp) (t:TypeId):AV->AV->(AV->Prop)->Prop
 | .rd _ l,.nl,K=>cp Γ t fun ti=>cW ti.desc fun _=>qG op l.isEmpty K
 | .vec _ _ l,.nl,K=>cp Γ t fun ti=>cW ti.desc fun _=>qG op l.isEmpty K
 | .nl,.nl,K=>cp Γ t fun ti=>cW ti.desc fun _=>qG op true K
 | .ob _ _ (.ln _ l),.nl,K=>cp Γ t fun ti=>cW ti.desc fun _=>qG op l.isEmpty K
 | a,b,K=>oP Γ op t a b K
theorem rE {t e : TypeId} (h : P.underlying t = some (.slice e)) (a : Option Addr) (n c n' c' : Nat) (w : World) (x y : Operand) :
  (do eqGuard .eql t x y (.slice a n c) (.slice none n' c'); binOp .eql t (.slice a n c) (.slice none n' c'):Sem Value).run P w = .ok (.bool a.isNone) w /\
  (do eqGuard .neq t x y (.slice a n c) (.slice none n' c'); binOp .neq t (.slice a n c) (.slice none n' c'):Sem Value).run P w = .ok (.bool (!a.isNone)) w:=by
 have h1:∀ d:Nat,(Op.equalIn (d + 1) t (.slice a n c) (.slice none n' c')).run P w = .ok a.isNone w:=fun d=>by cases a<;>simp [Op.equalIn,run_underlying h]
 refine ⟨?_,?_⟩
 ·simp only [eqGuard,binOp]
  simp [Op.equal,Op.maxDepth,h1 9999]
 ·simp only [eqGuard,binOp]
  simp [Op.equal,Op.maxDepth,h1 9999]
theorem IZ {t e : TypeId} (h : P.underlying t = some (.slice e)) {op : BinOp} {b : Bool} {K : AV -> Prop} (hK : qG op b K) {A : Option Addr} {n c n' c' : Nat} (x y : Operand) (hb : b = false -> A.isNone = false) :
  ∃ v:Bool,K (.b v)/\∀ w:World,(do eqGuard op t x y (.slice A n c) (.slice none n' c'); binOp op t (.slice A n c) (.slice none n' c'):Sem Value).run P w = .ok (.bool v) w:=by
 cases op<;>first | exact hK.elim | skip
 ·exact ⟨_,hK _ hb,fun w=>(rE h A n c n' c' w x y).1⟩
 ·exact ⟨_,hK _ hb,fun w=>(rE h A n c n' c' w x y).2⟩
theorem LN {op:BinOp} {t:TypeId} {a b:AV} {K:AV->Prop} (h:oP Γ op t a b K):zp Γ op t a b K:=by
 unfold zp
 split
 ·exact (h:False).elim
 ·exact (h:False).elim
 ·exact (h:False).elim
 ·exact (h:False).elim
 ·exact h
/-! values of an interface -/
def yg:TD->Bool
 | .U3=>true
 | _=>false
def yf:TD->Bool
 | .int .i64=>true
 | _=>false
def rY:Operand->Bool
 | .const _=>true
 | _=>false
def IV (t:TypeId):AV->(AV->Prop)->Prop
 | .i k n,K=>match k with
  | .i64=>K (.er (some (t,some n)))
  | _=>K (.er (some (t,none)))
 | _,K=>K (.er (some (t,none)))
def Pa (Γ:Ctx) (op:BinOp) (lit:Bool):Option (TypeId × Option Int)->Option (TypeId × Option Int)->(AV->Prop)->Prop
 | none,none,K=>aC lit (dO op true K)
 | none,some _,K=>dO op false K
 | some _,none,K=>dO op false K
 | some (T,some m),some (T',some n),K=>match Nat.beq T T' with
  | true=>cp Γ T fun ti=>aC (yf ti.desc && ti.cmp) (dO op (decide (m = n)) K)
  | false=>dO op false K
 | some (_,_),some (_,_),_=>False
def wb (Γ:Ctx) (op:BinOp) (t:TypeId) (lit:Bool):AV->AV->(AV->Prop)->Prop
 | .er a,.er b,K=>cp Γ t fun ti=>aC (yg ti.desc) (Pa Γ op lit a b K)
 | a,b,K=>zp Γ op t a b K
theorem LM {op:BinOp} {t:TypeId} {lit:Bool} {a b:AV} {K:AV->Prop} (h:zp Γ op t a b K):wb Γ op t lit a b K:=by
 unfold wb
 split
 ·exact (h:False).elim
 ·exact h
theorem QQ {t:Nat} {ti:TI} (cw:ti.ok P t) (h:yg ti.desc = true):∃ ms,P.underlying t = some (.interface ms):=by
 obtain ⟨de,h1,h2⟩:=cw.desc
 cases hd:ti.desc with
 | U3=>rw [hd] at h2; obtain ⟨ms,rfl⟩:=(show ∃ ms,de = .interface ms from h2); exact ⟨ms,h1⟩
 | _=>rw [hd] at h; cases h
theorem QO {t:Nat} {ti:TI} (cw:ti.ok P t) (h:yf ti.desc = true):P.underlying t = some (.int .i64):=by
 obtain ⟨de,h1,h2⟩:=cw.desc
 cases hd:ti.desc with
 | int k =>
  rw [hd] at h h2
  cases k<;>first | (cases h; done) | exact (show de = .int .i64 from h2) ▸ h1
 | _=>rw [hd] at h; cases h
theorem lv {op : BinOp} {t : TypeId} {u v : Value} {b : Bool} (hE : ∀ (d : Nat) (w : World), (Op.equalIn (d + 2) t u v).run P w = .ok b w) {x y : Operand}
  (hG:∀ (op:BinOp) (w:World),(eqGuard op t x y u v).run P w = .ok () w) (hs:(∃ T p,u = .iface T p)\/u = .nilIface) {K:AV->Prop} (hK:dO op b K) :
  ∃ r:Bool,K (.b r)/\∀ w:World,(do eqGuard op t x y u v; binOp op t u v:Sem Value).run P w = .ok (.bool r) w:=by
 cases op<;>first | exact (hK:False).elim | skip
 ·refine ⟨b,hK,fun w=>?_⟩
  have h1:=hE 9998 w
  rcases hs with ⟨T,p,rfl⟩ | rfl
  ·cases v<;>simp [hG,binOp,Op.equal,Op.maxDepth,h1]
  ·cases v<;>simp [hG,binOp,Op.equal,Op.maxDepth,h1]
 ·refine ⟨!b,hK,fun w=>?_⟩
  have h1:=hE 9998 w
  rcases hs with ⟨T,p,rfl⟩ | rfl
  ·cases v<;>simp [hG,binOp,Op.equal,Op.maxDepth,h1]
  ·cases v<;>simp [hG,binOp,Op.equal,Op.maxDepth,h1]
theorem Fm {t T : TypeId} {ms : Array (String × TypeId)} (hu : P.underlying t = some (.interface ms)) (hi : P.underlying T = some (.int .i64)) {i : TypeInfo} (h2 : P.info? T = some i) (h3 : i.comparable = true) {m n : Int} (d : Nat) (w : World) :
  (Op.equalIn (d + 2) t (.iface T (.int .i64 m)) (.iface T (.int .i64 n))).run P w = .ok (decide (m = n)) w:=by
 have h0:(Op.equalIn (d + 1) T (.int .i64 m) (.int .i64 n)).run P w = .ok (decide (m = n)) w:=by
  rw [Op.equalIn]
  simp only [Sem.run_bind,run_underlying hi,Result.andThen_ok,if_true,Sem.run_pure]
  rfl
 rw [Op.equalIn]
 simp only [Sem.run_bind,run_underlying hu,Result.andThen_ok,typeInfo,ne_eq,not_true,if_false]
 simp [h2,h3,h0]
theorem HD {t:TypeId} {ms:Array (String × TypeId)} (hu:P.underlying t = some (.interface ms)) (d:Nat) (w:World):(Op.equalIn (d + 2) t .nilIface .nilIface).run P w = .ok true w:=by
 rw [Op.equalIn]
 simp only [Sem.run_bind,run_underlying hu,Result.andThen_ok]
 rfl
theorem zI {t:TypeId} {ms:Array (String × TypeId)} (hu:P.underlying t = some (.interface ms)) {T:TypeId} {p:Value} (d:Nat) (w:World):(Op.equalIn (d + 2) t .nilIface (.iface T p)).run P w = .ok false w:=by
 rw [Op.equalIn]
 simp only [Sem.run_bind,run_underlying hu,Result.andThen_ok]
 rfl
theorem zH {t:TypeId} {ms:Array (String × TypeId)} (hu:P.underlying t = some (.interface ms)) {T:TypeId} {p:Value} (d:Nat) (w:World):(Op.equalIn (d + 2) t (.iface T p) .nilIface).run P w = .ok false w:=by
 rw [Op.equalIn]
 simp only [Sem.run_bind,run_underlying hu,Result.andThen_ok]
 rfl
theorem HC {t:TypeId} {ms:Array (String × TypeId)} (hu:P.underlying t = some (.interface ms)) {T T':TypeId} (da:T≠T') {p q:Value} (d:Nat) (w:World):(Op.equalIn (d + 2) t (.iface T p) (.iface T' q)).run P w = .ok false w:=by
 rw [Op.equalIn]
 simp only [Sem.run_bind,run_underlying hu,Result.andThen_ok,if_pos da]
 rfl
theorem lp {t:TypeId} {x y:Operand} {T:TypeId} {p q:Value} (op:BinOp) (w:World):(eqGuard op t x y (.iface T p) q).run P w = .ok () w:=by cases op<;>rfl
theorem tI {t:TypeId} {x y:Operand} {T:TypeId} {p:Value} (op:BinOp) (w:World):(eqGuard op t x y .nilIface (.iface T p)).run P w = .ok () w:=by cases op<;>rfl
theorem zX {t:TypeId} {x y:Operand} (hl:(rY x || rY y) = true) (op:BinOp) (w:World):(eqGuard op t x y .nilIface .nilIface).run P w = .ok () w:=by
 cases op<;>cases x<;>cases y<;>first | rfl | cases hl
theorem Mk (aY : Γ.ok P) {op : BinOp} {t : TypeId} {ms : Array (String × TypeId)} (hu : P.underlying t = some (.interface ms)) {x y : Operand} {O : Nat -> Prop} {a b : Option (TypeId × Option Int)} {u v : Value} {K : AV -> Prop}
  (hx:Im O w (.er a) u) (hy:Im O w (.er b) v) (h:Pa Γ op (rY x || rY y) a b K):∃ r:Bool,K (.b r)/\∀ w:World,(do eqGuard op t x y u v; binOp op t u v:Sem Value).run P w = .ok (.bool r) w:=by
 cases hx with
 | Qb =>
  cases hy with
  | Qb =>
   obtain ⟨hl,h⟩:=(af _ _).1 (show aC (rY x || rY y) (dO op true K) from h)
   exact lv (HD hu) (zX hl) (.inr rfl) h
  | Qc T n=>exact lv (zI hu) tI (.inr rfl) (show dO op false K from h)
  | Mj T q=>exact lv (zI hu) tI (.inr rfl) (show dO op false K from h)
 | Qc T m =>
  cases hy with
  | Qb=>exact lv (zH hu) lp (.inl ⟨_,_,rfl⟩) (show dO op false K from h)
  | Qc T' n =>
   have h:match Nat.beq T T' with
    | true=>cp Γ T fun ti=>aC (yf ti.desc && ti.cmp) (dO op (decide (m = n)) K)
    | false=>dO op false K:=h
   cases hb:Nat.beq T T' with
   | false =>
    rw [hb] at h
    exact lv (HC hu (Nat.ne_of_beq_eq_false hb)) lp (.inl ⟨_,_,rfl⟩) h
   | true =>
    rw [hb] at h
    have hh:cp Γ T fun ti=>aC (yf ti.desc && ti.cmp) (dO op (decide (m = n)) K):=h
    clear h
    obtain rfl:=Nat.eq_of_beq_eq_true hb
    obtain ⟨ti,cw,h⟩:=bq aY hh
    obtain ⟨h1,h⟩:=(af _ _).1 h
    rw [Bool.and_eq_true] at h1
    obtain ⟨i,h2,h3⟩:=cw.cmp h1.2
    exact lv (Fm hu (QO cw h1.1) h2 h3) lp (.inl ⟨_,_,rfl⟩) h
  | Mj T' q=>exact (show False from h).elim
 | Mj T p =>
  cases hy with
  | Qb=>exact lv (zH hu) lp (.inl ⟨_,_,rfl⟩) (show dO op false K from h)
  | Qc T' n=>exact (show False from h).elim
  | Mj T' q=>exact (show False from h).elim
def HS [G:Globs] (s:St):Operand->(AV->Prop)->Prop
 | .global g,K=>∃ (T:TypeId) (p:Value) (e:TypeId) (fz:Nat × Nat),(g,Obj.cells #[.iface T p] e fz) ∈ G.gl/\K (.rp [.er (some (T,none))])
 | x,K=>bG s x K
def yt (P:Program) (Γ:Ctx) (N:Nat) (o:Oper) (s:St) (K:St->Prop):Prop :=
 match o.op with
 | .alloc t=>cp Γ t fun ti=>match ti.sb with
  | some e=>sR N s t ti e o.dst K
  | none=>match ti.desc with
   | .arr n e=>cp Γ e fun te=>match te.ty with
    | some .u8=>r7 N s ti n o.dst K
    | _=>nW Γ N s t o.dst K
   | _=>nW Γ N s t o.dst K
 | .slice t x lo hi mx=>bG s x fun a=>oO Γ N s t lo hi mx o.dst K (qY Γ s (.slice t x lo hi mx) fun v=>al N s o.dst v K) a
 | .range t x=>Jq Γ N s t x o.dst K
 | .next x b=>match b with
  | true=>IY N s x o.dst K
  | false=>False
 | .box _ x=>Hc N s x o.dst K
 | .binOp op t x y _=>bG s x fun a=>bG s y fun b=>wb Γ op t (rY x || rY y) a b fun v=>al N s o.dst v K
 | .makeInterface t x=>bG s x fun a=>cp Γ t fun ti=>aC (!yg ti.desc) (IV t a fun v=>al N s o.dst v K)
 | .load t x=>bG s x fun p=>ui Γ s t p fun s=>HS s x fun p=>eS Γ s t p fun v=>al N s o.dst v K
 | .store t x y=>bG s x fun p=>bG s y fun v=>cp Γ t fun ti=>match o.dst with
  | none=>Ki s ti p v K
  | some _=>False
 | .convert src dst x=>bG s x fun a=>cp Γ src fun ts=>cp Γ dst fun ti=>lg Γ ts.desc ti.desc a fun v=>al N s o.dst v K
 | .makeSlice t x y=>PB Γ N s t x y o.dst K
 | .makeMap t r=>match r with
  | none=>IW Γ N s t o.dst K
  | some _=>False
 | .lookup t x i ok=>um Γ N s t x i ok o.dst K
 | .mapUpdate t x i y=>sx Γ s t x i y o.dst K
 | .insert t x i y=>sx Γ s t x i y o.dst K
 | .build t ps=>bif iq Γ t then oT Γ N s t ps.toList o.dst K else ld Γ N s t ps.toList o.dst K
 | .buildSlice t len ps=>sa Γ N s t len ps.toList o.dst K
 | .call c=>Mb P Γ N s o.op c.args.toList c.argTypes.toList o.dst K c.callee
 | op=>qY Γ s op fun v=>al N s o.dst v K

theorem B3 (aY : Γ.bR P) (hI : ao W0 F X N s β a w) {o : Oper} {b : Builtin} {args : Array Operand} {ts : Array TypeId} (ho : o.op = .call { callee := .builtin b, args := args, argTypes := ts })
  {K:AV->Prop} (h:wh Γ s b args.toList ts.toList K):e9 P X s β a w o K:=by
 cases b<;>first | exact h.elim | skip
 ·have h:fc s args.toList fun l=>dp ts.toList 0 fun t=>cp Γ t fun ti=>AH ti.desc l K:=h
  rw [dc] at h
  obtain ⟨t,h1,h⟩:=(bA _ _ _).1 h
  obtain ⟨ti,cw,h⟩:=bq aY.ok h
  exact QU ho hI h1 cw h
 ·have h:fc s args.toList fun l=>FI l K:=h
  rw [dc] at h
  exact w4 ho hI (.inr ⟨rfl,h⟩)
 ·have h:fc s args.toList fun l=>FL l K:=h
  rw [dc] at h
  exact w4 ho hI (.inl ⟨rfl,h⟩)

theorem Ea {x:Operand} {l:List Operand} (h:x ∈ l):ev s x ∈ kC s l:=by
 induction l with
 | nil=>cases h
 | cons y r ih =>
  rcases List.mem_cons.1 h with rfl | h
  ·exact List.mem_cons_self ..
  ·exact List.mem_cons_of_mem _ (ih h)
theorem oC (aY:Γ.bR P) (hI:ao W0 F X N s β a w) {o:Oper} {K:AV->Prop} (h:qY Γ s o.op K):e9 P X s β a w o K:=by
 cases ho:o.op with
 | move x=>rw [ho] at h; have h:bG s x K:=h; rw [aE] at h; exact ⟨_,_,h,(aF hI x).1,(aF hI x).2,fun w'=>by simp [execOp,ho]⟩
 | assign x=>rw [ho] at h; have h:bG s x K:=h; rw [aE] at h; exact ⟨_,_,h,(aF hI x).1,(aF hI x).2,fun w'=>by simp [execOp,ho]⟩
 | pick c x y =>
  rw [ho] at h
  have h:bG s c fun c=>bG s x fun a=>bG s y fun b=>iH c a b K:=h
  simp only [aE] at h
  exact Na hI ho h
 | binOp op t x y ty =>
  rw [ho] at h
  have h:bG s x fun a=>bG s y fun b=>oP Γ op t a b K:=h
  simp only [aE] at h
  exact GZ aY.ok hI ho h
 | unOp op t x =>
  rw [ho] at h
  have h:bG s x fun a=>Sm op a K:=h
  simp only [aE] at h
  obtain ⟨r,z,h1,h2,h3⟩:=Sn (P:=P) op h (aF hI x).1
  exact .im h1 h2 (fun w'=>by simp [execOp,ho,h3])
 | convert src dst x =>
  rw [ho] at h
  have h:bG s x fun a=>cp Γ src fun _=>cp Γ dst fun ti=>o6 ti.desc a K:=h
  rw [aE] at h
  obtain ⟨si,hsi,h⟩:=bq aY.ok h
  obtain ⟨ti,cw,h⟩:=bq aY.ok h
  obtain ⟨d,hd,_⟩:=hsi.desc
  exact DC ho cw (aF hI x).1 h ⟨d,hd⟩
 | fieldAddr t x f =>
  rw [ho] at h
  have h:bG s x fun p=>cp Γ t fun ti=>ew ti.desc fun fl=>dp fl f fun d=>match d with | (off,_)=>tn off p K:=h
  rw [aE] at h
  obtain ⟨ti,cw,h⟩:=bq aY.ok h
  obtain ⟨fl,fs,h,hu,h3,h4⟩:=ju cw h
  obtain ⟨d,hd,h⟩:=(bA _ _ _).1 h
  exact HF ho hu h3 h4 hd (aF hI x).1 (aF hI x).2 h
 | field t x f =>
  rw [ho] at h
  have h:bG s x fun p=>cp Γ t fun ti=>ew ti.desc fun fl=>dp fl f fun d=>match d with | (off,sz)=>tr off sz p K:=h
  rw [aE] at h
  obtain ⟨ti,cw,h⟩:=bq aY.ok h
  obtain ⟨fl,fs,h,hu,h3,h4⟩:=ju cw h
  obtain ⟨d,hd,h⟩:=(bA _ _ _).1 h
  exact HH ho hu h3 hd h4 (aF hI x).1 h
 | extract x i =>
  rw [ho] at h
  have h:bG s x fun p=>mi i p K:=h
  rw [aE] at h
  exact Cf ho (aF hI x).1 (aF hI x).2 h
 | indexAddr t x i =>
  rw [ho] at h
  have h:bG s x fun a=>bG s i fun n=>nL n fun n=>cp Γ t fun ti=>pq Γ n a K ti.desc:=h
  rw [aE,aE] at h
  obtain ⟨k,n,hi,h⟩:=tZ h (aF hI i).1
  obtain ⟨ti,cw,h⟩:=bq aY.ok h
  obtain ⟨de,h1,h2⟩:=cw.desc
  cases hd:ti.desc with
  | slice e =>
   rw [hd] at h h2
   obtain ⟨te,gO,h⟩:=bq aY.ok h
   exact IE ho ((show de = .slice e from h2) ▸ h1) gO hi (aF hI x).1 (aF hI x).2 h
  | arr len e =>
   rw [hd] at h h2
   obtain ⟨te,gO,h⟩:=bq aY.ok h
   exact BZ ho ((show de = .array len e from h2) ▸ h1) gO hi (aF hI x).1 (aF hI x).2 h
  | _=>rw [hd] at h; exact h.elim
 | index t x i =>
  rw [ho] at h
  have h:bG s x fun a=>bG s i fun n=>nL n fun n=>cp Γ t fun ti=>ss Γ n a K ti.desc:=h
  rw [aE,aE] at h
  obtain ⟨k,n,hi,h⟩:=tZ h (aF hI i).1
  obtain ⟨ti,cw,h⟩:=bq aY.ok h
  obtain ⟨de,h1,h2⟩:=cw.desc
  cases hd:ti.desc with
  | str =>
   rw [hd] at h h2
   exact Bt ho ((show de = .string from h2) ▸ h1) hi (aF hI x).1 h
  | arr len e =>
   rw [hd] at h h2
   obtain ⟨te,gO,h⟩:=bq aY.ok h
   exact EY ho ((show de = .array len e from h2) ▸ h1) gO hi (aF hI x).1 h
  | _=>rw [hd] at h; exact h.elim
 | nilCheck x =>
  rw [ho] at h
  have h:bG s x fun p=>pC p K:=h
  rw [aE] at h
  exact FM ho (aF hI x).1 (aF hI x).2 h
 | makeFunc fn first captured =>
  rw [ho] at h
  have key:∀ l:List AV,ko l = true->∀ v ∈ l,ko [v] = true:=by
   intro l
   induction l with
   | nil=>intro _ v hv; cases hv
   | cons y r ih =>
    intro hl v hv
    have hy:ko r = true/\ko [y] = true:=by cases y<;>first | exact ⟨hl,rfl⟩ | exact absurd (show false = true from hl) (by simp)
    rcases List.mem_cons.1 hv with e | hv
    ·rw [e]; exact hy.2
    ·exact ih hy.1 v hv
  obtain ⟨first⟩:=first
  obtain ⟨captured⟩:=captured
  cases fn with
  | func f =>
   cases first with
   | nil =>
    have h:fc s captured fun l=>aC (ko l) (aC (!bQ l) (K (.fn f l))):=h
    rw [dc] at h
    obtain ⟨h1,h⟩:=(af _ _).1 h
    obtain ⟨h2,h⟩:=(af _ _).1 h
    exact HK hI ho (fun x hx=>key _ h1 _ (Ea hx)) (by simpa using h2) h
   | cons x r =>
    cases captured with
    | nil =>
     have h:fc s (x::r) fun l=>aC (ko l) (K (.fn f (.np::l))):=h
     rw [dc] at h
     obtain ⟨h1,h⟩:=(af _ _).1 h
     exact GY hI ho (fun x hx=>key _ h1 _ (Ea hx)) h
    | cons _ _=>exact h.elim
  | _=>exact h.elim
 | call c =>
  rw [ho] at h
  obtain ⟨callee,args,ts⟩:=c
  cases callee with
  | builtin b=>exact B3 aY hI ho h
  | _=>exact h.elim
 | slice t x lo hi mx =>
  rw [ho] at h
  cases mx with
  | some _=>exact h.elim
  | none =>
   have h:bG s x fun a=>cp Γ t fun ti=>match gZ ti.desc with
    | true=>fC s lo hi a K
    | false=>cW ti.desc fun e=>cp Γ e fun te=>fQ s te.cells lo hi a K:=h
   rw [aE] at h
   obtain ⟨ti,cw,h⟩:=bq aY.ok h
   cases hs:gZ ti.desc with
   | true=>rw [hs] at h; exact Bu hI ho (Kl cw hs) (aF hI x).1 h
   | false =>
    rw [hs] at h
    obtain ⟨e,h,hu⟩:=kV cw h
    obtain ⟨te,gO,h⟩:=bq aY.ok h
    exact CM hI ho hu gO (aF hI x).1 (aF hI x).2 h
 | _=>rw [ho] at h; exact h.elim

theorem nI (aY : Γ.bR P) (hI : ao W0 F X N s β a w) {o : Oper} {K : St -> Prop} (h : qY Γ s o.op fun v => al N s o.dst v K)
  {next:Act->World->Prop} {Q:Exit->Act->World->Prop} (hn:∀ s' a' w',K s'->Inv W0 F X N s' a' w'->next a' w'):o.wp P a w next Q:=by
 obtain ⟨v,u,h1,h2,h3,h4⟩:=oC aY hI h
 exact gJ hI h1 hn (h4 w) h2 h3

theorem nR (aY : Γ.bR P) (hI : ao W0 F X N s β a w) {o : Oper} {K : St -> Prop} (h : yt P Γ N o s K)
  {next:Act->World->Prop} {Q:Exit->Act->World->Prop} (hn:∀ s' a' w',K s'->Inv W0 F X N s' a' w'->next a' w'):o.wp P a w next Q:=by
 unfold yt at h
 cases ho:o.op with
 | alloc t =>
  rw [ho] at h
  obtain ⟨ti,cw,h⟩:=bq aY.ok (show cp Γ t fun ti=>match ti.sb with
   | some e=>sR N s t ti e o.dst K
   | none=>match ti.desc with
    | .arr n e=>cp Γ e fun te=>match te.ty with
     | some .u8=>r7 N s ti n o.dst K
     | _=>nW Γ N s t o.dst K
    | _=>nW Γ N s t o.dst K from h)
  cases he:ti.sb with
  | some e=>rw [he] at h; exact BX hI ho cw h hn
  | none =>
   rw [he] at h
   have PD:nW Γ N s t o.dst K->o.wp P a w next Q:=fun h=>GU aY.ok (fun p hp=>(aY.one p hp).1) hI ho h hn
   cases hd:ti.desc with
   | arr n e =>
    rw [hd] at h
    obtain ⟨te,gO,h⟩:=bq aY.ok (show cp Γ e fun te=>match te.ty with
     | some .u8=>r7 N s ti n o.dst K
     | _=>nW Γ N s t o.dst K from h)
    split at h
    ·exact EZ hI ho cw h hn
    ·exact PD h
   | _=>rw [hd] at h; exact PD h
 | slice t x lo hi mx =>
  rw [ho] at h
  have h:bG s x fun a=>oO Γ N s t lo hi mx o.dst K (qY Γ s (.slice t x lo hi mx) fun v=>al N s o.dst v K) a:=h
  rw [aE] at h
  exact EX aY.ok hI ho h (fun h=>nI aY hI (by rw [ho]; exact h) hn) hn
 | range t x=>rw [ho] at h; exact Jr aY.ok hI ho h hn
 | next x b =>
  rw [ho] at h
  cases b with
  | true=>exact M7 hI ho h hn
  | false=>exact h.elim
 | box t x=>rw [ho] at h; exact Hd hI ho h hn
 | binOp op t x y ty =>
  rw [ho] at h
  have h:bG s x fun a=>bG s y fun b=>wb Γ op t (rY x || rY y) a b fun v=>al N s o.dst v K:=h
  simp only [aE] at h
  unfold wb at h
  split at h
  ·rename_i Mv Mw
   have hx:=(aF hI x).1
   have hy:=(aF hI y).1
   rw [Mv] at hx; rw [Mw] at hy
   obtain ⟨ti,cw,h⟩:=bq aY.ok h
   obtain ⟨h1,h⟩:=(af _ _).1 h
   obtain ⟨ms,hu⟩:=QQ cw h1
   obtain ⟨r,hK,bu⟩:=Mk aY.ok hu (show Im _ _ _ _ from hx) (show Im _ _ _ _ from hy) h
   refine gJ hI hK hn (u:=.bool r) ?_ (.b r) (fun n hn=>by cases hn)
   have h3:=bu w
   simp only [execOp,ho]
   simp only [Sem.run_bind] at h3 ⊢
   rw [h3]
   rfl
  have hx:=(aF hI x).1
  have hy:=(aF hI y).1
  have key:∀ {b:Bool} {A:Option Addr} {n c:Nat},a.eval x = .slice A n c->a.eval y = .slice none 0 0->(b = false->A.isNone = false)->(cp Γ t fun ti=>cW ti.desc fun _=>qG op b fun v=>al N s o.dst v K)->o.wp P a w next Q:=fun MR hye hb h=>by
   obtain ⟨ti,cw,h⟩:=bq aY.ok h
   obtain ⟨e,h,hu⟩:=kV cw h
   obtain ⟨v,hK,bu⟩:=IZ hu h x y hb
   refine gJ hI hK hn (u:=.bool v) ?_ (.b v) (fun n hn=>by cases hn)
   have h3:=bu w
   simp only [execOp,ho,MR,hye]
   simp only [Sem.run_bind] at h3 ⊢
   rw [h3]
   rfl
  unfold zp at h
  split at h
  ·rename_i Mv Mw
   rw [Mv] at hx; rw [Mw] at hy
   have hx:Im (Own X s β) w _ (a.eval x):=hx
   generalize he:a.eval x = u at hx
   cases hx with
   | uR _ A c _=>exact key he hy.gz (fun hl=>by cases hl) h
   | rd=>exact key he hy.gz (fun _=>rfl) h
  ·rename_i Mv Mw
   rw [Mv] at hx; rw [Mw] at hy
   rcases (show aU _ _ _ _ _ _ _ from hx) with ⟨h1,h2,_⟩ | ⟨g,c,cur,e,_,h2,_⟩
   ·exact key h2 hy.gz (fun he=>by subst h1; cases he) h
   ·exact key h2 hy.gz (fun _=>rfl) h
  ·rename_i Mv Mw
   rw [Mv] at hx; rw [Mw] at hy
   exact key (b:=true) hx.gz hy.gz (fun h=>by cases h) h
  ·rename_i Mv Mw
   rw [Mv] at hx; rw [Mw] at hy
   rcases (show _/\aU _ _ _ _ _ _ _ from hx).2 with ⟨h1,h2,_⟩ | ⟨g,c,cur,e,_,h2,_⟩
   ·exact key h2 hy.gz (fun he=>by subst h1; cases he) h
   ·exact key h2 hy.gz (fun _=>rfl) h
  ·obtain ⟨v,u,h1,h2,h3,h4⟩:=GZ aY.ok hI ho h
   exact gJ hI h1 hn (h4 w) h2 h3
 | makeInterface t x =>
  rw [ho] at h
  have h:bG s x fun a=>cp Γ t fun ti=>aC (!yg ti.desc) (IV t a fun v=>al N s o.dst v K):=h
  rw [aE] at h
  obtain ⟨ti,cw,h⟩:=bq aY.ok h
  obtain ⟨h1,h⟩:=(af _ _).1 h
  have bu:(execOp a.eval o).run P w = .ok (.value (.iface t (a.eval x))) w:=by
   obtain ⟨de,hu,hd⟩:=cw.desc
   have da:∀ ms,de≠.interface ms:=by
    intro ms e
    subst e
    cases VY:ti.desc with
    | U3=>rw [VY] at h1; cases h1
    | other=>rw [VY] at hd; exact (show _/\_/\_ from hd).2.2 _ rfl
    | struct fl=>rw [VY] at hd; obtain ⟨fs,hf,_⟩:=(show ∃ fs:Array Field,_/\_/\_ from hd); cases hf
    | _=>rw [VY] at hd; cases (show TypeDesc.interface ms = _ from hd)
   simp only [execOp,ho]
   cases de<;>first | exact absurd rfl (da _) | simp [Instr.makeInterface,run_underlying hu]
  have hx:=(aF hI x).1
  cases jT:ev s x with
  | i k n =>
   rw [jT] at h hx
   rw [show a.eval x = .int k n from hx.kd] at bu
   cases k<;>first
    | exact gJ hI (show al N s o.dst (.er (some (t,some n))) K from h) hn bu (.Qc t n) (fun n hn=>by cases hn)
    | exact gJ hI (show al N s o.dst (.er (some (t,none))) K from h) hn bu (.Mj t _) (fun n hn=>by cases hn)
  | _=>rw [jT] at h; exact gJ hI (show al N s o.dst (.er (some (t,none))) K from h) hn bu (.Mj t _) (fun n hn=>by cases hn)
 | load t x =>
  rw [ho] at h
  have h:bG s x fun p=>ui Γ s t p fun s=>HS s x fun p=>eS Γ s t p fun v=>al N s o.dst v K:=h
  by_cases Uj:∃ g,x = .global g
  ·obtain ⟨g,rfl⟩:=Uj
   obtain ⟨T,p,e,fz,gw,h⟩:=(show ∃ (T:TypeId) (p:Value) (e:TypeId) (fz:Nat × Nat),(g,Obj.cells #[.iface T p] e fz) ∈ Globs.gl/\eS Γ s t (.rp [.er (some (T,none))]) fun v=>al N s o.dst v K from h)
   obtain ⟨rT,y9⟩:=hI.tC _ gw
   have hr:Rel β (Own X s β) w (.rp [.er (some (T,none))]) (a.eval (.global g)):=by
    refine Im.ur (o:=0) fun j av hj=>?_
    cases j with
    | zero =>
     injection hj with hj
     subst hj
     exact ⟨rT,.iface T p,by simp [World.cell?,y9],.Mj T p,rfl⟩
    | succ j=>cases hj
   obtain ⟨v,u,h1,h2,h3,h4⟩:=ni aY.ok hI ho hr (fun n hn=>by cases hn) h
   exact gJ hI h1 hn h4 h2 h3
  have Cr:∀ s K,HS s x K = bG s x K:=fun s K=>by cases x<;>first | rfl | exact absurd ⟨_,rfl⟩ Uj
  simp only [Cr] at h
  rw [aE] at h
  have key:∃ s',ao W0 F X N s' β a w/\bG s' x fun p=>eS Γ s' t p fun v=>al N s' o.dst v K:=by
   cases hp:ev s x with
   | pt n off =>
    rw [hp] at h
    have h:bif iq Γ t then (bG s x fun p=>eS Γ s t p fun v=>al N s o.dst v K) else eE s.boxes n fun cs=>cp Γ t fun ti=>match aK ti.desc with
     | true=>fj ti.cells (cs.drop off) fun l=>eG l fun ids=>dP ids s fun s=>bG s x fun p=>eS Γ s t p fun v=>al N s o.dst v K
     | false=>bG s x fun p=>eS Γ s t p fun v=>al N s o.dst v K:=h
    cases X2:iq Γ t with
    | true=>rw [X2] at h; exact ⟨s,hI,h⟩
    | false =>
    rw [X2,cond_false] at h
    obtain ⟨cs,h1,h⟩:=(cJ _ _ _).1 h
    obtain ⟨ti,cw,h⟩:=bq aY.ok h
    cases hs:aK ti.desc with
    | true =>
     rw [hs] at h
     have h:=((dJ _ _ _).1 h).2
     rw [fm,dL] at h
     exact ⟨_,hI.cA _,h⟩
    | false=>rw [hs] at h; exact ⟨s,hI,h⟩
   | _=>rw [hp] at h; exact ⟨s,hI,h⟩
  obtain ⟨s',bS,h⟩:=key
  rw [aE] at h
  obtain ⟨v,u,h1,h2,h3,h4⟩:=ni aY.ok bS ho (aF bS x).1 (aF bS x).2 h
  exact gJ bS h1 hn h4 h2 h3
 | store t x y =>
  rw [ho] at h
  have h:bG s x fun p=>bG s y fun v=>cp Γ t fun ti=>match o.dst with
   | none=>Ki s ti p v K
   | some _=>False:=h
  rw [aE,aE] at h
  obtain ⟨ti,cw,h⟩:=bq aY.ok h
  cases hd:o.dst with
  | some d=>rw [hd] at h; exact h.elim
  | none =>
   rw [hd] at h
   cases hp:ev s x with
   | pt n off =>
    rw [hp] at h
    have hx:=(aF hI x).1
    rw [hp] at hx
    obtain ⟨s',w',h1,h2,h3⟩:=Bs hI ho cw hx (aF hI y).1 (aF hI y).2 h
    exact Dc h3 (by rw [hd]; exact hn _ _ _ h1 ⟨β,h2⟩)
   | vp id τ l n off =>
    rw [hp] at h
    have hx:=aF hI x
    rw [hp] at hx
    have hh:∃ s' w',K s'/\ao W0 F X N s' β a w'/\(execOp a.eval o).run P w = .ok .skip w':=by
     have h:I8 (tH τ off (ev s y)) (fun r row=>vo s id r n row ti.cells K) (vq s id τ n off ti.cells (ev s y) K):=h
     cases wR:tH τ off (ev s y) with
     | none=>rw [wR] at h; exact C3 hI ho cw hx.1 (hx.2 id (by simp [ids,aw])) (aF hI y).1 (aF hI y).2 h
     | some p =>
      obtain ⟨r,row⟩:=p
      rw [wR] at h
      obtain ⟨rfl,rfl,hv⟩:=zV wR
      have hy:=aF hI y
      rw [hv] at hy
      exact C2 hI ho cw hx.1 (hx.2 id (by simp [ids,aw])) hy.1 (hy.2 r (by simp [ids,aw])) h
    obtain ⟨s',w',h1,h2,h3⟩:=hh
    exact Dc h3 (by rw [hd]; exact hn _ _ _ h1 ⟨β,h2⟩)
   | _=>rw [hp] at h; exact h.elim
 | convert src dst x =>
  rw [ho] at h
  have h:bG s x fun a=>cp Γ src fun ts=>cp Γ dst fun ti=>lg Γ ts.desc ti.desc a fun v=>al N s o.dst v K:=h
  rw [aE] at h
  obtain ⟨ts,QI,h⟩:=bq aY.ok h
  obtain ⟨ti,cw,h⟩:=bq aY.ok h
  rcases Hr aY.ok ho QI cw (aF hI x).1 h with ⟨v,u,h1,h2,h3,h4⟩ | ⟨e,l,h1,h2,h3⟩
  ·exact gJ hI h1 hn h4 h2 h3
  ·obtain ⟨r,u,w',k1,k2,k3,k4⟩:=Ht (K:=fun v=>al N s o.dst v K) aY.ok (qL hI) ho QI cw h2 (aF hI x).1 h1 h3
   exact BG hI k2 k1 hn k3 k4
 | makeSlice t x y=>rw [ho] at h; exact M4 aY.ok hI ho h hn
 | makeMap t r =>
  cases r with
  | none=>rw [ho] at h; exact IX aY.ok hI ho h hn
  | some x=>rw [ho] at h; exact h.elim
 | lookup t x i ok=>rw [ho] at h; exact CE aY.ok hI ho h hn
 | mapUpdate t x i y=>rw [ho] at h; exact wZ aY.ok hI (.inl ho) h hn
 | insert t x i y=>rw [ho] at h; exact wZ aY.ok hI (.inr ho) h hn
 | build t ps =>
  rw [ho] at h
  have h:bif iq Γ t then oT Γ N s t ps.toList o.dst K else ld Γ N s t ps.toList o.dst K:=h
  cases e:iq Γ t with
  | true=>rw [e] at h; exact E2 aY.ok (fun p hp=>(aY.one p hp).1) hI ho h hn
  | false=>rw [e] at h; exact Hf aY.ok (fun p hp=>(aY.one p hp).1) hI ho h hn
 | buildSlice t len ps=>rw [ho] at h; exact wg aY.ok aY.one hI ho h hn
 | call c =>
  rw [ho] at h
  obtain ⟨callee,args,ts⟩:=c
  cases callee with
  | value f =>
   have h:fc s args.toList fun vs=>lI vs (fun id aR o' rest=>oU P N s f id aR o' rest o.dst K) (sY P N s f args.toList o.dst K\/xK P N s f args.toList o.dst K\/xf P N s f args.toList o.dst K\/xL P N s f args.toList o.dst K\/sZ P N s f args.toList o.dst K\/xM P N s f args.toList o.dst K):=h
   rw [dc] at h
   rcases yI h with ⟨id,aR,ob,rest,Fx,h⟩ | h
   ·exact E6 hI ho Fx h hn
   ·exact h.elim (fun h=>Dt hI ho h hn) fun h=>h.elim (fun h=>Hg hI ho h hn) fun h=>h.elim (fun h=>Ng hI ho h hn) fun h=>h.elim (fun h=>Hh hI ho h hn) fun h=>h.elim (fun h=>Hk hI ho h hn) fun h=>Hj hI ho h hn
  | builtin b =>
   cases b with
   | append=>exact EV aY.ok aY.one hI ho h hn
   | _=>exact nI aY hI (by rw [ho]; exact h) hn
  | invoke r m=>exact nI aY hI (by rw [ho]; exact h) hn
 | _=>exact nI aY hI (by rw [ho]; rw [ho] at h; exact h) hn

/-! ### a region -/
def jF (N:Nat) (known:Bool) (s:St) (d:Nat) (want:Bool) (run skip:St->Prop):Prop :=
 fF s.aj d fun v=>match known with
  | true=>match v with
   | .b true=>bif want then run s else skip s
   | .b false=>bif want then skip s else run s
   | .bc []=>skip s
   | _=>False
  | false=>match v with
   | .b t=>(t = want->al N s (some d) (.b want) run)/\(t = (!want)->al N s (some d) (.b (!want)) skip)
   | .bc []=>skip s
   | _=>False
def uJ (P:Program) (Γ:Ctx) (N:Nat) (ops:List Oper) (o:Oper) (known:List Nat) (s:St) (K:List Nat->St->Prop):Prop :=
 match o.guard with
 | none=>yt P Γ N o s fun s=>K known s
 | some (j,want)=>dp ops j fun oj=>jU oj.dst fun d =>
  jF N (lQ j known) s d want (fun s=>yt P Γ N o s fun s=>K (j::known) s)
   (fun s=>al N s o.dst (.bc []) fun s=>K (j::known) s)
def rO (P:Program) (Γ:Ctx) (N:Nat) (ops:List Oper):List Oper->List Nat->St->(St->Prop)->Prop
 | [],_,s,Q=>Q s
 | o::r,known,s,Q=>uJ P Γ N ops o known s fun known s=>rO P Γ N ops r known s Q

theorem kX (O:Nat->Prop) (w:World):Im O w (.bc []) undef:=by
 have:=Im.bc (O:=O) (w:=w) [] [] rfl (by simp)
 exact this

theorem ml (hI : ao W0 F X N s β a w) {ops : List Oper} {j : Nat} {oj : Oper} (hj : ops[j]? = some oj) {d : Nat} (hd : oj.dst = some d) {known want : Bool} {run skip : St -> Prop} (h : jF N known s d want run skip) :
  (∃ s',ao W0 F X N s' β a w/\yielded ops.toArray a.tmps j = some want/\run s')\/(∃ s',ao W0 F X N s' β a w/\yielded ops.toArray a.tmps j≠some want/\skip s'):=by
 have hy:yielded ops.toArray a.tmps j = (match a.tmps[d]? with | some (.bool b)=>some b | _=>none):=by
  simp [yielded,hj,hd]; rfl
 have hr:=hI.aj d
 have Uy:∀ (t want:Bool),look s.aj d = .b t->yielded ops.toArray a.tmps j = some t:=by
  intro t want hv
  rw [hv] at hr
  have:=hr.jG
  rw [hy]
  rw [Array.getD_eq_getD_getElem?] at this
  cases hc:a.tmps[d]? with
  | none=>rw [hc] at this; simp [undef] at this
  | some u=>rw [hc] at this; simp at this; subst this; rfl
 have Ar:look s.aj d = .bc []->yielded ops.toArray a.tmps j≠some want:=by
  intro hv
  rw [hv] at hr
  obtain ⟨vs,h1,h2⟩:=hr.D1
  rw [hy]
  rw [Array.getD_eq_getD_getElem?] at h1
  cases hc:a.tmps[d]? with
  | none=>simp
  | some u=>rw [hc] at h1; simp at h1; subst h1; simp
 have vO:∀ t,look s.aj d = .b t->∀ K:St->Prop,al N s (some d) (.b t) K->∃ s',ao W0 F X N s' β a w/\K s':=by
  intro t hv K hK
  rw [bZ] at hK
  cases hb:Nat.blt d N with
  | false=>rw [hb] at hK; exact hK.elim
  | true =>
   rw [hb,cond_true] at hK
   have jS:d < N:=by rw [Nat.blt_eq] at hb; exact hb
   have h1:=hI.put jS (v:=.b t) (u:=a.tmps.getD d undef) (by rw [hv] at hr; exact hr) (by intro n hn; cases hn)
   refine ⟨_,?_,hK⟩
   have e:a.put (some d) (a.tmps.getD d undef) = a:=by
    have YH:d < a.tmps.size:=by rw [hI.size]; exact jS
    simp only [Act.put]
    congr 1
    apply Array.ext_getElem?
    intro i
    rw [Array.getElem?_setIfInBounds]
    split
    ·rename_i e; subst e; rw [Array.getElem?_eq_getElem YH]; simp
    ·rfl
   rw [e] at h1
   exact h1
 unfold jF at h
 rw [dA] at h
 cases known with
 | true =>
  cases hv:look s.aj d with
  | b t =>
   rw [hv] at h
   have MS:=Uy t want hv
   cases t<;>cases want
   ·exact .inl ⟨s,hI,MS,h⟩
   ·exact .inr ⟨s,hI,by rw [MS]; simp,h⟩
   ·exact .inr ⟨s,hI,by rw [MS]; simp,h⟩
   ·exact .inl ⟨s,hI,MS,h⟩
  | bc l =>
   rw [hv] at h
   cases l with
   | nil=>exact .inr ⟨s,hI,Ar hv,h⟩
   | cons _ _=>exact h.elim
  | _=>rw [hv] at h; exact h.elim
 | false =>
  cases hv:look s.aj d with
  | b t =>
   rw [hv] at h
   have MS:=Uy t want hv
   by_cases ht:t = want
   ·obtain ⟨s',h1,h2⟩:=vO want (ht ▸ hv) run (h.1 ht)
    exact .inl ⟨s',h1,by rw [MS,ht],h2⟩
   ·have wT:t = !want:=by cases t<;>cases want<;>simp_all
    obtain ⟨s',h1,h2⟩:=vO (!want) (wT ▸ hv) skip (h.2 wT)
    exact .inr ⟨s',h1,by rw [MS]; simpa using ht,h2⟩
  | bc l =>
   rw [hv] at h
   cases l with
   | nil=>exact .inr ⟨s,hI,Ar hv,h⟩
   | cons _ _=>exact h.elim
  | _=>rw [hv] at h; exact h.elim

theorem mS (aY : Γ.bR P) {ops : List Oper} {Q : St -> Prop} {Q' : Exit -> Act -> World -> Prop} (hQ : ∀ s a w, Q s -> Inv W0 F X N s a w -> Q' .normal a w) (l : List Oper) :
  ∀ (known:List Nat) (s:St) (a:Act) (w:World),rO P Γ N ops l known s Q->Inv W0 F X N s a w->wpList P ops.toArray Q' l a w:=by
 induction l with
 | nil=>intro known s a w h hI; exact hQ s a w h hI
 | cons o r ih =>
  intro known s a w h ⟨β,hI⟩
  simp only [rO,uJ] at h
  cases hg:o.guard with
  | none =>
   rw [hg] at h
   exact wpList_plain hg fun K hK=>nR aY hI h fun s' a' w' h1 h2=>hK _ _ (ih known s' a' w' h1 h2)
  | some p =>
   obtain ⟨j,want⟩:=p
   rw [hg] at h
   obtain ⟨oj,hj,h⟩:=(bA _ _ _).1 h
   obtain ⟨d,hd,h⟩:=(cn _ _).1 h
   refine wpList_step fun K hK=>?_
   rcases ml hI hj hd h with ⟨s',bS,hy,h⟩ | ⟨s',bS,hy,h⟩
   ·rw [if_pos (by simp [Region.wanted,hg,hy])]
    exact nR aY bS h fun s' a' w' h1 h2=>hK _ _ (ih _ s' a' w' h1 h2)
   ·rw [if_neg (by simp [Region.wanted,hg]; exact hy)]
    obtain ⟨s2,h1,h2⟩:=iI bS (ca.refl _ w) h (kX _ _)
    exact hK _ _ (ih _ s2 _ _ h1 ⟨β,h2⟩)
end
end Go.SX
end
section
namespace Go.SX
variable [Globs]
section
def CP {α:Type} (f:(α->Prop)->Prop):Prop:=∃ A:α->Prop,∀ K,f K↔∃ v,A v/\K v
variable {α γ:Type}
theorem CP.O9 {f:(α->Prop)->Prop} (h:CP f) {K:α->Prop} (hk:f K):∃ v,f (fun u=>u = v)/\K v:=by
 obtain ⟨A,hA⟩:=h
 obtain ⟨v,h1,h2⟩:=(hA K).1 hk
 exact ⟨v,(hA _).2 ⟨v,h1,rfl⟩,h2⟩
theorem CP.Wl {f:(α->Prop)->Prop} (h:CP f) {K K':α->Prop} (hk:f K) (hi:∀ v,K v->K' v):f K':=by
 obtain ⟨A,hA⟩:=h
 obtain ⟨v,h1,h2⟩:=(hA K).1 hk
 exact (hA _).2 ⟨v,h1,hi v h2⟩
theorem CP.put {f:(α->Prop)->Prop} (h:CP f) {K:α->Prop} {v:α} (hk:f (fun u=>u = v)) (hv:K v):f K:=by
 obtain ⟨A,hA⟩:=h
 obtain ⟨u,h1,rfl⟩:=(hA _).1 hk
 exact (hA K).2 ⟨u,h1,hv⟩
theorem CP.pure {F:(α->Prop)->Prop} (v:α) (e:F = fun K:α->Prop=>K v:=by exact rfl):CP F:=⟨fun u=>u = v,fun K=>by subst e; simp⟩
theorem CP.none {F:(α->Prop)->Prop} (e:F = fun _:α->Prop=>False:=by exact rfl):CP F:=⟨fun _=>False,fun K=>by subst e; simp⟩
theorem CP.of_eq {f:(α->Prop)->Prop} {v:α} (h:∀ K,f K = K v):CP f:=⟨fun u=>u = v,fun K=>by rw [h]; simp⟩
theorem CP.Ws {p:Prop} {f:(α->Prop)->Prop} (h:CP f):CP (fun K=>p/\f K):=by
 obtain ⟨A,hA⟩:=h
 refine ⟨fun v=>p/\A v,fun K=>?_⟩
 show p/\f K↔_
 rw [hA]
 exact ⟨fun ⟨h1,v,h2,h3⟩=>⟨v,⟨h1,h2⟩,h3⟩,fun ⟨v,⟨h1,h2⟩,h3⟩=>⟨h1,v,h2,h3⟩⟩
theorem CP.and {p:Prop} {f F:(α->Prop)->Prop} (h:CP f) (e:F = fun K=>p/\f K:=by exact rfl):CP F:=e ▸ CP.Ws h
theorem CP.l8 {b:Bool} {f F:(α->Prop)->Prop} (h:CP f) (e:F = fun K=>aC b (f K):=by exact rfl):CP F:=by
 subst e
 cases b
 ·exact CP.none
 ·exact h
theorem CP.bif {b:Bool} {f g F:(α->Prop)->Prop} (h:CP f) (h':CP g) (e:F = fun K=>bif b then f K else g K:=by exact rfl):CP F:=by
 subst e
 cases b
 ·exact h'
 ·exact h
theorem CP.Tt {f:(γ->Prop)->Prop} {g:γ->(α->Prop)->Prop} (hf:CP f) (hg:∀ x,CP (g x)):CP (fun K=>f fun x=>g x K):=by
 obtain ⟨A,hA⟩:=hf
 refine ⟨fun v=>∃ x,A x/\g x (fun u=>u = v),fun K=>?_⟩
 show (f fun x=>g x K)↔_
 rw [hA]
 constructor
 ·rintro ⟨x,h1,h2⟩
  obtain ⟨v,h3,h4⟩:=(hg x).O9 h2
  exact ⟨v,⟨x,h1,h3⟩,h4⟩
 ·rintro ⟨v,⟨x,h1,h3⟩,h4⟩
  exact ⟨x,h1,(hg x).put h3 h4⟩
theorem CP.bind {f:(γ->Prop)->Prop} {g:γ->(α->Prop)->Prop} {F:(α->Prop)->Prop} (hf:CP f) (hg:∀ x,CP (g x)) (e:F = fun K=>f fun x=>g x K:=by exact rfl):CP F:=e ▸ CP.Tt hf hg
theorem CP.as {f F:(α->Prop)->Prop} (h:CP f) (e:F = f:=by exact rfl):CP F:=e ▸ h
theorem CP.ti (Γ:Ctx) (t:Nat):CP (cp Γ t):=by
 induction Γ with
 | nil=>exact CP.none
 | cons p r ih=>obtain ⟨m,u⟩:=p; exact CP.bif (CP.pure u) ih
theorem CP.nth {l:List α} {n:Nat}:CP (dp l n):=⟨fun v=>l[n]? = some v,fun K=>bA l n K⟩
theorem CP.take {l:List α} {n:Nat}:CP (fj n l):=⟨fun v=>n<=l.length/\v = l.take n,fun K=>by
 rw [dJ]
 exact ⟨fun ⟨h1,h2⟩=>⟨_,⟨h1,rfl⟩,h2⟩,fun ⟨_,⟨h1,e⟩,h2⟩=>⟨h1,e ▸ h2⟩⟩⟩
theorem CP.bG (s:St) (x:Operand):CP (bG s x):=CP.of_eq (aE s x)
theorem CP.fc (s:St) (l:List Operand):CP (fc s l):=CP.of_eq (dc s l)
theorem CP.ew (d:TD):CP (ew d):=by cases d<;>first | exact CP.pure _ | exact CP.none
theorem CP.cW (d:TD):CP (cW d):=by cases d<;>first | exact CP.pure _ | exact CP.none
theorem CP.nL (v:AV):CP (nL v):=by cases v<;>first | exact CP.pure _ | exact CP.none
theorem CP.arith (k:IntKind) (n:Int):CP (la k n):=by
 unfold la
 cases k.signed with
 | true=>exact CP.and (CP.pure _)
 | false=>exact CP.pure _
theorem CP.QS (op:BinOp) (k:IntKind) (a c:Int):CP (ye op k a c):=by
 cases op<;>first | exact CP.none | exact CP.pure _ | exact CP.arith _ _ | exact CP.and (CP.pure _) | exact CP.and (CP.and (CP.pure _))
theorem CP.Ry (op:BinOp) (a c:aH):CP (yP op a c):=by
 cases op<;>first | exact CP.none | exact CP.pure _ | exact CP.and (CP.pure _)
theorem CP.bin (op:BinOp) (a c:AV):CP (zo op a c):=by
 cases a with
 | i k n =>
  cases c with
  | i k' m=>cases op<;>first | exact CP.and (CP.pure _) | exact CP.bif (CP.QS _ _ _ _) CP.none
  | _=>exact CP.none
 | s a=>cases c<;>first | exact CP.Ry _ _ _ | exact CP.none
 | _=>exact CP.none
theorem CP.L7 (op:BinOp) (a c:Bool):CP (oQ op a c):=by cases op<;>first | exact CP.none | exact CP.pure _
theorem CP.Va {α:Type} (l:List α):∀ n,CP (dp l n):=by
 induction l with
 | nil=>intro n; exact CP.none
 | cons a r ih=>intro n; cases n with
  | zero=>exact CP.pure _
  | succ n=>exact ih n
theorem CP.kl (k:EK) (a c:AV):CP (sc k a c):=by
 cases k<;>cases a<;>cases c<;>first | exact CP.none | exact CP.pure _ | exact CP.l8 (CP.pure _)
theorem CP.To (ks:List EK):∀ (fl:List (Nat × Nat)) (cs ds:List AV),CP (nV ks fl cs ds):=by
 induction ks with
 | nil=>intro fl cs ds; cases fl<;>first | exact CP.pure _ | exact CP.none
 | cons k ks ih=>intro fl cs ds; cases fl with
  | nil=>exact CP.none
  | cons p fl=>exact CP.bind (CP.Va _ _) fun _=>CP.bind (CP.Va _ _) fun _=>CP.bind (CP.kl _ _ _) fun _=>CP.bind (ih _ _ _) fun _=>CP.pure _
theorem CP.PV (op:BinOp) (b:Bool):CP (dO op b):=by cases op<;>first | exact CP.pure _ | exact CP.none
theorem CP.mO (d:TD):CP (mO d):=by cases d<;>first | exact CP.pure _ | exact CP.none
theorem CP.Wu (Γ:Ctx) (op:BinOp) (t:TypeId) (a c:AV):CP (oP Γ op t a c):=by
 have h:(∀ x,a≠.b x)->(∀ x,a≠.agg x)->oP Γ op t a c = zo op a c:=by intro h h'; cases a<;>first | rfl | exact absurd rfl (h _) | exact absurd rfl (h' _)
 cases a with
 | b x =>
  cases c with
  | b y=>exact CP.bind (CP.ti Γ t) fun ti=>CP.l8 (b:=sv ti.desc) (CP.L7 op x y)
  | _=>exact CP.none
 | agg cs =>
  cases c with
  | agg ds=>exact CP.bind (CP.ti Γ t) fun ti=>CP.bind (CP.mO ti.desc) fun fl=>CP.l8 (b:=!ti.eqs.isEmpty) (CP.bind (CP.To ti.eqs fl cs ds) fun b=>CP.PV op b)
  | _=>exact CP.none
 | _=>rw [h (by intro x e; cases e) (by intro x e; cases e)]; exact CP.bin op _ _
theorem CP.or {f g:(α->Prop)->Prop} (hf:CP f) (hg:CP g):CP (fun K=>f K\/g K):=by
 obtain ⟨A,hA⟩:=hf
 obtain ⟨B,hB⟩:=hg
 refine ⟨fun v=>A v\/B v,fun K=>?_⟩
 show (f K\/g K)↔∃ v,(A v\/B v)/\K v
 rw [hA K,hB K]
 constructor
 ·rintro (⟨v,h1,h2⟩ | ⟨v,h1,h2⟩)
  ·exact ⟨v,.inl h1,h2⟩
  ·exact ⟨v,.inr h1,h2⟩
 ·rintro ⟨v,h1 | h1,h2⟩
  ·exact .inl ⟨v,h1,h2⟩
  ·exact .inr ⟨v,h1,h2⟩
theorem CP.neg (k:IntKind) (n:Int):CP (M6 k n):=by
 unfold M6
 split
 ·exact CP.or (CP.arith _ _) (CP.pure _)
 ·exact CP.arith _ _
theorem CP.un (op:UnOp) (a:AV):CP (Sm op a):=by
 cases a with
 | b x=>cases op<;>first | exact CP.pure _ | exact CP.none
 | i k n=>cases op<;>first | exact CP.pure _ | exact CP.none | exact CP.neg _ _
 | _=>exact CP.none
theorem CP.pick (c a b:AV):CP (iH c a b):=by
 cases c with
 | b x =>
  cases a<;>cases b<;>first | exact CP.pure _ | exact CP.bif (CP.pure _) (CP.pure _)
 | _=>exact CP.none
theorem CP.conv (d:TD) (a:AV):CP (o6 d a):=by
 cases d with
 | int k=>cases a<;>first | exact CP.pure _ | exact CP.none
 | str=>cases a<;>first | exact CP.pure _ | exact CP.none
 | _=>exact CP.none
theorem CP.iS (l:List AV):CP (iS l):=CP.of_eq (nb l)
theorem CP.TH (off:Nat) (a:AV):CP (tn off a):=by
 cases a<;>first | exact CP.pure _ | exact CP.none | exact CP.bind (CP.iS _) fun _=>CP.pure _
theorem CP.plain (l:List AV):CP (cU l):=CP.of_eq (ij l)
theorem CP.pack (b:Bool) (l:List AV):CP (jb b l):=by
 cases b with
 | true =>
  have e:jb true l = fun K=>match qh l with
   | true=>aC (lS l) (K (.ag 0 l))
   | false=>cU l fun l=>K (.agg l):=rfl
  rw [e]
  cases qh l with
  | true=>exact CP.l8 (CP.pure _)
  | false=>exact CP.bind (CP.plain l) fun _=>CP.pure _
 | false =>
  match l with
  | []=>exact CP.none
  | [v]=>exact CP.pure v
  | _::_::_=>exact CP.none
theorem CP.one (l : List AV) : CP (fun K : AV -> Prop => match l with
  | [v]=>K v
  | _=>False):=by
 match l with
 | []=>exact CP.none
 | [v]=>exact CP.pure v
 | _::_::_=>exact CP.none
theorem CP.field (off sz:Nat) (a:AV):CP (tr off sz a):=by
 cases a with
 | agg cs=>exact CP.bind CP.take CP.one
 | _=>exact CP.none
theorem CP.extract (i:Nat) (a:AV):CP (mi i a):=by
 cases a with
 | ag k cs =>
  cases k with
  | zero=>exact CP.none
  | succ k =>
   cases i with
   | zero=>exact CP.bind (CP.take (l:=cs) (n:=k + 1)) (fun l=>CP.pure (AV.ag 0 l))
   | succ i=>exact CP.nth
 | bc cs=>exact CP.nth
 | _=>exact CP.none
theorem CP.U2 (n:Int) (c:Nat) (a:AV):CP (Cx n c a):=by
 cases a with
 | ob i i2 o=>cases o<;>first | exact CP.none | exact CP.l8 (CP.and (CP.pure _))
 | _=>first | exact CP.none | exact CP.l8 (CP.and (CP.bind (CP.iS _) fun _=>CP.pure _)) | exact CP.l8 (CP.and (CP.pure _))
theorem CP.LL (n:Int) (l c:Nat) (a:AV):CP (sT n l c a):=by cases a<;>first | exact CP.none | exact CP.and (CP.pure _) | exact CP.l8 (CP.l8 (CP.l8 (CP.and (CP.pure _))))
theorem CP.PZ (n:Int) (l c:Nat) (b:Bool) (a:AV):CP (xC n l c b a):=by cases a<;>first | exact CP.none | exact CP.l8 (CP.l8 (CP.and CP.nth))
theorem CP.Kj (n:Int) (a:AV):CP (qV n a):=by cases a<;>first | exact CP.none | exact CP.and (CP.pure _)
theorem CP.QX (a:AV):CP (pC a):=by cases a<;>first | exact CP.none | exact CP.pure _
theorem CP.Wz (f:Fn) (n m:Nat):CP (Wz f n m):=by cases f<;>cases n<;>cases m<;>first | exact CP.none | exact CP.pure _
theorem CP.min (l:List AV):CP (FL l):=by
 match l with
 | []=>exact CP.none
 | [v]=>cases v<;>exact CP.none
 | [a,b]=>cases a<;>cases b<;>first | exact CP.none | exact CP.l8 (CP.pure _)
 | [a,b,c]=>cases a<;>cases b<;>cases c<;>first | exact CP.none | exact CP.l8 (CP.l8 (CP.pure _))
 | a::b::c::_::_=>cases a<;>cases b<;>cases c<;>exact CP.none
theorem CP.max (l:List AV):CP (FI l):=by
 match l with
 | []=>exact CP.none
 | [v]=>cases v<;>exact CP.none
 | [a,b]=>cases a<;>cases b<;>first | exact CP.none | exact CP.l8 (CP.pure _)
 | a::b::_::_=>cases a<;>cases b<;>exact CP.none
theorem CP.bound (s:St) (x:Option Operand) (d:Int):CP (cH s x d):=by
 cases x with
 | none=>exact CP.pure _
 | some x=>exact CP.bind (CP.bG s x) fun _=>CP.nL _
theorem CP.Kk (s:St) (lo hi:Option Operand) (a:AV):CP (fC s lo hi a):=by
 cases a<;>first | exact CP.none | exact CP.bind (CP.bound _ _ _) fun _=>CP.bind (CP.bound _ _ _) fun _=>CP.and (CP.pure _)
theorem CP.Nf (s:St) (c:Nat) (lo hi:Option Operand) (a:AV):CP (fQ s c lo hi a):=by
 cases a with
 | rd τ l=>exact CP.l8 (CP.bind (CP.bound _ _ _) fun _=>CP.bind (CP.bound _ _ _) fun _=>CP.and (CP.pure _))
 | vec id τ l =>
  cases hi with
  | none=>exact CP.l8 (CP.bind (CP.bound _ _ _) fun _=>CP.and (CP.pure _))
  | some _=>exact CP.l8 (CP.bind (CP.bound _ _ _) fun _=>CP.bind (CP.bound _ _ _) fun _=>CP.and (CP.pure _))
 | vs id τ l k =>
  cases hi with
  | none=>exact CP.l8 (CP.bind (CP.bound _ _ _) fun _=>CP.and (CP.pure _))
  | some _=>exact CP.l8 CP.none
 | _=>exact CP.none
theorem CP.iY (l:List AV):CP (eG l):=CP.of_eq (fm l)
theorem CP.dC (s:St) (l:List (Nat × Operand)):CP (eY s l):=CP.of_eq (ek s l)
theorem CP.dW (l:List Value):CP (eW l):=CP.of_eq (eF l)
theorem CP.parts (s:St) (l:List (Nat × Operand)):CP (kq s l):=CP.of_eq (gi s l)
theorem CP.cells (a:AV):CP (l7 a):=by
 cases a with
 | ag k cs=>cases k<;>first | exact CP.none | exact CP.pure _
 | _=>first | exact CP.none | exact CP.pure _
theorem CP.yO (l:List α):∀ (o:Nat) (v:List α),CP (gH l o v):=by
 induction l with
 | nil=>intro o v; cases o<;>cases v<;>first | exact CP.none | exact CP.pure _
 | cons a r ih =>
  intro o v
  cases o with
  | zero =>
   cases v with
   | nil=>exact CP.pure _
   | cons b vs=>exact CP.bind (ih 0 vs) fun _=>CP.pure _
  | succ o=>exact CP.bind (ih o v) fun _=>CP.pure _
theorem CP.fill {pl:Nat->(Nat × Nat->Prop)->Prop} (h:∀ i,CP (pl i)) (l:List (Nat × AV)):∀ cells,CP (nP pl cells l):=by
 induction l with
 | nil=>intro cells; exact CP.pure _
 | cons p r ih =>
  obtain ⟨i,v⟩:=p
  intro cells
  exact CP.bind (h i) fun d=>CP.bind (CP.cells v) fun cs=>CP.l8 (CP.bind (CP.yO _ _ _) fun c=>ih c)

/-! ### the calm operations -/
def AO (l:List Nat) (K:Prop):Prop:=match l with
 | []=>K
 | _::_=>False
theorem pD (l:List Nat) (K:Prop):AO l K↔l = []/\K:=by cases l<;>simp [AO]
theorem CP.nil {l:List Nat} {f F:(α->Prop)->Prop} (h:CP f) (e:F = fun K=>AO l (f K):=by exact rfl):CP F:=by
 subst e
 cases l
 ·exact h
 ·exact CP.none
def qC (Γ:Ctx) (s:St) (t:TypeId):AV->(AV->Prop)->Prop
 | .pt n o,K=>eE s.boxes n fun cs=>cp Γ t fun ti=>fj ti.cells (cs.drop o) fun l=>match aK ti.desc with
  | true=>eG l fun ids=>AO ids (jb true l K)
  | false=>jb false l K
 | .rp cs,K=>cp Γ t fun ti=>fj ti.cells cs fun l=>jb (aK ti.desc) l K
 | .vp _ τ l n o,K=>cp Γ t fun ti=>fj ti.cells ((enc τ (l.getD n (aD τ))).drop o) fun l=>jb (aK ti.desc) l K
 | .ob _ i2 (.gp L i row n),K=>cp Γ t fun ti=>aC (!aK ti.desc) (aC (Nat.beq ti.cells 1) ((n = i/\K (.vec i2 .int row))\/(n≠i/\K (.rd .int (L.getD n [])))))
 | _,_=>False
def Vq (l:List Nat) (A B:Prop):Prop:=match l with
 | []=>A
 | _::_=>B
theorem CP.sel {l:List Nat} {f g:(α->Prop)->Prop} (h:CP f) (k:CP g):CP (fun K=>Vq l (f K) (g K)):=by
 cases l
 ·exact h
 ·exact k
theorem II {b:List (Nat × List AV)} {vs:List AV} (h:cI vs = true):cI (jO b vs) = true:=by
 induction vs with
 | nil=>rfl
 | cons v r ih =>
  simp only [cI] at h
  cases hx:rW v with
  | false=>rw [hx] at h; cases h
  | true =>
   rw [hx] at h
   have:rW (uV b v) = true:=by cases v<;>first | rfl | (cases hx; done)
   simp only [jO,cI,this,cond_true]
   exact ih h
def B4 (P:Program) (vs:List AV):AV->(AV->Prop)->Prop
 | .fn g ak,K=>aC (cI vs) (aC (bN vs) (aC (cI ak) (∃ r,ar P g (gn vs ak) r/\K r)))
 | _,_=>False
def CL (vs:List AV):List Nat:=bif bN vs then iY vs else [0]
def sX (P:Program) (s:St) (f:Operand) (args:List Operand) (K:AV->Prop):Prop :=
 fc s args fun vs=>Vq (CL vs) (bG s f fun fv=>B4 P vs fv K) (bG s f fun fv=>ou P s.boxes vs fv K)
def oS (Γ:Ctx) (s:St) (t:TypeId) (ps:List (Nat × Operand)) (K:AV->Prop):Prop :=
 aC (!iq Γ t) (eY s ps fun ids=>AO ids (cp Γ t fun ti=>ew ti.desc fun fl=>eW ti.zero fun z=>kq s ps fun l=>nP (dp fl) z l fun cs=>cU cs fun cs=>K (.agg cs)))
def l6 (Γ:Ctx) (s:St) (t:TypeId) (len:Nat) (ps:List (Nat × Operand)) (K:AV->Prop):Prop :=
 eY s ps fun ids=>AO ids (cp Γ t fun ti=>cW ti.desc fun e=>cp Γ e fun te=>PM te.ty fun τ =>
  aC (Nat.beq te.cells (aX τ)) (aC (Nat.ble (len * te.cells) 16777216) (kq s ps fun l=>nP (fun i K=>K (i * te.cells,te.cells)) (xs (len * te.cells)) l fun cs=>cU cs fun cs =>
   jU (Cc τ len cs) fun l=>K (.rd τ l))))
def D7:TD->List AV->(AV->Prop)->Prop
 | .slice _,[.nl],K=>K (.i .i64 0)
 | .slice _,[.rd _ l],K=>K (.i .i64 (l.length:Int))
 | .slice _,[.vec _ _ l],K=>K (.i .i64 (l.length:Int))
 | .slice _,[.vs _ _ l k],K=>K (.i .i64 ((l.length - k:Nat):Int))
 | .str,[.s l],K=>K (.i .i64 (l.length:Int))
 | _,_,_=>False
theorem CP.len (d:TD) (l:List AV):CP (D7 d l):=by
 cases d with
 | slice e =>
  cases l with
  | nil=>exact CP.none
  | cons v r =>
   cases r with
   | nil=>cases v<;>first | exact CP.none | exact CP.pure _
   | cons _ _=>cases v<;>exact CP.none
 | str =>
  cases l with
  | nil=>exact CP.none
  | cons v r =>
   cases r with
   | nil=>cases v<;>first | exact CP.none | exact CP.pure _
   | cons _ _=>cases v<;>exact CP.none
 | _=>exact CP.none
theorem QT {d:TD} {l:List AV} {K:AV->Prop} (h:D7 d l K):AH d l K:=by
 cases d with
 | slice e =>
  cases l with
  | nil=>exact h.elim
  | cons v r =>
   cases r with
   | nil=>cases v<;>first | exact h.elim | exact h | exact fun _=>h | exact fun _ _=>h
   | cons _ _=>cases v<;>exact h.elim
 | str =>
  cases l with
  | nil=>exact h.elim
  | cons v r =>
   cases r with
   | nil=>cases v<;>first | exact h.elim | exact fun _=>h
   | cons _ _=>cases v<;>exact h.elim
 | _=>exact h.elim
def oV (P:Program) (Γ:Ctx) (s:St) (args:List Operand) (ts:List TypeId) (K:AV->Prop):Callee->Prop
 | .value f=>sX P s f args K
 | .builtin .len=>fc s args fun l=>dp ts 0 fun t=>cp Γ t fun ti=>D7 ti.desc l K
 | .builtin .min=>fc s args fun l=>FL l K
 | .builtin .max=>fc s args fun l=>FI l K
 | _=>False
theorem CP.MU (Γ:Ctx) (n:Int) (a:AV) (d:TD):CP (fun K=>pq Γ n a K d):=by
 cases d<;>first | exact CP.none | exact CP.bind (CP.ti _ _) fun _=>CP.U2 _ _ _ | exact CP.bind (CP.ti _ _) fun _=>CP.LL _ _ _ _
theorem CP.QP (Γ:Ctx) (n:Int) (a:AV) (d:TD):CP (fun K=>ss Γ n a K d):=by
 cases d<;>first | exact CP.none | exact CP.Kj _ _ | exact CP.bind (CP.ti _ _) fun _=>CP.PZ _ _ _ _ _
def nZ (Γ:Ctx):TD->TD->AV->(AV->Prop)->Prop
 | .slice e,.str,.rd .u8 l,K=>cp Γ e fun te=>aC (D2 te.desc) (K (.s (l.map FN)))
 | _,d,a,K=>o6 d a K
theorem CP.TF (Γ:Ctx) (sd d:TD) (a:AV):CP (nZ Γ sd d a):=by
 by_cases h:∃ e l,sd = .slice e/\d = .str/\a = .rd .u8 l
 ·obtain ⟨e,l,rfl,rfl,rfl⟩:=h
  exact CP.bind (CP.ti Γ e) fun te=>CP.l8 (CP.pure _)
 ·have e : nZ Γ sd d a = o6 d a := by
   funext K
   unfold nZ
   split
   ·exact absurd ⟨_,_,rfl,rfl,rfl⟩ h
   ·rfl
  rw [e]; exact CP.conv d a
theorem Hs {Γ:Ctx} {sd d:TD} {a:AV} {K:AV->Prop} (h:nZ Γ sd d a K):lg Γ sd d a K:=by
 unfold nZ at h
 split at h
 ·exact h
 ·exact Hq h
def eK (P:Program) (Γ:Ctx) (s:St) (op:Op) (K:AV->Prop):Prop :=
 match op with
 | .load t x=>bG s x fun p=>qC Γ s t p K
 | .build t ps=>oS Γ s t ps.toList K
 | .buildSlice t len ps=>l6 Γ s t len ps.toList K
 | .call c=>oV P Γ s c.args.toList c.argTypes.toList K c.callee
 | .move x=>bG s x K
 | .assign x=>bG s x K
 | .pick c a b=>bG s c fun c=>bG s a fun a=>bG s b fun b=>iH c a b K
 | .binOp op t x y _=>bG s x fun a=>bG s y fun b=>oP Γ op t a b K
 | .unOp op _ x=>bG s x fun a=>Sm op a K
 | .convert src dst x=>bG s x fun a=>cp Γ src fun ts=>cp Γ dst fun ti=>nZ Γ ts.desc ti.desc a K
 | .fieldAddr t x f=>bG s x fun p=>cp Γ t fun ti=>ew ti.desc fun fl=>dp fl f fun d=>match d with | (off,_)=>tn off p K
 | .field t x f=>bG s x fun p=>cp Γ t fun ti=>ew ti.desc fun fl=>dp fl f fun d=>match d with | (off,sz)=>tr off sz p K
 | .extract x i=>bG s x fun p=>mi i p K
 | .indexAddr t x i=>bG s x fun a=>bG s i fun n=>nL n fun n=>cp Γ t fun ti=>pq Γ n a K ti.desc
 | .index t x i=>bG s x fun a=>bG s i fun n=>nL n fun n=>cp Γ t fun ti=>ss Γ n a K ti.desc
 | .nilCheck x=>bG s x fun p=>pC p K
 | .slice t x lo hi mx=>match mx with
  | none=>bG s x fun a=>cp Γ t fun ti=>match gZ ti.desc with
   | true=>fC s lo hi a K
   | false=>cW ti.desc fun e=>cp Γ e fun te=>fQ s te.cells lo hi a K
  | some _=>False
 | _=>False
theorem CP.ax (l:List (Nat × List AV)) (n:Nat):CP (eE l n):=⟨fun cs=>SX.ax l n = some cs,fun K=>cJ l n K⟩
theorem CP.load (Γ:Ctx) (s:St) (t:TypeId) (a:AV):CP (qC Γ s t a):=by
 cases a<;>first | exact CP.none | skip
 ·exact CP.bind (CP.ti _ _) fun _=>CP.bind CP.take fun _=>CP.pack _ _
 ·refine CP.bind (CP.ax _ _) fun cs=>CP.bind (CP.ti _ _) fun ti=>CP.bind CP.take fun l=>?_
  cases aK ti.desc with
  | true=>exact CP.bind (CP.iY l) fun ids=>CP.nil (CP.pack _ _)
  | false=>exact CP.pack _ _
 ·exact CP.bind (CP.ti _ _) fun _=>CP.bind CP.take fun _=>CP.pack _ _
 ·rename_i o; cases o<;>first | exact CP.none | exact CP.bind (CP.ti _ _) fun _=>CP.l8 (CP.l8 (CP.or (CP.and (CP.pure _)) (CP.and (CP.pure _))))
theorem CP.Tx (P:Program) (vs:List AV) (f:AV):CP (B4 P vs f):=by
 cases f<;>first | exact CP.none | exact CP.l8 (CP.l8 (CP.l8 ⟨fun r=>ar P _ _ r,fun K=>Iff.rfl⟩))
theorem F3 {P:Program} {g:FuncId} {Tq:List AV} {K:AV->Prop}:(∃ r,ar P g Tq r/\aC (Qd r) (K r))↔∃ r,(ar P g Tq r/\Qd r = true)/\K r:=by
 constructor
 ·rintro ⟨r,h1,h2⟩
  obtain ⟨h3,h4⟩:=(af _ _).1 h2
  exact ⟨r,⟨h1,h3⟩,h4⟩
 ·rintro ⟨r,⟨h1,h3⟩,h4⟩
  exact ⟨r,h1,(af _ _).2 ⟨h3,h4⟩⟩
theorem CP.Q4 (P:Program) (g:FuncId) (Tq:List AV):CP fun K=>∃ r,ar P g Tq r/\aC (Qd r) (K r):=⟨fun r=>ar P g Tq r/\Qd r = true,fun _=>F3⟩
theorem CP.Vd (P:Program) (b:List (Nat × List AV)) (vs:List AV) (f:AV):CP (ou P b vs f):=by
 cases f with
 | fn g ak=>exact CP.l8 (CP.l8 (CP.l8 (CP.Q4 P g (gn (jO b vs) (nM b ak)))))
 | _=>exact CP.none
theorem CP.call (P:Program) (s:St) (f:Operand) (args:List Operand):CP (sX P s f args) :=
 CP.bind (CP.fc s args) fun vs=>CP.sel (CP.bind (CP.bG s f) fun fv=>CP.Tx P vs fv) (CP.bind (CP.bG s f) fun fv=>CP.Vd P s.boxes vs fv)
theorem CP.build (Γ:Ctx) (s:St) (t:TypeId) (ps:List (Nat × Operand)):CP (oS Γ s t ps) :=
 CP.l8 (b := !iq Γ t) (CP.bind (CP.dC s ps) fun ids => CP.nil (CP.bind (CP.ti Γ t) fun ti => CP.bind (CP.ew ti.desc) fun fl => CP.bind (CP.dW ti.zero) fun z => CP.bind (CP.parts s ps) fun l =>
   CP.bind (CP.fill (pl:=dp fl) (fun _=>CP.nth) l z) fun cs=>CP.bind (CP.plain cs) fun cs=>CP.pure (AV.agg cs)))
theorem CP.opt {o:Option α}:CP (jU o):=⟨fun v=>o = some v,fun K=>cn o K⟩
theorem CP.ty {o:Option Ty}:CP (PM o):=⟨fun v=>o = some v,fun K=>lM o K⟩
theorem CP.P3 (Γ:Ctx) (s:St) (t:TypeId) (len:Nat) (ps:List (Nat × Operand)):CP (l6 Γ s t len ps) :=
 CP.bind (CP.dC s ps) fun ids=>CP.nil (CP.bind (CP.ti Γ t) fun ti=>CP.bind (CP.cW ti.desc) fun e=>CP.bind (CP.ti Γ e) fun te=>CP.bind (CP.ty (o:=te.ty)) fun τ =>
  CP.l8 (b:=Nat.beq te.cells (aX τ)) (CP.l8 (b:=Nat.ble (len * te.cells) 16777216) (CP.bind (CP.parts s ps) fun l=>CP.bind (CP.fill (pl:=fun i K=>K (i * te.cells,te.cells)) (fun _=>CP.pure _) l (xs (len * te.cells))) fun cs =>
   CP.bind (CP.plain cs) fun cs=>CP.bind (CP.opt (o:=Cc τ len cs)) fun l=>CP.pure (AV.rd τ l))))
theorem CP.callee (P:Program) (Γ:Ctx) (s:St) (args:List Operand) (ts:List TypeId) (c:Callee):CP (fun K=>oV P Γ s args ts K c):=by
 cases c with
 | value f=>exact CP.call P s f args
 | builtin b=>cases b<;>first | exact CP.none | exact CP.bind (CP.fc s args) fun _=>CP.min _ | exact CP.bind (CP.fc s args) fun _=>CP.max _ | exact CP.bind (CP.fc s args) fun _=>CP.bind CP.nth fun t=>CP.bind (CP.ti Γ t) fun _=>CP.len _ _
 | invoke r m=>exact CP.none
theorem Du (P:Program) (Γ:Ctx) (s:St) (op:Op):CP (eK P Γ s op):=by
 cases op with
 | load t x=>exact CP.bind (CP.bG _ _) fun _=>CP.load _ _ _ _
 | build t ps=>exact CP.build _ _ _ _
 | buildSlice t len ps=>exact CP.P3 _ _ _ _ _
 | call c=>exact CP.callee _ _ _ _ _ _
 | move x=>exact CP.bG _ _
 | assign x=>exact CP.bG _ _
 | pick c a b=>exact CP.bind (CP.bG _ _) fun _=>CP.bind (CP.bG _ _) fun _=>CP.bind (CP.bG _ _) fun _=>CP.pick _ _ _
 | binOp op t x y ty=>exact CP.bind (CP.bG _ _) fun _=>CP.bind (CP.bG _ _) fun _=>CP.Wu _ _ _ _ _
 | unOp op t x=>exact CP.bind (CP.bG _ _) fun _=>CP.un _ _
 | convert a b x=>exact CP.bind (CP.bG _ _) fun _=>CP.bind (CP.ti _ _) fun _=>CP.bind (CP.ti _ _) fun _=>CP.TF _ _ _ _
 | fieldAddr t x f=>exact CP.bind (CP.bG _ _) fun _=>CP.bind (CP.ti _ _) fun _=>CP.bind (CP.ew _) fun _=>CP.bind CP.nth fun d=>CP.TH _ _
 | field t x f=>exact CP.bind (CP.bG _ _) fun _=>CP.bind (CP.ti _ _) fun _=>CP.bind (CP.ew _) fun _=>CP.bind CP.nth fun d=>CP.field _ _ _
 | extract x i=>exact CP.bind (CP.bG _ _) fun _=>CP.extract _ _
 | indexAddr t x i=>exact CP.bind (CP.bG _ _) fun _=>CP.bind (CP.bG _ _) fun _=>CP.bind (CP.nL _) fun _=>CP.bind (CP.ti _ _) fun _=>CP.MU _ _ _ _
 | index t x i=>exact CP.bind (CP.bG _ _) fun _=>CP.bind (CP.bG _ _) fun _=>CP.bind (CP.nL _) fun _=>CP.bind (CP.ti _ _) fun _=>CP.QP _ _ _ _
 | nilCheck x=>exact CP.bind (CP.bG _ _) fun _=>CP.QX _
 | slice t x lo hi mx =>
  cases mx with
  | some _=>exact CP.none
  | none =>
   refine CP.bind (CP.bG _ _) fun _=>CP.bind (CP.ti _ _) fun ti=>?_
   cases gZ ti.desc with
   | true=>exact CP.Kk _ _ _ _
   | false=>exact CP.bind (CP.cW _) fun _=>CP.bind (CP.ti _ _) fun _=>CP.Nf _ _ _ _ _
 | _=>exact CP.none

/-! ### by dM operands alone -/
theorem wF {s s':St} {l:List Operand} (h:∀ x ∈ l,ev s x = ev s' x):kC s l = kC s' l:=by
 induction l with
 | nil=>rfl
 | cons x r ih=>simp only [kC]; rw [h x (List.mem_cons_self ..),ih fun y hy=>h y (List.mem_cons_of_mem _ hy)]
theorem mE {s s':St} {l:List (Nat × Operand)} (h:∀ x ∈ l,ev s x.2 = ev s' x.2):parts s l = parts s' l:=by
 induction l with
 | nil=>rfl
 | cons p r ih=>obtain ⟨i,x⟩:=p; simp only [parts]; rw [h (i,x) (List.mem_cons_self ..),ih fun y hy=>h y (List.mem_cons_of_mem _ hy)]
theorem pE {s s':St} {l:List (Nat × Operand)} (h:∀ x ∈ l,ev s x.2 = ev s' x.2):dC s l = dC s' l:=by
 induction l with
 | nil=>rfl
 | cons p r ih=>obtain ⟨i,x⟩:=p; simp only [dC]; rw [h (i,x) (List.mem_cons_self ..),ih fun y hy=>h y (List.mem_cons_of_mem _ hy)]
theorem CD {Γ:Ctx} {s s':St} (hb:∀ n,SX.ax s.boxes n = SX.ax s'.boxes n) (t:TypeId) (a:AV) (K:AV->Prop):qC Γ s t a K = qC Γ s' t a K:=by
 have h:∀ n K,eE s.boxes n K = eE s'.boxes n K:=fun n K=>by rw [propext (cJ s.boxes n K),propext (cJ s'.boxes n K),hb]
 cases a<;>first | rfl | (simp only [qC,h]; done) | (rename_i o; cases o<;>rfl)
theorem re {s s':St} {x:Option Operand} {d:Int} (h:∀ y ∈ x.toList,ev s y = ev s' y) (K:Int->Prop):cH s x d K = cH s' x d K:=by
 cases x with
 | none=>rfl
 | some y=>simp only [cH,aE]; rw [h y (by simp)]
theorem xe {b b':List (Nat × List AV)} (hb:∀ n,SX.ax b n = SX.ax b' n) (v:AV):vH b v = vH b' v:=by
 cases v with
 | pt n o =>
  cases o with
  | zero=>simp only [vH,hb n]
  | succ o=>rfl
 | _=>rfl
theorem uT {b b':List (Nat × List AV)} (hb:∀ n,SX.ax b n = SX.ax b' n) (l:List AV):nM b l = nM b' l:=by
 rw [sB,sB]
 exact List.map_congr_left fun v _=>xe hb v
theorem A7 {b b':List (Nat × List AV)} (hb:∀ n,SX.ax b n = SX.ax b' n) (l:List AV):jO b l = jO b' l:=by
 rw [pH,pH]
 refine List.map_congr_left fun v _=>?_
 have h:=xe hb v
 cases v with
 | fn g ak=>simp only [uV,uT hb]
 | _=>exact h
theorem A9 {P:Program} {b b':List (Nat × List AV)} (hb:∀ n,SX.ax b n = SX.ax b' n) (l:List AV) (f:AV) (K:AV->Prop):ou P b l f K = ou P b' l f K:=by
 cases f with
 | fn g ak=>simp only [ou,A7 hb,uT hb]
 | _=>rfl
theorem B6 {P:Program} {Γ:Ctx} {s s':St} (hb:∀ n,SX.ax s.boxes n = SX.ax s'.boxes n) {op:Op} (h:∀ x ∈ op.operands.toList,ev s x = ev s' x) (K:AV->Prop):eK P Γ s op K = eK P Γ s' op K:=by
 cases op with
 | load t x=>simp only [eK,aE]; rw [h x (by simp [Op.operands]),CD hb]
 | build t ps =>
  have h':∀ x ∈ ps.toList,ev s x.2 = ev s' x.2:=fun x hx=>h x.2 (by simp only [Op.operands,List.mem_map]; exact ⟨x,hx,rfl⟩)
  simp only [eK,oS,ek,gi]
  rw [mE h',pE h']
 | buildSlice t len ps =>
  have h':∀ x ∈ ps.toList,ev s x.2 = ev s' x.2:=fun x hx=>h x.2 (by simp only [Op.operands,List.mem_map]; exact ⟨x,hx,rfl⟩)
  simp only [eK,l6,ek,gi]
  rw [mE h',pE h']
 | call c =>
  obtain ⟨callee,args,ts⟩:=c
  have h1:∀ x ∈ args.toList,ev s x = ev s' x:=fun x hx=>h x (by cases callee<;>simp [Op.operands,Call.operands]<;>simp_all)
  cases callee with
  | value f =>
   have h2:ev s f = ev s' f:=h f (by simp [Op.operands,Call.operands])
   simp only [eK,oV,sX,dc,aE,A9 hb]
   rw [wF h1,h2]
  | builtin b=>cases b<;>first | rfl | (simp only [eK,oV,dc]; rw [wF h1])
  | invoke r m=>rfl
 | move x=>simp only [eK,aE]; rw [h x (by simp [Op.operands])]
 | assign x=>simp only [eK,aE]; rw [h x (by simp [Op.operands])]
 | pick c a b=>simp only [eK,aE]; rw [h c (by simp [Op.operands]),h a (by simp [Op.operands]),h b (by simp [Op.operands])]
 | binOp op t x y ty=>simp only [eK,aE]; rw [h x (by simp [Op.operands]),h y (by simp [Op.operands])]
 | unOp op t x=>simp only [eK,aE]; rw [h x (by simp [Op.operands])]
 | convert a b x=>simp only [eK,aE]; rw [h x (by simp [Op.operands])]
 | fieldAddr t x f=>simp only [eK,aE]; rw [h x (by simp [Op.operands])]
 | field t x f=>simp only [eK,aE]; rw [h x (by simp [Op.operands])]
 | extract x i=>simp only [eK,aE]; rw [h x (by simp [Op.operands])]
 | indexAddr t x i=>simp only [eK,aE]; rw [h x (by simp [Op.operands]),h i (by simp [Op.operands])]
 | index t x i=>simp only [eK,aE]; rw [h x (by simp [Op.operands]),h i (by simp [Op.operands])]
 | nilCheck x=>simp only [eK,aE]; rw [h x (by simp [Op.operands])]
 | slice t x lo hi mx =>
  cases mx with
  | some _=>rfl
  | none =>
   have h1:∀ d K,cH s lo d K = cH s' lo d K:=fun d K=>re (fun y hy=>h y (by simp [Op.operands]; simp at hy; simp [hy])) K
   have h2:∀ d K,cH s hi d K = cH s' hi d K:=fun d K=>re (fun y hy=>h y (by simp [Op.operands]; simp at hy; simp [hy])) K
   simp only [eK,aE]
   rw [h x (by simp [Op.operands])]
   have e1:∀ a K,fC s lo hi a K = fC s' lo hi a K:=fun a K=>by cases a<;>first | rfl | (simp only [fC,h1,h2])
   have e2:∀ c a K,fQ s c lo hi a K = fQ s' c lo hi a K:=fun c a K=>by cases a<;>first | rfl | (simp only [fQ,h1,h2])
   simp only [e1,e2]
 | _=>rfl
/-! ### as the operation that it is -/
theorem Mc {P:Program} {Γ:Ctx} {N:Nat} {s:St} {o:Oper} {K:St->Prop} (DW:∀ t len ps,o.op≠.buildSlice t len ps) (h:eK P Γ s o.op fun v=>al N s o.dst v K):yt P Γ N o s K:=by
 unfold yt
 cases ho:o.op with
 | load t x =>
  rw [ho] at h
  have h:bG s x fun p=>qC Γ s t p fun v=>al N s o.dst v K:=h
  show bG s x fun p=>ui Γ s t p fun s=>HS s x fun p=>eS Γ s t p fun v=>al N s o.dst v K
  have Cr:∀ s K,HS s x K = bG s x K:=by
   intro s' K'
   cases x with
   | global g=>exact (show False from h).elim
   | _=>rfl
  simp only [Cr]
  rw [aE] at h ⊢
  cases hp:ev s x with
  | pt n off =>
   rw [hp] at h
   show bif iq Γ t then (bG s x fun p=>eS Γ s t p fun v=>al N s o.dst v K) else eE s.boxes n fun cs=>cp Γ t fun ti=>match aK ti.desc with
    | true=>fj ti.cells (cs.drop off) fun l=>eG l fun ids=>dP ids s fun s=>bG s x fun p=>eS Γ s t p fun v=>al N s o.dst v K
    | false=>bG s x fun p=>eS Γ s t p fun v=>al N s o.dst v K
   obtain ⟨cs,h1,h⟩:=(cJ _ _ _).1 (show eE s.boxes n fun cs=>_ from h)
   cases X2:iq Γ t with
   | true =>
    rw [cond_true,aE,hp]
    obtain ⟨ti,h2,h⟩:=(CP.ti Γ t).O9 h
    refine (cJ _ _ _).2 ⟨cs,h1,(CP.ti Γ t).put h2 ?_⟩
    obtain ⟨hl,h⟩:=(dJ _ _ _).1 h
    refine (dJ _ _ _).2 ⟨hl,?_⟩
    cases hs:aK ti.desc with
    | true =>
     rw [hs] at h
     have h:eG (List.take ti.cells (List.drop off cs)) fun ids=>AO ids (jb true (List.take ti.cells (List.drop off cs)) fun v=>al N s o.dst v K):=h
     rw [fm] at h
     exact ((pD _ _).1 h).2
    | false=>rw [hs] at h; exact h
   | false =>
   rw [cond_false]
   refine (cJ _ _ _).2 ⟨cs,h1,?_⟩
   obtain ⟨ti,h2,h⟩:=(CP.ti Γ t).O9 h
   refine (CP.ti Γ t).put h2 ?_
   have Pr:∀ K:AV->Prop,(fj ti.cells (cs.drop off) fun l=>jb (aK ti.desc) l K)->eS Γ s t (.pt n off) K:=fun K hK =>
    (cJ _ _ _).2 ⟨cs,h1,(CP.ti Γ t).put h2 hK⟩
   obtain ⟨hl,h⟩:=(dJ _ _ _).1 h
   cases hs:aK ti.desc with
   | true =>
    rw [hs] at h
    have h:eG (List.take ti.cells (List.drop off cs)) fun ids=>AO ids (jb true (List.take ti.cells (List.drop off cs)) fun v=>al N s o.dst v K):=h
    rw [fm] at h
    obtain ⟨e,h⟩:=(pD _ _).1 h
    show fj ti.cells (cs.drop off) fun l=>eG l fun ids=>dP ids s fun s=>bG s x fun p=>eS Γ s t p fun v=>al N s o.dst v K
    rw [dJ,fm,e]
    refine ⟨hl,?_⟩
    show bG s x _
    rw [aE,hp]
    exact Pr _ ((dJ _ _ _).2 ⟨hl,by rw [hs]; exact h⟩)
   | false =>
    rw [hs] at h
    show bG s x _
    rw [aE,hp]
    exact Pr _ ((dJ _ _ _).2 ⟨hl,by rw [hs]; exact h⟩)
  | rp cs=>rw [hp] at h; show bG s x _; rw [aE,hp]; exact h
  | vp id τ l n off=>rw [hp] at h; show bG s x _; rw [aE,hp]; exact h
  | ob i i2 ob =>
   rw [hp] at h
   cases ob with
   | gp L k row n=>show bG s x _; rw [aE,hp]; exact h
   | _=>exact (show False from h).elim
  | _=>rw [hp] at h; exact h.elim
 | build t ps =>
  rw [ho] at h
  have h:oS Γ s t ps.toList fun v=>al N s o.dst v K:=h
  unfold oS at h
  obtain ⟨ht,h⟩:=(af _ _).1 h
  show bif iq Γ t then oT Γ N s t ps.toList o.dst K else ld Γ N s t ps.toList o.dst K
  rw [show iq Γ t = false by simpa using ht]
  show ld Γ N s t ps.toList o.dst K
  rw [ek] at h
  obtain ⟨e,h⟩:=(pD _ _).1 h
  refine E3 e ?_
  unfold jX
  rw [ek,e]
  exact h
 | call c =>
  rw [ho] at h
  obtain ⟨callee,args,ts⟩:=c
  cases callee with
  | value f =>
   have h:sX P s f args.toList fun v=>al N s o.dst v K:=h
   show fc s args.toList fun vs=>lI vs (fun id aR o' rest=>oU P N s f id aR o' rest o.dst K) (sY P N s f args.toList o.dst K\/xK P N s f args.toList o.dst K\/xf P N s f args.toList o.dst K\/xL P N s f args.toList o.dst K\/sZ P N s f args.toList o.dst K\/xM P N s f args.toList o.dst K)
   unfold sX at h
   rw [dc] at h
   rw [dc]
   cases e:CL (kC s args.toList) with
   | nil =>
    rw [e] at h
    have e:iY (kC s args.toList) = []:=by
     unfold CL at e
     cases YK:bN (kC s args.toList) with
     | true=>rw [YK] at e; exact e
     | false=>rw [YK] at e; cases e
    have h:bG s f fun fv=>B4 P (kC s args.toList) fv fun v=>al N s o.dst v K:=h
    have dw:cI (kC s args.toList) = true:=by
     rw [aE] at h
     cases hf:ev s f<;>rw [hf] at h<;>first | exact ((af _ _).1 h).1 | exact h.elim
    refine xl (b:=s.boxes) (II dw) (.inl ?_)
    unfold sY
    rw [dc,fm,e]
    show bG s f fun fv=>fc s args.toList fun vs=>match fv with
     | .fn g ak=>aC (cI vs) (aC (bN vs) (aC (cI ak) (∃ r,ar P g (gn vs ak) r/\al N s o.dst r K)))
     | _=>False
    rw [aE,dc]
    rw [aE] at h
    cases hf:ev s f<;>rw [hf] at h<;>first | exact h | exact h.elim
   | cons i r =>
    rw [e] at h
    have h:bG s f fun fv=>ou P s.boxes (kC s args.toList) fv fun v=>al N s o.dst v K:=h
    have dw:cI (jO s.boxes (kC s args.toList)) = true:=by
     rw [aE] at h
     cases hf:ev s f<;>rw [hf] at h<;>first | exact ((af _ _).1 h).1 | exact h.elim
    refine xl dw (.inr (.inr (.inl ?_)))
    unfold xf
    rw [dc]
    exact h
  | builtin b =>
   by_cases hb:b = .len
   ·subst hb
    have h:fc s args.toList fun l=>dp ts.toList 0 fun t=>cp Γ t fun ti=>D7 ti.desc l fun v=>al N s o.dst v K:=h
    show fc s args.toList fun l=>dp ts.toList 0 fun t=>cp Γ t fun ti=>AH ti.desc l fun v=>al N s o.dst v K
    rw [dc] at h ⊢
    obtain ⟨t,h1,h⟩:=(bA _ _ _).1 h
    refine (bA _ _ _).2 ⟨t,h1,?_⟩
    exact CP.Wl (CP.ti Γ t) h fun ti h=>QT h
   ·cases b<;>first | exact h | exact absurd rfl hb | exact h.elim
  | invoke r m=>exact h.elim
 | alloc _=>rw [ho] at h; exact h.elim
 | box _ _=>rw [ho] at h; exact h.elim
 | store _ _ _=>rw [ho] at h; exact h.elim
 | buildSlice t len ps=>exact absurd ho (DW t len ps)
 | slice t x lo hi mx =>
  rw [ho] at h
  cases mx with
  | some _=>exact h.elim
  | none =>
   show bG s x fun a=>oO Γ N s t lo hi none o.dst K (qY Γ s (.slice t x lo hi none) fun v=>al N s o.dst v K) a
   rw [aE]
   exact EW h
 | move _=>rw [ho] at h; exact h
 | assign _=>rw [ho] at h; exact h
 | pick _ _ _=>rw [ho] at h; exact h
 | binOp op t x y ty =>
  rw [ho] at h
  have h:bG s x fun a=>bG s y fun b=>oP Γ op t a b fun v=>al N s o.dst v K:=h
  show bG s x fun a=>bG s y fun b=>wb Γ op t (rY x || rY y) a b fun v=>al N s o.dst v K
  simp only [aE] at h ⊢
  exact LM (LN h)
 | unOp _ _ _=>rw [ho] at h; exact h
 | convert src dst x =>
  rw [ho] at h
  have h:bG s x fun a=>cp Γ src fun ts=>cp Γ dst fun ti=>nZ Γ ts.desc ti.desc a fun v=>al N s o.dst v K:=h
  show bG s x fun a=>cp Γ src fun ts=>cp Γ dst fun ti=>lg Γ ts.desc ti.desc a fun v=>al N s o.dst v K
  exact CP.Wl (CP.bG s x) h fun v h=>CP.Wl (CP.ti Γ src) h fun ts h=>CP.Wl (CP.ti Γ dst) h fun ti h=>Hs h
 | fieldAddr _ _ _=>rw [ho] at h; exact h
 | field _ _ _=>rw [ho] at h; exact h
 | extract _ _=>rw [ho] at h; exact h
 | indexAddr _ _ _=>rw [ho] at h; exact h
 | index _ _ _=>rw [ho] at h; exact h
 | nilCheck _=>rw [ho] at h; exact h
 | _=>rw [ho] at h; exact h.elim

theorem tB {d:Nat} {v:AV} (h:d ∉ ids v):cy d v = v:=by
 cases v with
 | vec i τ l=>have:i≠d:=fun e=>h (by simp [ids,aw,e]); simp [cy,Bool.cond_eq_ite,this]
 | vp i τ l n off=>have:i≠d:=fun e=>h (by simp [ids,aw,e]); simp [cy,Bool.cond_eq_ite,this]
 | pt n o=>have:n≠d:=fun e=>h (by simp [ids,aw,e]); simp [cy,Bool.cond_eq_ite,this]
 | fn f ak =>
  have:cr d (ak.flatMap aw) = false:=by rw [<- Bool.not_eq_true,b7]; exact h
  simp [cy,this]
 | bc ak =>
  have:cr d (ak.flatMap aw) = false:=by rw [<- Bool.not_eq_true,b7]; exact h
  simp [cy,this]
 | vs i τ l n=>have:i≠d:=fun e=>h (by simp [ids,aw,e]); simp [cy,Bool.cond_eq_ite,this]
 | ag k ak =>
  have:cr d (ak.flatMap aw) = false:=by rw [<- Bool.not_eq_true,b7]; exact h
  simp [cy,this]
 | ob i i2 o =>
  have:cr d [i,i2] = false:=by rw [<- Bool.not_eq_true,b7]; exact h
  simp [cy,this]
 | _=>rfl
theorem wY {d:Nat} {v:AV} (h:d ∉ ids v):kill d v = v:=by
 have:cr d (ids v) = false:=by rw [<- Bool.not_eq_true,b7]; exact h
 simp [kill,this]
theorem AK {f:AV->AV} {l:List AV} (h:∀ v ∈ l,f v = v):ez f l = l:=by
 rw [bz]
 induction l with
 | nil=>rfl
 | cons v r ih=>simp only [List.map_cons]; rw [h v (List.mem_cons_self ..),ih fun u hu=>h u (List.mem_cons_of_mem _ hu)]
end
end Go.SX
end
section
namespace Go.SX
variable [Globs]
section
variable {P:Program} {N:Nat} {Γ:Ctx} {W0:World} {F:Fr} {X:Nat->Prop} {s:St} {β:Nat->Option Nat} {a:Act} {w:World}

def PT (v t:AV):Prop:=v = t\/(v = .nl/\∃ τ,t = .rd τ [])\/(t = .x\/∃ id τ l,v = .vec id τ l/\t = .ob id id (.ln τ l))\/∃ id τ l,v = .vec id τ l/\t = .vs id τ l 0
def Yq (s:St):List (Nat × AV)->Prop
 | []=>True
 | (n,v)::r=>fF s.aj n (fun u=>PT u v)/\Yq s r
def Wp:List AV->List AV->Prop
 | [],[]=>True
 | u::r,v::t=>PT u v/\Wp r t
 | _,_=>False
def Tf (s:St):List (Nat × List AV)->Prop
 | []=>True
 | (n,cs)::r=>eE s.boxes n (fun us=>Wp us cs)/\Tf s r
def Wk (s t:St):Prop:=Yq s t.aj/\Tf s t.boxes

theorem PT.rel {u v:AV} {O:Nat->Prop} {x:Value} (h:PT u v) (hr:Rel β O w u x):Rel β O w v x:=by
 rcases h with rfl | ⟨rfl,τ,rfl⟩ | (rfl | ⟨id,τ,l,rfl,rfl⟩) | ⟨id,τ,l,rfl,rfl⟩
 ·exact hr
 ·have:x = .slice none 0 0:=by cases (show Im _ _ _ _ from hr); rfl
  subst this
  exact Im.uR τ none 0 (Nat.zero_le _)
 ·exact Rel.x
 ·exact ⟨rfl,hr⟩
 ·exact ⟨Nat.zero_le _,x,hr,.inl ⟨rfl,rfl⟩⟩
theorem PT.ids {u v:AV} (h:PT u v):∀ n ∈ ids v,n ∈ ids u:=by
 rcases h with rfl | ⟨rfl,τ,rfl⟩ | (rfl | ⟨id,τ,l,rfl,rfl⟩) | ⟨id,τ,l,rfl,rfl⟩
 ·exact fun _ h=>h
 ·intro n hn; cases hn
 ·intro n hn; cases hn
 ·intro n hn
  have:n = id:=by simpa [SX.ids,aw] using hn
  subst this
  simp [SX.ids,aw]
 ·exact fun _ h=>h
theorem BL {t:List (Nat × AV)} (h:Yq s t):∀ n,PT (look s.aj n) (look t n):=by
 induction t with
 | nil=>intro n; exact .inr (.inr (.inl (.inl rfl)))
 | cons p r ih =>
  obtain ⟨m,v⟩:=p
  obtain ⟨h1,h2⟩:=h
  rw [dA] at h1
  intro n
  simp only [look]
  cases hb:Nat.beq m n with
  | true=>have:=Nat.eq_of_beq_eq_true hb; subst this; exact h1
  | false=>exact ih h2 n
theorem eQ {t:List (Nat × List AV)} (h:Tf s t):∀ n cs,ax t n = some cs->∃ us,ax s.boxes n = some us/\Wp us cs:=by
 induction t with
 | nil=>intro n cs hn; cases hn
 | cons p r ih =>
  obtain ⟨m,v⟩:=p
  obtain ⟨h1,h2⟩:=h
  intro n cs hn
  simp only [ax] at hn
  cases hb:Nat.beq m n with
  | true=>rw [hb] at hn; injection hn with hn; subst hn; have:=Nat.eq_of_beq_eq_true hb; subst this; exact (cJ _ _ _).1 h1
  | false=>rw [hb] at hn; exact ih h2 n cs hn
theorem nJ {us cs:List AV} {vs:List Value} {O:Nat->Prop} (h:Wp us cs) (hr:All2 (iP β O w) us vs):All2 (iP β O w) cs vs/\∀ c ∈ cs,∀ n ∈ ids c,∃ u ∈ us,n ∈ ids u:=by
 induction us generalizing cs vs with
 | nil=>cases cs with
  | nil=>exact ⟨hr,by intro c hc; cases hc⟩
  | cons _ _=>exact h.elim
 | cons u r ih=>cases cs with
  | nil=>exact h.elim
  | cons c t =>
   obtain ⟨v,vs',rfl,h1,h2⟩:=hr.cons_inv
   obtain ⟨h3,h4⟩:=ih h.2 h2
   refine ⟨All2.cons ⟨h.1.rel h1.1,h1.2⟩ h3,fun c' dv n hn=>?_⟩
   rcases List.mem_cons.1 dv with rfl | dv
   ·exact ⟨u,List.mem_cons_self .., h.1.ids n hn⟩
   ·obtain ⟨u',iN,jg⟩:=h4 c' dv n hn
    exact ⟨u',List.mem_cons_of_mem _ iN,jg⟩
theorem ao.wk (hI:ao W0 F X N s β a w) {t:St} (h:Wk s t):ao W0 F X N t β a w:=by
 have bP:∀ n,Nm t n->Nm s n:=by
  rintro n (⟨cs,hc⟩ | ⟨m,hm⟩ | ⟨b,cs,hb,c,hc,hn⟩)
  ·obtain ⟨us,hu,_⟩:=eQ h.2 n cs hc
   exact .inl ⟨us,hu⟩
  ·exact .inr (.inl ⟨m,(BL h.1 m).ids n hm⟩)
  ·obtain ⟨us,hu,hw⟩:=eQ h.2 b cs hb
   obtain ⟨g,us',e,h1,h2,h3⟩:=hI.boxes b us hu
   obtain ⟨u,iN,jg⟩:=(nJ hw h3).2 c hc n hn
   exact .inr (.inr ⟨b,us,hu,u,iN,jg⟩)
 have hO:∀ k,Own X t β k->Own X s β k:=fun k hk=>hk.imp id fun ⟨n,hn,hb⟩=>⟨n,bP n hn,hb⟩
 refine hI.yS (ca.refl (fun _=>False) w) (fun _ _ h=>h.elim) (fun n=>?_) (fun n cs cZ=>?_) (fun n m g hn hm=>hI.inj n m g (bP n hn) (bP m hm)) (fun n g hn hg=>hI.own n g (bP n hn) hg) rfl rfl (fun n cs g hc hp=>by
  obtain ⟨us,hu,_⟩:=eQ h.2 n cs hc
  exact hI.fP n us g hu hp)
 ·exact ((BL h.1 n).rel (hI.aj n)).mono hO
 ·obtain ⟨us,hu,hw⟩:=eQ h.2 n cs cZ
  obtain ⟨g,us',e,h1,h2,h3⟩:=hI.boxes n us hu
  exact ⟨g,us',e,h1,h2,(nJ hw h3).1.mono fun _ _ _ _ hr=>⟨hr.1.mono hO,hr.2⟩⟩
end
end Go.SX
end
section
namespace Go.SX
variable [Globs]
section
variable {P:Program} {N:Nat} {Γ:Ctx} {W0:World} {F:Fr} {X:Nat->Prop} {s:St} {β:Nat->Option Nat} {a:Act} {w:World} {ops:Array Oper}

def kB (s s':St):Prop:=(∀ n,look s.aj n = look s'.aj n)/\∀ n,ax s.boxes n = ax s'.boxes n
theorem kB.refl (s:St):kB s s:=⟨fun _=>rfl,fun _=>rfl⟩
theorem kB.trans {a b c:St} (h:kB a b) (h':kB b c):kB a c:=⟨fun n=>(h.1 n).trans (h'.1 n),fun n=>(h.2 n).trans (h'.2 n)⟩
theorem kB.symm {a b:St} (h:kB a b):kB b a:=⟨fun n=>(h.1 n).symm,fun n=>(h.2 n).symm⟩
theorem kB.ev {a b:St} (h:kB a b) (x:Operand):ev a x = ev b x:=by cases x<;>first | rfl | exact h.1 _
theorem kB.inv (hI:ao W0 F X N s β a w) {s':St} (h:kB s s'):ao W0 F X N s' β a w:=by
 refine hI.less (ca.refl _ _) ?_ (fun n=>⟨n,.inl ⟨(h.1 n).symm,rfl⟩⟩) (fun n cs hc=>by rw [h.2]; exact hc) rfl rfl
 rintro n (⟨cs,hc⟩ | ⟨m,hm⟩ | ⟨k,cs,hk,c,hc,hn⟩)
 ·exact .inl ⟨cs,by rw [h.2]; exact hc⟩
 ·exact .inr (.inl ⟨m,by rw [h.1]; exact hm⟩)
 ·exact .inr (.inr ⟨k,cs,by rw [h.2]; exact hk,c,hc,hn⟩)
theorem kB.fI {s s':St} (h:kB s s') (d:Option Nat) (v:AV):kB (fI s d v) (SX.fI s' d v):=by
 refine ⟨fun n=>?_,fun n=>by rw [jB,jB,h.2]⟩
 rw [gb,gb,h.1]
theorem DL {d:Nat} (h:¬ Nm s d):kB (s.cy d) s:=by
 refine ⟨fun n=>?_,fun n=>?_⟩
 ·show look (rZ (SX.cy d) s.aj) n = _
  rw [bH _ (show SX.cy d .x = .x from rfl)]
  exact tB fun hd=>h (.inr (.inl ⟨n,hd⟩))
 ·simp only [St.cy,St.bj,St.map,bV,aV]
  by_cases e:d = n
  ·rw [if_pos e]
   cases hl:ax s.boxes n with
   | none=>rfl
   | some cs=>exact absurd (.inl ⟨cs,e ▸ hl⟩) h
  ·rw [if_neg e]
   cases hl:ax s.boxes n with
   | none=>rfl
   | some cs=>rw [Option.map_some,AK fun v hv=>tB fun hd=>h (.inr (.inr ⟨n,cs,hl,v,hv,hd⟩))]
theorem IP {d:Nat} (h:¬ Nm s d):kB (s.kill d) s:=by
 refine ⟨fun n=>?_,fun n=>?_⟩
 ·show look (rZ (SX.kill d) s.aj) n = _
  rw [bH _ (mu d)]
  exact wY fun hd=>h (.inr (.inl ⟨n,hd⟩))
 ·simp only [St.kill,St.bj,St.map,bV,aV]
  by_cases e:d = n
  ·rw [if_pos e]
   cases hl:ax s.boxes n with
   | none=>rfl
   | some cs=>exact absurd (.inl ⟨cs,e ▸ hl⟩) h
  ·rw [if_neg e]
   cases hl:ax s.boxes n with
   | none=>rfl
   | some cs=>rw [Option.map_some,AK fun v hv=>wY fun hd=>h (.inr (.inr ⟨n,cs,hl,v,hv,hd⟩))]
def fD (P:Program) (Γ:Ctx) (s:St) (o:Oper) (K:AV->Prop):Prop :=
 match o.op with
 | .alloc t=>match o.dst with
  | some d=>cp Γ t fun ti=>aC ti.sb.isNone (K (.ob d d (.nw ti.zero)))
  | none=>False
 | op=>eK P Γ s op K
theorem oX {o:Oper} (h:∀ t,o.op≠.alloc t) {K:AV->Prop}:fD P Γ s o K = eK P Γ s o.op K:=by
 unfold fD
 cases ho:o.op<;>first | rfl | exact absurd ho (h _)
theorem Hm (o:Oper):CP (fD P Γ s o):=by
 by_cases h:∃ t,o.op = .alloc t
 ·obtain ⟨t,ho⟩:=h
  cases hd:o.dst with
  | none =>
   have e:fD P Γ s o = fun _=>False:=by funext K; simp only [fD,ho,hd]
   rw [e]; exact CP.none
  | some d =>
   have e:fD P Γ s o = fun K=>cp Γ t fun ti=>aC ti.sb.isNone (K (.ob d d (.nw ti.zero))):=by funext K; simp only [fD,ho,hd]
   rw [e]; exact CP.bind (CP.ti Γ t) fun ti=>CP.l8 (CP.pure _)
 ·have e:fD P Γ s o = eK P Γ s o.op:=by funext K; exact oX fun t ht=>h ⟨t,ht⟩
  rw [e]; exact Du P Γ s o.op
theorem rh {s s':St} (hb:∀ n,ax s.boxes n = ax s'.boxes n) {o:Oper} (h:∀ x ∈ o.op.operands.toList,ev s x = ev s' x) (K:AV->Prop):fD P Γ s o K = fD P Γ s' o K:=by
 by_cases Mu:∃ t,o.op = .alloc t
 ·obtain ⟨t,ho⟩:=Mu
  simp only [fD,ho]
 ·rw [oX fun t ht=>Mu ⟨t,ht⟩,oX fun t ht=>Mu ⟨t,ht⟩]
  exact B6 hb h K
theorem Md (aY : Γ.bR P) (hI : ao W0 F X N s β a w) {o : Oper} {v : AV} (bB : ((∃ t len ps, o.op = .buildSlice t len ps) \/ ∃ t, o.op = .alloc t) -> ∃ d, o.dst = some d /\ ¬ Nm s d) (hd : ∀ d, o.dst = some d -> d < N)
  (h:fD P Γ s o (fun u=>u = v)) {next:Act->World->Prop} {Q:Exit->Act->World->Prop} (hn:∀ a' w',Inv W0 F X N (fI s o.dst v) a' w'->next a' w'):o.wp P a w next Q:=by
 by_cases Mu:∃ t,o.op = .alloc t
 ·obtain ⟨d,qx,TY⟩:=bB (.inr Mu)
  obtain ⟨t,ho⟩:=Mu
  have h:cp Γ t fun ti=>aC ti.sb.isNone (AV.ob d d (.nw ti.zero) = v):=by simpa only [fD,ho,qx] using h
  obtain ⟨ti,gw,h⟩:=eZ h
  obtain ⟨_,rfl⟩:=(af _ _).1 h
  obtain ⟨z,hz,vQ⟩:=(aY.ok _ gw).zeroValue w
  have fV:=hI.Ee (hd d qx) TY TY (ca.alloc w (.cells z.cells t)) (Nat.le_refl _) (by simp) (o:=.nw ti.zero) (u:=.pointer (some ⟨w.heap.size,0,none⟩)) (fun O' =>
   ⟨w.heap.size,t,by simp [ay],rfl,by rw [heap_alloc_new,vQ],(aY.one _ gw).1⟩)
  refine eI (u:=.pointer (some ⟨w.heap.size,0,none⟩)) (w':=w.alloc (.cells z.cells t)) ?_ (hn _ _ (by rw [qx]; exact ⟨_,fV⟩))
  simp [execOp,ho,Instr.alloc,hz,jL]
 rw [oX fun t ht=>Mu ⟨t,ht⟩] at h
 have bB:(∃ t len ps,o.op = .buildSlice t len ps)->∃ d,o.dst = some d/\¬ Nm s d:=fun h=>bB (.inl h)
 by_cases hb:∃ t len ps,o.op = .buildSlice t len ps
 ·obtain ⟨d,qx,TY⟩:=bB hb
  obtain ⟨t,len,ps,ho⟩:=hb
  rw [ho] at h
  have h:l6 Γ s t len ps.toList (fun u=>u = v):=h
  unfold l6 at h
  rw [ek] at h
  obtain ⟨e,h⟩:=(pD _ _).1 h
  refine wg aY.ok aY.one hI ho (K:=fun s2=>∃ τ l,v = .rd τ l/\kB (s2.cy d) (fI s (some d) v)) ?_ fun s' a' w' hK ⟨bJ,bS⟩=>?_
  ·unfold sa
   rw [ek,e,qx,dL]
   refine (cn _ _).2 ⟨d,rfl,?_⟩
   simp only [cA]
   rw [cO]
   have pf:=DL TY
   obtain ⟨ti,h1,h⟩:=(CP.ti Γ t).O9 h
   refine (CP.ti Γ t).put h1 ?_
   obtain ⟨el,h2,h⟩:=(CP.cW ti.desc).O9 h
   refine (CP.cW ti.desc).put h2 ?_
   obtain ⟨te,h3,h⟩:=(CP.ti Γ el).O9 h
   refine (CP.ti Γ el).put h3 ?_
   obtain ⟨τ,h4,h⟩:=(lM _ _).1 h
   refine (lM _ _).2 ⟨τ,h4,?_⟩
   obtain ⟨h5,h⟩:=(af _ _).1 h
   obtain ⟨h6,h⟩:=(af _ _).1 h
   refine (af _ _).2 ⟨h5,(af _ _).2 ⟨h6,?_⟩⟩
   rw [gi] at h ⊢
   rw [mE (s':=s) fun x _=>pf.ev x.2]
   obtain ⟨cs,h7,h⟩:=(CP.fill (pl:=fun i K=>K (i * te.cells,te.cells)) (fun _=>CP.pure _) _ _).O9 h
   refine (CP.fill (pl:=fun i K=>K (i * te.cells,te.cells)) (fun _=>CP.pure _) _ _).put h7 ?_
   rw [ij] at h ⊢
   obtain ⟨l,h8,rfl⟩:=(cn _ _).1 h
   refine (cn _ _).2 ⟨l,h8,?_⟩
   rw [fi]
   refine vk (fun d' e'=>by injection e' with e'; subst e'; exact hd _ qx) ⟨τ,l,rfl,?_⟩
   have WM:¬ Nm (s.cy d) d:=eu s d
   have YV:=(IP WM).trans pf
   have hNk:¬ Nm ((s.cy d).kill d) d:=fun hm=>(Nm.Eg hm).2 rfl
   refine ⟨fun n=>?_,fun n=>?_⟩
   ·show look (rZ (SX.cy d) (((s.cy d).kill d).put d (.vec d τ l)).aj) n = _
    rw [bH _ (show SX.cy d .x = .x from rfl),gb]
    show SX.cy d (look (lJ ((s.cy d).kill d).aj d (.vec d τ l)) n) = _
    rw [bI]
    by_cases e':d = n
    ·rw [if_pos e',if_pos (by rw [e'])]; simp [SX.cy]
    ·rw [if_neg e',if_neg (fun h=>e' (by injection h)),YV.1 n]
     exact tB fun Lv=>TY (.inr (.inl ⟨n,Lv⟩))
   ·have h9:=(DL hNk).2 n
    exact h9.trans (YV.2 n)
  ·obtain ⟨τ,l,_,he⟩:=hK
   rw [qx] at hn
   exact hn _ _ ⟨bJ,kB.inv (bS.cy d) he⟩
 ·exact nR aY hI (Mc (fun t len ps e=>hb ⟨t,len,ps,e⟩) ((Du P Γ s o.op).put h (vk (K:=fun s'=>s' = fI s o.dst v) hd rfl))) fun s' a' w' Px bS=>hn a' w' (Px ▸ bS)

/-! ### the values that a block yields in the order of the text -/
abbrev Item:=Nat × Oper × AV
def rb (P:Program) (Γ:Ctx) (ops:List Oper) (o:Oper) (s:St) (v:AV):Prop :=
 match o.guard with
 | none=>fD P Γ s o (fun u=>u = v)
 | some (j,want)=>∃ oj d,ops[j]? = some oj/\oj.dst = some d /\
  ((look s.aj d = .b want/\fD P Γ s o (fun u=>u = v))\/((look s.aj d = .b (!want)\/look s.aj d = .bc [])/\v = .bc []))
def P6 (o:Oper) (d:Nat):Bool:=match o.dst with | some d'=>Nat.beq d' d | none=>false
theorem Hy {o:Oper} {d:Nat}:P6 o d = true↔o.dst = some d:=by
 unfold P6
 cases o.dst with
 | none=>simp
 | some d'=>simp
def TK (fz:List Nat) (o:Oper) (v:AV):Bool:=fz.all fun d=>!(lQ d (ids v)) || P6 o d
theorem Mo {fz:List Nat} {o:Oper} {v:AV}:TK fz o v = true↔∀ d ∈ fz,d ∈ ids v->o.dst = some d:=by
 simp only [TK,List.all_eq_true,Bool.or_eq_true,Bool.not_eq_true',<- Bool.not_eq_true,cR,Hy]
 constructor
 ·exact fun h d hd hi=>(h d hd).resolve_left fun hn=>hn hi
 ·exact fun h d hd=>(Classical.em (d ∈ ids v)).elim (fun hi=>.inr (h d hd hi)) .inl
def oJ (P:Program) (Γ:Ctx) (N:Nat) (fz:List Nat) (ops:List Oper):List Item->St->Prop
 | [],_=>True
 | (_,o,v)::r,s=>rb P Γ ops o s v/\(∀ d,o.dst = some d->d < N)/\(∀ d ∈ fz,d ∈ ids v->o.dst = some d)/\oJ P Γ N fz ops r (fI s o.dst v)
def kS:List Item->St->St
 | [],s=>s
 | (_,o,v)::r,s=>kS r (fI s o.dst v)
def G7 (P:Program) (Γ:Ctx) (N:Nat) (fz:List Nat) (ops:List Oper) (i:Nat) (known:List Nat) (s:St) (K:List Nat->St->Prop):Prop :=
 dp ops i fun o =>
  match o.guard with
  | none=>fD P Γ s o fun v=>aC (TK fz o v) (al N s o.dst v fun s=>K known s)
  | some (j,want)=>dp ops j fun oj=>jU oj.dst fun d =>
   jF N (lQ j known) s d want (fun s=>fD P Γ s o fun v=>aC (TK fz o v) (al N s o.dst v fun s=>K (j::known) s))
    (fun s=>al N s o.dst (.bc []) fun s=>K (j::known) s)
def mR (P:Program) (Γ:Ctx) (N:Nat) (fz:List Nat) (ops:List Oper):List Nat->List Nat->St->(St->Prop)->Prop
 | [],_,s,Q=>Q s
 | i::r,known,s,Q=>G7 P Γ N fz ops i known s fun known s=>mR P Γ N fz ops r known s Q
theorem zY {d : Nat} {known want : Bool} {run skip : St -> Prop} (h : jF N known s d want run skip) :
  (look s.aj d = .b want/\∃ s',kB s s'/\run s')\/((look s.aj d = .b (!want)\/look s.aj d = .bc [])/\∃ s',kB s s'/\skip s'):=by
 have vO:∀ t (K:St->Prop),look s.aj d = .b t->al N s (some d) (.b t) K->∃ s',kB s s'/\K s':=fun t K hv hK =>
  ⟨fI s (some d) (.b t),⟨fun n=>by
   rw [gb]
   split
   ·rename_i e; injection e with e; rw [<- e,hv]
   ·rfl,fun _=>rfl⟩,(fB hK).1⟩
 unfold jF at h
 rw [dA] at h
 cases known with
 | true =>
  cases hv:look s.aj d with
  | b t =>
   rw [hv] at h
   cases t<;>cases want
   ·exact .inl ⟨rfl,s,kB.refl s,h⟩
   ·exact .inr ⟨.inl rfl,s,kB.refl s,h⟩
   ·exact .inr ⟨.inl rfl,s,kB.refl s,h⟩
   ·exact .inl ⟨rfl,s,kB.refl s,h⟩
  | bc l =>
   rw [hv] at h
   cases l with
   | nil=>exact .inr ⟨.inr rfl,s,kB.refl s,h⟩
   | cons _ _=>exact h.elim
  | _=>rw [hv] at h; exact h.elim
 | false =>
  cases hv:look s.aj d with
  | b t =>
   rw [hv] at h
   by_cases ht:t = want
   ·subst ht; exact .inl ⟨rfl,vO t run hv (h.1 rfl)⟩
   ·have wT:t = !want:=by cases t<;>cases want<;>simp_all
    subst wT
    exact .inr ⟨.inl rfl,vO _ skip hv (h.2 rfl)⟩
  | bc l =>
   rw [hv] at h
   cases l with
   | nil=>exact .inr ⟨.inr rfl,s,kB.refl s,h⟩
   | cons _ _=>exact h.elim
  | _=>rw [hv] at h; exact h.elim
theorem qj {fz : List Nat} {vE : List Oper} {K : St -> Prop} (B : List Nat) : ∀ (known : List Nat) (s : St), mR P Γ N fz vE B known s K -> ∀ s0, kB s0 s ->
  ∃ dM:List Item,dM.map (·.1) = B/\(∀ it ∈ dM,vE[it.1]? = some it.2.1)/\oJ P Γ N fz vE dM s0/\∃ t,kB (kS dM s0) t/\K t:=by
 induction B with
 | nil=>intro known s h s0 he; exact ⟨[],rfl,(by intro it hit; cases hit),trivial,s,he,h⟩
 | cons i r ih =>
  intro known s h s0 he
  obtain ⟨o,ho,h⟩:=(bA _ _ _).1 h
  have run : ∀ {lz : List Nat} {s1 : St}, kB s0 s1 -> (fD P Γ s1 o fun v => aC (TK fz o v) (al N s1 o.dst v fun s => mR P Γ N fz vE r lz s K)) ->
    ∃ v,fD P Γ s0 o (fun u=>u = v)/\(∀ d,o.dst = some d->d < N)/\(∀ d ∈ fz,d ∈ ids v->o.dst = some d)/\mR P Γ N fz vE r lz (fI s1 o.dst v) K:=by
   intro lz s1 MA h1
   obtain ⟨v,h2,h3⟩:=(Hm (s:=s1) o).O9 h1
   obtain ⟨h6,h3⟩:=(af _ _).1 h3
   obtain ⟨h4,h5⟩:=fB h3
   exact ⟨v,by rw [rh MA.2 fun x _=>MA.ev x]; exact h2,h5,Mo.1 h6,h4⟩
  have fin : ∀ {v : AV} {lz : List Nat} {s1 : St}, kB s0 s1 -> rb P Γ vE o s0 v -> (∀ d, o.dst = some d -> d < N) -> (∀ d ∈ fz, d ∈ ids v -> o.dst = some d) -> mR P Γ N fz vE r lz (fI s1 o.dst v) K ->
    ∃ dM:List Item,dM.map (·.1) = i::r/\(∀ it ∈ dM,vE[it.1]? = some it.2.1)/\oJ P Γ N fz vE dM s0/\∃ t,kB (kS dM s0) t/\K t:=by
   intro v lz s1 MA h1 h2 TQ h3
   obtain ⟨dM,k1,k2,k3,k4⟩:=ih _ _ h3 (fI s0 o.dst v) (MA.fI o.dst v)
   refine ⟨(i,o,v)::dM,by simp [k1],fun it hit=>?_,⟨h1,h2,TQ,k3⟩,k4⟩
   rcases List.mem_cons.1 hit with rfl | hit
   ·exact ho
   ·exact k2 it hit
  cases hg:o.guard with
  | none =>
   rw [hg] at h
   obtain ⟨v,h1,h2,TQ,h3⟩:=run he h
   exact fin he (by unfold rb; rw [hg]; exact h1) h2 TQ h3
  | some p =>
   obtain ⟨j,want⟩:=p
   rw [hg] at h
   obtain ⟨oj,hj,h⟩:=(bA _ _ _).1 h
   obtain ⟨d,hd,h⟩:=(cn _ _).1 h
   rcases zY h with ⟨h1,s1,MA,h⟩ | ⟨h1,s1,MA,h⟩
   ·obtain ⟨v,h2,h3,TR,h4⟩:=run (he.trans MA) h
    exact fin (he.trans MA) (by unfold rb; rw [hg]; exact ⟨oj,d,hj,hd,.inl ⟨by rw [he.1]; exact h1,h2⟩⟩) h3 TR h4
   ·obtain ⟨h4,h5⟩:=fB h
    exact fin (he.trans MA) (by unfold rb; rw [hg]; exact ⟨oj,d,hj,hd,.inr ⟨by rw [he.1]; exact h1,rfl⟩⟩) h5 (by intro _ _ h; cases h) h4

/-! ### what is read after a part of the block -/
def ku:List Item->(Nat->Bool)->Nat->AV->AV
 | [],_,_,base=>base
 | (i,o,v)::r,p,x,base=>if p i = true/\o.dst = some x then v else ku r p x base
theorem mL (l l':List Item) (p:Nat->Bool) (x:Nat) (base:AV):ku (l++l') p x base = ku l p x (ku l' p x base):=by
 induction l with
 | nil=>rfl
 | cons q r ih=>obtain ⟨i,o,v⟩:=q; simp only [List.cons_append,ku,ih]
theorem js {l:List Item} {p:Nat->Bool} {x:Nat} {base:AV} (h:∀ q ∈ l,p q.1 = true->q.2.1.dst≠some x):ku l p x base = base:=by
 induction l with
 | nil=>rfl
 | cons q r ih =>
  obtain ⟨i,o,v⟩:=q
  simp only [ku]
  rw [if_neg fun ⟨h1,h2⟩=>h _ (List.mem_cons_self ..) h1 h2]
  exact ih fun q hq=>h q (List.mem_cons_of_mem _ hq)
theorem nv {l:List Item} {p p':Nat->Bool} {x:Nat} {base:AV} (h:∀ q ∈ l,q.2.1.dst = some x->p q.1 = p' q.1):ku l p x base = ku l p' x base:=by
 induction l with
 | nil=>rfl
 | cons q r ih =>
  obtain ⟨i,o,v⟩:=q
  simp only [ku]
  rw [ih fun q hq=>h q (List.mem_cons_of_mem _ hq)]
  by_cases hd:o.dst = some x
  ·rw [h _ (List.mem_cons_self ..) hd]
  ·simp [hd]
def pY (o:Oper) (i:Nat):Bool:=o.after.any fun e=>Region.binds .any e && Nat.beq e.on i
theorem l3 {o:Oper} {i:Nat} (h:pY o i = true):∃ e ∈ o.after,Region.binds .any e = true/\e.on = i:=by
 obtain ⟨e,h1,h2⟩:=Array.any_eq_true'.1 h
 simp only [Bool.and_eq_true] at h2
 exact ⟨e,h1,h2.1,Nat.eq_of_beq_eq_true h2.2⟩
def xz (ops:Array Oper) (e t:Item):Prop :=
 e.1≠t.1/\(∀ d,e.2.1.dst = some d->t.2.1.dst≠some d)/\(pY t.2.1 e.1 = true\/((∀ d,e.2.1.dst = some d->d ∉ t.2.1.looksAt ops)/\∀ d,t.2.1.dst = some d->d ∉ e.2.1.looksAt ops))
theorem qD (l:List Item) (h:l.Pairwise (xz ops)):∀ (s:St) (x:Nat),look (kS l s).aj x = ku l (fun _=>true) x (look s.aj x):=by
 induction l with
 | nil=>intro s x; rfl
 | cons q r ih =>
  obtain ⟨i,o,v⟩:=q
  intro s x
  rw [List.pairwise_cons] at h
  simp only [kS,ku]
  rw [ih h.2,gb]
  by_cases hd:o.dst = some x
  ·rw [if_pos hd,if_pos ⟨trivial,hd⟩]
   exact js fun q hq _=>(h.1 q hq).2.1 x hd
  ·rw [if_neg hd,if_neg fun h=>hd h.2]
theorem nX (l:List Item):∀ s,(kS l s).boxes = s.boxes:=by
 induction l with
 | nil=>intro s; rfl
 | cons q r ih=>obtain ⟨i,o,v⟩:=q; intro s; simp only [kS]; rw [ih,jB]
theorem Hn {fz:List Nat} {vE:List Oper} (pre:List Item) {i:Nat} {o:Oper} {v:AV} {post:List Item}:∀ s,oJ P Γ N fz vE (pre++(i,o,v)::post) s->rb P Γ vE o (kS pre s) v/\∀ d,o.dst = some d->d < N:=by
 induction pre with
 | nil=>intro s h; exact ⟨h.1,h.2.1⟩
 | cons q r ih=>obtain ⟨i',o',v'⟩:=q; intro s h; exact ih _ h.2.2.2
theorem E9 {fz:List Nat} {vE:List Oper} (l:List Item):∀ s,oJ P Γ N fz vE l s->∀ q ∈ l,∀ d ∈ fz,d ∈ ids q.2.2->q.2.1.dst = some d:=by
 induction l with
 | nil=>intro _ _ q hq; cases hq
 | cons q' r ih =>
  obtain ⟨i,o,v⟩:=q'
  intro s h q hq
  rcases List.mem_cons.1 hq with rfl | hq
  ·exact h.2.2.1
  ·exact ih _ h.2.2.2 q hq
theorem NL {l:List Item} {p:Nat->Bool} {x:Nat} {base:AV}:ku l p x base = base\/∃ q ∈ l,p q.1 = true/\ku l p x base = q.2.2:=by
 induction l with
 | nil=>exact .inl rfl
 | cons q r ih =>
  obtain ⟨i,o,v⟩:=q
  simp only [ku]
  split
  ·rename_i hp; exact .inr ⟨_,List.mem_cons_self .., hp.1,rfl⟩
  ·exact ih.imp id fun ⟨q,hq,e⟩=>⟨q,List.mem_cons_of_mem _ hq,e⟩

/-! ### the block, in any order -/
def iQ:List Item->(Nat->Bool)->Nat
 | [],_=>0
 | q::r,p=>(if p q.1 = true then 0 else 1) + iQ r p
theorem P4 {l:List Item} {p p':Nat->Bool} (h:∀ i,p i = true->p' i = true):iQ l p'<=iQ l p:=by
 induction l with
 | nil=>exact Nat.le_refl _
 | cons q r ih =>
  simp only [iQ]
  by_cases h1:p q.1 = true
  ·rw [if_pos h1,if_pos (h _ h1)]; omega
  ·rw [if_neg h1]; split<;>omega
theorem P5 {l:List Item} {p p':Nat->Bool} (h:∀ i,p i = true->p' i = true) {q:Item} (hq:q ∈ l) (h1:p q.1≠true) (h2:p' q.1 = true):iQ l p' < iQ l p:=by
 induction l with
 | nil=>cases hq
 | cons q' r ih =>
  simp only [iQ]
  rcases List.mem_cons.1 hq with rfl | hq
  ·rw [if_pos h2,if_neg h1]; have:=P4 (l:=r) h; omega
  ·have:=ih hq
   by_cases h3:p q'.1 = true
   ·rw [if_pos h3,if_pos (h _ h3)]; omega
   ·rw [if_neg h3]; split<;>omega
theorem mZ {l:List Item} {p:Nat->Bool} (h:iQ l p = 0):∀ q ∈ l,p q.1 = true:=by
 induction l with
 | nil=>intro q hq; cases hq
 | cons q' r ih =>
  simp only [iQ] at h
  intro q hq
  rcases List.mem_cons.1 hq with rfl | hq
  ·by_cases h3:p q.1 = true
   ·exact h3
   ·rw [if_neg h3] at h; omega
  ·exact ih (by omega) q hq
theorem Fq {l:List Item} {p:Nat->Bool} (h:iQ l p≠0):∃ pre q post,l = pre++q::post/\(∀ r ∈ pre,p r.1 = true)/\p q.1≠true:=by
 induction l with
 | nil=>exact absurd rfl h
 | cons q' r ih =>
  by_cases h3:p q'.1 = true
  ·simp only [iQ,if_pos h3] at h
   obtain ⟨pre,q,post,rfl,h4,h5⟩:=ih (by omega)
   exact ⟨q'::pre,q,post,rfl,fun x hx=>by rcases List.mem_cons.1 hx with rfl | hx; exact h3; exact h4 x hx,h5⟩
  ·exact ⟨[],q',r,rfl,(by intro x hx; cases hx),h3⟩
def dX (listed:Array Bool) (B:List Nat):Array Bool:=B.foldl (fun l i=>l.setIfInBounds i true) listed
theorem iK (B:List Nat):∀ listed:Array Bool,(dX listed B).size = listed.size:=by
 induction B with
 | nil=>intro l; rfl
 | cons i r ih=>intro l; simp only [dX,List.foldl_cons]; exact (ih _).trans (by simp)
theorem vh (B:List Nat):∀ (listed:Array Bool) (j:Nat),j < listed.size->(dX listed B).getD j false = (decide (j ∈ B) || listed.getD j false):=by
 induction B with
 | nil=>intro l j _; simp [dX]
 | cons i r ih =>
  intro l j hj
  have h1:=ih (l.setIfInBounds i true) j (by simpa using hj)
  simp only [dX,List.foldl_cons] at h1 ⊢
  rw [h1]
  by_cases ME:i = j
  ·subst ME; simp [hj]
  ·have LA:j≠i:=fun e=>ME e.symm
   simp [Array.getElem?_setIfInBounds_ne ME,LA]

def D6 (oj:Oper):List Item->Prop
 | []=>True
 | q::r=>(pY oj q.1 = true\/∃ q' ∈ r,pY q'.2.1 q.1 = true)/\D6 oj r

structure GM (ops:Array Oper) (listed:Array Bool) (dM rX:List Item):Prop where
 size:listed.size = ops.size
 un:∀ q ∈ dM,listed.getD q.1 true = false
 at':∀ q ∈ dM,ops[q.1]? = some q.2.1
 Jb:dM.Pairwise (xz ops)
 prev:∀ pre q post,dM = pre++q::post->∀ e ∈ q.2.1.after,Region.binds .any e = true->listed.getD e.on false = true\/∃ r ∈ pre,r.1 = e.on
 last:∀ j oj,ops[j]? = some oj->listed.getD j true = false->(∀ q ∈ dM,q.1≠j)->D6 oj rX\/∃ j',pY oj j' = true/\listed.getD j' false = false/\∀ q ∈ dM,q.1≠j'

theorem fw {l:Array Bool} {i:Nat} (h:i < l.size) (d d':Bool):l.getD i d = l.getD i d':=by simp [h]

theorem zy (l:List Item) (p:Nat->Bool) (h:∀ q ∈ l,p q.1 = true):iQ l p = 0:=by
 induction l with
 | nil=>rfl
 | cons q r ih =>
  have h1:=ih fun q hq=>h q (List.mem_cons_of_mem _ hq)
  simp only [iQ,h q (List.mem_cons_self ..),if_true,h1]
theorem G8 {dM rX itE : List Item} (hsp : dM = rX ++ itE) (hE : itE.length<=1) {ec listed : Array Bool} (hb : GM ops ec dM rX) {s0 s : St} (hz : ¬ iQ dM (fun i => listed.getD i false) = 0) (tJ : ∀ q ∈ rX, listed.getD q.1 false = true)
  (bO:listed.size = ops.size) (h1:∀ j,(∀ q ∈ dM,q.1≠j)->listed.getD j false = ec.getD j false) (qu:s.boxes = s0.boxes) (MH:∀ x,look s.aj x = ku dM (fun i=>listed.getD i false) x (look s0.aj x)) :
  itE≠[]/\listed = dX ec (rX.map (·.1))/\kB s (kS rX s0):=by
 obtain ⟨ie,rfl⟩:∃ ie,itE = [ie]:=by
  cases itE with
  | nil=>exact absurd (zy dM _ (by rw [hsp,List.append_nil]; exact tJ)) hz
  | cons ie r =>
   cases r with
   | nil=>exact ⟨ie,rfl⟩
   | cons _ _=>simp only [List.length_cons] at hE; omega
 have YO:listed.getD ie.1 false≠true:=fun h=>hz (zy dM _ fun q hq=>by
  rw [hsp] at hq
  rcases List.mem_append.1 hq with hq | hq
  ·exact tJ q hq
  ·rw [List.mem_singleton.1 hq]; exact h)
 have hpB:rX.Pairwise (xz ops):=by
  have:=hb.Jb
  rw [hsp] at this
  exact (List.pairwise_append.1 this).1
 refine ⟨by simp,?_,fun x=>?_,fun _=>by rw [nX,qu]⟩
 ·apply Array.ext
  ·rw [iK,bO,hb.size]
  ·intro j hj hj'
   have S3:j < ec.size:=by rw [hb.size,<- bO]; exact hj
   have h3:=vh (rX.map (·.1)) ec j S3
   have h4:listed.getD j false = (dX ec (rX.map (·.1))).getD j false:=by
    rw [h3]
    by_cases hm:j ∈ rX.map (·.1)
    ·obtain ⟨q,hq,rfl⟩:=List.mem_map.1 hm
     rw [tJ q hq]; simp [hm]
    ·by_cases LA:j = ie.1
     ·subst LA
      have h5:=hb.un ie (by rw [hsp]; simp)
      rw [fw S3 true false] at h5
      rw [h5]
      simp only [hm,decide_false,Bool.false_or]
      cases h6:listed.getD ie.1 false with
      | false=>rfl
      | true=>exact absurd h6 YO
     ·rw [h1 j fun q hq e=>?_]
      ·simp only [hm,decide_false,Bool.false_or]
      ·rw [hsp] at hq
       rcases List.mem_append.1 hq with hq | hq
       ·exact hm (List.mem_map.2 ⟨q,hq,e⟩)
       ·rw [List.mem_singleton.1 hq] at e; exact LA e.symm
   simpa [hj,hj'] using h4
 ·rw [MH,qD rX hpB,hsp,mL]
  have h5:ku [ie] (fun i=>listed.getD i false) x (look s0.aj x) = look s0.aj x:=by
   refine js fun q hq hl=>?_
   rw [List.mem_singleton.1 hq] at hl
   exact absurd hl YO
  rw [h5]
  exact nv fun q hq _=>tJ q hq
theorem G9 (aY : Γ.bR P) {Q : Exit -> Act -> World -> Prop} {dM rX itE : List Item} (hsp : dM = rX ++ itE) (hE : itE.length<=1) {ec : Array Bool} (hb : GM ops ec dM rX) {s0 : St} {fz : List Nat} (hc : oJ P Γ N fz ops.toList dM s0)
  (hfz:∀ q ∈ dM,((∃ t len ps,q.2.1.op = .buildSlice t len ps)\/∃ t,q.2.1.op = .alloc t)->∃ d,q.2.1.dst = some d/\d ∈ fz) (Pf:∀ d ∈ fz,¬ Nm s0 d) {f:Nat}
  (MD:∀ fuel a w,f<=fuel->Inv W0 F X N (kS dM s0) a w->wpAny P .any ops Q fuel (dX ec (dM.map (·.1))) a w)
  (hx:itE≠[]->∀ fuel a w,f + 1<=fuel->Inv W0 F X N (kS rX s0) a w->wpAny P .any ops Q fuel (dX ec (rX.map (·.1))) a w) :
  ∀ (n fuel:Nat) (listed:Array Bool) (s:St) (a:Act) (w:World),iQ dM (fun i=>listed.getD i false)<=n->n + f<=fuel->listed.size = ops.size ->
   (∀ j,(∀ q ∈ dM,q.1≠j)->listed.getD j false = ec.getD j false) ->
   (∀ q ∈ dM,listed.getD q.1 false = true->∀ e ∈ q.2.1.after,Region.binds .any e = true->listed.getD e.on false = true) ->
   s.boxes = s0.boxes->(∀ x,look s.aj x = ku dM (fun i=>listed.getD i false) x (look s0.aj x))->Inv W0 F X N s a w->wpAny P .any ops Q fuel listed a w:=by
 intro n
 induction n with
 | zero =>
  intro fuel listed s a w hn hf bO h1 h2 qu MH ⟨β,hI⟩
  have ei:=mZ (Nat.le_zero.1 hn)
  have e:listed = dX ec (dM.map (·.1)):=by
   apply Array.ext
   ·rw [iK,bO,hb.size]
   ·intro j hj hj'
    have S3:j < ec.size:=by rw [hb.size,<- bO]; exact hj
    have h3:=vh (dM.map (·.1)) ec j S3
    have h4:listed.getD j false = (dX ec (dM.map (·.1))).getD j false:=by
     rw [h3]
     by_cases hm:j ∈ dM.map (·.1)
     ·obtain ⟨q,hq,rfl⟩:=List.mem_map.1 hm
      rw [ei q hq]; simp [hm]
     ·rw [h1 j fun q hq e=>hm (List.mem_map.2 ⟨q,hq,e⟩)]; simp only [hm,decide_false,Bool.false_or]
    simpa [hj,hj'] using h4
  rw [e]
  refine MD fuel a w (by omega) ⟨β,kB.inv hI ⟨fun x=>?_,fun _=>by rw [nX,qu]⟩⟩
  rw [MH,qD dM hb.Jb]
  exact nv fun q hq _=>ei q hq
 | succ n ih =>
  intro fuel listed s a w hn hf bO h1 h2 qu MH Qg
  by_cases hz:iQ dM (fun i=>listed.getD i false) = 0
  ·exact ih fuel listed s a w (by omega) (by omega) bO h1 h2 qu MH Qg
  by_cases tJ:∀ q ∈ rX,listed.getD q.1 false = true
  ·obtain ⟨β,hI⟩:=Qg
   obtain ⟨k1,k2,k3⟩:=G8 hsp hE hb hz tJ bO h1 qu MH
   rw [k2]
   exact hx k1 fuel a w (by omega) ⟨β,kB.inv hI k3⟩
  obtain ⟨qB,hqB,XQ⟩:∃ q ∈ rX,listed.getD q.1 false≠true:=by
   refine Classical.byContradiction fun h=>tJ fun q hq=>?_
   refine Classical.byContradiction fun h2=>h ⟨q,hq,h2⟩
  obtain ⟨fuel,rfl⟩:∃ k,fuel = k + 1:=⟨fuel - 1,by omega⟩
  -- the first that is not there yet can be taken
  obtain ⟨pre,q,post,e,kM,hq⟩:=Fq hz
  have hlt:∀ q ∈ dM,q.1 < ops.size:=fun q hq=>(Array.getElem?_eq_some_iff.1 (hb.at' q hq)).1
  have X4:∀ q ∈ dM,listed.getD q.1 false≠true->listed.getD q.1 true = false:=fun q hq h=>by
   rw [fw (by rw [bO]; exact hlt q hq) true false]; simpa using h
  have It:q.1 ∈ Region.ready .any ops listed:=by
   have Zf:q ∈ dM:=by rw [e]; simp
   refine mem_ready.2 ⟨X4 q Zf hq,q.2.1,hb.at' q Zf,fun ed MB My=>?_⟩
   rcases hb.prev pre q post e ed MB My with h | ⟨r,hr,hre⟩
   ·by_cases hm:∃ q' ∈ dM,q'.1 = ed.on
    ·obtain ⟨q',GG,V9⟩:=hm
     exfalso
     have:=hb.un q' GG
     rw [V9,fw (by rw [hb.size,<- V9]; exact hlt q' GG) true false,h] at this
     cases this
    ·rw [h1 _ fun q' GG he=>hm ⟨q',GG,he⟩]; exact h
   ·rw [<- hre]; exact kM r hr
  refine ⟨fun h=>(by rw [h] at It; cases It),fun j hj=>?_⟩
  obtain ⟨Un,oj,Pt,DU⟩:=mem_ready.1 hj
  have Aj:listed.getD j false≠true:=by
   intro h
   have Xn:j < listed.size:=by rw [bO]; exact (Array.getElem?_eq_some_iff.1 Pt).1
   rw [fw Xn true false,h] at Un; cases Un
  -- it is one of the block
  obtain ⟨it,hit,Xl⟩:∃ it ∈ dM,it.1 = j:=by
   by_cases hm:∃ it ∈ dM,it.1 = j
   ·exact hm
   ·exfalso
    have oG:∀ q ∈ dM,q.1≠j:=fun q hq e=>hm ⟨q,hq,e⟩
    have S3:ec.getD j true = false:=by
     have Xn:j < ec.size:=by rw [hb.size]; exact (Array.getElem?_eq_some_iff.1 Pt).1
     rw [fw Xn true false,<- h1 j oG]; simpa using Aj
    rcases hb.last j oj Pt S3 oG with hl | ⟨j',zb,oa,Xt⟩
    case inr =>
     obtain ⟨ed,h3,h4,h5⟩:=l3 zb
     have h6:=DU ed h3 h4
     rw [h5,h1 j' Xt,oa] at h6
     cases h6
    have key:∀ l:List Item,(∀ q ∈ l,q ∈ dM)->D6 oj l->∀ q ∈ l,listed.getD q.1 false = true:=by
     intro l
     induction l with
     | nil=>intro _ _ q hq; cases hq
     | cons q r ihl =>
      intro UQ ⟨zb,oa⟩
      have hr:=ihl (fun q hq=>UQ q (List.mem_cons_of_mem _ hq)) oa
      intro q' GG
      rcases List.mem_cons.1 GG with rfl | GG
      ·rcases zb with h | ⟨q'',hq'',h⟩
       ·obtain ⟨ed,h3,h4,h5⟩:=l3 h
        rw [<- h5]; exact DU ed h3 h4
       ·obtain ⟨ed,h3,h4,h5⟩:=l3 h
        rw [<- h5]; exact h2 q'' (UQ q'' (List.mem_cons_of_mem _ hq'')) (hr q'' hq'') ed h3 h4
      ·exact hr q' GG
    exact XQ (key rX (fun q hq=>by rw [hsp]; exact List.mem_append_left _ hq) hl qB hqB)
  subst Xl
  obtain ⟨pre',post',e'⟩:=List.append_of_mem hit
  obtain ⟨i,o,v⟩:=it
  have MK:=hb.at' _ hit
  rw [Pt] at MK; injection MK with MK
  have hoj'':=MK.symm
  subst hoj''
  obtain ⟨lP,jS⟩:=Hn pre' s0 (by rw [<- e']; exact hc)
  have Zc:=hb.Jb
  rw [e'] at Zc
  obtain ⟨XP,ML,MM⟩:=List.pairwise_append.1 Zc
  rw [List.pairwise_cons] at ML
  have Pv:∀ x ∈ o.looksAt ops,look s.aj x = look (kS pre' s0).aj x:=fun x hx=>by
   rw [MH,qD pre' XP,e',mL]
   have h3:ku ((i,o,v)::post') (fun i=>listed.getD i false) x (look s0.aj x) = look s0.aj x:=by
    refine js fun q hq S6 Qq=>?_
    rcases List.mem_cons.1 hq with rfl | hq
    ·exact Aj S6
    ·obtain ⟨_,_,h5⟩:=ML.1 q hq
     rcases h5 with h5 | ⟨_,h5⟩
     ·obtain ⟨ed,h6,h7,h8⟩:=l3 h5
      have:=h2 q (by rw [e']; simp [hq]) S6 ed h6 h7
      rw [h8] at this
      exact Aj this
     ·exact h5 x Qq hx
   rw [h3]
   refine nv fun q hq Qq=>?_
   obtain ⟨_,_,h5⟩:=MM q hq (i,o,v) (List.mem_cons_self ..)
   rcases h5 with h5 | ⟨h5,_⟩
   ·obtain ⟨ed,h6,h7,h8⟩:=l3 h5
    rw [<- h8]; exact DU ed h6 h7
   ·exact absurd hx (h5 x Qq)
  have W4:s.boxes = (kS pre' s0).boxes:=by rw [nX,qu]
  have hcongr:∀ K,fD P Γ s o K = fD P Γ (kS pre' s0) o K:=rh (fun _=>by rw [W4]) fun x hx=>by
   cases x with
   | tmp t=>exact Pv t (by simp only [Oper.looksAt,List.mem_append,List.mem_filterMap]; exact .inl ⟨_,hx,rfl⟩)
   | _=>rfl
  -- and what comes after it is known
  have Ps:∀ a' w',Inv W0 F X N (fI s o.dst v) a' w'->wpAny P .any ops Q fuel (listed.setIfInBounds i true) a' w':=by
   intro a' w' bS
   have FB:∀ k,(listed.setIfInBounds i true).getD k false = (decide (k = i) || listed.getD k false):=fun k=>by
    by_cases hk:i = k
    ·subst hk
     have:i < listed.size:=by rw [bO]; exact hlt _ hit
     simp [this]
    ·have jq:k≠i:=fun e=>hk e.symm
     simp [Array.getElem?_setIfInBounds_ne hk,jq]
   have DX:∀ q ∈ dM,q.1 = i->q = (i,o,v):=fun q hq Pu=>by
    rw [e'] at hq
    rcases List.mem_append.1 hq with hq | hq
    ·exact absurd Pu (MM q hq (i,o,v) (List.mem_cons_self ..)).1
    ·rcases List.mem_cons.1 hq with rfl | hq
     ·rfl
     ·exact absurd Pu.symm (ML.1 q hq).1
   refine ih fuel _ (fI s o.dst v) a' w' ?_ (by omega) (by simpa using bO) (fun k hk=>?_) (fun q hq hl ed MB My=>?_) (by rw [jB,qu]) (fun x=>?_) bS
   ·have:=P5 (l:=dM) (p:=fun i=>listed.getD i false) (p':=fun k=>(listed.setIfInBounds i true).getD k false) (fun k hk=>by rw [FB,hk]; simp) hit Aj (by rw [FB]; simp)
    omega
   ·rw [FB,h1 k hk]
    have:k≠i:=fun e=>hk _ hit e.symm
    simp [this]
   ·rw [FB] at hl ⊢
    by_cases Pu:q.1 = i
    ·have:=DX q hq Pu
     subst this
     rw [DU ed MB My]; simp
    ·have S6:listed.getD q.1 false = true:=by simpa [Pu] using hl
     rw [h2 q hq S6 ed MB My]; simp
   ·rw [gb]
    by_cases hd:o.dst = some x
    ·rw [if_pos hd,e',mL]
     have h3:ku ((i,o,v)::post') (fun k=>(listed.setIfInBounds i true).getD k false) x (look s0.aj x) = v:=by
      simp only [ku]
      rw [if_pos ⟨by rw [FB]; simp,hd⟩]
     rw [h3]
     exact (js fun q hq _ Qq=>(MM q hq (i,o,v) (List.mem_cons_self ..)).2.1 x Qq hd).symm
    ·rw [if_neg hd,MH]
     refine nv fun q hq Qq=>?_
     show listed.getD q.1 false = (listed.setIfInBounds i true).getD q.1 false
     rw [FB]
     by_cases Pu:q.1 = i
     ·have:=DX q hq Pu
      subst this
      exact absurd Qq hd
     ·simp [Pu]
  obtain ⟨β,hI⟩:=Qg
  have bu:fD P Γ (kS pre' s0) o (fun u=>u = v)->o.wp P a w (wpAny P .any ops Q fuel (listed.setIfInBounds i true)) Q:=fun h=>by
   rw [<- hcongr] at h
   refine Md aY hI (fun Ql=>?_) jS h Ps
   obtain ⟨d,h1,h2⟩:=hfz _ hit Ql
   refine ⟨d,h1,?_⟩
   rintro (⟨cs,cZ⟩ | ⟨n,hn⟩ | ⟨k,cs,hk,c,dv,hn⟩)
   ·exact Pf d h2 (.inl ⟨cs,by rw [<- qu]; exact cZ⟩)
   ·rw [MH] at hn
    rcases NL (l:=dM) (p:=fun i=>listed.getD i false) (x:=n) (base:=look s0.aj n) with h3 | ⟨q,hq,S6,h3⟩
    ·rw [h3] at hn; exact Pf d h2 (.inr (.inl ⟨n,hn⟩))
    ·rw [h3] at hn
     have Ze:=E9 dM s0 hc q hq d h2 hn
     rw [e'] at hq
     rcases List.mem_append.1 hq with hq | hq
     ·exact (MM q hq (i,o,v) (List.mem_cons_self ..)).2.1 d Ze h1
     ·rcases List.mem_cons.1 hq with rfl | hq
      ·exact Aj S6
      ·exact (ML.1 q hq).2.1 d h1 Ze
   ·exact Pf d h2 (.inr (.inr ⟨k,cs,by rw [<- qu]; exact hk,c,dv,hn⟩))
  unfold wpOp
  rw [Pt]
  show if _ then _ else _
  cases hg:o.guard with
  | none =>
   unfold rb at lP
   rw [hg] at lP
   rw [if_pos (by simp [Region.wanted,hg])]
   exact .inl (bu lP)
  | some p =>
   obtain ⟨gj,want⟩:=p
   unfold rb at lP
   rw [hg] at lP
   obtain ⟨og,d,Xf,Xe,lP⟩:=lP
   have hd:look s.aj d = look (kS pre' s0).aj d:=Pv d (by
    simp only [Oper.looksAt,hg,List.mem_append]
    refine .inr ?_
    have:ops[gj]? = some og:=by simpa using Xf
    simp [this,Xe])
   rcases lP with ⟨h3,h4⟩ | ⟨h3,h4⟩
   ·have Xg : jF N true s d want (fun _ => True) (fun _ => False) := by
     unfold jF; rw [dA,hd,h3]
     cases want<;>trivial
    rcases ml hI Xf Xe Xg with ⟨_,_,hy,_⟩ | ⟨_,_,_,h⟩
    ·rw [if_pos (by simp [Region.wanted,hg]; exact hy)]
     exact .inl (bu h4)
    ·exact h.elim
   ·have Xg : jF N true s d want (fun _ => False) (fun _ => True) := by
     unfold jF; rw [dA,hd]
     rcases h3 with h3 | h3
     ·rw [h3]; cases want<;>trivial
     ·rw [h3]; trivial
    rcases ml hI Xf Xe Xg with ⟨_,_,_,h⟩ | ⟨_,_,hy,_⟩
    ·exact h.elim
    ·rw [if_neg (by simp [Region.wanted,hg]; exact hy)]
     subst h4
     obtain ⟨s2,k1,k2⟩:=iI hI (ca.refl _ w) (vk (K:=fun s'=>s' = fI s o.dst (.bc [])) jS rfl) (kX _ _)
     exact Ps _ _ (k1 ▸ ⟨β,k2⟩)

/-! ### a region's plan -/
inductive OT where
 | fin
 | zO
 | aZ
 | opt (i:Nat) (k alt:OT)
inductive Ph where
 | tree (n:Nat) (S:List Nat) (t:OT)
 | take (i:Nat)
 | one (i:Nat)
 | fZ (B:List Nat) (fz:List Nat:=[])
 | L6 (B fz:List Nat) (e n:Nat) (S:List Nat) (t1 t2:OT)
 | two (i j:Nat)
 | Ou (i j t:Nat)
def lT:Ph->Nat
 | .tree n _ _=>n
 | .fZ B _=>B.length
 | .L6 B _ _ n _ _ _=>B.length + n
 | .two _ _=>2
 | .Ou _ _ _=>3
 | _=>1
def x6 (N:Nat) (ops:List Oper) (o:Oper) (known:List Nat) (s:St) (run:(List Nat)->St->Prop) (skip:(List Nat)->St->Prop):Prop :=
 match o.guard with
 | none=>run known s
 | some (j,want)=>dp ops j fun oj=>jU oj.dst fun d=>jF N (lQ j known) s d want (run (j::known)) (skip (j::known))
def cS (o:Oper) (K:Prop):Prop:=match o.guard with
 | none=>K
 | some _=>False
def vZ (P:Program) (Γ:Ctx) (N:Nat) (ops:List Oper) (T:St):OT->St->Prop
 | .fin,s=>Wk s T
 | .zO,s=>∃ rn,jP rn s fun s=>Wk s T
 | .aZ,_=>True
 | .opt i k alt,s=>(dp ops i fun o=>cS o (yt P Γ N o s fun s=>vZ P Γ N ops T k s))/\vZ P Γ N ops T alt s
def pc:OT->List Nat
 | .opt i _ alt=>i::pc alt
 | _=>[]
def P9:List Nat->List Nat->Bool
 | [],[]=>true
 | a::r,b::r'=>Nat.beq a b && P9 r r'
 | _,_=>false
theorem xW:∀ {l m:List Nat},P9 l m = true->l = m
 | [],[],_=>rfl
 | [],_::_,h=>nomatch h
 | _::_,[],h=>nomatch h
 | a::r,b::r',h=>by
  simp only [P9,Bool.and_eq_true] at h
  rw [Nat.eq_of_beq_eq_true h.1,xW h.2]
def tR (ops:Array Oper) (listed:Array Bool):OT->Bool
 | .fin=>true
 | .zO=>true
 | .aZ=>false
 | t=>P9 (Region.ready .any ops listed) (pc t)
def vU (ops:Array Oper) (full:Array Bool):Nat->Array Bool->OT->Bool
 | n,listed,.fin=>Nat.beq n 0 && decide (listed = full)
 | n,listed,.zO=>Nat.beq n 0 && decide (listed = full)
 | _,_,.aZ=>true
 | n,listed,.opt i k alt=>(match n with
  | 0=>false
  | m + 1=>tR ops (listed.setIfInBounds i true) k && vU ops full m (listed.setIfInBounds i true) k) && vU ops full n listed alt
def PN (N:Nat) (d:Nat) (s:St) (K:St->Prop):Prop:=fF s.aj d fun v=>match v with
 | .ob i j (.nw zs)=>aC (Nat.beq i d) (aC (Nat.beq j d) (aC (Nat.blt d N) (eW zs fun cs=>mA (kg d) s.aj fun sl=>mz (kg d) s.boxes fun b=>mM b d cs fun b=>mM sl d (.pt d 0) fun sl=>K ⟨sl,b⟩)))
 | _=>K s
def gI (N:Nat):List Nat->St->(St->Prop)->Prop
 | [],s,K=>K s
 | d::r,s,K=>PN N d s fun s=>gI N r s K
theorem ao.Yn (h:ao W0 F X N s β a w) {d:Nat} {zs:List Value} (hd:d < N) (hv:look s.aj d = .ob d d (.nw zs)):ao W0 F X N (((s.map (SX.kill d)).bF d (dW zs)).put d (.pt d 0)) β a w:=by
 obtain ⟨b,T,h1,h2,h3,h4⟩:fG β (Own X s β) w d d (.nw zs) (a.tmps.getD d undef):=by have:=h.aj d; rw [hv] at this; exact this
 have jS:Nm s d:=.inr (.inl ⟨d,by rw [hv]; simp [ids,aw]⟩)
 have bP:∀ m,Nm (((s.map (SX.kill d)).bF d (dW zs)).put d (.pt d 0)) m->Nm s m:=by
  rintro m (⟨cs,hc⟩ | ⟨q,hq⟩ | ⟨k,cs,hk,c,hc,hm⟩)
  ·simp only [St.put,St.bF,bW,St.map,aV] at hc
   split at hc
   ·rename_i e; exact e ▸ jS
   ·obtain ⟨fE,k1,_⟩:=Option.map_eq_some_iff.1 hc
    exact .inl ⟨fE,k1⟩
  ·simp only [St.put,St.bF,bI] at hq
   split at hq
   ·have:m = d:=by simpa [ids,aw] using hq
    exact this ▸ jS
   ·simp only [St.map,bH _ (mu d)] at hq
    exact .inr (.inl ⟨q,(fg d _ m hq).1⟩)
  ·simp only [St.put,St.bF,bW,St.map,aV] at hk
   split at hk
   ·injection hk with hk
    subst hk
    rw [jN zs c hc] at hm; cases hm
   ·obtain ⟨fE,k1,rfl⟩:=Option.map_eq_some_iff.1 hk
    rw [bz] at hc
    obtain ⟨c',dv,rfl⟩:=List.mem_map.1 hc
    exact .inr (.inr ⟨k,fE,k1,c',dv,(fg d _ m hm).1⟩)
 have hO:∀ k,Own X (((s.map (SX.kill d)).bF d (dW zs)).put d (.pt d 0)) β k->Own X s β k:=fun k hk=>hk.imp id fun ⟨n,hn,hb⟩=>⟨n,bP n hn,hb⟩
 have key:∀ {v:AV} {u:Value},Rel β (Own X s β) w v u->Rel β (Own X (((s.map (SX.kill d)).bF d (dW zs)).put d (.pt d 0)) β) w (SX.kill d v) u:=fun {v u} hr=>by
  rcases (fX d v).1 with e | e
  ·rw [e]; exact hr.mono hO
  ·rw [e]; exact Rel.x
 refine h.yS (ca.refl (fun _=>False) w) (fun _ _ h=>h.elim) (fun m=>?_) (fun m cs cZ=>?_) (fun k m g hk hm=>h.inj k m g (bP k hk) (bP m hm)) (fun m g hm hg=>h.own m g (bP m hm) hg) rfl rfl (fun m cs g hc hp=>?_)
 ·simp only [St.put,bI]
  split
  ·rename_i e
   subst e
   exact Rel.jk (v:=a.tmps.getD d undef) (av:=.pt d 0) ⟨b,h1,h2⟩
  ·simp only [St.bF,St.map,bH _ (mu d)]
   exact key (h.aj m)
 ·simp only [St.put,St.bF,bW,St.map,aV] at cZ
  split at cZ
  ·rename_i e
   subst e
   injection cZ with cZ
   subst cZ
   exact ⟨b,zs.toArray,T,h1,h3,iG _ _ h4⟩
  ·obtain ⟨fE,k1,rfl⟩:=Option.map_eq_some_iff.1 cZ
   obtain ⟨g,us,e,k2,k3,k4⟩:=h.boxes m fE k1
   refine ⟨g,us,e,k2,k3,?_⟩
   rw [bz]
   refine ⟨by simpa using k4.1,fun j c v hc hv=>?_⟩
   rw [List.getElem?_map,Option.map_eq_some_iff] at hc
   obtain ⟨c',dv,rfl⟩:=hc
   exact ⟨key (k4.2 j c' v dv hv).1,(k4.2 j c' v dv hv).2⟩
 ·simp only [St.put,St.bF,bW,St.map,aV] at hc
  split at hc
  ·rename_i e
   subst e
   rw [h.vV d hd] at hp; cases hp
  ·obtain ⟨fE,k1,_⟩:=Option.map_eq_some_iff.1 hc
   exact h.fP m fE g k1 hp
theorem oB (l:List Nat):∀ {s:St} {K:St->Prop},ao W0 F X N s β a w->gI N l s K->∃ s',K s'/\ao W0 F X N s' β a w:=by
 induction l with
 | nil=>intro s K hI h; exact ⟨s,h,hI⟩
 | cons d r ih =>
  intro s K hI h
  simp only [gI,PN,dA] at h
  split at h
  ·rename_i i j zs hv
   obtain ⟨h1,h⟩:=(af _ _).1 h
   obtain ⟨h2,h⟩:=(af _ _).1 h
   obtain ⟨h3,h⟩:=(af _ _).1 h
   have h1:=Nat.eq_of_beq_eq_true h1
   have h2:=Nat.eq_of_beq_eq_true h2
   subst h1
   subst h2
   rw [eF,iE (mr _),iD (mr _)] at h
   simp only [kU] at h
   exact ih (hI.Yn (by rw [Nat.blt_eq] at h3; exact h3) hv) h
  ·exact ih hI h
def eo (P:Program) (Γ:Ctx) (N:Nat) (ops:List Oper):List Ph->List Nat->St->(St->Prop)->Prop
 | [],_,s,Q=>Q s
 | .tree _ _ t::r,known,s,Q=>∃ T:St,vZ P Γ N ops T t s/\eo P Γ N ops r known T Q
 | .take i :: r, known, s, Q => dp ops i fun o => x6 N ops o known s (fun known s => qY Γ s o.op fun v => al N s o.dst v fun s => eo P Γ N ops r known s Q)
   (fun known s=>al N s o.dst (.bc []) fun s=>eo P Γ N ops r known s Q)
 | .one i :: r, known, s, Q => dp ops i fun o => x6 N ops o known s (fun known s => yt P Γ N o s fun s => eo P Γ N ops r known s Q)
   (fun known s=>al N s o.dst (.bc []) fun s=>eo P Γ N ops r known s Q)
 | .two i j :: r, known, s, Q => ∃ T : St,
   (dp ops i fun o=>dp ops j fun o'=>cS o (cS o' (yt P Γ N o s fun s=>yt P Γ N o' s fun s=>Wk s T))) /\
   (dp ops j fun o=>dp ops i fun o'=>cS o (cS o' (yt P Γ N o s fun s=>yt P Γ N o' s fun s=>Wk s T)))/\eo P Γ N ops r known T Q
 | .Ou i j t :: r, known, s, Q => ∃ T : St,
   (dp ops i fun o=>dp ops j fun o'=>dp ops t fun ot=>cS o (cS o' (cS ot (yt P Γ N o s fun s=>qY Γ s ot.op fun v=>al N s ot.dst v fun s=>yt P Γ N o' s fun s=>Wk s T)))) /\
   (dp ops i fun o=>dp ops j fun o'=>dp ops t fun ot=>cS o (cS o' (cS ot (yt P Γ N o' s fun s=>yt P Γ N o s fun s=>qY Γ s ot.op fun v=>al N s ot.dst v fun s=>Wk s T))))/\eo P Γ N ops r known T Q
 | .fZ B fz::r,known,s,Q=>dP fz s fun s=>mR P Γ N fz ops B known s fun s=>gI N fz s fun s=>eo P Γ N ops r known s Q
 | .L6 B fz e _ _ t1 t2 :: r, known, s, Q => ∃ T : St, (dP fz s fun s => mR P Γ N fz ops B known s fun s =>
   (gI N fz s fun s=>vZ P Γ N ops T t1 s)/\mR P Γ N fz ops [e] [] s fun s=>gI N fz s fun s=>vZ P Γ N ops T t2 s)/\eo P Γ N ops r known T Q

def Jh (ops:Array Oper) (e t:Nat × Oper):Bool :=
 !(Nat.beq e.1 t.1) && (match e.2.dst with
   | some d=>!(match t.2.dst with | some d'=>Nat.beq d d' | none=>false)
   | none=>true) &&
 (pY t.2 e.1 || ((match e.2.dst with
  | some d=>!(lQ d (t.2.looksAt ops))
  | none=>true) && (match t.2.dst with
  | some d=>!(lQ d (e.2.looksAt ops))
  | none=>true)))
def yw (ops:Array Oper):List (Nat × Oper)->Bool
 | []=>true
 | e::r=>r.all (Jh ops e) && yw ops r
def Em (listed:Array Bool):List Nat->List (Nat × Oper)->Bool
 | _,[]=>true
 | seen,(i,o)::r=>(o.after.all fun e=>!Region.binds .any e || listed.getD e.on false || lQ e.on seen) && Em listed (i::seen) r
def yh (oj:Oper):List (Nat × Oper)->Bool
 | []=>true
 | q::r=>(pY oj q.1 || r.any fun q'=>pY q'.2 q.1) && yh oj r
def pick (ops:Array Oper):List Nat->Option (List (Nat × Oper))
 | []=>some []
 | i::r=>match ops[i]?,pick ops r with
  | some o,some l=>some ((i,o)::l)
  | _,_=>none
def L5 (ops:Array Oper) (listed:Array Bool) (B:List Nat) (nB:Nat):Bool :=
 match pick ops B with
 | none=>false
 | some l=>(B.all fun i=>!(listed.getD i true)) && yw ops l && Em listed [] l &&
  (List.range ops.size).all fun j=>listed.getD j true || lQ j B || match ops[j]? with
   | some oj=>yh oj (l.take nB) || (List.range ops.size).any fun j'=>pY oj j' && !(listed.getD j' false) && !(lQ j' B)
   | none=>true
def Mp (fz:List Nat) (o:Oper):Bool:=match o.op with
 | .buildSlice _ _ _=>match o.dst with | some d=>lQ d fz | none=>false
 | .alloc _=>match o.dst with | some d=>lQ d fz | none=>false
 | _=>true
def jc (ops:Array Oper):Array Bool->List Ph->Bool
 | listed,[]=>(Region.ready .any ops listed).isEmpty
 | listed,.tree n S t::r=>tR ops listed t && vU ops (dX listed S) n listed t && jc ops (dX listed S) r
 | listed,.take i::r=>(Region.ready .any ops listed).contains i && Region.free .any ops listed i && jc ops (listed.setIfInBounds i true) r
 | listed,.one i::r=>(match Region.ready .any ops listed with
  | [j]=>Nat.beq i j
  | _=>false) && jc ops (listed.setIfInBounds i true) r
 | listed,.two i j::r=>(match Region.ready .any ops listed with
  | [i',j']=>Nat.beq i i' && Nat.beq j j'
  | _=>false) && (match Region.ready .any ops (listed.setIfInBounds i true) with
  | [j']=>Nat.beq j j'
  | _=>false) && (match Region.ready .any ops (listed.setIfInBounds j true) with
  | [i']=>Nat.beq i i'
  | _=>false) && jc ops ((listed.setIfInBounds i true).setIfInBounds j true) r
 | listed,.Ou i j t::r=>(match Region.ready .any ops listed with
  | [i',j']=>Nat.beq i i' && Nat.beq j j'
  | _=>false) && ((Region.ready .any ops (listed.setIfInBounds i true)).contains t && Region.free .any ops (listed.setIfInBounds i true) t) &&
  (match Region.ready .any ops ((listed.setIfInBounds i true).setIfInBounds t true) with
  | [j']=>Nat.beq j j'
  | _=>false) && (match Region.ready .any ops (listed.setIfInBounds j true) with
  | [i']=>Nat.beq i i'
  | _=>false) && ((Region.ready .any ops ((listed.setIfInBounds j true).setIfInBounds i true)).contains t && Region.free .any ops ((listed.setIfInBounds j true).setIfInBounds i true) t) &&
  decide (((listed.setIfInBounds i true).setIfInBounds t true).setIfInBounds j true = ((listed.setIfInBounds j true).setIfInBounds i true).setIfInBounds t true) && jc ops (((listed.setIfInBounds i true).setIfInBounds t true).setIfInBounds j true) r
 | listed,.L6 B fz e n S t1 t2::r=>(L5 ops listed (B++[e]) B.length && (B++[e]).all fun i=>match ops[i]? with | some o=>Mp fz o | none=>false) &&
  (tR ops (dX listed B) t1 && vU ops (dX listed (B++S)) n (dX listed B) t1) && (tR ops (dX listed (B++[e])) t2 && vU ops (dX listed (B++S)) (n - 1) (dX listed (B++[e])) t2) && Nat.ble 1 n && jc ops (dX listed (B++S)) r
 | listed,.fZ B fz::r=>(L5 ops listed B B.length && B.all fun i=>match ops[i]? with | some o=>Mp fz o | none=>false) && jc ops (dX listed B) r
def mF (ops:Array Oper) (pl:List Ph):Bool:=Region.noSelect ops && jc ops (Array.replicate ops.size false) pl && decide ((pl.map lT).sum<=ops.size)

theorem FU {B:List Nat}:∀ {l:List (Nat × Oper)},pick ops B = some l->∀ dM:List Item,dM.map (·.1) = B->(∀ it ∈ dM,ops[it.1]? = some it.2.1)->dM.map (fun q=>(q.1,q.2.1)) = l:=by
 induction B with
 | nil =>
  intro l h dM h1 _
  injection h with h; subst h
  cases dM with
  | nil=>rfl
  | cons _ _=>cases h1
 | cons i r ih =>
  intro l h dM h1 h2
  cases dM with
  | nil=>cases h1
  | cons q t =>
   obtain ⟨i',o,v⟩:=q
   simp only [List.map_cons,List.cons.injEq] at h1
   obtain ⟨rfl,h1⟩:=h1
   have h3:=h2 _ (List.mem_cons_self ..)
   have TR:ops[i']? = some o:=h3
   simp only [pick,TR] at h
   cases hp:pick ops r with
   | none=>rw [hp] at h; cases h
   | some l' =>
    rw [hp] at h
    injection h with h
    subst h
    simp only [List.map_cons]
    rw [ih hp t h1 fun it hit=>h2 it (List.mem_cons_of_mem _ hit)]
theorem CJ {dM:List Item} (h:yw ops (dM.map fun q=>(q.1,q.2.1)) = true):dM.Pairwise (xz ops):=by
 induction dM with
 | nil=>exact List.Pairwise.nil
 | cons e r ih =>
  simp only [List.map_cons,yw,Bool.and_eq_true,List.all_eq_true] at h
  refine List.Pairwise.cons (fun t ht=>?_) (ih h.2)
  have:=h.1 (t.1,t.2.1) (List.mem_map.2 ⟨t,ht,rfl⟩)
  simp only [Jh,Bool.and_eq_true,Bool.or_eq_true] at this
  obtain ⟨⟨h1,h2⟩,h3⟩:=this
  refine ⟨fun e'=>by rw [e'] at h1; simp at h1,fun d hd Lv=>by rw [hd,Lv] at h2; simp at h2,h3.imp id fun h4=>⟨fun d hd hm=>?_,fun d hd hm=>?_⟩⟩
  ·have:=h4.1; rw [hd] at this; simp only [Bool.not_eq_true'] at this
   rw [cR.2 hm] at this; cases this
  ·have:=h4.2; rw [hd] at this; simp only [Bool.not_eq_true'] at this
   rw [cR.2 hm] at this; cases this
theorem FV {listed : Array Bool} (dM : List Item) : ∀ seen, Em listed seen (dM.map fun q => (q.1, q.2.1)) = true ->
  ∀ pre q post,dM = pre++q::post->∀ e ∈ q.2.1.after,Region.binds .any e = true->listed.getD e.on false = true\/e.on ∈ seen\/∃ r ∈ pre,r.1 = e.on:=by
 induction dM with
 | nil=>intro seen _ pre q post e; cases pre<;>cases e
 | cons t r ih =>
  intro seen h pre q post e ed MB My
  simp only [List.map_cons,Em,Bool.and_eq_true] at h
  cases pre with
  | nil =>
   simp only [List.nil_append,List.cons.injEq] at e
   obtain ⟨rfl,rfl⟩:=e
   have:=Array.all_eq_true_iff_forall_mem.1 h.1 ed MB
   simp only [Bool.or_eq_true,Bool.not_eq_true',My,Bool.true_eq_false,false_or] at this
   rcases this with h1 | h1
   ·exact .inl h1
   ·exact .inr (.inl (cR.1 h1))
  | cons p pre =>
   simp only [List.cons_append,List.cons.injEq] at e
   obtain ⟨rfl,e⟩:=e
   rcases ih _ h.2 pre q post e ed MB My with h1 | h1 | ⟨r',h1,h2⟩
   ·exact .inl h1
   ·rcases List.mem_cons.1 h1 with h1 | h1
    ·exact .inr (.inr ⟨t,List.mem_cons_self .., h1.symm⟩)
    ·exact .inr (.inl h1)
   ·exact .inr (.inr ⟨r',List.mem_cons_of_mem _ h1,h2⟩)
theorem FG {oj:Oper} {dM:List Item} (h:yh oj (dM.map fun q=>(q.1,q.2.1)) = true):D6 oj dM:=by
 induction dM with
 | nil=>trivial
 | cons q r ih =>
  simp only [List.map_cons,yh,Bool.and_eq_true,Bool.or_eq_true] at h
  refine ⟨h.1.imp id fun h1=>?_,ih h.2⟩
  obtain ⟨x,h2,h3⟩:=List.any_eq_true.1 h1
  obtain ⟨q',h4,rfl⟩:=List.mem_map.1 h2
  exact ⟨q',h4,h3⟩
theorem wc {listed:Array Bool} {B:List Nat} {nB:Nat} (bO:listed.size = ops.size) (h:L5 ops listed B nB = true) {dM:List Item} (h1:dM.map (·.1) = B) (h2:∀ it ∈ dM,ops[it.1]? = some it.2.1):GM ops listed dM (dM.take nB):=by
 unfold L5 at h
 cases hp:pick ops B with
 | none=>rw [hp] at h; cases h
 | some l =>
  rw [hp] at h
  have e:=FU hp dM h1 h2
  subst e
  simp only [Bool.and_eq_true,List.all_eq_true,List.mem_range] at h
  obtain ⟨⟨⟨h3,h4⟩,h5⟩,h6⟩:=h
  refine ⟨bO,fun q hq=>?_,h2,CJ h4,fun pre q post e ed MB My=>?_,fun j oj Pt hun oG=>?_⟩
  ·have:=h3 q.1 (by rw [<- h1]; exact List.mem_map.2 ⟨q,hq,rfl⟩)
   simpa using this
  ·rcases FV dM [] h5 pre q post e ed MB My with h | h | h
   ·exact .inl h
   ·cases h
   ·exact .inr h
  ·have:=h6 j (Array.getElem?_eq_some_iff.1 Pt).1
   simp only [Bool.or_eq_true,hun,Bool.false_eq_true,false_or,Pt] at this
   rcases this with h7 | h7
   ·rw [<- h1] at h7
    obtain ⟨q,hq,V9⟩:=List.mem_map.1 (cR.1 h7)
    exact absurd V9 (oG q hq)
   ·rcases h7 with h7 | h7
    ·exact .inl (FG (by rw [List.map_take]; exact h7))
    ·obtain ⟨j',_,h8⟩:=List.any_eq_true.1 h7
     simp only [Bool.and_eq_true,Bool.not_eq_true'] at h8
     refine .inr ⟨j',h8.1.1,h8.1.2,fun q hq e=>?_⟩
     have:=cR (j:=j') (l:=B)
     rw [h8.2] at this
     have h9:j' ∈ B:=by rw [<- h1,<- e]; exact List.mem_map.2 ⟨q,hq,rfl⟩
     exact absurd (this.2 h9) (by simp)

theorem rl {o : Oper} {vE : List Oper} {known : List Nat} {run skip : List Nat -> St -> Prop} (hI : ao W0 F X N s β a w) (h : x6 N vE o known s run skip) :
  (∃ k s',ao W0 F X N s' β a w/\Region.wanted o (yielded vE.toArray a.tmps) = true/\run k s')\/(∃ k s',ao W0 F X N s' β a w/\Region.wanted o (yielded vE.toArray a.tmps) = false/\skip k s'):=by
 unfold x6 at h
 cases hg:o.guard with
 | none=>rw [hg] at h; exact .inl ⟨known,s,hI,by simp [Region.wanted,hg],h⟩
 | some p =>
  obtain ⟨j,want⟩:=p
  rw [hg] at h
  obtain ⟨oj,hj,h⟩:=(bA _ _ _).1 h
  obtain ⟨d,hd,h⟩:=(cn _ _).1 h
  rcases ml hI hj hd h with ⟨s',h1,h2,h3⟩ | ⟨s',h1,h2,h3⟩
  ·exact .inl ⟨_,s',h1,by simp [Region.wanted,hg,h2],h3⟩
  ·exact .inr ⟨_,s',h1,by simp [Region.wanted,hg]; exact h2,h3⟩

theorem nk (fz:List Nat):∀ (s:St) (d:Nat),Nm (cA fz s) d->Nm s d:=by
 induction fz with
 | nil=>intro s d h; exact h
 | cons n r ih=>intro s d h; exact (Nm.ic (ih _ _ h)).1
theorem uz (fz:List Nat):∀ (s:St) (d:Nat),d ∈ fz->¬ Nm (cA fz s) d:=by
 induction fz with
 | nil=>intro s d h; cases h
 | cons n r ih =>
  intro s d h
  rcases List.mem_cons.1 h with rfl | h
  ·intro hm; exact eu s d (nk r _ _ hm)
  ·exact ih _ d h

theorem PF (aY : Γ.bR P) {Q' : Exit -> Act -> World -> Prop} {full : Array Bool} {T : St} {fuel : Nat} (Ae : ∀ a w, Inv W0 F X N T a w -> wpAny P .any ops Q' fuel full a w) (t : OT) :
  ∀ (n:Nat) (listed:Array Bool) (s:St) (a:Act) (w:World),vU ops full n listed t = true->vZ P Γ N ops.toList T t s->Inv W0 F X N s a w ->
   (t = .fin\/t = .zO->wpAny P .any ops Q' (fuel + n) listed a w)/\∀ i ∈ pc t,∃ m,n = m + 1/\wpOp P ops Q' i (wpAny P .any ops Q' (fuel + m) (listed.setIfInBounds i true)) a w:=by
 induction t with
 | fin =>
  intro n listed s a w h1 h ⟨β,hI⟩
  refine ⟨fun _=>?_,fun i hi=>nomatch hi⟩
  simp only [vU,Bool.and_eq_true,decide_eq_true_eq] at h1
  have hn:=Nat.eq_of_beq_eq_true h1.1
  subst hn
  rw [h1.2]
  exact Ae a w ⟨β,hI.wk h⟩
 | zO =>
  intro n listed s a w h1 h ⟨β,hI⟩
  refine ⟨fun _=>?_,fun i hi=>nomatch hi⟩
  simp only [vU,Bool.and_eq_true,decide_eq_true_eq] at h1
  have hn:=Nat.eq_of_beq_eq_true h1.1
  subst hn
  rw [h1.2]
  obtain ⟨rn,h⟩:=h
  obtain ⟨s1,kD,h,dg⟩:=eO rn hI h
  exact Ae a w ⟨kD,dg.wk h⟩
 | aZ =>
  intro n listed s a w h1 h hI
  exact ⟨(fun e=>by rcases e with e | e<;>cases e),fun i hi=>nomatch hi⟩
 | opt i k alt ihk iha =>
  intro n listed s a w h1 h hI
  refine ⟨(fun e=>by rcases e with e | e<;>cases e),fun j hj=>?_⟩
  simp only [vU,Bool.and_eq_true] at h1
  obtain ⟨hK,hA⟩:=h
  rcases List.mem_cons.1 hj with rfl | hj
  ·cases n with
   | zero=>exact absurd h1.1 Bool.false_ne_true
   | succ m =>
    refine ⟨m,rfl,?_⟩
    have h1:=h1.1
    simp only [Bool.and_eq_true] at h1
    obtain ⟨o,ho,hK⟩:=(bA _ _ _).1 hK
    have QE:ops[j]? = some o:=by simpa using ho
    cases hg:o.guard with
    | some _=>unfold cS at hK; rw [hg] at hK; exact hK.elim
    | none =>
     unfold cS at hK
     rw [hg] at hK
     obtain ⟨β,hI⟩:=hI
     unfold wpOp
     rw [QE]
     show if _ then _ else _
     rw [if_pos (by simp [Region.wanted,hg])]
     refine .inl (nR aY hI hK fun s1 a1 w1 k1 dg=>?_)
     obtain ⟨q1,q2⟩:=ihk m _ s1 a1 w1 h1.2 k1 dg
     cases k with
     | fin=>exact q1 (.inl rfl)
     | zO=>exact q1 (.inr rfl)
     | aZ=>exact absurd h1.1 Bool.false_ne_true
     | opt i' k' alt' =>
      have hr:Region.ready .any ops (listed.setIfInBounds j true) = pc (.opt i' k' alt'):=xW h1.1
      obtain ⟨m',hm,_⟩:=q2 i' (List.mem_cons_self ..)
      subst hm
      rw [<- Nat.add_assoc]
      refine wpAny_all hr (by simp [pc]) fun p hp=>?_
      obtain ⟨m2,Cs,hw⟩:=q2 p hp
      obtain rfl:m' = m2:=by omega
      exact hw
  ·exact (iha n listed s a w h1.2 hA hI).2 j hj
theorem Ja (aY : Γ.bR P) {Q' : Exit -> Act -> World -> Prop} {full : Array Bool} {T : St} {fuel : Nat} (Ae : ∀ a w, Inv W0 F X N T a w -> wpAny P .any ops Q' fuel full a w) (t : OT) {n : Nat} {listed : Array Bool} {s : St} {a : Act} {w : World}
  (h0:tR ops listed t = true) (h1:vU ops full n listed t = true) (hT:vZ P Γ N ops.toList T t s) (hI:Inv W0 F X N s a w):wpAny P .any ops Q' (fuel + n) listed a w:=by
 have q:=PF aY Ae t n listed s a w h1 hT hI
 cases t with
 | fin=>exact q.1 (.inl rfl)
 | zO=>exact q.1 (.inr rfl)
 | aZ=>exact absurd h0 Bool.false_ne_true
 | opt i k alt =>
  have hr:Region.ready .any ops listed = pc (.opt i k alt):=xW h0
  obtain ⟨m,hm,_⟩:=q.2 i (List.mem_cons_self ..)
  rw [hm,<- Nat.add_assoc]
  refine wpAny_all hr (by simp [pc]) fun p hp=>?_
  obtain ⟨m2,Cs,hw⟩:=q.2 p hp
  obtain rfl:m = m2:=by omega
  exact hw
theorem E8 {fz:List Nat} {vE:List Oper} (l l':List Item):∀ s,oJ P Γ N fz vE l s->oJ P Γ N fz vE l' (kS l s)->oJ P Γ N fz vE (l++l') s:=by
 induction l with
 | nil=>intro s _ h; exact h
 | cons q r ih=>obtain ⟨i,o,v⟩:=q; intro s h h'; exact ⟨h.1,h.2.1,h.2.2.1,ih _ h.2.2.2 h'⟩
theorem JF (l l':List Item):∀ s,kS (l++l') s = kS l' (kS l s):=by
 induction l with
 | nil=>intro s; rfl
 | cons q r ih=>obtain ⟨i,o,v⟩:=q; intro s; exact ih _
theorem DB (l:List Item) (p:Nat->Bool):iQ l p<=l.length:=by
 induction l with
 | nil=>exact Nat.le_refl _
 | cons q r ih=>simp only [iQ,List.length_cons]; split<;>omega
theorem yx (aY : Γ.bR P) {Q : St -> Prop} {Q' : Exit -> Act -> World -> Prop} (hQ : ∀ s a w, Q s -> Inv W0 F X N s a w -> Q' .normal a w) (UJ : ∀ c a a' w, Q' (.panic c) a w -> Q' (.panic c) a' w) (MO : Region.noSelect ops = true) (pl : List Ph) :
  ∀ (listed:Array Bool) (known:List Nat) (s:St) (fuel:Nat) (a:Act) (w:World),listed.size = ops.size->jc ops listed pl = true->(pl.map lT).sum<=fuel ->
   eo P Γ N ops.toList pl known s Q->Inv W0 F X N s a w->wpAny P .any ops Q' fuel listed a w:=by
 induction pl with
 | nil =>
  intro listed known s fuel a w _ h1 _ h hI
  exact wpAny_done (List.isEmpty_iff.1 h1) (hQ s a w h hI) fuel
 | cons ph r ih =>
  intro listed known s fuel a w bO h1 h2 h ⟨β,hI⟩
  cases ph with
  | tree n S t =>
   simp only [List.map_cons,List.sum_cons,lT] at h2
   simp only [jc,Bool.and_eq_true] at h1
   obtain ⟨T,hT,pk⟩:=(show ∃ T:St,vZ P Γ N ops.toList T t s/\eo P Γ N ops.toList r known T Q from h)
   have q:=PF aY (Q':=Q') (fuel:=fuel - n) (fun a w hI=>ih _ _ _ _ _ _ ((iK _ _).trans bO) h1.2 (by omega) pk hI) t n listed s a w h1.1.2 hT ⟨β,hI⟩
   rw [show fuel = fuel - n + n by omega]
   cases t with
   | fin=>exact q.1 (.inl rfl)
   | zO=>exact q.1 (.inr rfl)
   | aZ=>exact absurd h1.1.1 Bool.false_ne_true
   | opt i k alt =>
    have hr:Region.ready .any ops listed = pc (.opt i k alt):=xW h1.1.1
    obtain ⟨m,hm,_⟩:=q.2 i (List.mem_cons_self ..)
    rw [show fuel - n + n = (fuel - n + m) + 1 by omega]
    refine wpAny_all hr (by simp [pc]) fun p hp=>?_
    obtain ⟨m2,Cs,hw⟩:=q.2 p hp
    obtain rfl:m = m2:=by omega
    exact hw
  | take i =>
   simp only [List.map_cons,List.sum_cons,lT] at h2
   obtain ⟨fuel,rfl⟩:∃ k,fuel = k + 1:=⟨fuel - 1,by omega⟩
   simp only [jc,Bool.and_eq_true] at h1
   obtain ⟨o,ho,h⟩:=(bA _ _ _).1 h
   have QE:ops[i]? = some o:=by simpa using ho
   have go:∀ {v u:_} {lz:List Nat} {s1:St},ao W0 F X N s1 β a w->Rel β (Own X s1 β) w v u->(∀ n ∈ ids v,Nm s1 n)->al N s1 o.dst v (fun s=>eo P Γ N ops.toList r lz s Q)->Yields P ops o u a->wpAny P .any ops Q' (fuel + 1) listed a w:=by
    intro v u lz s1 dg hr bt hK hy
    obtain ⟨s2,k1,k2⟩:=lE dg hK hr bt
    exact wpAny_take QE MO h1.1.2 h1.1.1 (fun c a w h=>UJ c _ _ w h) hy (ih _ _ _ _ _ _ (by simpa using bO) h1.2 (by omega) k1 ⟨β,k2⟩)
   rcases rl hI h with ⟨k,s1,dg,hw,h⟩ | ⟨k,s1,dg,hw,h⟩
   ·obtain ⟨v,u,k1,k2,k3,k4⟩:=oC aY dg h
    exact go dg k2 k3 k1 (.inl ⟨by simpa using hw,k4⟩)
   ·exact go dg (Rel.im (kX _ _)) (by intro n hn; cases hn) h (.inr ⟨by simpa using hw,rfl⟩)
  | one i =>
   simp only [List.map_cons,List.sum_cons,lT] at h2
   obtain ⟨fuel,rfl⟩:∃ k,fuel = k + 1:=⟨fuel - 1,by omega⟩
   simp only [jc,Bool.and_eq_true] at h1
   obtain ⟨o,ho,h⟩:=(bA _ _ _).1 h
   have QE:ops[i]? = some o:=by simpa using ho
   have hr:Region.ready .any ops listed = [i]:=by
    have h3:=h1.1
    generalize Region.ready .any ops listed = rd at h3
    match rd with
    | []=>cases h3
    | [j]=>rw [Nat.eq_of_beq_eq_true h3]
    | _::_::_=>cases h3
   refine wpAny_all hr (by simp) fun j hj=>?_
   rw [List.mem_singleton] at hj
   rw [hj]
   unfold wpOp
   rw [QE]
   show if _ then _ else _
   rcases rl hI h with ⟨k,s1,dg,hw,h⟩ | ⟨k,s1,dg,hw,h⟩
   ·rw [if_pos (by simpa using hw)]
    exact .inl (nR aY dg h fun s' a' w' k1 k2=>ih _ _ _ _ _ _ (by simpa using bO) h1.2 (by omega) k1 k2)
   ·rw [if_neg (by simpa using hw)]
    obtain ⟨s2,k1,k2⟩:=iI dg (ca.refl _ w) h (kX _ _)
    exact ih _ _ _ _ _ _ (by simpa using bO) h1.2 (by omega) k1 ⟨β,k2⟩
  | two i j =>
   simp only [List.map_cons,List.sum_cons,lT] at h2
   obtain ⟨fuel,rfl⟩:∃ k,fuel = k + 2:=⟨fuel - 2,by omega⟩
   simp only [jc,Bool.and_eq_true] at h1
   obtain ⟨⟨⟨hr,LC⟩,S9⟩,h1⟩:=h1
   have hr:Region.ready .any ops listed = [i,j]:=by
    generalize Region.ready .any ops listed = rd at hr
    match rd with
    | []=>cases hr
    | [_]=>cases hr
    | [a,b]=>simp only [Bool.and_eq_true] at hr; rw [Nat.eq_of_beq_eq_true hr.1,Nat.eq_of_beq_eq_true hr.2]
    | _::_::_::_=>cases hr
   have LC:Region.ready .any ops (listed.setIfInBounds i true) = [j]:=by
    generalize Region.ready .any ops (listed.setIfInBounds i true) = rd at LC
    match rd with
    | []=>cases LC
    | [a]=>rw [Nat.eq_of_beq_eq_true LC]
    | _::_::_=>cases LC
   have S9:Region.ready .any ops (listed.setIfInBounds j true) = [i]:=by
    generalize Region.ready .any ops (listed.setIfInBounds j true) = rd at S9
    match rd with
    | []=>cases S9
    | [a]=>rw [Nat.eq_of_beq_eq_true S9]
    | _::_::_=>cases S9
   obtain ⟨T,ME,LA,pk⟩:=(show ∃ T:St,_/\_/\eo P Γ N ops.toList r known T Q from h)
   have Ud:(listed.setIfInBounds j true).setIfInBounds i true = (listed.setIfInBounds i true).setIfInBounds j true:=by
    by_cases da:j = i
    ·rw [da]
    ·exact Array.setIfInBounds_comm _ _ da
   have go : ∀ {p q : Nat}, (dp ops.toList p fun o => dp ops.toList q fun o' => cS o (cS o' (yt P Γ N o s fun s => yt P Γ N o' s fun s => Wk s T))) ->
     Region.ready .any ops (listed.setIfInBounds p true) = [q]->(listed.setIfInBounds p true).setIfInBounds q true = (listed.setIfInBounds i true).setIfInBounds j true->wpOp P ops Q' p (wpAny P .any ops Q' (fuel + 1) (listed.setIfInBounds p true)) a w:=by
    intro p q hK hrq y7
    obtain ⟨o,ho,hK⟩:=(bA _ _ _).1 hK
    obtain ⟨o',UF,hK⟩:=(bA _ _ _).1 hK
    have QE:ops[p]? = some o:=by simpa using ho
    have XH:ops[q]? = some o':=by simpa using UF
    cases hg:o.guard with
    | some _=>unfold cS at hK; rw [hg] at hK; exact hK.elim
    | none =>
     cases y9:o'.guard with
     | some _=>unfold cS at hK; rw [hg,y9] at hK; exact hK.elim
     | none =>
      unfold cS at hK
      rw [hg,y9] at hK
      unfold wpOp
      rw [QE]
      show if _ then _ else _
      rw [if_pos (by simp [Region.wanted,hg])]
      refine .inl (nR aY hI hK fun s1 a1 w1 k1 ⟨kD,dg⟩=>?_)
      refine wpAny_all hrq (by simp) fun k hk=>?_
      rw [List.mem_singleton] at hk
      subst hk
      unfold wpOp
      rw [XH]
      show if _ then _ else _
      rw [if_pos (by simp [Region.wanted,y9])]
      refine .inl (nR aY dg k1 fun s2 a2 w2 k2 ⟨β2,fV⟩=>?_)
      rw [y7]
      exact ih _ _ _ _ _ _ (by simpa using bO) h1 (by omega) pk ⟨β2,fV.wk k2⟩
   refine wpAny_all hr (by simp) fun k hk=>?_
   rcases List.mem_cons.1 hk with rfl | hk
   ·exact go ME LC rfl
   ·rw [List.mem_singleton] at hk
    subst hk
    exact go LA S9 Ud
  | Ou i j t =>
   simp only [List.map_cons,List.sum_cons,lT] at h2
   obtain ⟨fuel,rfl⟩:∃ k,fuel = k + 3:=⟨fuel - 3,by omega⟩
   simp only [jc,Bool.and_eq_true,decide_eq_true_eq] at h1
   obtain ⟨⟨⟨⟨⟨⟨hr,Ta⟩,UL⟩,XS⟩,UR⟩,y7⟩,h1⟩:=h1
   have one:∀ {rd:List Nat} {q:Nat},(match rd with | [q']=>Nat.beq q q' | _=>false) = true->rd = [q]:=by
    intro rd q h
    match rd with
    | []=>cases h
    | [a]=>rw [Nat.eq_of_beq_eq_true h]
    | _::_::_=>cases h
   have hr:Region.ready .any ops listed = [i,j]:=by
    generalize Region.ready .any ops listed = rd at hr
    match rd with
    | []=>cases hr
    | [_]=>cases hr
    | [a,b]=>simp only [Bool.and_eq_true] at hr; rw [Nat.eq_of_beq_eq_true hr.1,Nat.eq_of_beq_eq_true hr.2]
    | _::_::_::_=>cases hr
   have UL:=one UL
   have XS:=one XS
   obtain ⟨T,hA,hB,pk⟩:=(show ∃ T:St,_/\_/\eo P Γ N ops.toList r known T Q from h)
   have ung : ∀ {K : Oper -> Oper -> Oper -> Prop}, (dp ops.toList i fun o => dp ops.toList j fun o' => dp ops.toList t fun ot => cS o (cS o' (cS ot (K o o' ot)))) ->
     ∃ o o' ot,ops[i]? = some o/\ops[j]? = some o'/\ops[t]? = some ot/\o.guard = none/\o'.guard = none/\ot.guard = none/\K o o' ot:=by
    intro K hK
    obtain ⟨o,ho,hK⟩:=(bA _ _ _).1 hK
    obtain ⟨o',UF,hK⟩:=(bA _ _ _).1 hK
    obtain ⟨ot,UG,hK⟩:=(bA _ _ _).1 hK
    unfold cS at hK
    cases hg:o.guard with
    | some _=>rw [hg] at hK; exact hK.elim
    | none=>cases y9:o'.guard with
     | some _=>rw [hg,y9] at hK; exact hK.elim
     | none=>cases V0:ot.guard with
      | some _=>rw [hg,y9,V0] at hK; exact hK.elim
      | none=>rw [hg,y9,V0] at hK; exact ⟨o,o',ot,by simpa using ho,by simpa using UF,by simpa using UG,by first | exact hg | rfl,by first | exact y9 | rfl,by first | exact V0 | rfl,hK⟩
   have run:∀ {p:Nat} {o:Oper} {s:St} {β:Nat->Option Nat} {a:Act} {w:World} {K:St->Prop} {nx:Act->World->Prop},ops[p]? = some o->o.guard = none->ao W0 F X N s β a w->yt P Γ N o s K->(∀ s' a' w',K s'->Inv W0 F X N s' a' w'->nx a' w')->wpOp P ops Q' p nx a w:=by
    intro p o s β a w K nx ho hg hI hK hn
    unfold wpOp
    rw [ho]
    show if _ then _ else _
    rw [if_pos (by simp [Region.wanted,hg])]
    exact .inl (nR aY hI hK hn)
   have tak : ∀ {li : Array Bool} {ot : Oper} {s : St} {a : Act} {w : World} {f : Nat} {K : St -> Prop}, ops[t]? = some ot -> ot.guard = none -> Region.free .any ops li t = true -> (Region.ready .any ops li).contains t = true -> Inv W0 F X N s a w ->
     (qY Γ s ot.op fun v=>al N s ot.dst v K)->(∀ s' a' w',K s'->Inv W0 F X N s' a' w'->wpAny P .any ops Q' f (li.setIfInBounds t true) a' w')->wpAny P .any ops Q' (f + 1) li a w:=by
    intro li ot s a w f K ho hg Lx hrd ⟨β,hI⟩ hK hn
    obtain ⟨v,u,k1,k2,k3,k4⟩:=oC aY hI hK
    obtain ⟨s2,k5,k6⟩:=lE hI k1 k2 k3
    exact wpAny_take ho MO Lx hrd (fun c a w h=>UJ c _ _ w h) (.inl ⟨by simp [Region.wanted,hg],k4⟩) (hn _ _ _ k5 ⟨β,k6⟩)
   have fin:∀ s' a' w',Wk s' T->Inv W0 F X N s' a' w'->wpAny P .any ops Q' fuel (((listed.setIfInBounds i true).setIfInBounds t true).setIfInBounds j true) a' w':=fun s' a' w' k2 ⟨β2,fV⟩ =>
    ih _ _ _ _ _ _ (by simpa using bO) h1 (by omega) pk ⟨β2,fV.wk k2⟩
   refine wpAny_all hr (by simp) fun k hk=>?_
   rcases List.mem_cons.1 hk with rfl | hk
   ·obtain ⟨o,o',ot,e1,e2,e3,g1,g2,g3,hK⟩:=ung hA
    refine run e1 g1 hI hK fun s1 a1 w1 k1 dg=>?_
    refine tak e3 g3 Ta.2 Ta.1 dg k1 fun s2 a2 w2 k2 ⟨β2,fV⟩=>?_
    refine wpAny_all UL (by simp) fun k hk=>?_
    rw [List.mem_singleton] at hk
    subst hk
    exact run e2 g2 fV k2 fun s3 a3 w3 k3 Gz=>fin _ _ _ k3 Gz
   ·rw [List.mem_singleton] at hk
    subst hk
    obtain ⟨o,o',ot,e1,e2,e3,g1,g2,g3,hK⟩:=ung hB
    refine run e2 g2 hI hK fun s1 a1 w1 k1 ⟨kD,dg⟩=>?_
    refine wpAny_all XS (by simp) fun k hk=>?_
    rw [List.mem_singleton] at hk
    subst hk
    refine run e1 g1 dg k1 fun s2 a2 w2 k2 fV=>?_
    refine tak e3 g3 UR.2 UR.1 fV k2 fun s3 a3 w3 k3 Gz=>?_
    rw [<- y7]
    exact fin _ _ _ k3 Gz
  | fZ B fz =>
   simp only [List.map_cons,List.sum_cons,lT] at h2
   simp only [jc,Bool.and_eq_true] at h1
   have h:dP fz s fun s=>mR P Γ N fz ops.toList B known s fun s=>gI N fz s fun s=>eo P Γ N ops.toList r known s Q:=h
   rw [dL] at h
   have hI:=hI.cA fz
   have Pf:∀ d ∈ fz,¬ Nm (cA fz s) d:=fun d hd hm=>uz fz s d hd hm
   obtain ⟨dM,k1,k2,k3,t,k4,k5⟩:=qj B known _ h _ (kB.refl _)
   have hb:=wc bO h1.1.1 k1 (fun it hit=>by simpa using k2 it hit)
   have hlen:dM.length = B.length:=by rw [<- k1]; simp
   rw [List.take_of_length_le (Nat.le_of_eq hlen)] at hb
   refine G9 aY (itE:=[]) (List.append_nil dM).symm (Nat.zero_le _) hb k3 (fun q hq ho=>?_) Pf (f:=(r.map lT).sum) (fun fuel a w hf hI=>?_) (fun h=>absurd rfl h) dM.length fuel listed _ a w (DB _ _) (by omega) bO (fun _ _=>rfl) (fun q hq hl=>?_) rfl (fun x=>?_) ⟨β,hI⟩
   ·have h3:=List.all_eq_true.1 h1.1.2 q.1 (by rw [<- k1]; exact List.mem_map.2 ⟨q,hq,rfl⟩)
    rcases ho with ⟨tt,len,ps,ho⟩ | ⟨tt,ho⟩
    all_goals simp only [hb.at' q hq,Mp,ho] at h3
    all_goals cases hd:q.2.1.dst with
    | none=>rw [hd] at h3; cases h3
    | some d=>rw [hd] at h3; exact ⟨d,rfl,cR.1 h3⟩
   ·rw [k1]
    obtain ⟨β,hI⟩:=hI
    obtain ⟨s9,k6,TX⟩:=oB fz (kB.inv hI k4) k5
    exact ih _ _ _ _ _ _ ((iK _ _).trans bO) h1.2 hf k6 ⟨β,TX⟩
   ·have:=hb.un q hq
    rw [fw (by rw [bO]; exact (Array.getElem?_eq_some_iff.1 (hb.at' q hq)).1) true false,hl] at this
    cases this
   ·refine (js fun q hq hl=>?_).symm
    have:=hb.un q hq
    rw [fw (by rw [bO]; exact (Array.getElem?_eq_some_iff.1 (hb.at' q hq)).1) true false] at this
    rw [show listed.getD q.1 false = true from hl] at this
    cases this
  | L6 B fz e n S t1 t2 =>
   simp only [List.map_cons,List.sum_cons,lT] at h2
   simp only [jc,Bool.and_eq_true] at h1
   obtain ⟨⟨⟨⟨⟨h1a,h1b⟩,Yt⟩,Yu⟩,Yv⟩,h1f⟩:=h1
   have Yv:=Nat.le_of_ble_eq_true Yv
   obtain ⟨T,h,pk⟩:=(show ∃ T:St,(dP fz s fun s=>mR P Γ N fz ops.toList B known s fun s =>
    (gI N fz s fun s=>vZ P Γ N ops.toList T t1 s)/\mR P Γ N fz ops.toList [e] [] s fun s=>gI N fz s fun s=>vZ P Γ N ops.toList T t2 s)/\eo P Γ N ops.toList r known T Q from h)
   rw [dL] at h
   have hI:=hI.cA fz
   have Pf:∀ d ∈ fz,¬ Nm (cA fz s) d:=fun d hd hm=>uz fz s d hd hm
   obtain ⟨rX,k1,k2,k3,t,k4,k5,k5'⟩:=qj B known _ h _ (kB.refl _)
   obtain ⟨itE,m1,m2,m3,t',m4,m5⟩:=qj [e] [] _ k5' _ k4
   have hlE:itE.length = 1:=by have:=congrArg List.length m1; simpa using this
   have YX:rX.length = B.length:=by rw [<- k1]; simp
   have hm:(rX++itE).map (·.1) = B++[e]:=by rw [List.map_append,k1,m1]
   have hb:=wc bO h1a hm (fun it hit=>by
    rcases List.mem_append.1 hit with hit | hit
    ·simpa using k2 it hit
    ·simpa using m2 it hit)
   rw [<- YX,List.take_left] at hb
   have Pl:∀ fuel a w,(r.map lT).sum<=fuel->Inv W0 F X N T a w->wpAny P .any ops Q' fuel (dX listed (B++S)) a w:=fun fuel a w hf hI=>ih _ _ _ _ _ _ ((iK _ _).trans bO) h1f hf pk hI
   refine G9 aY rfl (by omega) hb (E8 rX itE _ k3 m3) (fun q hq ho=>?_) Pf (f:=(r.map lT).sum + (n - 1)) (fun fuel a w hf hI=>?_) (fun _ fuel a w hf hI=>?_) (rX++itE).length fuel listed _ a w (DB _ _) (by rw [List.length_append,hlE,YX]; omega) bO (fun _ _=>rfl) (fun q hq hl=>?_) rfl (fun x=>?_) ⟨β,hI⟩
   ·have h3:=List.all_eq_true.1 h1b q.1 (by rw [<- hm]; exact List.mem_map.2 ⟨q,hq,rfl⟩)
    rcases ho with ⟨tt,len,ps,ho⟩ | ⟨tt,ho⟩
    all_goals simp only [hb.at' q hq,Mp,ho] at h3
    all_goals cases hd:q.2.1.dst with
    | none=>rw [hd] at h3; cases h3
    | some d=>rw [hd] at h3; exact ⟨d,rfl,cR.1 h3⟩
   ·rw [hm]
    obtain ⟨β,hI⟩:=hI
    rw [JF] at hI
    obtain ⟨s9,k6,TX⟩:=oB fz (kB.inv hI m4) m5
    rw [show fuel = (fuel - (n - 1)) + (n - 1) by omega]
    exact Ja aY (fun a w hI=>Pl _ a w (by omega) hI) t2 Yu.1 Yu.2 k6 ⟨β,TX⟩
   ·rw [k1]
    obtain ⟨β,hI⟩:=hI
    obtain ⟨s9,k6,TX⟩:=oB fz (kB.inv hI k4) k5
    rw [show fuel = (fuel - n) + n by omega]
    exact Ja aY (fun a w hI=>Pl _ a w (by omega) hI) t1 Yt.1 Yt.2 k6 ⟨β,TX⟩
   ·have:=hb.un q hq
    rw [fw (by rw [bO]; exact (Array.getElem?_eq_some_iff.1 (hb.at' q hq)).1) true false,hl] at this
    cases this
   ·refine (js fun q hq hl=>?_).symm
    have:=hb.un q hq
    rw [fw (by rw [bO]; exact (Array.getElem?_eq_some_iff.1 (hb.at' q hq)).1) true false] at this
    rw [show listed.getD q.1 false = true from hl] at this
    cases this

theorem Mg (aY : Γ.bR P) {Q : St -> Prop} {Q' : Exit -> Act -> World -> Prop} (hQ : ∀ s a w, Q s -> Inv W0 F X N s a w -> Q' .normal a w) {pl : List Ph} (sq : mF ops pl = true) {id : Nat}
  (h:eo P Γ N ops.toList pl [] s Q) (hI:Inv W0 F X N s a w):(Code.region id ops true).wp P Q' a w:=by
 simp only [mF,Bool.and_eq_true,decide_eq_true_eq] at sq
 obtain ⟨⟨h1,h2⟩,h3⟩:=sq
 obtain ⟨β,hI⟩:=hI
 have Ug:Inv W0 F X N s a { w with drawn:=w.drawn + 1 }:=⟨β,hI.grow ⟨rfl,rfl,rfl,Nat.le_refl _,fun _ _ _=>rfl⟩⟩
 refine wp_mono (Q:=fun e a w=>e = .normal/\Q' .normal a w) (wp_region_any aY.mixed (yx aY (fun s a w h hI=>⟨rfl,hQ s a w h hI⟩) (fun c a a' w h=>by cases h.1) h1 pl _ [] s ops.size a _ (by simp) h2 h3 h Ug)) fun e a w ⟨e1,e2⟩=>by subst e1; exact e2
end
end Go.SX
end
section
namespace Go.SX
variable [Globs]
section
variable {P:Program} {N:Nat} {Γ:Ctx} {W0:World} {F:Fr} {X:Nat->Prop} {s:St} {β:Nat->Option Nat} {a:Act} {w:World}

def mC (N:Nat):List (Nat × Nat × Ty)->St->(St->Prop)->Prop
 | [],s,K=>K s
 | (n,id,τ)::r,s,K=>dx id s fun s=>fF s.aj n fun v=>match v with
  | .nl=>al N s (some n) (.vec id τ []) fun s=>mC N r s K
  | .vec lu τ' l=>bif Nat.beq lu id then al N s (some n) (.vec lu τ' l) fun s=>mC N r s K else False
  | _=>False
theorem ao.PC (hI:ao W0 F X N s β a w) {n id:Nat} (hv:look s.aj n = .nl) (bB:¬ Nm s id) (τ:Ty):ao W0 F X N (s.put n (.vec id τ [])) (ay β id none) a w:=by
 have bP:∀ m,Nm (s.put n (.vec id τ [])) m->m = id\/(Nm s m/\m≠id):=by
  intro m hm
  by_cases e:m = id
  ·exact .inl e
  ·refine .inr ⟨?_,e⟩
   rcases hm with ⟨cs,h⟩ | ⟨q,h⟩ | ⟨b,cs,h,c,hc,hk⟩
   ·exact .inl ⟨cs,h⟩
   ·simp only [St.put,bI] at h
    split at h
    ·simp [SX.ids,aw] at h; exact absurd h e
    ·exact .inr (.inl ⟨q,h⟩)
   ·exact .inr (.inr ⟨b,cs,h,c,hc,hk⟩)
 have cG:∀ m,Nm s m->ay β id none m = β m:=fun m hm=>by unfold ay; rw [if_neg]; rintro rfl; exact bB hm
 have hO:∀ k,k < w.heap.size->Own X (s.put n (.vec id τ [])) (ay β id none) k->Own X s β k:=by
  rintro k _ (hX | ⟨m,hm,hb⟩)
  ·exact .inl hX
  rcases bP m hm with rfl | ⟨hm,_⟩
  ·simp [ay] at hb
  ·exact .inr ⟨m,hm,(cG m hm) ▸ hb⟩
 have hk:∀ {av:AV} {v:Value},(∀ m ∈ SX.ids av,Nm s m)->Rel β (Own X s β) w av v->Rel (ay β id none) (Own X (s.put n (.vec id τ [])) (ay β id none)) w av v:=fun ck ba =>
  hI.AD (ca.refl (fun _=>False) w) (fun _ _ h=>h.elim) hO ba (fun m hm=>cG m (ck m hm)) (fun _ _ _ _=>rfl)
 refine hI.yS (ca.refl (fun _=>False) w) (fun _ _ h=>h.elim) (fun m=>?_) (fun m cs cZ=>?_) (fun m k g hm hk h1 h2=>?_) (fun m g hm hg=>?_) rfl rfl (fun m cs g hc hp=>(cG m (.inl ⟨cs,hc⟩)).trans (hI.fP m cs g hc hp))
 ·simp only [St.put,bI]
  by_cases e:n = m
  ·subst e
   simp only [if_true]
   have:=hI.aj n
   rw [hv] at this
   exact .inl ⟨rfl,this.gz,by simp [ay]⟩
  ·simp only [e,if_false]
   exact hk (fun k hk=>.inr (.inl ⟨m,hk⟩)) (hI.aj m)
 ·obtain ⟨g,us,e,h1,h2,h3⟩:=hI.boxes m cs cZ
  exact ⟨g,us,e,(cG m (.inl ⟨cs,cZ⟩)).trans h1,h2,h3.mono fun j c v hc hr=>⟨hk (fun k hk=>.inr (.inr ⟨m,cs,cZ,c,List.mem_of_getElem? hc,hk⟩)) hr.1,hr.2⟩⟩
 ·rcases bP m hm with rfl | ⟨hm,_⟩
  ·simp [ay] at h1
  ·rcases bP k hk with rfl | ⟨hk,_⟩
   ·simp [ay] at h2
   ·rw [cG m hm] at h1; rw [cG k hk] at h2; exact hI.inj m k g hm hk h1 h2
 ·rcases bP m hm with rfl | ⟨hm,_⟩
  ·simp [ay] at hg
  ·rw [cG m hm] at hg; exact hI.own m g hm hg

/-! ### the code -/
def xy (N:Nat) (body:(Exit->St->Prop)->St->Prop) (Q:Exit->St->Prop) (s:St):Prop :=
 ∃ (cv:List (Nat × Nat × Ty)) (cb:List (Nat × Nat × Nat × Ty)) (rn:List (Nat × Nat)),mC N cv s fun s=>qH cb s fun s=>jP rn s fun s=>∃ (σ:Type) (I:σ->Prop) (S:σ->St) (μ:σ->Nat) (x:σ),I x/\Wk s (S x) /\
  ∀ x,I x->body (fun e s'=>match e with
   | .normal=>∃ (rn:List (Nat × Nat)),jP rn s' fun s'=>∃ x',I x'/\Wk s' (S x')/\μ x' < μ x
   | e=>Q e s') (S x)
def ke {α:Type} (L:List Nat):List (Nat × α)->List (Nat × α)
 | []=>[]
 | (n,v)::r=>bif lQ n L then (n,v)::ke L r else ke L r
def qz {α:Type} (L:List Nat):List (Nat × α)->(List (Nat × α)->Prop)->Prop
 | [],K=>K []
 | (n,v)::r,K=>bif lQ n L then qz L r fun r'=>K ((n,v)::r') else qz L r K
theorem FE {α:Type} (L:List Nat) (l:List (Nat × α)):∀ K,qz L l K = K (ke L l):=by
 induction l with
 | nil=>intro K; rfl
 | cons p r ih=>intro K; obtain ⟨n,v⟩:=p; simp only [qz,ke]; cases lQ n L<;>simp [ih]
theorem uk (L:List Nat) (l:List (Nat × AV)) (n:Nat):look (ke L l) n = look l n\/look (ke L l) n = .x:=by
 induction l with
 | nil=>exact .inl rfl
 | cons p r ih =>
  obtain ⟨m,v⟩:=p
  simp only [ke]
  cases hL:lQ m L with
  | true =>
   simp only [cond_true,look]
   cases hb:Nat.beq m n with
   | true=>exact .inl rfl
   | false=>exact ih
  | false =>
   simp only [cond_false,look]
   cases hb:Nat.beq m n with
   | true =>
    have:=Nat.eq_of_beq_eq_true hb
    subst this
    refine .inr ?_
    clear ih hb
    induction r with
    | nil=>rfl
    | cons q t ih =>
     obtain ⟨k,u⟩:=q
     simp only [ke]
     cases hk:lQ k L with
     | true =>
      have da:k≠m:=fun e=>by rw [e,hL] at hk; cases hk
      simp only [cond_true,look,dQ da,cond_false]
      exact ih
     | false=>exact ih
   | false=>exact ih
theorem my (L:List Nat) (l:List (Nat × List AV)) (n:Nat) (cs:List AV) (h:ax (ke L l) n = some cs):ax l n = some cs:=by
 have key:lQ n L = true->ax (ke L l) n = ax l n:=by
  intro hn
  induction l with
  | nil=>rfl
  | cons p r ih =>
   obtain ⟨m,v⟩:=p
   simp only [ke]
   cases hb:Nat.beq m n with
   | true =>
    have:=Nat.eq_of_beq_eq_true hb
    subst this
    simp [hn,ax]
   | false =>
    have ih':=ih (by
     cases hL:lQ m L with
     | true=>rw [ke,hL,cond_true] at h; simp only [ax,hb,cond_false] at h; exact h
     | false=>rw [ke,hL,cond_false] at h; exact h)
    cases hL:lQ m L with
    | true=>simp only [cond_true,ax,hb,cond_false]; exact ih'
    | false=>simp only [cond_false,ax,hb]; exact ih'
 cases hn:lQ n L with
 | true=>rw [<- key hn]; exact h
 | false =>
  exfalso
  clear key
  induction l with
  | nil=>cases h
  | cons p r ih =>
   obtain ⟨m,v⟩:=p
   simp only [ke] at h
   cases hL:lQ m L with
   | true =>
    have da:m≠n:=fun e=>by rw [e,hn] at hL; cases hL
    rw [hL,cond_true] at h
    simp only [ax,dQ da,cond_false] at h
    exact ih h
   | false=>rw [hL,cond_false] at h; exact ih h
def jl (L:List Nat) (s:St) (K:St->Prop):Prop:=match s with | ⟨sl,b⟩=>qz L sl fun sl=>qz L b fun b=>K ⟨sl,b⟩
theorem kf (hI:ao W0 F X N s β a w) {L:List Nat} {K:St->Prop} (h:jl L s K):∃ s',K s'/\ao W0 F X N s' β a w:=by
 obtain ⟨sl,b⟩:=s
 simp only [jl,FE] at h
 refine ⟨_,h,hI.less (ca.refl _ _) ?_ (fun n=>?_) (fun n cs=>my L b n cs) rfl rfl⟩
 ·rintro n (⟨cs,hc⟩ | ⟨m,hm⟩ | ⟨k,cs,hk,c,hc,hn⟩)
  ·exact .inl ⟨cs,my L b n cs hc⟩
  ·rcases uk L sl m with h1 | h1
   ·exact .inr (.inl ⟨m,by rw [<- h1]; exact hm⟩)
   ·rw [h1] at hm; cases hm
  ·exact .inr (.inr ⟨k,cs,my L b k cs hk,c,hc,hn⟩)
 ·rcases uk L sl n with h1 | h1
  ·exact ⟨n,.inl ⟨h1,rfl⟩⟩
  ·exact ⟨n,.inr (.inl (by rw [h1]; exact .x _))⟩

def vc (P:Program) (Γ:Ctx) (N:Nat) (L:List Nat):Code->(Exit->St->Prop)->St->Prop
 | .skip,Q,s=>Q .normal s
 | .region _ ops draw,Q,s=>match draw with
  | false=>rO P Γ N ops.toList ops.toList [] s fun s=>jl L s (Q .normal)
  | true=>∃ pl,mF ops pl = true/\eo P Γ N ops.toList pl [] s fun s=>jl L s (Q .normal)
 | .seq x y,Q,s=>vc P Γ N L x (fun e s'=>match e with
  | .normal=>vc P Γ N L y Q s'
  | e=>Q e s') s
 | .cond c x y,Q,s=>bG s c fun v=>match v with
  | .b t=>(t = true->vc P Γ N L x Q s)/\(t = false->vc P Γ N L y Q s)
  | _=>False
 | .block id c,Q,s=>vc P Γ N L c (fun e s'=>match e with
  | .exit lu=>bif Nat.beq lu id then Q .normal s' else Q (.exit lu) s'
  | e=>Q e s') s
 | .exit id,Q,s=>Q (.exit id) s
 | .ret,Q,s=>Q .ret s
 | .label _,Q,s=>Q .normal s
 | .loop c,Q,s=>xy N (vc P Γ N L c) Q s
 | .scope c,Q,s=>vc P Γ N L c (fun e s'=>match e with
  | .goto _=>False
  | e=>Q e s') s
 | _,_,_=>False

theorem lub (p:Nat->Prop) (h:∃ n,p n):∃ n,p n/\∀ m,p m->n<=m:=by
 obtain ⟨n,hn⟩:=h
 induction n using Nat.strongRecOn with
 | _ n ih =>
  by_cases hex:∃ m,m < n/\p m
  ·obtain ⟨m,hm,hpm⟩:=hex
   exact ih m hm hpm
  ·exact ⟨n,hn,fun m hm=>Nat.le_of_not_lt fun hlt=>hex ⟨m,hlt,hm⟩⟩
open Classical in
noncomputable def xj (p:Nat->Prop):Nat:=if h:∃ n,p n then Classical.choose (lub p h) else 0
theorem xk {p:Nat->Prop} (h:∃ n,p n):p (xj p):=by
 unfold xj; rw [dif_pos h]; exact (Classical.choose_spec (lub p h)).1
theorem Bf {p:Nat->Prop} {n:Nat} (h:p n):xj p<=n:=by
 unfold xj; rw [dif_pos ⟨n,h⟩]; exact (Classical.choose_spec (lub p ⟨n,h⟩)).2 n h
theorem BM {P : Program} {c : Code} {Q : Exit -> Act -> World -> Prop} {σ : Type} (A : σ -> Act -> World -> Prop) (μ : σ -> Nat)
  (round:∀ x a w,A x a w->c.wp P (Exit.then (fun a' w'=>∃ x',A x' a' w'/\μ x' < μ x) Q) a w) {x:σ} {a:Act} {w:World} (h:A x a w):(Code.loop c).wp P Q a w:=by
 let I:Act->World->Prop:=fun a w=>∃ x,A x a w
 let least:Act->World->Nat:=fun a w=>xj fun n=>∃ x,A x a w/\μ x = n
 exact wp_loop I least ⟨x,h⟩ fun a w hI=>by
  obtain ⟨y,hy,Xy⟩:∃ y,A y a w/\μ y = least a w:=by
   obtain ⟨x,hx⟩:=hI
   have:=xk (p:=fun n=>∃ x,A x a w/\μ x = n) ⟨μ x,x,hx,rfl⟩
   exact this
  refine wp_mono (round y a w hy) fun e a' w' hq=>?_
  cases e with
  | normal =>
   obtain ⟨x',h1,h2⟩:=hq
   refine ⟨⟨x',h1⟩,?_⟩
   have h3:least a' w'<=μ x':=Bf (p:=fun n=>∃ x,A x a' w'/\μ x = n) ⟨x',h1,rfl⟩
   show least a' w' < least a w
   omega
  | _=>exact hq
theorem uv (cv:List (Nat × Nat × Ty)):∀ {s:St} {β:Nat->Option Nat} {K:St->Prop},ao W0 F X N s β a w->mC N cv s K->∃ s' bJ,K s'/\ao W0 F X N s' bJ a w:=by
 induction cv with
 | nil=>intro s β K hI h; exact ⟨s,β,h,hI⟩
 | cons p r ih =>
  intro s β K hI h
  obtain ⟨n,id,τ⟩:=p
  have h:dx id s fun s=>fF s.aj n fun v=>match v with
   | .nl=>al N s (some n) (.vec id τ []) fun s=>mC N r s K
   | .vec lu τ' l=>bif Nat.beq lu id then al N s (some n) (.vec lu τ' l) fun s=>mC N r s K else False
   | _=>False:=h
  rw [cO,dA] at h
  have dg:=hI.cy id
  cases hv:look (s.cy id).aj n with
  | nl =>
   rw [hv] at h
   have h:al N (s.cy id) (some n) (.vec id τ []) fun s=>mC N r s K:=h
   rw [bZ] at h
   cases hb:Nat.blt n N with
   | false=>rw [hb] at h; exact h.elim
   | true =>
    rw [hb,cond_true] at h
    exact ih (dg.PC hv (eu s id) τ) h
  | vec lu τ' l =>
   rw [hv] at h
   have h:bif Nat.beq lu id then al N (s.cy id) (some n) (.vec lu τ' l) fun s=>mC N r s K else False:=h
   cases hb:Nat.beq lu id with
   | false=>rw [hb] at h; exact h.elim
   | true =>
    have:=Nat.eq_of_beq_eq_true hb
    subst this
    exfalso
    exact eu s lu (.inr (.inl ⟨n,by rw [hv]; simp [SX.ids,aw]⟩))
  | _=>rw [hv] at h; exact h.elim

theorem lU (aY:Γ.bR P) {L:List Nat} (c:Code):∀ (Q:Exit->St->Prop) (Q':Exit->Act->World->Prop) (s:St) (a:Act) (w:World),(∀ e s a w,Q e s->Inv W0 F X N s a w->Q' e a w)->vc P Γ N L c Q s->Inv W0 F X N s a w->c.wp P Q' a w:=by
 induction c with
 | skip=>intro Q Q' s a w hQ h hI; exact wp_skip (hQ _ _ _ _ h hI)
 | region id ops draw =>
  intro Q Q' s a w hQ h hI
  cases draw with
  | true =>
   obtain ⟨pl,sq,h⟩:=(show ∃ pl,mF ops pl = true/\eo P Γ N ops.toList pl [] s fun s=>jl L s (Q .normal) from h)
   exact Mg aY (fun s a w hk ⟨β,hI⟩=>by
    obtain ⟨s',h1,h2⟩:=kf hI hk
    exact hQ .normal s' a w h1 ⟨β,h2⟩) sq h hI
  | false=>exact wp_region_list (by
   have:=mS aY (Q':=Q') (fun s a w hk ⟨β,hI⟩=>by
    obtain ⟨s',h1,h2⟩:=kf hI hk
    exact hQ .normal s' a w h1 ⟨β,h2⟩) ops.toList [] s a w h hI
   simpa using this)
 | seq x y ihx ihy =>
  intro Q Q' s a w hQ h hI
  refine wp_seq (ihx _ _ s a w (fun e s' a' w' hq bS=>?_) h hI)
  cases e with
  | normal=>exact ihy Q Q' s' a' w' hQ hq bS
  | _=>exact hQ _ _ _ _ hq bS
 | cond c x y ihx ihy =>
  intro Q Q' s a w hQ h hI
  have h:bG s c fun v=>match v with
   | .b t=>(t = true->vc P Γ N L x Q s)/\(t = false->vc P Γ N L y Q s)
   | _=>False:=h
  rw [aE] at h
  obtain ⟨β,hI⟩:=hI
  have hr:=(aF hI c).1
  cases hv:ev s c with
  | b t =>
   rw [hv] at h hr
   exact wp_cond_split hr.jG (fun ht=>ihx Q Q' s a w hQ (h.1 ht) ⟨β,hI⟩) (fun ht=>ihy Q Q' s a w hQ (h.2 ht) ⟨β,hI⟩)
  | _=>rw [hv] at h; exact h.elim
 | block id c ih =>
  intro Q Q' s a w hQ h hI
  refine wp_block (ih _ _ s a w (fun e s' a' w' hq bS=>?_) h hI)
  cases e with
  | exit lu =>
   have hq:bif Nat.beq lu id then Q .normal s' else Q (.exit lu) s':=hq
   cases hb:Nat.beq lu id with
   | true =>
    rw [hb] at hq
    have QF:Q .normal s':=hq
    have e:=Nat.eq_of_beq_eq_true hb
    subst e
    simp only [Exit.inBlock,if_true]
    exact hQ _ _ _ _ QF bS
   | false =>
    rw [hb] at hq
    have da:lu≠id:=fun e=>by subst e; rw [Nat.beq_refl] at hb; cases hb
    simp only [Exit.inBlock,da,if_false]; exact hQ _ _ _ _ hq bS
  | _=>exact hQ _ _ _ _ hq bS
 | loop c ih =>
  intro Q Q' s a w hQ h ⟨β,hI⟩
  obtain ⟨cv,cb,rn,h⟩:=(show xy N (vc P Γ N L c) Q s from h)
  obtain ⟨s00,β00,h,HZ⟩:=uv cv hI h
  obtain ⟨s0,sM,h,fS⟩:=mB cb HZ h
  obtain ⟨s1,kD,⟨σ,I,S,μ,x,Um,tY,mo⟩,dg⟩:=eO rn fS h
  refine BM (fun x a w=>I x/\Inv W0 F X N (S x) a w) μ (fun x a w GA=>?_) (x:=x) ⟨Um,kD,dg.wk tY⟩
  refine ih _ _ (S x) a w (fun e s' a' w' hq bS=>?_) (mo x GA.1) GA.2
  cases e with
  | normal =>
   obtain ⟨rn,hq⟩:=hq
   obtain ⟨bJ,bS⟩:=bS
   obtain ⟨s2,β2,⟨x',h0,h1,h2⟩,fV⟩:=eO rn bS hq
   exact ⟨x',⟨h0,β2,fV.wk h1⟩,h2⟩
  | _=>exact hQ _ _ _ _ hq bS
 | exit id=>intro Q Q' s a w hQ h hI; exact wp_exit (hQ _ _ _ _ h hI)
 | ret=>intro Q Q' s a w hQ h hI; exact wp_ret (hQ _ _ _ _ h hI)
 | label l=>intro Q Q' s a w hQ h hI; exact wp_label (hQ _ _ _ _ h hI)
 | scope c ih =>
  intro Q Q' s a w hQ h hI
  refine wp_scope_straight (ih _ _ s a w (fun e s' a' w' hq bS=>?_) h hI)
  cases e with
  | goto l=>exact (show False from hq).elim
  | _=>exact hQ _ _ _ _ hq bS
 | _=>intro Q Q' s a w hQ h hI; exact h.elim
end
end Go.SX
end
section
namespace Go.SX
variable [Globs]
section
variable {P:Program} {N:Nat} {Γ:Ctx} {W0:World} {F:Fr} {X:Nat->Prop} {s:St} {β:Nat->Option Nat} {a:Act} {w:World}

def jt:List (Nat × AV)->(List Nat->Prop)->Prop
 | [],K=>K []
 | (_,.vec id _ _)::r,K=>jt r fun l=>K (id::l)
 | (_,.vs id _ _ _)::r,K=>jt r fun l=>K (id::l)
 | _::r,K=>jt r K
def kW:List (Nat × AV)->List Nat
 | []=>[]
 | (_,.vec id _ _)::r=>id::kW r
 | (_,.vs id _ _ _)::r=>id::kW r
 | _::r=>kW r
theorem yM (l:List (Nat × AV)):∀ K,jt l K = K (kW l):=by
 induction l with
 | nil=>intro K; rfl
 | cons p r ih=>intro K; obtain ⟨n,v⟩:=p; cases v<;>simp [jt,kW,ih]
def oR:List (Nat × List AV)->(List Nat->Prop)->Prop
 | [],K=>K []
 | (_,l)::r,K=>eG l fun ids=>oR r fun l=>K (ids++l)
def r9:List (Nat × List AV)->List Nat
 | []=>[]
 | (_,l)::r=>iY l++r9 r
theorem zq (l:List (Nat × List AV)):∀ K,oR l K = K (r9 l):=by
 induction l with
 | nil=>intro K; rfl
 | cons p r ih=>intro K; obtain ⟨n,v⟩:=p; simp [oR,r9,fm,ih]

def Q6 (Γ:Ctx) (s:St):ResultVar->(AV->Prop)->Prop
 | .tmp t,K=>fF s.aj t fun v=>aC (rW v) (aC (bN [v]) (K v))
 | .cell a t,K=>fF s.aj a fun p=>eS Γ s t p fun v=>aC (rW v) (aC (bN [v]) (K v))
def pK (Γ:Ctx) (s:St):List ResultVar->(List AV->Prop)->Prop
 | [],K=>K []
 | r::t,K=>Q6 Γ s r fun v=>pK Γ s t fun l=>K (v::l)
def yr:List AV->AV
 | [v]=>v
 | l=>.bc l
def Bb (Γ:Ctx) (s:St) (rs:List ResultVar) (K:AV->Prop):Prop :=
 jt s.aj fun i1=>oR s.boxes fun i2=>dP (i1++i2) s fun s=>pK Γ s rs fun l=>K (yr l)

def rC (tmps:Array Value):ResultVar->Sem Value
 | .tmp t=>pure (tmps.getD t undef)
 | .cell a t=>do loadVar t (<- asAddr (tmps.getD a undef))
theorem Q7 (aY:Γ.bR P) (hI:ao W0 F X N s β a w) {r:ResultVar} {K:AV->Prop} (h:Q6 Γ s r K):∃ v u,K v/\Im (Own X s β) w v u/\(rC a.tmps r).run P w = .ok u w:=by
 cases r with
 | tmp t =>
  have h:fF s.aj t fun v=>aC (rW v) (aC (bN [v]) (K v)):=h
  rw [dA] at h
  obtain ⟨h1,h⟩:=(af _ _).1 h
  obtain ⟨h2,h⟩:=(af _ _).1 h
  exact ⟨_,_,h,dF (hI.aj t) h1 h2,rfl⟩
 | cell ad t =>
  have h:fF s.aj ad fun p=>eS Γ s t p fun v=>aC (rW v) (aC (bN [v]) (K v)):=h
  rw [dA] at h
  let o : Oper := { dst := none, op := .load t (.tmp ad), type := 0, pos := "", after := #[], guard := none }
  obtain ⟨v,u,h1,h2,_,h4⟩:=ni aY.ok hI (o:=o) (x:=.tmp ad) rfl (hI.aj ad) (fun n hn=>.inr (.inl ⟨ad,hn⟩)) h
  obtain ⟨h5,h1⟩:=(af _ _).1 h1
  obtain ⟨h6,h1⟩:=(af _ _).1 h1
  refine ⟨v,u,h1,dF h2 h5 h6,?_⟩
  have hp:=hI.aj ad
  -- a pointer lies there
  have Is:∃ x,a.tmps.getD ad undef = .pointer (some x):=by
   cases hv:look s.aj ad with
   | pt n off=>rw [hv] at hp; obtain ⟨g,_,e⟩:=hp; exact ⟨_,e⟩
   | rp cs=>rw [hv] at hp; obtain ⟨g,off,e,_⟩:=Im.od hp; exact ⟨_,e⟩
   | vp id τ l n off=>rw [hv] at hp; obtain ⟨_,⟨g,_,e⟩,_⟩:=hp; exact ⟨_,e⟩
   | ob i i2 ob =>
    rw [hv] at h hp
    cases ob with
    | gp L k row n=>obtain ⟨_,⟨g,_,e⟩,_⟩:=hp; exact ⟨_,e⟩
    | _=>exact (show False from h).elim
   | _=>rw [hv] at h; exact h.elim
  obtain ⟨x,hx⟩:=Is
  have TS:(Instr.loadAt t (a.tmps.getD ad undef)).run P w = .ok u w:=by
   simp only [execOp,o,Act.eval,Sem.run_bind] at h4
   cases hr:(Instr.loadAt t (a.tmps.getD ad undef)).run P w with
   | ok q w'=>rw [hr] at h4; simp at h4; obtain ⟨e1,e2⟩:=h4; subst e1 e2; rfl
   | halt q w'=>rw [hr] at h4; simp at h4
  rw [hx] at TS
  simp only [rC,hx]
  simpa [Instr.loadAt,Instr.sureAddr,asAddr] using TS
theorem F6 (aY:Γ.bR P) (hI:ao W0 F X N s β a w) (rs:List ResultVar):∀ {K:List AV->Prop},pK Γ s rs K->∃ vs us,K vs/\All2 (Im (Own X s β) w) vs us/\(rs.mapM (rC a.tmps)).run P w = .ok us w:=by
 induction rs with
 | nil=>intro K h; exact ⟨[],[],h,All2.nil _,rfl⟩
 | cons r t ih =>
  intro K h
  obtain ⟨v,u,h,h1,h2⟩:=Q7 aY hI (show Q6 Γ s r fun v=>pK Γ s t fun l=>K (v::l) from h)
  obtain ⟨vs,us,h3,h4,h5⟩:=ih h
  refine ⟨v::vs,u::us,h3,All2.cons h1 h4,?_⟩
  rw [List.mapM_cons]
  simp only [Sem.run_bind,h2,Result.andThen_ok]
  rw [h5]
  rfl
theorem ov (fn:Func) (tmps:Array Value):results fn tmps = (do let vs <- fn.results.mapM (rC tmps); pure (if h:vs.size = 1 then vs[0] else .tuple vs)):=by
 unfold results
 congr 1
theorem CO (aY:Γ.bR P) (hI:ao W0 F X N s β a w) {fn:Func} {K:AV->Prop} (h:pK Γ s fn.results.toList fun l=>K (yr l)):∃ v u,K v/\Im (Own X s β) w v u/\(results fn a.tmps).run P w = .ok u w:=by
 obtain ⟨vs,us,h1,h2,h3⟩:=F6 aY hI _ h
 have bu:(results fn a.tmps).run P w = .ok (if h:us.toArray.size = 1 then us.toArray[0] else .tuple us.toArray) w:=by
  rw [ov,Array.mapM_eq_mapM_toList]
  simp only [Sem.run_bind,Sem.run_map,h3,Result.andThen_ok,Sem.run_pure]
 rcases us with _ | ⟨u,_ | ⟨u',r⟩⟩
 ·have:=h2.1
  have hv:vs = []:=List.eq_nil_of_length_eq_zero (by simpa using this)
  subst hv
  exact ⟨.bc [],.tuple #[],h1,.bc [] [] rfl (by simp),by rw [bu]; rfl⟩
 ·obtain ⟨v, rfl⟩ : ∃ v, vs = [v] := by
   have:=h2.1
   match vs,this with
   | [v],_=>exact ⟨v,rfl⟩
  exact ⟨v,u,h1,h2.head,by rw [bu]; rfl⟩
 ·obtain ⟨v, v', t, rfl⟩ : ∃ v v' t, vs = v :: v' :: t := by
   have:=h2.1
   match vs,this with
   | v::v'::t,_=>exact ⟨v,v',t,rfl⟩
  refine ⟨.bc (v::v'::t),.tuple (u::u'::r).toArray,h1,.bc _ _ h2.1 h2.2,?_⟩
  rw [bu,dif_neg (by simp)]
theorem yD (aY:Γ.bR P) (hI:ao W0 F X N s β a w) {fn:Func} {K:AV->Prop} (h:Bb Γ s fn.results.toList K):∃ v u,K v/\Im X w v u/\(results fn a.tmps).run P w = .ok u w:=by
 unfold Bb at h
 rw [yM,zq,dL] at h
 obtain ⟨v,u,h1,h2,h3⟩:=CO aY (hI.cA (kW s.aj++r9 s.boxes)) (K:=K) h
 exact ⟨v,u,h1,h2.mono fun k hk=>.inl hk,h3⟩

def aQ (Γ:Ctx) (rs:List ResultVar) (R:AV->Prop) (e:Exit) (s:St):Prop :=
 match e with
 | .normal=>Bb Γ s rs R
 | .ret=>Bb Γ s rs R
 | _=>False

theorem ah (aY : Γ.bR P) {f : FuncId} {fn : Func} {c : Code} (hf : P.funcs[f]? = some fn) (hb : fn.body = some c) (cY : ∀ (vs : Array Value) (w : World), (callFunc f vs).run P w = .ok (.enter f vs) w)
  {rs:Array ResultVar} (BS:fn.results = rs) (hN:fn.ntmps = N) {args:List AV} {r:AV} {L:List Nat} (hlen:args.length<=N)
  (BT:vc P Γ N L c (aQ Γ rs.toList (fun v=>v = r)) ⟨ae 0 args,[]⟩):ar P f args r:=by
 refine ⟨cY,fun O w vs hO hG dV=>?_⟩
 refine calls_of_wp hf hb ?_
 have bO:vs.length = args.length:=dV.1.symm
 have hI:ao w Fr.none O N ⟨ae 0 args,[]⟩ (fun _=>none) { tmps:=vs.toArray++Array.replicate (fn.ntmps - vs.toArray.size) undef,defers:=[] } w:=by
  have bP:∀ n,¬ Nm ⟨ae 0 args,[]⟩ n:=by
   rintro n (⟨cs,h⟩ | ⟨m,h⟩ | ⟨b,cs,h,_⟩)
   ·cases h
   ·have:=dI args 0 m
    rw [Nat.zero_add] at this
    simp only [this] at h
    by_cases hm:m < args.length
    ·rw [List.getD_eq_getElem?_getD,List.getElem?_eq_getElem hm] at h
     have:=(dV.2 m _ _ (List.getElem?_eq_getElem hm) (List.getElem?_eq_getElem (by rw [bO]; exact hm))).cQ
     rw [show (some args[m]).getD AV.x = args[m] from rfl,this] at h
     cases h
    ·rw [List.getD_eq_getElem?_getD,List.getElem?_eq_none (by omega)] at h
     simp [ids,aw] at h
   ·cases h
  refine ⟨ca.refl _ _,fun n=>?_,?_,fun n cs h=>(by cases h),fun n m g hn=>absurd hn (bP n),fun n g hn=>absurd hn (bP n),rfl,fun k hk=>⟨hO k hk,id⟩,fun n cs g h=>(by cases h),fun _ _=>rfl,hG.step (ca.refl (fun _=>False) w) (fun _ _ h=>h.elim) fun k _ hk=>hk.elim id fun h=>h.elim⟩
  ·have h1:=dI args 0 n
   rw [Nat.zero_add] at h1
   show Rel _ _ _ (look (ae 0 args) n) _
   rw [h1]
   by_cases hm:n < args.length
   ·have zc:n < vs.length:=by rw [bO]; exact hm
    have h2:=dV.2 n _ _ (List.getElem?_eq_getElem hm) (List.getElem?_eq_getElem zc)
    rw [List.getD_eq_getElem?_getD,List.getElem?_eq_getElem hm]
    have h3:(vs.toArray++Array.replicate (fn.ntmps - vs.toArray.size) undef).getD n undef = vs[n]:=by
     rw [Array.getD_eq_getD_getElem?,Array.getElem?_append_left (by simpa using zc)]
     simp [zc]
    rw [h3]
    refine Rel.im (h2.mono fun k hk=>?_)
    rcases hk with hk | ⟨m,Il,_⟩
    ·exact hk
    ·exact absurd Il (bP m)
   ·rw [List.getD_eq_getElem?_getD,List.getElem?_eq_none (by omega)]
    exact Rel.x
  ·show (vs.toArray++Array.replicate (fn.ntmps - vs.toArray.size) undef).size = N
   simp only [Array.size_append,List.size_toArray,Array.size_replicate,hN,bO]
   omega
 refine lU (W0:=w) (F:=Fr.none) (X:=O) aY c _ _ _ _ _ (fun e s a w' hq ⟨β,bS⟩=>?_) BT ⟨_,hI⟩
 have key:Bb Γ s rs.toList (fun v=>v = r)->a.defers = []/\∃ v,(results fn a.tmps).run P w' = .ok v w'/\∃ v',Ending.returned v = .returned v'/\ca (fun _=>False) w w'/\Im O w' r v':=by
  intro h
  rw [<- BS] at h
  obtain ⟨v,u,rfl,h1,h2⟩:=yD aY bS h
  exact ⟨bS.defers,u,h2,u,rfl,bS.ext,h1⟩
 cases e with
 | normal=>exact key hq
 | ret=>exact key hq
 | _=>exact hq.elim

/-! ### contracts that write what they are handed -/
def Jv (Γ:Ctx) (s:St):ResultVar->(AV->Prop)->Prop
 | .tmp t,K=>fF s.aj t K
 | .cell a t,K=>fF s.aj a fun p=>eS Γ s t p K
def pL (Γ:Ctx) (s:St):List ResultVar->(List AV->Prop)->Prop
 | [],K=>K []
 | r::t,K=>Jv Γ s r fun v=>pL Γ s t fun l=>K (v::l)
def lB:List AV->AV
 | .ag 0 (c::cs)::v::r=>.ag (cs.length + 1) (c::cs++v::r)
 | l=>yr l
def Yc:List AV->Bool
 | .ag 0 (_::_)::v::r=>tF (v::r)
 | [.ag 0 _]=>true
 | l=>ko l
theorem FQ {vs:List AV} (h:Yc vs = true):(∃ c cs v r,vs = .ag 0 (c::cs)::v::r/\tF (v::r) = true)\/(lB vs = yr vs/\(vs.length≠1->ko vs = true)):=by
 unfold Yc at h
 split at h
 ·exact .inl ⟨_,_,_,_,rfl,h⟩
 ·rename_i cs
  exact .inr ⟨by cases cs<;>rfl,fun h=>absurd rfl h⟩
 ·rename_i h1 _
  refine .inr ⟨?_,fun _=>h⟩
  unfold lB
  split
  ·exact absurd rfl (h1 _ _ _ _)
  ·rfl
def qn (Γ:Ctx) (rs:List ResultVar) (r:AV) (aB:List (Nat × List AV)) (s:St):Prop :=
 ∃ rn,jP rn s fun s=>pL Γ s rs fun l=>aC (Yc l) (lB l = r)/\Tf s aB
def en (Γ:Ctx) (rs:List ResultVar) (r:AV) (aB:List (Nat × List AV)) (e:Exit) (s:St):Prop :=
 match e with
 | .normal=>qn Γ rs r aB s
 | .ret=>qn Γ rs r aB s
 | _=>False

theorem Ni (aY:Γ.bR P) (hI:ao W0 F X N s β a w) {r:ResultVar} {K:AV->Prop} (h:Jv Γ s r K):∃ v u,K v/\Rel β (Own X s β) w v u/\(∀ n ∈ ids v,Nm s n)/\(rC a.tmps r).run P w = .ok u w:=by
 cases r with
 | tmp t =>
  have h:fF s.aj t K:=h
  rw [dA] at h
  exact ⟨_,_,h,hI.aj t,fun n hn=>.inr (.inl ⟨t,hn⟩),rfl⟩
 | cell ad t =>
  have h:fF s.aj ad fun p=>eS Γ s t p K:=h
  rw [dA] at h
  let o : Oper := { dst := none, op := .load t (.tmp ad), type := 0, pos := "", after := #[], guard := none }
  obtain ⟨v,u,h1,h2,h3,h4⟩:=ni aY.ok hI (o:=o) (x:=.tmp ad) rfl (hI.aj ad) (fun n hn=>.inr (.inl ⟨ad,hn⟩)) h
  refine ⟨v,u,h1,h2,h3,?_⟩
  have hp:=hI.aj ad
  have Is:∃ x,a.tmps.getD ad undef = .pointer (some x):=by
   cases hv:look s.aj ad with
   | pt n off=>rw [hv] at hp; obtain ⟨g,_,e⟩:=hp; exact ⟨_,e⟩
   | rp cs=>rw [hv] at hp; obtain ⟨g,off,e,_⟩:=Im.od hp; exact ⟨_,e⟩
   | vp id τ l n off=>rw [hv] at hp; obtain ⟨_,⟨g,_,e⟩,_⟩:=hp; exact ⟨_,e⟩
   | ob i i2 ob =>
    rw [hv] at h hp
    cases ob with
    | gp L k row n=>obtain ⟨_,⟨g,_,e⟩,_⟩:=hp; exact ⟨_,e⟩
    | _=>exact (show False from h).elim
   | _=>rw [hv] at h; exact h.elim
  obtain ⟨x,hx⟩:=Is
  have TS:(Instr.loadAt t (a.tmps.getD ad undef)).run P w = .ok u w:=by
   simp only [execOp,o,Act.eval,Sem.run_bind] at h4
   cases hr:(Instr.loadAt t (a.tmps.getD ad undef)).run P w with
   | ok q w'=>rw [hr] at h4; simp at h4; obtain ⟨e1,e2⟩:=h4; subst e1 e2; rfl
   | halt q w'=>rw [hr] at h4; simp at h4
  rw [hx] at TS
  simp only [rC,hx]
  simpa [Instr.loadAt,Instr.sureAddr,asAddr] using TS
theorem CN (aY:Γ.bR P) (hI:ao W0 F X N s β a w) (rs:List ResultVar):∀ {K:List AV->Prop},pL Γ s rs K->∃ vs us,K vs/\All2 (Rel β (Own X s β) w) vs us/\(∀ c ∈ vs,∀ n ∈ ids c,Nm s n)/\(rs.mapM (rC a.tmps)).run P w = .ok us w:=by
 induction rs with
 | nil=>intro K h; exact ⟨[],[],h,All2.nil _,(by intro c hc; cases hc),rfl⟩
 | cons r t ih =>
  intro K h
  obtain ⟨v,u,h,h1,h0,h2⟩:=Ni aY hI (show Jv Γ s r fun v=>pL Γ s t fun l=>K (v::l) from h)
  obtain ⟨vs,us,h3,h4,h6,h5⟩:=ih h
  refine ⟨v::vs,u::us,h3,All2.cons h1 h4,fun c hc=>?_,?_⟩
  ·rcases List.mem_cons.1 hc with rfl | hc
   ·exact h0
   ·exact h6 c hc
  rw [List.mapM_cons]
  simp only [Sem.run_bind,h2,Result.andThen_ok]
  rw [h5]
  rfl
theorem tm (aY : Γ.bR P) (hN : 1<=N) (hI : ao W0 F X N s β a w) {fn : Func} {r : AV} {aB : List (Nat × List AV)} (h : qn Γ fn.results.toList r aB s) :
  ∃ u bJ,(results fn a.tmps).run P w = .ok u w/\ao W0 { F with th:=[] } X 1 ⟨[(0,r)],aB⟩ bJ ⟨#[u],[]⟩ w:=by
 obtain ⟨rn,h⟩:=h
 obtain ⟨s1,kD,h,dg⟩:=eO rn hI h
 obtain ⟨vs,us,⟨h1,tY⟩,h3,h4,h5⟩:=CN aY dg _ h
 obtain ⟨Ip,rfl⟩:=(af _ _).1 h1
 have bu:(results fn a.tmps).run P w = .ok (if h:us.toArray.size = 1 then us.toArray[0] else .tuple us.toArray) w:=by
  rw [ov,Array.mapM_eq_mapM_toList]
  simp only [Sem.run_bind,Sem.run_map,h5,Result.andThen_ok,Sem.run_pure]
 -- the result as one value
 have fx:∃ u,(if h:us.toArray.size = 1 then us.toArray[0] else .tuple us.toArray) = u/\Rel kD (Own X s1 kD) w (lB vs) u/\∀ n ∈ ids (lB vs),Nm s1 n:=by
  rcases FQ Ip with ⟨c,cs,v,r,rfl,Ip⟩ | ⟨he,Ip⟩
  ·obtain ⟨u0,Gl,rfl,⟨ws,hw,vP,Zp⟩,h6⟩:=h3.cons_inv
   have hl:Gl.length = (v::r).length:=h6.1.symm
   have hg:∀ (j:Nat) d u,(v::r)[j]? = some d->Gl[j]? = some u->cj kD (Own X s1 kD) w d u/\u.oneCell' = true:=fun j d u hd hu=>by
    have hr:=h6.2 j d u hd hu
    have S2:=tG Ip (List.mem_of_getElem? hd)
    cases d<;>first | (cases S2; done) | exact ⟨hr,by first | (obtain rfl:=hr.kd; rfl) | (obtain rfl:=hr.jG; rfl) | (obtain ⟨rfl,_⟩:=hr.pw; rfl)⟩
   have hwl:ws.length = cs.length + 1:=by have:=vP.1; simpa using this.symm
   refine ⟨_,rfl,⟨ws++Gl,?_,⟨by rw [List.length_append,List.length_append,vP.1,hl],fun j d u hd hu=>?_⟩,fun u hu=>?_⟩,fun n hn=>?_⟩
   ·have oa:Gl.length = r.length + 1:=by rw [hl,List.length_cons]
    rw [dif_neg (by simp only [List.size_toArray,List.length_cons]; omega),hw]
    simp [shape,<- hwl]
   ·by_cases hj:j < ws.length
    ·rw [List.getElem?_append_left hj] at hu
     rw [List.getElem?_append_left (by rw [vP.1]; exact hj)] at hd
     exact vP.2 j d u hd hu
    ·rw [List.getElem?_append_right (by omega)] at hu
     rw [List.getElem?_append_right (by rw [vP.1]; omega),vP.1] at hd
     exact (hg _ d u hd hu).1
   ·rcases List.mem_append.1 hu with hu | hu
    ·exact Zp u hu
    ·obtain ⟨j,hj,rfl⟩:=List.getElem_of_mem hu
     exact (hg j _ _ (List.getElem?_eq_getElem (by rw [<- hl]; exact hj)) (List.getElem?_eq_getElem hj)).2
   ·obtain ⟨d,hd,qw⟩:=List.mem_flatMap.1 (show n ∈ (c::cs++v::r).flatMap aw from hn)
    rcases List.mem_append.1 hd with hd | hd
    ·exact h4 _ (List.mem_cons_self ..) n (List.mem_flatMap.2 ⟨d,hd,qw⟩)
    ·have S2:=tG Ip hd
     cases d<;>first | (cases S2; done) | (cases qw; done)
  rw [he]
  have Ar:vs.length≠1->Rel kD (Own X s1 kD) w (.bc vs) (.tuple us.toArray)/\∀ n ∈ ids (.bc vs),Nm s1 n:=fun zb=>by
   have Ip:=Ip zb
   have oG:∀ l:List AV,ko l = true->∀ v ∈ l,ko [v] = true:=by
    intro l
    induction l with
    | nil=>intro _ v hv; cases hv
    | cons y r ih =>
     intro hl v hv
     have hy:ko r = true/\ko [y] = true:=by cases y<;>first | exact ⟨hl,rfl⟩ | exact absurd (show false = true from hl) (by simp)
     rcases List.mem_cons.1 hv with e | hv
     ·rw [e]; exact hy.2
     ·exact ih hy.1 v hv
   refine ⟨⟨us,rfl,h3.1,fun j c u hc hu=>?_⟩,fun n hn=>?_⟩
   ·have hr:=h3.2 j c u hc hu
    have hf:=oG vs Ip c (List.mem_of_getElem? hc)
    cases c<;>first | exact hr | cases hf
   ·obtain ⟨c,hc,hk⟩:=List.mem_flatMap.1 hn
    refine h4 c hc n ?_
    have hf:=oG vs Ip c hc
    cases c<;>first | exact hk | cases hf
  match vs,us,h3,h4,Ar with
  | [],us,h3,_,Ar =>
   have:us = []:=h3.iz
   subst this
   exact ⟨_,rfl,Ar (by simp)⟩
  | [v],us,h3,h4,_ =>
   obtain ⟨u,us',rfl,h6,h7⟩:=h3.cons_inv
   have:us' = []:=h7.iz
   subst this
   exact ⟨u,rfl,h6,h4 v (List.mem_cons_self ..)⟩
  | v::v'::t,us,h3,_,Ar =>
   have hl:us.length≠1:=by have:=h3.1; simp at this; omega
   exact ⟨_,by rw [dif_neg (by simpa using hl)],Ar (by simp)⟩
 obtain ⟨u,hu,hr,XT⟩:=fx
 refine ⟨u,kD,by rw [bu,hu],?_⟩
 have bP:∀ n,Nm ⟨[(0,lB vs)],aB⟩ n->Nm s1 n:=by
  rintro n (⟨cs,hc⟩ | ⟨q,hq⟩ | ⟨b,cs,hb,c,hc,hn⟩)
  ·obtain ⟨us',iN,_⟩:=eQ tY n cs hc
   exact .inl ⟨us',iN⟩
  ·simp only [look] at hq
   cases hb:Nat.beq 0 q with
   | true=>rw [hb] at hq; exact XT n hq
   | false=>rw [hb] at hq; cases hq
  ·obtain ⟨us',iN,hw⟩:=eQ tY b cs hb
   obtain ⟨g,us2,e,k1,k2,k3⟩:=dg.boxes b us' iN
   obtain ⟨u',X3,jg⟩:=(nJ hw k3).2 c hc n hn
   exact .inr (.inr ⟨b,us',iN,u',X3,jg⟩)
 have hO:∀ k,Own X ⟨[(0,lB vs)],aB⟩ kD k->Own X s1 kD k:=fun k hk=>hk.imp id fun ⟨n,hn,hb⟩=>⟨n,bP n hn,hb⟩
 refine ⟨dg.ext,fun n=>?_,rfl,fun n cs hc=>?_,fun n m g hn hm=>dg.inj n m g (bP n hn) (bP m hm),fun n g hn hg=>dg.own n g (bP n hn) hg,rfl,dg.mh,fun n cs g hc hp=>?_,fun n hn=>dg.vV n (by omega),dg.gl⟩
 ·simp only [look]
  cases hb:Nat.beq 0 n with
  | true=>have:=Nat.eq_of_beq_eq_true hb; subst this; exact hr.mono hO
  | false=>exact Rel.x
 ·obtain ⟨us',iN,hw⟩:=eQ tY n cs hc
  obtain ⟨g,us2,e,k1,k2,k3⟩:=dg.boxes n us' iN
  exact ⟨g,us2,e,k1,k2,(nJ hw k3).1.mono fun _ _ _ _ hr=>⟨hr.1.mono hO,hr.2⟩⟩
 ·obtain ⟨us',iN,_⟩:=eQ tY n cs hc
  exact dg.fP n us' g iN hp

theorem bL (aY : Γ.bR P) {f : FuncId} {fn : Func} {c : Code} (hf : P.funcs[f]? = some fn) (hb : fn.body = some c) (cY : ∀ (vs : Array Value) (w : World), (callFunc f vs).run P w = .ok (.enter f vs) w)
  {rs:Array ResultVar} (BS:fn.results = rs) (hN:fn.ntmps = N) {args:List AV} {boxes:List (Nat × List AV)} {r:AV} {aB:List (Nat × List AV)} {L:List Nat} (hlen:args.length<=N) (tK:1<=N)
  (yc:(aA boxes).all (fun n=>Nat.ble N n) = true) (BT:vc P Γ N L c (en Γ rs.toList r aB) ⟨ae 0 args,boxes⟩):bx P f args boxes r aB:=by
 refine ⟨cY,fun F X β w vs p9 iT fS=>?_⟩
 refine calls_of_wp hf hb ?_
 have Cu:∀ n,(vs.toArray++Array.replicate (fn.ntmps - vs.toArray.size) undef).getD n undef = vs.toArray.getD n undef\/look (ae 0 args) n = .x:=fun n=>by
  by_cases hm:n < vs.length
  ·left
   simp only [Array.getD_eq_getD_getElem?]
   rw [Array.getElem?_append_left (by simpa using hm)]
  ·right
   have h1:=dI args 0 n
   rw [Nat.zero_add] at h1
   rw [h1,List.getD_eq_getElem?_getD,List.getElem?_eq_none (by omega)]
   rfl
 have hI:ao w F X N ⟨ae 0 args,boxes⟩ β { tmps:=vs.toArray++Array.replicate (fn.ntmps - vs.toArray.size) undef,defers:=[] } w:=by
  refine ⟨fS.ext,fun n=>?_,?_,fS.boxes,fS.inj,fS.own,fS.defers,fS.mh,fS.fP,fun n hn=>?_,fS.gl⟩
  ·rcases Cu n with h1 | h1
   ·show Rel _ _ _ _ ((vs.toArray++Array.replicate (fn.ntmps - vs.toArray.size) undef).getD n undef)
    rw [h1]; exact fS.aj n
   ·show Rel _ _ _ (look (ae 0 args) n) _
    rw [h1]; exact Rel.x
  ·simp only [Array.size_append,List.size_toArray,Array.size_replicate,hN,p9]
   omega
  ·cases hp:F.fP n with
   | none=>rfl
   | some g =>
    have h1:=bd.2 (iT n g hp)
    have:=Nat.le_of_ble_eq_true (List.all_eq_true.1 yc n h1)
    omega
 refine lU (W0:=w) (F:=F) (X:=X) aY c _ _ _ _ _ (fun e s a w' hq ⟨bJ,bS⟩=>?_) BT ⟨_,hI⟩
 have key:qn Γ rs.toList r aB s->a.defers = []/\∃ v,(results fn a.tmps).run P w' = .ok v w'/\∃ v' β'',Ending.returned v = .returned v'/\ao w F X 1 ⟨[(0,r)],aB⟩ β'' ⟨#[v'],[]⟩ w':=by
  intro h
  rw [<- BS] at h
  obtain ⟨u,β'',h1,h2⟩:=tm aY tK bS h
  have hd:F.th = []:=fS.defers.symm
  have hF:{ F with th:=[] } = F:=by cases F; simp only at hd; subst hd; rfl
  rw [hF] at h2
  exact ⟨bS.defers.trans hd,u,h1,u,β'',rfl,h2⟩
 cases e with
 | normal=>exact key hq
 | ret=>exact key hq
 | _=>exact hq.elim
end
end Go.SX
end
section
namespace Go.SX
open Go.RowKit Go.WideShapes Go.ChangeShapes
theorem ca.below {w w':World} (h:ca (fun _=>False) w w'):Below w.heap.size w w':=⟨h.os,h.tape,h.output,h.size,fun k hk=>h.block k hk (fun f=>f)⟩
section
variable {H:Type} {enc:TypeId × Value->H} {P:Program}
theorem post_of_below {f : Func} {s : ChangeSpec} {apart fresh handsOn again : Bool} {W W' : World} {args : Array Value} {v : Value} {ds gs : List (DataW H)} {before pa pv : List MemPlace}
  (hW:DataW.Whole enc P f.params.toList s.vars apart W args.toList ds gs before)
  (UM:∀ (b:Nat) (sp:Nat->Bool) (hd:Bool),DataW.TrodAll enc P W' b sp hd f.resultTypes.toList (v.resultList f.resultTypes.size) (s.fn H (ds++gs)).results [])
  (dV:∀ sp:Nat->Bool,(∀ p ∈ before,sp p.block = true)->DataW.TrodAll enc P W' 0 sp true f.params.toList args.toList (s.fn H (ds++gs)).args pa)
  (Py:∀ sp:Nat->Bool,(∀ p ∈ before,sp p.block = true)->DataW.TrodVars enc P W' sp s.vars (s.fn H (ds++gs)).vars pv)
  (tW:before = pa++pv) (hb:Below W.heap.size W W')
  (rr:∀ (j:Nat) (t:TypeId) (r:Value),f.resultTypes[j]? = some t->(v.resultList f.resultTypes.size)[j]? = some r->Value.okWide P W' .any 0 t r) :
  s.post enc P f apart fresh handsOn again W args v W':=by
 have hlt:∀ p ∈ before,p.block < W.heap.size:=fun p hp=>hW.lt p hp
 have hold:∀ p ∈ before,(fun b=>decide (b < W.heap.size)) p.block = true:=fun p hp=>by simpa using hlt p hp
 refine ⟨ds,gs,before,[],pa,pv,hW,UM _ _ _,dV _ hold,Py _ hold,World.keptBut_mono (fun p hp=>⟨hp,?_⟩) (hb.frame (· ∈ before)),fun _=>?_⟩
 ·rw [tW,List.mem_append] at hp
  exact Or.inr hp
 ·obtain ⟨_,_,_,_,_,hz,hn⟩:=hW
  refine ⟨rr,_,_,([]++pa)++pv,⟨[]++pa,pv,trodAll_append (dV _ (fun _ _=>rfl)) (UM _ _ _),Py _ (fun _ _=>rfl),rfl,?_,?_⟩,?_⟩
  ·intro b off hp
   have ix:MemPlace.cell b off ∈ before:=by rw [tW]; simpa using hp
   rw [hb.frozen (hlt _ ix)]
   exact hz b off ix
  ·intro ha
   have:=hn ha
   rw [tW] at this
   simpa using this
  ·intro p hp _
   rw [tW]
   simpa using hp
end
end Go.SX
end
section
namespace Go.SX
variable [Globs]
open Go.RowKit Go.WideShapes Go.ChangeShapes Go.Deep
theorem mapM_at {α β:Type} {f:α->Option β}:∀ {l:List α} {r:List β},l.mapM f = some r->r.length = l.length/\∀ (j:Nat) x,l[j]? = some x->f x = r[j]?:=by
 intro l
 induction l with
 | nil=>intro r h; simp at h; subst h; exact ⟨rfl,fun j x h=>by simp at h⟩
 | cons a l ih =>
  intro r h
  simp only [List.mapM_cons,Option.bind_eq_bind,Option.bind_eq_some_iff] at h
  obtain ⟨b,hb,bs,hbs,h⟩:=h
  have h:b::bs = r:=by injection h
  subst h
  obtain ⟨h1,h2⟩:=ih hbs
  refine ⟨by simp [h1],fun j x hx=>?_⟩
  cases j with
  | zero=>simp at hx; subst hx; simpa using hb
  | succ j=>simpa using h2 j x (by simpa using hx)
section
variable {H:Type} {lV:TypeId × Value->H} {P:Program} {W:World} {sp:Nat->Bool} {hd:Bool} {O:Nat->Prop}

theorem wi {w:World} {base:Nat} {a:Addr} {n:Nat} {cs:List Value} (h:w.cells? base a n = some cs):cs.length = n/\∀ (j:Nat) v,cs[j]? = some v->w.cell? (a.add j) = some v:=by
 unfold World.cells? at h
 split at h
 ·obtain ⟨h1,h2⟩:=mapM_at h
  rw [List.length_range] at h1
  refine ⟨h1,fun j v hv=>?_⟩
  have hj:j < n:=by rw [<- h1]; exact (List.getElem?_eq_some_iff.1 hv).1
  rw [h2 j j (by simp [hj]),hv]
 ·cases h
theorem PU {a:Addr} {n:Nat} (h:(a.add n).spot = none):a.add n = ⟨a.block,a.off + n,none⟩:=by
 unfold Addr.add at h ⊢
 split
 ·rename_i h0
  rw [if_pos h0] at h
  obtain ⟨b,o,s⟩:=a
  simp only at h
  subst h h0
  rfl
 ·rfl
theorem mU {t:TypeId} {k:IntKind} {fuel:Nat} {cs:List Value} {x:DataW H × List MemPlace} (ht:P.underlying t = some (.int k)) (h:DataW.trod lV P W 0 sp hd fuel t cs = some x):∃ n,cs = [.int k n]/\Im O W (.i k n) (.int k n)/\(Lit.int k n).wf = true:=by
 obtain ⟨n,h1,_,h2⟩:=DataW.trod_int ht h
 exact ⟨n,h1,.i k n,h2⟩
theorem zk {t:TypeId} {fuel:Nat} {cs:List Value} {x:DataW H × List MemPlace} (ht:P.underlying t = some .bool) (h:DataW.trod lV P W 0 sp hd fuel t cs = some x):∃ b,cs = [.bool b]/\Im O W (.b b) (.bool b):=by
 obtain ⟨b,h1,_⟩:=DataW.trod_bool ht h
 exact ⟨b,h1,.b b⟩
end
theorem wf_i64 {n:Int} (h:(Lit.int .i64 n).wf = true):(-9223372036854775808:Int)<=n/\n<=(9223372036854775807:Int):=by
 simp only [Lit.wf,Bool.and_eq_true,decide_eq_true_eq] at h; exact h
theorem wf_u64 {n:Int} (h:(Lit.int .u64 n).wf = true):(0:Int)<=n/\n<=(18446744073709551615:Int):=by
 simp only [Lit.wf,Bool.and_eq_true,decide_eq_true_eq] at h; exact h
end Go.SX
end
section
namespace Go.SX
variable [Globs]
open Go.RowKit Go.WideShapes Go.ChangeShapes Go.Deep
section
variable {H:Type} {lV:TypeId × Value->H} {P:Program} {W:World} {sp:Nat->Bool} {hd:Bool} {O:Nat->Prop}
end
end Go.SX
end
section
namespace Go.SX
variable [Globs]
open Go.RowKit Go.WideShapes Go.ChangeShapes Go.Deep
inductive VB:aT->Prop
 | mk (v:aT):(-9223372036854775808<=v.kind/\v.kind<=9223372036854775807)->(-9223372036854775808<=v.n/\v.n<=9223372036854775807)->(0<=v.f/\v.f<=18446744073709551615)->(∀ x ∈ v.l,VB x)->(∀ p ∈ v.e,VB p.2)->VB v
section
variable {H:Type} {lV:TypeId × Value->H} {P:Program} {W:World} {sp:Nat->Bool} {hd:Bool} {O:Nat->Prop}
def eC (fs:Array Field) (i off:Nat) (t:TypeId):Prop:=∃ f,fs[i]? = some f/\f.offset = off/\f.type = t
structure VTy (P:Program) (V:TypeId) where
 (fs gs:Array Field) (K N U S L E En:TypeId)
 hV:P.underlying V = some (.struct fs)
 cV:P.cellsOf V = 6
 h0:eC fs 0 0 K
 h1:eC fs 1 1 N
 h2:eC fs 2 2 U
 h3:eC fs 3 3 S
 h4:eC fs 4 4 L
 h5:eC fs 5 5 E
 uK:P.underlying K = some (.int .i64)
 uN:P.underlying N = some (.int .i64)
 uU:P.underlying U = some (.int .u64)
 uS:P.underlying S = some .string
 uL:P.underlying L = some (.slice V)
 uE:P.underlying E = some (.slice En)
 c:P.cellsOf K = 1/\P.cellsOf N = 1/\P.cellsOf U = 1/\P.cellsOf S = 1/\P.cellsOf L = 1/\P.cellsOf E = 1
 hE:P.underlying En = some (.struct gs)
 cE:P.cellsOf En = 7
 g0:eC gs 0 0 S
 g1:eC gs 1 1 V
structure MTy (P:Program) (M:TypeId) where
 (fs:Array Field) (K Q S V:TypeId) (T:VTy P V)
 hM:P.underlying M = some (.struct fs)
 cM:P.cellsOf M = 10
 h0:eC fs 0 0 K
 h1:eC fs 1 1 Q
 h2:eC fs 2 2 S
 h3:eC fs 3 3 S
 h4:eC fs 4 4 V
 uK:P.underlying K = some (.int .i64)
 uQ:P.underlying Q = some (.slice S)
 uS:P.underlying S = some .string
 c:P.cellsOf K = 1/\P.cellsOf Q = 1/\P.cellsOf S = 1
structure KTy (P:Program) (L:TypeId) where
 (fs:Array Field) (K Q M:TypeId) (T:MTy P M)
 hL:P.underlying L = some (.struct fs)
 cL:P.cellsOf L = 3
 h0:eC fs 0 0 K
 h1:eC fs 1 1 K
 h2:eC fs 2 2 Q
 uK:P.underlying K = some (.int .i64)
 uQ:P.underlying Q = some (.slice M)
 c:P.cellsOf K = 1/\P.cellsOf Q = 1
end
end Go.SX
end
section
namespace Go.Ty
open Go Go.SX Go.Ck Go.Vl Go.Ut
set_option maxRecDepth 100000
section
variable {l:List az} {M:aH->Int} {U:ab->Prop}
theorem FJ {d:Nat} {es fs:a7} (h:iZ l 65536 es) (h1:iZ l d fs) (h2:dj d es fs):iZ l 65536 fs:=fun n e he hn=>by
 by_cases c:e < d
 ·exact h1 n e c hn
 ·rw [h2 n e (by omega) he]
  exact h n e he hn
theorem FK (d:Nat):iZ l d []:=fun _ _ _ _=>.inl rfl
theorem Ve (hM:Sound l M) (hs:kZ l M) (hl:∀ d ∈ l,GT l d.t) {t:ab} (hg:GT l t) {d:Nat} (h:di l (d + 1) t) (h2:¬ di l d t):bm M t = ((d + 1:Nat):Int):=by
 have h1:0 < bm M t/\bm M t<=((d + 1:Nat):Int):=(yW hM hs hl hg (d + 1)).2 h
 by_cases c:bm M t<=(d:Int)
 ·exact absurd ((yW hM hs hl hg d).1 ⟨h1.1,c⟩) h2
 ·omega
theorem Nj (hM:Sound l M) (hs:kZ l M) (hl:∀ d ∈ l,GT l d.t) {t:ab} (hg:GT l t) {n:Nat} (hn:bm M t<=(n:Int)) (h:¬ di l n t):bm M t = 0:=by
 have h0:=lH hM.1 t
 by_cases z:bm M t = 0
 ·exact z
 ·exact absurd ((yW hM hs hl hg n).1 ⟨by omega,hn⟩) h
end
/-! ### wQ many, wQ great -/
open Go.Df (nd nd_pos nd_eq)
structure Dl (U:ab->Prop) (K:Int) (w:qf):Prop where
 Ts:∀ t m,w t m true = (zeroV,m + 1,true)
 many:∀ t m,U t->0<=m->m<=2000->m + 1<=(w t m false).2.1/\(w t m false).2.1<=2001 + K/\((w t m false).2.2 = false->(w t m false).2.1<=2000)/\nd (w t m false).1<=(w t m false).2.1 - m/\VB (w t m false).1
theorem jJ:nd zeroV = 1:=by rw [nd_eq]; rfl
theorem jR:VB zeroV:=.mk _ ⟨by decide,by decide⟩ ⟨by decide,by decide⟩ ⟨by decide,by decide⟩ (fun _ h=>nomatch h) (fun _ h=>nomatch h)
theorem Dl.any {U : ab -> Prop} {K : Int} {w : qf} (h : Dl U K w) (hK : 0<=K) {t : ab} (ht : U t) {m : Int} (g : Bool) (h0 : 0<=m) (hg : g = false -> m<=2000) :
  m + 1<=(w t m g).2.1/\(w t m g).2.1<=max m (2001 + K) + (if g = true then 1 else 0)/\((w t m g).2.2 = false->(w t m g).2.1<=2000)/\nd (w t m g).1<=(w t m g).2.1 - m/\VB (w t m g).1:=by
 cases g with
 | true =>
  rw [h.Ts t m]
  refine ⟨Int.le_refl _,?_,fun h=>Bool.noConfusion (show true = false from h),?_,jR⟩
  ·show m + 1<=_; rw [if_pos rfl]; omega
  ·show nd zeroV<=m + 1 - m; rw [jJ]; omega
 | false =>
  obtain ⟨h1,h2,h3,h4,h5⟩:=h.many t m ht h0 (hg rfl)
  refine ⟨h1,?_,h3,h4,h5⟩
  rw [if_neg (by decide)]
  omega
section
variable {U:ab->Prop} {K:Int} {w:qf}
theorem Bn (h : Dl U K w) (hK : 0<=K) {y : ab} (hy : U y) : ∀ (k : Nat) (acc : List aT) (m : Int) (g : Bool), 0<=m -> (g = false -> m<=2000) -> (∀ v ∈ acc, VB v) ->
  m<=(qa w y k acc m g).2.1/\(qa w y k acc m g).2.1<=max m (2001 + K)/\((qa w y k acc m g).2.2 = false->(qa w y k acc m g).2.1<=2000)/\Df.cP (qa w y k acc m g).1<=Df.cP acc + ((qa w y k acc m g).2.1 - m)/\(∀ v ∈ (qa w y k acc m g).1,VB v)/\(qa w y k acc m g).1.length<=acc.length + k
 | 0,acc,m,g,h0,hg,hv=>by
  rw [qa]
  exact ⟨Int.le_refl _,by simp only; omega,hg,by simp only; omega,hv,Nat.le_refl _⟩
 | k + 1,acc,m,g,h0,hg,hv=>by
  rw [qa]
  by_cases c:g = true
  ·rw [if_pos c]
   exact ⟨Int.le_refl _,by simp only; omega,hg,by simp only; omega,hv,by simp only; omega⟩
  ·rw [if_neg c]
   have c:g = false:=by simpa using c
   subst c
   obtain ⟨h1,h2,h3,h4,h5⟩:=h.many y m hy h0 (hg rfl)
   obtain ⟨g1,g2,g3,g4,g5,g6⟩:=Bn h hK hy k (acc++[(w y m false).1]) (w y m false).2.1 (w y m false).2.2 (by omega) h3 (fun v hm=>by
    rcases List.mem_append.1 hm with hm | hm
    ·exact hv v hm
    ·rw [List.mem_singleton.1 hm]; exact h5)
   have e:Df.cP (acc++[(w y m false).1]) = Df.cP acc + nd (w y m false).1:=by rw [Df.vr,Df.dt]; show _ + (_ + 0) = _; omega
   rw [List.length_append,List.length_singleton] at g6
   exact ⟨by omega,by omega,g3,by omega,g5,by omega⟩
theorem xm (h : Dl U K w) (hK : 0<=K) {y : ab} (hy : U y) : ∀ (k : Nat) (acc : List aT) (m : Int) (g : Bool), 0<=m -> (g = false -> m<=2000) -> (∀ v ∈ acc, VB v) ->
  m<=(jV w y k acc m g).2.1/\(jV w y k acc m g).2.1<=max m (2001 + K) + k/\((jV w y k acc m g).2.2 = false->(jV w y k acc m g).2.1<=2000)/\Df.cP (jV w y k acc m g).1<=Df.cP acc + ((jV w y k acc m g).2.1 - m)/\(∀ v ∈ (jV w y k acc m g).1,VB v)/\(jV w y k acc m g).1.length<=acc.length + k
 | 0,acc,m,g,h0,hg,hv=>by
  rw [jV]
  exact ⟨Int.le_refl _,by simp only; omega,hg,by simp only; omega,hv,Nat.le_refl _⟩
 | k + 1,acc,m,g,h0,hg,hv=>by
  rw [jV]
  obtain ⟨h1,h2,h3,h4,h5⟩:=h.any hK hy g h0 hg
  obtain ⟨g1,g2,g3,g4,g5,g6⟩:=xm h hK hy k (acc++[(w y m g).1]) (w y m g).2.1 (w y m g).2.2 (by omega) h3 (fun v hm=>by
   rcases List.mem_append.1 hm with hm | hm
   ·exact hv v hm
   ·rw [List.mem_singleton.1 hm]; exact h5)
  have e:Df.cP (acc++[(w y m g).1]) = Df.cP acc + nd (w y m g).1:=by rw [Df.vr,Df.dt]; show _ + (_ + 0) = _; omega
  rw [List.length_append,List.length_singleton] at g6
  have TQ:(w y m g).2.1<=max m (2001 + K) + 1:=by
   cases g
   ·rw [if_neg (by decide)] at h2; omega
   ·rw [if_pos rfl] at h2; exact h2
  exact ⟨by omega,by omega,g3,by omega,g5,by omega⟩
theorem pO (h : Dl U K w) (hK : 0<=K) : ∀ (r : List gL) (acc : List kA) (m : Int) (g : Bool), (∀ f ∈ r, U f.t) -> 0<=m -> (g = false -> m<=2000) -> (∀ p ∈ acc, VB p.2) ->
  m<=(mK w r acc m g).2.1/\(mK w r acc m g).2.1<=max m (2001 + K) + r.length/\((mK w r acc m g).2.2 = false->(mK w r acc m g).2.1<=2000)/\Df.cP ((mK w r acc m g).1.map (·.2))<=Df.cP (acc.map (·.2)) + ((mK w r acc m g).2.1 - m)/\(∀ p ∈ (mK w r acc m g).1,VB p.2)/\(mK w r acc m g).1.length<=acc.length + r.length
 | [],acc,m,g,_,h0,hg,hv=>by
  rw [mK]
  exact ⟨Int.le_refl _,by simp only [List.length_nil]; omega,hg,by simp only; omega,hv,Nat.le_refl _⟩
 | f::r,acc,m,g,hu,h0,hg,hv=>by
  rw [mK]
  have iN:=fun q (hq:q ∈ r)=>hu q (.tail _ hq)
  by_cases a:gM f = true
  ·rw [if_pos a]
   obtain ⟨h1,h2,h3,h4,h5⟩:=h.any hK (hu f (.head _)) g h0 hg
   obtain ⟨g1,g2,g3,g4,g5,g6⟩:=pO h hK r (acc++[(f.name,(w f.t m g).1)]) (w f.t m g).2.1 (w f.t m g).2.2 iN (by omega) h3 (fun p hm=>by
    rcases List.mem_append.1 hm with hm | hm
    ·exact hv p hm
    ·rw [List.mem_singleton.1 hm]; exact h5)
   have e:Df.cP ((acc++[(f.name,(w f.t m g).1)]).map (·.2)) = Df.cP (acc.map (·.2)) + nd (w f.t m g).1:=by rw [List.map_append,Df.vr,List.map_singleton,Df.dt]; exact congrArg (fun z=>Df.cP (acc.map (·.2)) + z) (Int.add_zero (nd (w f.t m g).1))
   rw [List.length_append,List.length_singleton] at g6
   have TQ:(w f.t m g).2.1<=max m (2001 + K) + 1:=by
    cases g
    ·rw [if_neg (by decide)] at h2; omega
    ·rw [if_pos rfl] at h2; exact h2
   rw [List.length_cons]
   exact ⟨by omega,by omega,g3,by omega,g5,by omega⟩
  ·rw [if_neg a]
   obtain ⟨g1,g2,g3,g4,g5,g6⟩:=pO h hK r acc m g iN h0 hg hv
   rw [List.length_cons]
   exact ⟨g1,by omega,g3,g4,g5,by omega⟩
structure jz (U:ab->Prop) (x:ab):Prop where
 i4:x.kind = 4->x.lo<=x.hi/\(-9223372036854775808<=x.lo/\x.hi<=9223372036854775807)
 i8:x.kind = 8->0<=x.lo/\U (x.t.getD 0 (aD .typ))
 f:∀ f ∈ x.f,U f.t
 n:x.f.length<=200
theorem xu {k n:Int} {s:aH} {l:List aT} {e:List kA} (hk:0<=k/\k<=6) (hn : -9223372036854775808<=n/\n<=9223372036854775807) (hl:∀ x ∈ l,VB x) (he:∀ p ∈ e,VB p.2):VB ⟨k,n,0,s,l,e⟩ :=
 .mk _ ⟨by show _<=k; omega,by show k<=_; omega⟩ hn ⟨show (0:Int)<=0 by decide,show (0:Int)<=18446744073709551615 by decide⟩ hl he
theorem Ed (k n:Int) (f:Int) (s:aH):nd ⟨k,n,f,s,[],[]⟩ = 1:=by rw [nd_eq]; rfl
theorem QW (l:List aT):nd ⟨5,0,0,[],l,[]⟩ = 1 + Df.cP l:=by rw [nd_eq]; show 1 + Df.cP (l++[]) = _; rw [List.append_nil]
theorem QV (e:List kA):nd ⟨6,0,0,[],[],e⟩ = 1 + Df.cP (e.map (·.2)):=by rw [nd_eq]; rfl
theorem Tc:∀ x ∈ ([]:List aT),VB x:=fun _ h=>nomatch h
theorem Tb:∀ p ∈ ([]:List kA),VB p.2:=fun _ h=>nomatch h
theorem J9 {U : ab -> Prop} {K : Int} {w : qf} (h : Dl U K w) (hK : 0<=K) {x : ab} (hx : jz U x) {m : Int} (h0 : 0<=m) (hm : m<=2000) :
  m<=(oH w x m).2.1/\(oH w x m).2.1<=2001 + (K + 200)/\((oH w x m).2.2 = false->(oH w x m).2.1<=2000)/\nd (oH w x m).1<=(oH w x m).2.1 - m + 1/\VB (oH w x m).1:=by
 have leaf:∀ (k n:Int) (s:aH) (g:Bool),0<=k/\k<=6->-9223372036854775808<=n/\n<=9223372036854775807->m<=((⟨k,n,0,s,[],[]⟩,m,g):yX).2.1/\((⟨k,n,0,s,[],[]⟩,m,g):yX).2.1<=2001 + (K + 200)/\(((⟨k,n,0,s,[],[]⟩,m,g):yX).2.2 = false->((⟨k,n,0,s,[],[]⟩,m,g):yX).2.1<=2000)/\nd ((⟨k,n,0,s,[],[]⟩,m,g):yX).1<=((⟨k,n,0,s,[],[]⟩,m,g):yX).2.1 - m + 1/\VB ((⟨k,n,0,s,[],[]⟩,m,g):yX).1:=fun k n s g hk hn =>
  ⟨Int.le_refl _,by simp only; omega,fun _=>hm,by simp only [Ed]; omega,xu hk hn Tc Tb⟩
 unfold oH
 by_cases k3:x.kind = 3
 ·rw [if_pos k3]; exact leaf 1 0 [] false (by decide) (by decide)
 rw [if_neg k3]
 by_cases k4:x.kind = 4
 ·rw [if_pos k4]; have:=hx.i4 k4; exact leaf 2 _ [] false (by decide) (by omega)
 rw [if_neg k4]
 by_cases k5:x.kind = 5
 ·rw [if_pos k5]; exact leaf 3 0 [] false (by decide) (by decide)
 rw [if_neg k5]
 by_cases k6:x.kind = 6
 ·rw [if_pos k6]
  split
  ·exact leaf 0 0 [] true (by decide) (by decide)
  ·exact leaf 4 0 _ false (by decide) (by decide)
 rw [if_neg k6]
 by_cases k7:x.kind = 7
 ·rw [if_pos k7]; exact leaf 4 0 _ false (by decide) (by decide)
 rw [if_neg k7]
 by_cases k8:x.kind = 8
 ·rw [if_pos k8]
  obtain ⟨g1,g2,g3,g4,g5,g6⟩:=Bn h hK (hx.i8 k8).2 x.lo.toNat [] m (decide (200 < x.lo)) h0 (fun _=>hm) Tc
  refine ⟨g1,by simp only; omega,g3,?_,xu (by decide) (by decide) g5 Tb⟩
  simp only [QW]
  have e:Df.cP [] = 0:=rfl
  rw [e] at g4
  omega
 rw [if_neg k8]
 by_cases k9:x.kind = 9
 ·rw [if_pos k9]; exact leaf 6 0 [] false (by decide) (by decide)
 rw [if_neg k9]
 by_cases k10:x.kind = 10
 ·rw [if_pos k10]
  obtain ⟨g1,g2,g3,g4,g5,g6⟩:=pO h hK x.f [] m false hx.f h0 (fun _=>hm) Tb
  have hn:=hx.n
  refine ⟨g1,by simp only; omega,g3,?_,xu (by decide) (by decide) Tc g5⟩
  simp only [QV]
  have e:Df.cP (([]:List kA).map (·.2)) = 0:=rfl
  rw [e] at g4
  omega
 ·rw [if_neg k10]; exact leaf 0 0 [] false (by decide) (by decide)
theorem vb (C:ab->List ab) (R:ab->Int) {U:ab->Prop} (hC:∀ t,U t->∀ x ∈ C t,jz U x):∀ n:Nat,Dl U (200 * n) (GL C R n)
 | 0=>⟨fun _ _=>rfl,fun t m _ h0 hm=>by
  rw [GL]
  exact ⟨Int.le_refl _,by simp only; omega,fun h=>Bool.noConfusion (show true = false from h),by simp only [jJ]; omega,jR⟩⟩
 | n + 1=>⟨fun t m=>by rw [GL,if_pos (.inl rfl)],fun t m ht h0 hm=>by
  have ih:=vb C R hC n
  rw [GL]
  by_cases c:false = true\/2000 < m + 1
  ·rw [if_pos c]
   exact ⟨Int.le_refl _,by simp only; omega,fun h=>Bool.noConfusion (show true = false from h),by simp only [jJ]; omega,jR⟩
  ·rw [if_neg c]
   have c:m + 1<=2000:=by omega
   cases e:(C t).find? fun x=>R x == R t with
   | none=>exact ⟨Int.le_refl _,by simp only; omega,fun _=>c,by simp only [jJ]; omega,jR⟩
   | some x =>
    obtain ⟨h1,h2,h3,h4,h5⟩:=J9 ih (by omega) (hC t ht x (List.mem_of_find?_eq_some e)) (m:=m + 1) (by omega) c
    exact ⟨h1,by simp only at h2 ⊢; omega,h3,by simp only at h4 ⊢; omega,h5⟩⟩
end
end Go.Ty
end
section
namespace Go.Up
open Go.SX Go.Vl Go.Ut Go.Ck
theorem oh:∀ {a b c:aH},Op.bytesLess a b = true->Op.bytesLess b c = true->Op.bytesLess a c = true
 | _,[],[],_,h=>by simp [Op.bytesLess] at h
 | [],[],_::_,h,_=>by simp [Op.bytesLess] at h
 | _::_,[],_::_,h,_=>by simp [Op.bytesLess] at h
 | _,_::_,[],_,h=>by simp [Op.bytesLess] at h
 | [],_::_,_::_,_,_=>by simp [Op.bytesLess]
 | x::a,y::b,z::c,h1,h2=>by
  have ih:=@oh a b c
  simp only [Op.bytesLess,Bool.or_eq_true,decide_eq_true_eq,Bool.and_eq_true,beq_iff_eq] at h1 h2 ⊢
  rcases h1 with h1 | ⟨rfl,h1⟩
  ·rcases h2 with h2 | ⟨rfl,h2⟩
   ·exact .inl (UInt8.lt_trans h1 h2)
   ·exact .inl h1
  ·rcases h2 with h2 | ⟨rfl,h2⟩
   ·exact .inl h2
   ·exact .inr ⟨rfl,ih h1 h2⟩
theorem AZ {a b:Int} (h:iO a b = 0):a = 0/\b = 0:=by
 by_cases c:a = 0
 ·subst c; rw [aL] at h; exact ⟨rfl,h⟩
 ·rw [bE c] at h; exact absurd h c
theorem uh {a b:aH} (h:Op.bytesLess a b = true):a≠b:=fun e=>by rw [e,mw] at h; cases h
end Go.Up
end
section
namespace Go.Ty
open Go Go.SX Go.Ck Go.Vl Go.Ut
set_option maxRecDepth 100000
theorem AS:∀ (e:List aH) (q:Option aH),fy q e = 0->e.Pairwise (fun a b=>Op.bytesLess a b = true)/\∀ k,q = some k->∀ p ∈ e,Op.bytesLess k p = true
 | [],_,_=>⟨List.Pairwise.nil,fun _ _ p hp=>nomatch hp⟩
 | x::r,q,h=>by
  rw [fy] at h
  obtain ⟨h1,h2⟩:=Up.AZ h
  obtain ⟨h3,h4⟩:=AS r (some x) h2
  refine ⟨List.Pairwise.cons (fun p hp=>h4 x rfl p hp) h3,fun k hk=>?_⟩
  subst hk
  have hx:Op.bytesLess k x = true:=by
   unfold dG at h1
   by_cases c:100 < x.length
   ·rw [if_pos c] at h1; exact absurd h1 (by decide)
   ·rw [if_neg c] at h1
    by_cases d:0<=bad x
    ·rw [if_pos d] at h1; exact absurd h1 (by decide)
    ·rw [if_neg d] at h1
     simp only at h1
     by_cases b:Op.bytesLess k x = true
     ·exact b
     ·rw [if_neg b] at h1; exact absurd h1 (by decide)
  intro p hp
  rcases List.mem_cons.1 hp with rfl | hp
  ·exact hx
  ·exact Up.oh hx (h4 x rfl p hp)
theorem Hw {l:List az} (h:fy none (l.map (·.name)) = 0) {d:az} (hd:d ∈ l):0<=cq l d.name/\bo l d.name = d.t:=by
 have hp:=(AS _ _ h).1
 rw [List.pairwise_map] at hp
 have hlt:l.findIdx (fun x=>x.name == d.name) < l.length:=List.findIdx_lt_length_of_exists ⟨d,hd,by simp⟩
 have h0:cq l d.name = (l.findIdx (fun x=>x.name == d.name):Nat):=by unfold cq; rw [if_pos hlt]
 refine ⟨by omega,?_⟩
 have he:=List.findIdx_getElem (xs:=l) (p:=fun x=>x.name == d.name) (w:=hlt)
 have he:l[l.findIdx (fun x=>x.name == d.name)].name = d.name:=eq_of_beq he
 obtain ⟨j,hj,ej⟩:=List.getElem_of_mem hd
 have ME:l.findIdx (fun x=>x.name == d.name) = j:=by
  rcases Nat.lt_trichotomy (l.findIdx (fun x=>x.name == d.name)) j with c | c | c
  ·have:=List.pairwise_iff_getElem.1 hp _ j hlt hj c
   rw [he,ej] at this
   exact absurd rfl (Up.uh this)
  ·exact c
  ·have:=List.pairwise_iff_getElem.1 hp j _ hj hlt c
   rw [he,ej] at this
   exact absurd rfl (Up.uh this)
 unfold bo
 rw [h0,Int.toNat_natCast,List.getD_eq_getElem?_getD,List.getElem?_eq_getElem hlt]
 simp only [Option.getD_some,ME,ej]
theorem sI {l:List az} {t:ab} (h:eP l t = 0):dN t/\t.lo<=t.hi/\(t.kind≠4->0<=t.lo)/\(t.kind = 10->t.f.length<=200):=by
 unfold eP at h
 by_cases c:¬ dN t
 ·rw [if_pos c] at h; exact absurd h (by decide)
 rw [if_neg c] at h
 by_cases d:t.hi < t.lo\/(t.kind≠4/\t.lo < 0)
 ·rw [if_pos d] at h; exact absurd h (by decide)
 rw [if_neg d] at h
 refine ⟨by simpa using c,by omega,by omega,fun k=>?_⟩
 rw [if_neg (by omega),if_pos k] at h
 unfold iw at h
 by_cases e:200 < t.f.length
 ·rw [if_pos e] at h; exact absurd h (by decide)
 ·omega
theorem D8 {l:List az} {t:ab} (h:eP l t = 0):LT t:=fun k=>by
 obtain ⟨h1,_,h3,_⟩:=sI h
 unfold dN at h1
 refine ⟨h3 (by omega),fun e=>?_⟩
 have:=h1.2.2.2.1 (.inl k)
 rw [e] at this
 exact absurd this (by decide)
theorem Pd {l:List az} {U:ab->Prop} (hU:∀ t,U t->CT l t/\eP l t = 0) (hi:∀ t,U t->∀ x ∈ inside t,U x):∀ (k:Nat) (t:ab),SizeOf.sizeOf t < k->U t->GT l t
 | 0,_,h,_=>absurd h (Nat.not_lt_zero _)
 | k + 1,t,h,ht=>by
  obtain ⟨h1,h2⟩:=hU t ht
  cases h1 with
  | mk _ a1 a2 _=>exact .mk t a1 a2 (D8 h2) fun x hx=>Pd hU hi k x (by have:=bg hx; omega) (hi t ht x hx)
theorem sy {l:List az} {U:ab->Prop} (hi:∀ t,U t->∀ x ∈ inside t,U x) {x:ab} (hx:U x) (h:eP l x = 0) (hb : -9223372036854775808<=x.lo/\x.hi<=9223372036854775807):jz U x:=by
 obtain ⟨h1,h2,h3,h4⟩:=sI h
 refine ⟨fun _=>⟨h2,hb⟩,fun k=>⟨h3 (by omega),hi x hx _ (List.mem_append_left _ (lq (D8 h k).2))⟩,fun f hf=>hi x hx _ (List.mem_append_right _ (List.mem_map_of_mem hf)),?_⟩
 by_cases k:x.kind = 10
 ·exact h4 k
 ·have:=(h1.2.2.2.2.2.1).resolve_left k
  rw [this]
  exact Nat.zero_le _
end Go.Ty
end
section
namespace Go.Ty
open Go Go.SX Go.Ck Go.Vl Go.Ut
set_option maxRecDepth 100000
def vI:List az->a7->Bool->a7 × Bool
 | [],es,g=>(es,g)
 | d::r,es,g=>if bm (aG es) d.t≠aG es d.name then vI r (ib es d.name (bm (aG es) d.t)) true else vI r es g
def LD (l:List az):Nat->a7->a7
 | 0,es=>es
 | k + 1,es=>if (vI l es false).2 = true then LD l k (vI l es false).1 else (vI l es false).1
theorem Eb (es:a7) (n:aH) (v:Int):aG (ib es n v) = rN (aG es) n v:=by
 funext k
 rw [jH]
 rfl
theorem AL:aG [] = fun _=>0:=rfl
theorem w6 (es:a7) (k:aH) (v:Int):(ib es k v).map (·.1) = if k ∈ es.map (·.1) then es.map (·.1) else es.map (·.1)++[k]:=by
 induction es with
 | nil=>simp [ib,gS]
 | cons p r ih =>
  obtain ⟨a,u⟩:=p
  unfold ib at *
  rw [gS,gA]
  by_cases h:k = a
  ·rw [decide_eq_true h]
   simp [h]
  ·rw [decide_eq_false h]
   simp only [cond_false,List.map_cons,ih,List.mem_cons,h,false_or]
   split<;>simp
theorem qJ {α:Type}:∀ (l m:List α),l.Nodup->(∀ x ∈ l,x ∈ m)->l.length<=m.length
 | [],_,_,_=>Nat.zero_le _
 | x::l,m,hn,h=>by
  obtain ⟨h1,h2⟩:=List.nodup_cons.1 hn
  obtain ⟨s,t,rfl⟩:=List.append_of_mem (h x (.head _))
  have:=qJ l (s++t) h2 fun y hy=>by
   have hyx:y≠x:=fun e=>h1 (e ▸ hy)
   rcases List.mem_append.1 (h y (.tail _ hy)) with c | c
   ·exact List.mem_append_left _ c
   ·rcases List.mem_cons.1 c with e | c
    ·exact absurd e hyx
    ·exact List.mem_append_right _ c
  rw [List.length_append] at *
  rw [List.length_cons,List.length_cons]
  omega
def KI (l:List az) (es:a7):Prop:=(es.map (·.1)).Nodup/\∀ n ∈ es.map (·.1),n ∈ l.map (·.name)
theorem KI.len {l:List az} {es:a7} (h:KI l es):es.length<=l.length:=by
 have:=qJ _ _ h.1 h.2
 rw [List.length_map,List.length_map] at this
 exact this
theorem KI.nil (l:List az):KI l []:=⟨List.nodup_nil,fun _ h=>nomatch h⟩
theorem KI.set {l:List az} {es:a7} (h:KI l es) {d:az} (hd:d ∈ l) (v:Int):KI l (ib es d.name v):=by
 unfold KI
 rw [w6]
 split
 ·exact h
 ·rename_i c
  refine ⟨List.nodup_append.2 ⟨h.1,List.nodup_cons.2 ⟨by simp,List.nodup_nil⟩,fun a ha b hb e=>c ?_⟩,fun n hn=>?_⟩
  ·rw [List.mem_singleton.1 hb] at e
   rw [<- e]
   exact ha
  ·rcases List.mem_append.1 hn with hn | hn
   ·exact h.2 n hn
   ·rw [List.mem_singleton.1 hn]
    exact List.mem_map_of_mem hd
section
variable {l:List az} {T:Nat}
theorem pR (hl : ∀ d ∈ l, GT l d.t) (hu : ∀ d ∈ l, 0<=cq l d.name /\ bo l d.name = d.t) (hT : ∀ d ∈ l, gK d.t<=T) (DP : T<=201) (hlen : l.length<=50) : ∀ (r : List az) (es : a7) (g : Bool), (∀ d ∈ r, d ∈ l) -> Fair l T (aG es) ->
  Fair l T (aG (vI r es g).1)/\vF l (aG (vI r es g).1)<=vF l (aG es)/\(g = true->(vI r es g).2 = true)/\(g = false->(vI r es g).2 = true->vF l (aG (vI r es g).1) < vF l (aG es))/\((vI r es g).2 = false->(vI r es g).1 = es/\∀ d ∈ r,bm (aG es) d.t = aG es d.name)
 | [],es,g,_,h=>by
  rw [vI]
  exact ⟨h,Nat.le_refl _,id,(fun c1 c2=>by rw [c1] at c2; cases c2),fun _=>⟨rfl,fun _ h=>nomatch h⟩⟩
 | d::r,es,g,hr,h=>by
  have p8:=fun x (hx:x ∈ r)=>hr x (.tail _ hx)
  obtain ⟨u1,u2⟩:=hu d (hr d (.head _))
  rw [vI]
  by_cases c:bm (aG es) d.t≠aG es d.name
  ·rw [if_pos c]
   obtain ⟨f1,f2⟩:=wG hl hT DP hlen h u1
   rw [u2,<- Eb] at f1 f2
   have f3:=f2 c
   obtain ⟨g1,g2,g3,g4,g5⟩:=pR hl hu hT DP hlen r (ib es d.name (bm (aG es) d.t)) true p8 f1
   exact ⟨g1,by omega,fun _=>g3 rfl,fun _ _=>by omega,fun q=>by rw [g3 rfl] at q; cases q⟩
  ·rw [if_neg c]
   obtain ⟨g1,g2,g3,g4,g5⟩:=pR hl hu hT DP hlen r es g p8 h
   refine ⟨g1,g2,g3,g4,fun q=>⟨(g5 q).1,fun x hx=>?_⟩⟩
   rcases List.mem_cons.1 hx with rfl | hx
   ·simpa using c
   ·exact (g5 q).2 x hx
theorem AF (hl : ∀ d ∈ l, GT l d.t) (hu : ∀ d ∈ l, 0<=cq l d.name /\ bo l d.name = d.t) (hT : ∀ d ∈ l, gK d.t<=T) (DP : T<=201) (hlen : l.length<=50) : ∀ (k : Nat) (es : a7), vF l (aG es) < k -> Fair l T (aG es) ->
  Fair l T (aG (LD l k es))/\kZ l (aG (LD l k es))
 | 0,_,h,_=>absurd h (Nat.not_lt_zero _)
 | k + 1,es,h,hf=>by
  obtain ⟨g1,g2,g3,g4,g5⟩:=pR hl hu hT DP hlen l es false (fun _ h=>h) hf
  rw [LD]
  by_cases c:(vI l es false).2 = true
  ·rw [if_pos c]
   exact AF hl hu hT DP hlen k _ (by have:=g4 rfl c; omega) g1
  ·rw [if_neg c]
   obtain ⟨e1,e2⟩:=g5 (by simpa using c)
   rw [e1]
   refine ⟨hf,fun n hn=>?_⟩
   obtain ⟨d,hd,jg,ht⟩:=dy hn
   rw [<- ht,e2 d hd,jg]
end
end Go.Ty
end
