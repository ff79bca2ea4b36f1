/-
  A part of a proof: plain laws and walks, one after the other. No conditions.
-/
import Derived.WalkKit
import Derived.Lib.DecodeN
set_option linter.constructorNameAsVariable false
set_option linter.unusedVariables false
set_option linter.unusedSimpArgs false
set_option linter.unusedSectionVars false
namespace Go
theorem aN {a b : Prop} (x : a) (y : b) : a ∧ b := ⟨x, y⟩
theorem eX.{u} {α : Sort u} {p : α → Prop} (w : α) (h : p w) : Exists p := ⟨w, h⟩
theorem bN2 {a b c : Prop} (y : c) (h1 : a := by omega) (h2 : b := by omega) : (a ∧ b) ∧ c := ⟨⟨h1, h2⟩, y⟩
theorem bX {a c : Prop} (y : c) (h : a := by first | exact ⟨by omega, by omega⟩ | exact ⟨by omega, by omega, by omega⟩) : a ∧ c := ⟨h, y⟩
theorem wK {p : Prop} (h : p := by repeat' (first | exact trivial | exact Or.inl rfl | exact Or.inr (Or.inl ⟨rfl, _, rfl⟩) | exact Or.inr (Or.inr (Or.inr ⟨_, _, _, rfl, rfl⟩)) | refine And.intro ?_ ?_)) : p := h
theorem rL {p : Prop} (h : p := by repeat' (first | exact trivial | exact Or.inl rfl | exact Or.inr ⟨rfl, _, rfl⟩ | refine And.intro ?_ ?_)) : p := h
theorem wA {p : Prop} (h : p := by first | exact trivial | exact Or.inl rfl) : p := h
theorem bN3 {a b d c : Prop} (y : c) (h1 : a := by omega) (h2 : b := by omega) (h3 : d := by omega) : (a ∧ b ∧ d) ∧ c := ⟨⟨h1, h2, h3⟩, y⟩
theorem iF {A B X Y p q : Prop} (x : p → X) (y : q → Y) (hp : A = p := by first | ((conv => lhs; simp [-List.getD_eq_getElem?_getD, -Int.pred_toNat]); done) | ((conv => lhs; simp [-List.getD_eq_getElem?_getD, -Int.pred_toNat]); rfl) | rfl) (hq : B = q := by first | ((conv => lhs; simp [-List.getD_eq_getElem?_getD, -Int.pred_toNat]); done) | ((conv => lhs; simp [-List.getD_eq_getElem?_getD, -Int.pred_toNat]); rfl) | rfl) : (A → X) ∧ (B → Y) := ⟨fun h => x (hp ▸ h), fun h => y (hq ▸ h)⟩
theorem cX {p : Prop} (h : p := by exfalso; first | omega | contradiction) : p := h
end Go
section
namespace Go.SX
abbrev aH:=List UInt8
def aP (l:aH) (p:Nat):Nat × Nat:=Lib.decodeN (l.length - p) (l.getD p 0).toNat (l.getD (p + 1) 0).toNat (l.getD (p + 2) 0).toNat (l.getD (p + 3) 0).toNat
def fY (l:aH):Nat->Nat->List Int
 | 0,_=>[]
 | f + 1,i=>if i < l.length then ((aP l i).1:Int)::fY l f (i + (aP l i).2) else []
def cK (l:aH):List Int:=fY l l.length 0

structure Part where
 kind:Int
 n:Int
 s:aH
deriving Inhabited,DecidableEq
structure Token where
 kind:Int
 fr:Int
 to:Int
deriving Inhabited,DecidableEq
structure jy where
 key:aH
 i:Int
deriving Inhabited,DecidableEq
structure Atom where
 pos:Int
 c:Int
deriving Inhabited,DecidableEq
structure aT where
 kind:Int
 n:Int
 f:Int
 s:aH
 l:List aT
 e:List (aH × aT)
deriving Inhabited
structure Node where
 kind:Int
 fr:Int
 to:Int
 kids:List Node
deriving Inhabited
structure dk where
 v:aT
 aM:Int
deriving Inhabited
structure Move where
 kind:Int
 p:List aH
 key:aH
 to:aH
 v:aT
deriving Inhabited
structure Tl where
 fr:Int
 to:Int
 U7:List Move
deriving Inhabited

structure Ys where
 kind:Int
 p:List jy
 v:aT
 key:aH
deriving Inhabited

structure jw (T:Type) where
 name:aH
 opt:Bool
 du:Bool
 t:T
 aD:aT
deriving Inhabited
structure ab where
 kind:Int
 lo:Int
 hi:Int
 texts:List aH
 t:List ab
 f:List (jw ab)
 name:aH
deriving Inhabited
abbrev gL:=jw ab
structure az where
 name:aH
 t:ab
deriving Inhabited
structure SchemaR where
 defs:List az
 root:ab
deriving Inhabited
structure bD where
 t:ab
 bT:Int
deriving Inhabited
structure r6 where
 text:aH
 seen:Int
 IK:Bool
 Vr:List Part
 IJ:Bool
 held:List Part
deriving Inhabited
structure GP where
 km:Int
 c:List Part
deriving Inhabited
structure Yr where
 is:Bool
 v:aT
deriving Inhabited
structure Th where
 kind:Int
 km:Int
 c:List Part
deriving Inhabited
inductive Ty where
 | int | i64 | u32 | u64 | u8 | rune | o7 | bool | str | ints | part | token | val | dZ | node | ch | oo | atom | eH | move | link | op | SZ | typ | eJ | dfn | fK | parts | C8 | we | strs | km | ns | w9 | act | mb
deriving DecidableEq

@[reducible] def den:Ty->Type
  | .int | .i64 | .u32 | .u64 | .u8 | .rune | .o7=>Int
  | .bool=>Bool
  | .str=>aH
  | .ints=>List Int
  | .part=>Part
  | .token=>Token
  | .val=>aT
  | .dZ=>aH × aT
  | .node=>Node
  | .ch=>jy
  | .oo=>List jy
  | .atom=>Atom
  | .eH=>dk
  | .move=>Move
  | .link=>Tl
  | .op=>Ys
  | .SZ=>aH × Int
  | .typ=>ab
  | .eJ=>jw ab
  | .dfn=>az
  | .fK=>bD
  | .parts=>List Part
  | .C8=>List ab
  | .we=>List Bool
  | .strs=>List aH
  | .km=>r6
  | .ns=>r6
  | .w9=>GP
  | .act=>Th
  | .mb=>Yr

@[reducible] def aD:(τ:Ty)->den τ
  | .int | .i64 | .u32 | .u64 | .u8 | .rune | .o7=>(0:Int)
  | .bool=>false
  | .str=>([]:List UInt8)
  | .ints=>([]:List Int)
  | .part=>(default:Part)
  | .token=>(default:Token)
  | .val=>(default:aT)
  | .dZ=>(([],default):aH × aT)
  | .node=>(default:Node)
  | .ch=>(default:jy)
  | .oo=>([]:List jy)
  | .atom=>(default:Atom)
  | .eH=>(default:dk)
  | .move=>(default:Move)
  | .link=>(default:Tl)
  | .op=>(default:Ys)
  | .SZ=>(([],0):aH × Int)
  | .typ=>(default:ab)
  | .eJ=>(default:jw ab)
  | .dfn=>(default:az)
  | .fK=>(default:bD)
  | .parts=>([]:List Part)
  | .C8=>([]:List ab)
  | .we=>([]:List Bool)
  | .strs=>([]:List aH)
  | .km=>(default:r6)
  | .ns=>(default:r6)
  | .w9=>(default:GP)
  | .act=>(default:Th)
  | .mb=>(default:Yr)

inductive Ob where
 | sb (T e:TypeId) (l:aH)
 | it (s:aH) (pos:Nat)
 | mp (κ τ:Ty) (es:List (den κ × den τ))
 | nw (zs:List Value)
 | vw (τ:Ty) (l:List (den τ)) (a b:Nat)
 | ln (τ:Ty) (l:List (den τ))
 | gr (L:List (List Int)) (i:Nat) (row:List Int)
 | gp (L:List (List Int)) (i:Nat) (row:List Int) (n:Nat)

def Ob.n8:Ob->Bool
 | .gr .. => true
 | .gp .. => true
 | _=>false
inductive AV where
 | i (k:IntKind) (n:Int)
 | b (x:Bool)
 | s (x:aH)
 | nl
 | rd (τ:Ty) (l:List (den τ))
 | rp (cs:List AV)
 | pt (name off:Nat)
 | vec (id:Nat) (τ:Ty) (l:List (den τ))
 | vp (id:Nat) (τ:Ty) (l:List (den τ)) (n off:Nat)
 | agg (cs:List AV)
 | bc (cs:List AV)
 | fn (f:FuncId) (ak:List AV)
 | vs (id:Nat) (τ:Ty) (l:List (den τ)) (k:Nat)
 | ag (k:Nat) (cs:List AV)
 | ob (id aR:Nat) (o:Ob)
 | np
 | er (e:Option (TypeId × Option Int))
 | x

def ai (v:aT):List AV:=[.i .i64 v.kind,.i .i64 v.n,.i .u64 v.f,.s v.s,.rd .val v.l,.rd .dZ v.e]
def encTyp (t:ab):List AV:=[.i .i64 t.kind,.i .i64 t.lo,.i .i64 t.hi,.rd .str t.texts,.rd .typ t.t,.rd .eJ t.f,.s t.name]
def HA (f:jw ab):List AV:=.s f.name::.b f.opt::.b f.du::encTyp f.t++ai f.aD
def enc:(τ:Ty)->den τ->List AV
 | .int,n=>[.i .i64 n]
 | .i64,n=>[.i .i64 n]
 | .u32,n=>[.i .u32 n]
 | .u64,n=>[.i .u64 n]
 | .u8,n=>[.i .u8 n]
 | .rune,n=>[.i .i32 n]
 | .o7,n=>[.i .i64 n]
 | .bool,x=>[.b x]
 | .str,s=>[.s s]
 | .ints,l=>[.rd .int l]
 | .part,p=>[.i .i64 p.kind,.i .i64 p.n,.s p.s]
 | .token,t=>[.i .i64 t.kind,.i .i64 t.fr,.i .i64 t.to]
 | .val,v=>ai v
 | .dZ,e=>.s e.1::ai e.2
 | .node,n=>[.i .i64 n.kind,.i .i64 n.fr,.i .i64 n.to,.rd .node n.kids]
 | .ch,p=>[.s p.key,.i .i64 p.i]
 | .oo,l=>[.rd .ch l]
 | .atom,a=>[.i .i64 a.pos,.i .u8 a.c]
 | .eH,p=>ai p.v++[.i .i64 p.aM]
 | .move,m=>.i .i64 m.kind::.rd .str m.p::.s m.key::.s m.to::ai m.v
 | .link,k=>[.i .i64 k.fr,.i .i64 k.to,.rd .move k.U7]
 | .op,o=>.i .i64 o.kind::.rd .ch o.p::ai o.v++[.s o.key]
 | .SZ,p=>[.s p.1,.i .u64 p.2]
 | .typ,t=>encTyp t
 | .eJ,f=>HA f
 | .dfn,d=>.s d.name::encTyp d.t
 | .fK,p=>encTyp p.t++[.i .i64 p.bT]
 | .parts,l=>[.rd .part l]
 | .C8,l=>[.rd .typ l]
 | .we,l=>[.rd .bool l]
 | .strs,l=>[.rd .str l]
 | .km,c=>[.s c.text,.i .i64 c.seen,.b c.IK,.rd .part c.Vr,.b c.IJ,.rd .part c.held]
 | .ns,c=>[.s c.text,.i .i64 c.seen,.rd .part c.Vr,.rd .part c.held,.b c.IK,.b c.IJ]
 | .w9,n=>[.i .i64 n.km,.rd .part n.c]
 | .act,a=>[.i .i64 a.kind,.i .i64 a.km,.rd .part a.c]
 | .mb,m=>.b m.is::ai m.v
def aX:Ty->Nat
 | .int | .i64 | .u32 | .u64 | .u8 | .rune | .o7 | .bool | .str | .ints | .oo=>1
 | .part=>3
 | .token=>3
 | .val=>6
 | .dZ=>7
 | .node=>4
 | .ch=>2
 | .atom=>2
 | .eH=>7
 | .move=>10
 | .link=>3
 | .op=>9
 | .SZ=>2
 | .typ=>7
 | .eJ=>16
 | .dfn=>8
 | .fK=>8
 | .parts | .C8 | .we | .strs=>1
 | .km=>6
 | .ns=>6
 | .w9=>2
 | .act=>3
 | .mb=>7
theorem eh (τ:Ty) (x:den τ):(enc τ x).length = aX τ:=by cases τ<;>rfl
theorem gq (τ:Ty):0 < aX τ:=by cases τ<;>decide

def AV.plain:AV->Bool
 | .i .. | .b .. | .s .. | .nl | .rd .. => true
 | _=>false
theorem enc_plain (τ:Ty) (x:den τ):∀ av ∈ enc τ x,av.plain = true:=by
 cases τ<;>simp [enc,ai,encTyp,HA,AV.plain]

def AV.list (τ:Ty):AV->Option (List (den τ))
 | .nl=>some []
 | .rd σ l=>if h:σ = τ then some (h ▸ l) else none
 | _=>none
def AV.int (k:IntKind):AV->Option Int
 | .i k' n=>if k' = k then some n else none
 | _=>none
def AV.str:AV->Option aH
 | .s l=>some l
 | _=>none
def AV.bool:AV->Option Bool
 | .b t=>some t
 | _=>none
def mc:List AV->Option aT
 | [a,b,c,d,e,f]=>(a.int .i64).bind fun k=>(b.int .i64).bind fun n=>(c.int .u64).bind fun g=>d.str.bind fun s=>(e.list .val).bind fun l=>(f.list .dZ).bind fun m=>some ⟨k,n,g,s,l,m⟩
 | _=>none
def qm:List AV->Option ab
 | [a,b,c,d,e,f,g]=>(a.int .i64).bind fun k=>(b.int .i64).bind fun n=>(c.int .i64).bind fun m=>(d.list .str).bind fun s=>(e.list .typ).bind fun l=>(f.list .eJ).bind fun q=>g.str.bind fun x=>some ⟨k,n,m,s,l,q,x⟩
 | _=>none
def one {α:Type} (f:AV->Option α):List AV->Option α
 | [v]=>f v
 | _=>none
def dec:(τ:Ty)->List AV->Option (den τ)
 | .int,cs=>one (AV.int .i64) cs
 | .i64,cs=>one (AV.int .i64) cs
 | .u32,cs=>one (AV.int .u32) cs
 | .u64,cs=>one (AV.int .u64) cs
 | .u8,cs=>one (AV.int .u8) cs
 | .rune,cs=>one (AV.int .i32) cs
 | .o7,cs=>one (AV.int .i64) cs
 | .bool,cs=>one AV.bool cs
 | .str,cs=>one AV.str cs
 | .ints,cs=>one (AV.list .int) cs
 | .oo,cs=>one (AV.list .ch) cs
 | .part,cs=>match cs with
  | [a,b,c]=>(a.int .i64).bind fun k=>(b.int .i64).bind fun n=>c.str.bind fun s=>some ⟨k,n,s⟩
  | _=>none
 | .token,cs=>match cs with
  | [a,b,c]=>(a.int .i64).bind fun k=>(b.int .i64).bind fun f=>(c.int .i64).bind fun t=>some ⟨k,f,t⟩
  | _=>none
 | .val,cs=>mc cs
 | .dZ,cs=>match cs with
  | k::cs=>k.str.bind fun k=>(mc cs).bind fun v=>some (k,v)
  | _=>none
 | .node,cs=>match cs with
  | [a,b,c,d]=>(a.int .i64).bind fun k=>(b.int .i64).bind fun f=>(c.int .i64).bind fun t=>(d.list .node).bind fun l=>some ⟨k,f,t,l⟩
  | _=>none
 | .ch,cs=>match cs with
  | [a,b]=>a.str.bind fun k=>(b.int .i64).bind fun n=>some ⟨k,n⟩
  | _=>none
 | .SZ,cs=>match cs with
  | [a,b]=>a.str.bind fun k=>(b.int .u64).bind fun n=>some (k,n)
  | _=>none
 | .atom,cs=>match cs with
  | [a,b]=>(a.int .i64).bind fun p=>(b.int .u8).bind fun c=>some ⟨p,c⟩
  | _=>none
 | .eH,cs=>match cs with
  | [a,b,c,d,e,f,g]=>(mc [a,b,c,d,e,f]).bind fun v=>(g.int .i64).bind fun n=>some ⟨v,n⟩
  | _=>none
 | .typ,cs=>qm cs
 | .eJ,cs=>match cs with
  | a::b::c::d::e::f::g::h::i::j::r=>a.str.bind fun n=>b.bool.bind fun o=>c.bool.bind fun p=>(qm [d,e,f,g,h,i,j]).bind fun t=>(mc r).bind fun v=>some ⟨n,o,p,t,v⟩
  | _=>none
 | .dfn,cs=>match cs with
  | a::r=>a.str.bind fun n=>(qm r).bind fun t=>some ⟨n,t⟩
  | _=>none
 | .fK,cs=>match cs with
  | [a,b,c,d,e,f,g,h]=>(qm [a,b,c,d,e,f,g]).bind fun t=>(h.int .i64).bind fun n=>some ⟨t,n⟩
  | _=>none
 | .parts,cs=>one (AV.list .part) cs
 | .C8,cs=>one (AV.list .typ) cs
 | .we,cs=>one (AV.list .bool) cs
 | .strs,cs=>one (AV.list .str) cs
 | .km,cs=>match cs with
  | [a,b,c,d,e,f]=>a.str.bind fun x=>(b.int .i64).bind fun n=>c.bool.bind fun i=>(d.list .part).bind fun l=>e.bool.bind fun j=>(f.list .part).bind fun m=>some ⟨x,n,i,l,j,m⟩
  | _=>none
 | .ns,cs=>match cs with
  | [a,b,d,f,c,e]=>a.str.bind fun x=>(b.int .i64).bind fun n=>c.bool.bind fun i=>(d.list .part).bind fun l=>e.bool.bind fun j=>(f.list .part).bind fun m=>some ⟨x,n,i,l,j,m⟩
  | _=>none
 | .w9,cs=>match cs with
  | [a,b]=>(a.int .i64).bind fun n=>(b.list .part).bind fun l=>some ⟨n,l⟩
  | _=>none
 | .act,cs=>match cs with
  | [a,b,c]=>(a.int .i64).bind fun k=>(b.int .i64).bind fun n=>(c.list .part).bind fun l=>some ⟨k,n,l⟩
  | _=>none
 | .mb,cs=>match cs with
  | a::cs=>a.bool.bind fun i=>(mc cs).bind fun v=>some ⟨i,v⟩
  | _=>none
 | .move,_=>none
 | .link,cs=>match cs with
  | [a,b,c]=>(a.int .i64).bind fun f=>(b.int .i64).bind fun t=>(c.list .move).bind fun l=>some ⟨f,t,l⟩
  | _=>none
 | .op,cs=>match cs with
  | [a,b,c,d,e,f,g,h,i]=>(a.int .i64).bind fun k=>(b.list .ch).bind fun p=>(mc [c,d,e,f,g,h]).bind fun v=>i.str.bind fun s=>some ⟨k,p,v,s⟩
  | _=>none

def vJ (c e:AV):Prop:=c = e\/(c = .nl/\∃ σ,e = .rd σ [])
def eV:List AV->List AV->Prop
 | [],[]=>True
 | a::r,b::t=>vJ a b/\eV r t
 | _,_=>False
theorem AV.dr {τ:Ty} {v:AV} {l:List (den τ)} (h:v.list τ = some l):vJ v (.rd τ l):=by
 cases v with
 | nl=>injection h with h; subst h; exact .inr ⟨rfl,τ,rfl⟩
 | rd σ m =>
  simp only [AV.list] at h
  split at h
  ·rename_i e; subst e; injection h with h; subst h; exact .inl rfl
  ·cases h
 | _=>cases h
theorem AV.bU {k:IntKind} {v:AV} {n:Int} (h:v.int k = some n):vJ v (.i k n):=by
 cases v with
 | i k' m =>
  simp only [AV.int] at h
  split at h
  ·rename_i e; subst e; injection h with h; subst h; exact .inl rfl
  ·cases h
 | _=>cases h
theorem AV.iX {v:AV} {l:aH} (h:v.str = some l):vJ v (.s l):=by
 cases v with
 | s m=>injection h with h; subst h; exact .inl rfl
 | _=>cases h
theorem AV.jW {v:AV} {t:Bool} (h:v.bool = some t):vJ v (.b t):=by
 cases v with
 | b m=>injection h with h; subst h; exact .inl rfl
 | _=>cases h
theorem jn {cs:List AV} {v:aT} (h:mc cs = some v):eV cs (ai v):=by
 unfold mc at h
 split at h
 ·simp only [Option.bind_eq_some_iff,Option.some.injEq] at h
  obtain ⟨k,hk,n,hn,g,hg,s,hs,l,hl,m,hm,rfl⟩:=h
  exact ⟨AV.bU hk,AV.bU hn,AV.bU hg,AV.iX hs,AV.dr hl,AV.dr hm,trivial⟩
 ·cases h
theorem m7 {cs:List AV} {v:ab} (h:qm cs = some v):eV cs (encTyp v):=by
 unfold qm at h
 split at h
 ·simp only [Option.bind_eq_some_iff,Option.some.injEq] at h
  obtain ⟨k,hk,n,hn,g,hg,s,hs,l,hl,m,hm,x,hx,rfl⟩:=h
  exact ⟨AV.bU hk,AV.bU hn,AV.bU hg,AV.dr hs,AV.dr hl,AV.dr hm,AV.iX hx,trivial⟩
 ·cases h
theorem one_le {α:Type} {f:AV->Option α} {g:α->AV} (hf:∀ v x,f v = some x->vJ v (g x)) {cs:List AV} {x:α} (h:one f cs = some x):eV cs [g x]:=by
 unfold one at h
 split at h
 ·exact ⟨hf _ _ h,trivial⟩
 ·cases h
theorem eV.append {a b c d:List AV} (h:eV a b) (k:eV c d):eV (a++c) (b++d):=by
 induction a generalizing b with
 | nil=>cases b with
  | nil=>exact k
  | cons _ _=>exact h.elim
 | cons z r ih=>cases b with
  | nil=>exact h.elim
  | cons y t=>exact ⟨h.1,ih h.2⟩
theorem lj {τ:Ty} {cs:List AV} {x:den τ} (h:dec τ cs = some x):eV cs (enc τ x):=by
 cases τ with
 | int=>exact one_le (fun _ _=>AV.bU) h
 | i64=>exact one_le (fun _ _=>AV.bU) h
 | u32=>exact one_le (fun _ _=>AV.bU) h
 | u64=>exact one_le (fun _ _=>AV.bU) h
 | u8=>exact one_le (fun _ _=>AV.bU) h
 | rune=>exact one_le (fun _ _=>AV.bU) h
 | o7=>exact one_le (fun _ _=>AV.bU) h
 | bool=>exact one_le (fun _ _=>AV.jW) h
 | str=>exact one_le (fun _ _=>AV.iX) h
 | ints=>exact one_le (fun _ _=>AV.dr) h
 | oo=>exact one_le (fun _ _=>AV.dr) h
 | part =>
  simp only [dec] at h
  split at h
  ·simp only [Option.bind_eq_some_iff,Option.some.injEq] at h
   obtain ⟨k,hk,n,hn,s,hs,rfl⟩:=h
   exact ⟨AV.bU hk,AV.bU hn,AV.iX hs,trivial⟩
  ·cases h
 | token =>
  simp only [dec] at h
  split at h
  ·simp only [Option.bind_eq_some_iff,Option.some.injEq] at h
   obtain ⟨k,hk,n,hn,s,hs,rfl⟩:=h
   exact ⟨AV.bU hk,AV.bU hn,AV.bU hs,trivial⟩
  ·cases h
 | val=>exact jn h
 | dZ =>
  simp only [dec] at h
  split at h
  ·simp only [Option.bind_eq_some_iff,Option.some.injEq] at h
   obtain ⟨k,hk,v,hv,rfl⟩:=h
   exact ⟨AV.iX hk,jn hv⟩
  ·cases h
 | node =>
  simp only [dec] at h
  split at h
  ·simp only [Option.bind_eq_some_iff,Option.some.injEq] at h
   obtain ⟨k,hk,n,hn,s,hs,l,hl,rfl⟩:=h
   exact ⟨AV.bU hk,AV.bU hn,AV.bU hs,AV.dr hl,trivial⟩
  ·cases h
 | ch =>
  simp only [dec] at h
  split at h
  ·simp only [Option.bind_eq_some_iff,Option.some.injEq] at h
   obtain ⟨k,hk,n,hn,rfl⟩:=h
   exact ⟨AV.iX hk,AV.bU hn,trivial⟩
  ·cases h
 | SZ =>
  simp only [dec] at h
  split at h
  ·simp only [Option.bind_eq_some_iff,Option.some.injEq] at h
   obtain ⟨k,hk,n,hn,rfl⟩:=h
   exact ⟨AV.iX hk,AV.bU hn,trivial⟩
  ·cases h
 | atom =>
  simp only [dec] at h
  split at h
  ·simp only [Option.bind_eq_some_iff,Option.some.injEq] at h
   obtain ⟨k,hk,n,hn,rfl⟩:=h
   exact ⟨AV.bU hk,AV.bU hn,trivial⟩
  ·cases h
 | eH =>
  simp only [dec] at h
  split at h
  ·simp only [Option.bind_eq_some_iff,Option.some.injEq] at h
   obtain ⟨k,hk,n,hn,rfl⟩:=h
   exact eV.append (jn hk) (show eV [_] [_] from ⟨AV.bU hn,trivial⟩)
  ·cases h
 | typ=>exact m7 h
 | eJ =>
  simp only [dec] at h
  split at h
  ·simp only [Option.bind_eq_some_iff,Option.some.injEq] at h
   obtain ⟨n,hn,o,ho,p,hp,t,ht,v,hv,rfl⟩:=h
   exact ⟨AV.iX hn,AV.jW ho,AV.jW hp,eV.append (m7 ht) (jn hv)⟩
  ·cases h
 | dfn =>
  simp only [dec] at h
  split at h
  ·simp only [Option.bind_eq_some_iff,Option.some.injEq] at h
   obtain ⟨n,hn,t,ht,rfl⟩:=h
   exact ⟨AV.iX hn,m7 ht⟩
  ·cases h
 | fK =>
  simp only [dec] at h
  split at h
  ·simp only [Option.bind_eq_some_iff,Option.some.injEq] at h
   obtain ⟨t,ht,n,hn,rfl⟩:=h
   exact eV.append (m7 ht) (show eV [_] [_] from ⟨AV.bU hn,trivial⟩)
  ·cases h
 | parts=>exact one_le (fun _ _=>AV.dr) h
 | C8=>exact one_le (fun _ _=>AV.dr) h
 | we=>exact one_le (fun _ _=>AV.dr) h
 | strs=>exact one_le (fun _ _=>AV.dr) h
 | km =>
  simp only [dec] at h
  split at h
  ·simp only [Option.bind_eq_some_iff,Option.some.injEq] at h
   obtain ⟨x,hx,n,hn,i,hi,l,hl,j,hj,m,hm,rfl⟩:=h
   exact ⟨AV.iX hx,AV.bU hn,AV.jW hi,AV.dr hl,AV.jW hj,AV.dr hm,trivial⟩
  ·cases h
 | ns =>
  simp only [dec] at h
  split at h
  ·simp only [Option.bind_eq_some_iff,Option.some.injEq] at h
   obtain ⟨x,hx,n,hn,i,hi,l,hl,j,hj,m,hm,rfl⟩:=h
   exact ⟨AV.iX hx,AV.bU hn,AV.dr hl,AV.dr hm,AV.jW hi,AV.jW hj,trivial⟩
  ·cases h
 | w9 =>
  simp only [dec] at h
  split at h
  ·simp only [Option.bind_eq_some_iff,Option.some.injEq] at h
   obtain ⟨n,hn,l,hl,rfl⟩:=h
   exact ⟨AV.bU hn,AV.dr hl,trivial⟩
  ·cases h
 | act =>
  simp only [dec] at h
  split at h
  ·simp only [Option.bind_eq_some_iff,Option.some.injEq] at h
   obtain ⟨k,hk,n,hn,l,hl,rfl⟩:=h
   exact ⟨AV.bU hk,AV.bU hn,AV.dr hl,trivial⟩
  ·cases h
 | mb =>
  simp only [dec] at h
  split at h
  ·simp only [Option.bind_eq_some_iff,Option.some.injEq] at h
   obtain ⟨i,hi,v,hv,rfl⟩:=h
   exact ⟨AV.jW hi,jn hv⟩
  ·cases h
 | move=>cases h
 | link =>
  simp only [dec] at h
  split at h
  ·simp only [Option.bind_eq_some_iff,Option.some.injEq] at h
   obtain ⟨k,hk,n,hn,s,hs,rfl⟩:=h
   exact ⟨AV.bU hk,AV.bU hn,AV.dr hs,trivial⟩
  ·cases h
 | op =>
  simp only [dec] at h
  split at h
  ·simp only [Option.bind_eq_some_iff,Option.some.injEq] at h
   obtain ⟨k,hk,l,hl,y,hy,s,hs,rfl⟩:=h
   exact ⟨AV.bU hk,AV.dr hl,eV.append (jn hy) (show eV [_] [_] from ⟨AV.iX hs,trivial⟩)⟩
  ·cases h
end Go.SX
end
section
namespace Go.SX

def All2 {α β:Type} (R:α->β->Prop) (xs:List α) (bs:List β):Prop :=
 xs.length = bs.length/\∀ (j:Nat) a b,xs[j]? = some a->bs[j]? = some b->R a b
theorem All2.nil {α β:Type} (R:α->β->Prop):All2 R [] []:=⟨rfl,fun _ _ _ h=>by simp at h⟩
theorem All2.cons {α β:Type} {R:α->β->Prop} {a:α} {b:β} {xs:List α} {bs:List β} (h:R a b) (t:All2 R xs bs):All2 R (a::xs) (b::bs):=by
 refine ⟨by simp [t.1],fun j x y hx hy=>?_⟩
 cases j with
 | zero=>simp at hx hy; subst hx hy; exact h
 | succ j=>simp at hx hy; exact t.2 j x y hx hy
theorem All2.head {α β:Type} {R:α->β->Prop} {a:α} {b:β} {xs:List α} {bs:List β} (h:All2 R (a::xs) (b::bs)):R a b:=h.2 0 a b rfl rfl
theorem All2.tail {α β:Type} {R:α->β->Prop} {a:α} {b:β} {xs:List α} {bs:List β} (h:All2 R (a::xs) (b::bs)):All2 R xs bs :=
 ⟨by simpa using h.1,fun j x y hx hy=>h.2 (j + 1) x y (by simpa using hx) (by simpa using hy)⟩
theorem All2.mono {α β:Type} {R R':α->β->Prop} {xs:List α} {bs:List β} (h:All2 R xs bs) (hr:∀ (j:Nat) a b,xs[j]? = some a->R a b->R' a b):All2 R' xs bs :=
 ⟨h.1,fun j a b ha hb=>hr j a b ha (h.2 j a b ha hb)⟩
theorem All2.cons_inv {α β:Type} {R:α->β->Prop} {a:α} {xs:List α} {bs:List β} (h:All2 R (a::xs) bs):∃ b bs',bs = b::bs'/\R a b/\All2 R xs bs':=by
 cases bs with
 | nil=>simp [All2] at h
 | cons b bs'=>exact ⟨b,bs',rfl,h.head,h.tail⟩
theorem All2.iz {α β:Type} {R:α->β->Prop} {bs:List β} (h:All2 R [] bs):bs = []:=by
 cases bs with
 | nil=>rfl
 | cons b bs'=>simp [All2] at h

structure ca (O:Nat->Prop) (w w':World):Prop where
 os:w'.os = w.os
 tape:w'.tape = w.tape
 output:w'.output = w.output
 size:w.heap.size<=w'.heap.size
 block:∀ k,k < w.heap.size->¬ O k->w'.heap[k]? = w.heap[k]?
theorem ca.refl (O:Nat->Prop) (w:World):ca O w w:=⟨rfl,rfl,rfl,Nat.le_refl _,fun _ _ _=>rfl⟩
theorem ca.trans {O O':Nat->Prop} {a b c:World} (h:ca O a b) (k:ca O' b c) (hO:∀ k,k < a.heap.size->O' k->O k):ca O a c :=
 ⟨k.os.trans h.os,k.tape.trans h.tape,k.output.trans h.output,Nat.le_trans h.size k.size,
  fun i hi ho=>(k.block i (Nat.lt_of_lt_of_le hi h.size) (fun h'=>ho (hO i hi h'))).trans (h.block i hi ho)⟩
theorem ca.mono {O O':Nat->Prop} {a b:World} (h:ca O a b) (hO:∀ k,k < a.heap.size->O k->O' k):ca O' a b :=
 ⟨h.os,h.tape,h.output,h.size,fun i hi ho=>h.block i hi (fun h'=>ho (hO i hi h'))⟩
theorem ca.cell {O:Nat->Prop} {w w':World} (h:ca O w w') {g o:Nat} {v:Value} (hO:¬ O g) (hc:w.cell? ⟨g,o,none⟩ = some v):w'.cell? ⟨g,o,none⟩ = some v:=by
 have hlt:g < w.heap.size:=World.block_lt_of_cell? w ⟨g,o,none⟩ hc
 rw [World.cell?_of_block (w:=w) (a:=⟨g,o,none⟩) (h.block g hlt hO)]
 exact hc

def bQ:List AV->Bool
 | .np::_=>true
 | _=>false
def BQ (ak:List AV) (f:FuncId) (vs:List Value):Value:=match bQ ak with
 | true=>.func (.func f) (vs.drop 1).toArray #[]
 | false=>.func (.func f) #[] vs.toArray
theorem tv {c d:List AV} (h:bQ c = bQ d) (f:FuncId) (vs:List Value):BQ c f vs = BQ d f vs:=by unfold BQ; rw [h]
theorem Mn (c:List AV) (f:FuncId) (vs:List Value):(BQ c f vs).oneCell' = true:=by
 unfold BQ
 cases bQ c<;>rfl
theorem Fs (c:List AV) (f:FuncId) (vs:List Value):(BQ c f vs).cells = #[BQ c f vs]:=by
 unfold BQ
 cases bQ c<;>rfl
def gn (vs ak:List AV):List AV:=match ak with
 | .np::fs=>fs++vs
 | _=>vs++ak
def s4 (ak:List AV) (us lY:List Value):List Value:=match bQ ak with
 | true=>lY.drop 1++us
 | false=>us++lY
inductive Im (O:Nat->Prop) (w:World):AV->Value->Prop where
 | i (k:IntKind) (n:Int):Im O w (.i k n) (.int k n)
 | b (x:Bool):Im O w (.b x) (.bool x)
 | s (l:aH):l.length<=maxLen->Im O w (.s l) (.string ⟨l.toArray⟩)
 | nl:Im O w .nl (.slice none 0 0)
 | uR (τ:Ty) (a:Option Addr) (c:Nat):c<=maxLen->Im O w (.rd τ []) (.slice a 0 c)
 | rd (τ : Ty) (l : List (den τ)) (g o c : Nat) (u : Nat -> Nat -> Value) : ¬ O g -> l.length<=c -> c<=maxLen -> l ≠ [] ->
   (∀ (i:Nat) x (j:Nat) av,l[i]? = some x->(enc τ x)[j]? = some av->w.cell? ⟨g,o + (i * aX τ + j),none⟩ = some (u i j)) ->
   (∀ (i:Nat) x (j:Nat) av,l[i]? = some x->(enc τ x)[j]? = some av->Im O w av (u i j)) ->
   Im O w (.rd τ l) (.slice (some ⟨g,o,none⟩) l.length c)
 | agg (cs:List AV) (vs:List Value):cs.length = vs.length->(∀ v ∈ vs,v.oneCell' = true)->(∀ (j:Nat) av v,cs[j]? = some av->vs[j]? = some v->Im O w av v)->Im O w (.agg cs) (.agg vs.toArray)
 | bc (cs:List AV) (vs:List Value):cs.length = vs.length->(∀ (j:Nat) av v,cs[j]? = some av->vs[j]? = some v->Im O w av v)->Im O w (.bc cs) (.tuple vs.toArray)
 | rp (cs : List AV) (g o : Nat) (u : Nat -> Value) : (∀ (j : Nat) av, cs[j]? = some av -> ¬ O g /\ w.cell? ⟨g, o + j, none⟩ = some (u j) /\ (u j).oneCell' = true) ->
   (∀ (j:Nat) av,cs[j]? = some av->Im O w av (u j))->Im O w (.rp cs) (.pointer (some ⟨g,o,none⟩))
 | fn (f:FuncId) (ak:List AV) (vs:List Value):ak.length = vs.length->(∀ (j:Nat) av v,ak[j]? = some av->vs[j]? = some v->Im O w av v)->Im O w (.fn f ak) (BQ ak f vs)
 | np:Im O w .np (.pointer none)
 | Qb:Im O w (.er none) .nilIface
 | Qc (t:TypeId) (n:Int):Im O w (.er (some (t,some n))) (.iface t (.int .i64 n))
 | Mj (t:TypeId) (v:Value):Im O w (.er (some (t,none))) (.iface t v)
 | x (v:Value):Im O w .x v

theorem plain_one {O:Nat->Prop} {w:World} {c:AV} {u:Value} (h:Im O w c u) (hp:c.plain = true):u.oneCell' = true:=by
 cases h<;>first | rfl | (cases hp)

theorem Im.step {O O' : Nat -> Prop} {w w' : World} {av : AV} {v : Value} (h : Im O w av v) {Ow : Nat -> Prop} (hs : ca Ow w w') (hw : ∀ k, k < w.heap.size -> Ow k -> O k)
  (hO:∀ k,k < w.heap.size->O' k->O k):Im O' w' av v:=by
 induction h with
 | i k n=>exact .i k n
 | b x=>exact .b x
 | s l h=>exact .s l h
 | nl=>exact .nl
 | uR τ a c h=>exact .uR τ a c h
 | rd τ l g o c u hg hc hm da gR _ ih =>
  have hlt:g < w.heap.size:=by
   cases l with
   | nil=>exact absurd rfl da
   | cons x l =>
    have h0:(enc τ x)[0]? = some ((enc τ x)[0]'(by rw [eh]; exact gq τ)):=List.getElem?_eq_getElem _
    exact World.block_lt_of_cell? w ⟨g,_,none⟩ (gR 0 x 0 _ rfl h0)
  exact .rd τ l g o c u (fun h'=>hg (hO g hlt h')) hc hm da (fun i x j av hx ck=>hs.cell (fun h'=>hg (hw g hlt h')) (gR i x j av hx ck)) ih
 | agg cs vs hl ho _ ih=>exact .agg cs vs hl ho ih
 | bc cs vs hl _ ih=>exact .bc cs vs hl ih
 | rp cs g o u hc _ ih =>
  refine .rp cs g o u (fun j av hj=>?_) ih
  obtain ⟨h1,h2,h3⟩:=hc j av hj
  have hlt:g < w.heap.size:=World.block_lt_of_cell? w ⟨g,_,none⟩ h2
  exact ⟨fun h'=>h1 (hO g hlt h'),hs.cell (fun h'=>h1 (hw g hlt h')) h2,h3⟩
 | fn f ak vs hl _ ih=>exact .fn f ak vs hl ih
 | np=>exact .np
 | Qb=>exact .Qb
 | Qc t n=>exact .Qc t n
 | Mj t v=>exact .Mj t v
 | x v=>exact .x v

def aw:AV->List Nat
 | .pt n _=>[n]
 | .vec id _ _=>[id]
 | .vp id _ _ _ _=>[id]
 | .vs id _ _ _=>[id]
 | .ob id aR _=>[id,aR]
 | _=>[]
def ids:AV->List Nat
 | .fn _ ak=>ak.flatMap aw
 | .bc cs=>cs.flatMap aw
 | .ag k cs=>cs.flatMap aw
 | av=>aw av

def aU (β:Nat->Option Nat) (O:Nat->Prop) (w:World) (id:Nat) (τ:Ty) (l:List (den τ)) (v:Value):Prop :=
 (l = []/\v = .slice none 0 0/\β id = none) \/
 ∃ g c cur e,β id = some g/\v = .slice (some ⟨g,0,none⟩) l.length c/\w.heap[g]? = some (.cells cur e (0,0))/\l.length<=c/\c<=maxLen/\cur.size = c * aX τ /\
  ∀ (i:Nat) x (j:Nat) av,l[i]? = some x->(enc τ x)[j]? = some av->∃ u,cur[i * aX τ + j]? = some u/\Im O w av u

def Suf (z k:Nat) (v' v:Value):Prop :=
 (k = 0/\v = v')\/∃ g n c ad,v' = .slice (some ⟨g,0,none⟩) n c/\v = .slice (some ad) (n - k) (c - k)/\(k < c->ad = ⟨g,k * z,none⟩)
def lZ (β:Nat->Option Nat) (O:Nat->Prop) (w:World) (id:Nat) (τ:Ty) (l:List (den τ)) (k:Nat) (v:Value):Prop :=
 k<=l.length/\∃ v',aU β O w id τ l v'/\Suf (aX τ) k v' v

def P0 (l:aH):List Value:=l.map fun b=>.int .u8 (b.toNat:Int)
def O5 (β:Nat->Option Nat) (w:World) (aR:Nat) (e:TypeId) (l:aH) (u:Value):Prop :=
 (l = []/\u = .slice none 0 0/\β aR = none) \/
 ∃ g c cur fz,β aR = some g/\u = .slice (some ⟨g,0,none⟩) l.length c/\w.heap[g]? = some (.cells cur e fz)/\fz.2<=l.length/\l.length<=c/\c<=maxLen/\cur.size = c/\cur.toList.take l.length = P0 l/\l≠[]
def qe (β:Nat->Option Nat) (O:Nat->Prop) (w:World) (id aR:Nat) (L:List (List Int)) (i:Nat) (row:List Int) (v:Value):Prop :=
 ∃ g c cur e,β id = some g/\v = .slice (some ⟨g,0,none⟩) L.length c/\w.heap[g]? = some (.cells cur e (0,0))/\L.length<=c/\c<=maxLen/\cur.size = c /\
  (∀ (j:Nat) l,L[j]? = some l->j≠i->∃ u,cur[j]? = some u/\Im O w (.rd .int l) u)/\(i < L.length->∃ u,cur[i]? = some u/\aU β O w aR .int row u)
def fG (β:Nat->Option Nat) (O:Nat->Prop) (w:World) (id aR:Nat):Ob->Value->Prop
 | .sb T e l,v=>∃ b p u,β id = some b/\v = .pointer (some ⟨b,0,none⟩)/\w.heap[b]? = some (.cells #[p,u] T (0,0))/\(p = .pointer none\/p = v)/\O5 β w aR e l u
 | .it s pos,v=>∃ g,β id = some g/\v = .pointer (some ⟨g,0,none⟩)/\w.heap[g]? = some (.stringIter ⟨s.toArray⟩ pos)/\s.length<=maxLen/\pos<=s.length
 | .mp κ τ es, v => ∃ g jD clock, β id = some g /\ v = .map (some g) /\ w.heap[g]? = some (.map jD clock) /\ es.length<=maxLen /\
   All2 (fun p (e:MapEntry)=>All2 (Im O w) (enc κ p.1) [e.key]/\All2 (Im O w) (enc τ p.2) [e.val]) es jD.toList
 | .nw zs,v=>∃ b T,β id = some b/\v = .pointer (some ⟨b,0,none⟩)/\w.heap[b]? = some (.cells zs.toArray T (0,0))/\∀ z ∈ zs,z.oneCell' = true
 | .vw τ l a b,v=>∃ g c,β id = some g/\β aR = some g/\a < b/\b<=l.length/\v = .slice (some ⟨g,a * aX τ,none⟩) (b - a) (c - a)/\aU β O w id τ l (.slice (some ⟨g,0,none⟩) l.length c)
 | .ln τ l,v=>β aR = β id/\aU β O w id τ l v
 | .gr L i row,v=>qe β O w id aR L i row v
 | .gp L i row n,v=>n < L.length/\(∃ g,β id = some g/\v = .pointer (some ⟨g,n,none⟩))/\∃ v',qe β O w id aR L i row v'

def cj (β:Nat->Option Nat) (O:Nat->Prop) (w:World):AV->Value->Prop
 | .pt n o,v=>∃ g,β n = some g/\v = .pointer (some ⟨g,o,none⟩)
 | .vec id τ l,v=>aU β O w id τ l v
 | .vp id τ l n off,v=>n < l.length/\(∃ g,β id = some g/\v = .pointer (some ⟨g,n * aX τ + off,none⟩))/\∃ v',aU β O w id τ l v'
 | .vs id τ l k,v=>lZ β O w id τ l k v
 | .ob id aR o,v=>fG β O w id aR o v
 | av,v=>Im O w av v
def shape:Nat->List Value->Value
 | 0,vs=>.agg vs.toArray
 | k + 1,vs=>.tuple ((.agg (vs.take (k + 1)).toArray::vs.drop (k + 1))).toArray
def Rel (β:Nat->Option Nat) (O:Nat->Prop) (w:World):AV->Value->Prop
 | .fn f ak,v=>∃ vs:List Value,v = BQ ak f vs/\All2 (cj β O w) ak vs
 | .bc cs,v=>∃ vs:List Value,v = .tuple vs.toArray/\All2 (cj β O w) cs vs
 | .ag k cs,v=>∃ vs:List Value,v = shape k vs/\All2 (cj β O w) cs vs/\∀ v ∈ vs,v.oneCell' = true
 | av,v=>cj β O w av v

def iP (β:Nat->Option Nat) (O:Nat->Prop) (w:World) (c:AV) (u:Value):Prop:=Rel β O w c u/\u.oneCell' = true

theorem cj.im {β:Nat->Option Nat} {O:Nat->Prop} {w:World} {av:AV} {v:Value} (h:Im O w av v):cj β O w av v:=by
 cases av<;>first | exact h | cases h
theorem Rel.im {β:Nat->Option Nat} {O:Nat->Prop} {w:World} {av:AV} {v:Value} (h:Im O w av v):Rel β O w av v:=by
 cases av with
 | fn f ak =>
  cases h with
  | fn _ _ vs h1 h2=>exact ⟨vs,rfl,h1,fun j c u hc hu=>cj.im (h2 j c u hc hu)⟩
 | bc cs =>
  cases h with
  | bc _ vs h1 h2=>exact ⟨vs,rfl,h1,fun j c u hc hu=>cj.im (h2 j c u hc hu)⟩
 | _=>first | exact h | cases h
theorem Rel.jk {β:Nat->Option Nat} {O:Nat->Prop} {w:World} {av:AV} {v:Value} (h:cj β O w av v):Rel β O w av v:=by
 cases av with
 | fn f ak=>exact Rel.im h
 | bc cs=>exact Rel.im h
 | ag k cs=>exact Rel.im h
 | _=>exact h
theorem Im.od {O : Nat -> Prop} {w : World} {cs : List AV} {v : Value} (h : Im O w (.rp cs) v) :
  ∃ g o,v = .pointer (some ⟨g,o,none⟩)/\∀ (j:Nat) av,cs[j]? = some av->¬ O g/\∃ u,w.cell? ⟨g,o + j,none⟩ = some u/\Im O w av u/\u.oneCell' = true:=by
 cases h with
 | rp _ g o u h1 h2=>exact ⟨g,o,rfl,fun j av hj=>⟨(h1 j av hj).1,u j,(h1 j av hj).2.1,h2 j av hj,(h1 j av hj).2.2⟩⟩
theorem Im.ur {O : Nat -> Prop} {w : World} {cs : List AV} {g o : Nat} (h : ∀ (j : Nat) av, cs[j]? = some av -> ¬ O g /\ ∃ u, w.cell? ⟨g, o + j, none⟩ = some u /\ Im O w av u /\ u.oneCell' = true) :
  Im O w (.rp cs) (.pointer (some ⟨g,o,none⟩)) :=
 .rp cs g o (fun j=>(w.cell? ⟨g,o + j,none⟩).getD undef) (fun j av hj=>by
  obtain ⟨h1,u,h2,_,h3⟩:=h j av hj
  exact ⟨h1,by rw [h2]; rfl,by rw [h2]; exact h3⟩) (fun j av hj=>by
  obtain ⟨_,u,h2,h4,_⟩:=h j av hj
  rw [h2]; exact h4)
theorem Rel.x {β:Nat->Option Nat} {O:Nat->Prop} {w:World} {v:Value}:Rel β O w .x v:=Im.x v

theorem aU.uniq {β:Nat->Option Nat} {w:World} {O:Nat->Prop} {id:Nat} {τ:Ty} {l:List (den τ)} {u v:Value} (h:aU β O w id τ l u) (h1:aU β O w id τ l v):u = v:=by
 rcases h with ⟨a1,a2,a3⟩ | ⟨g,c,cur,e,a1,a2,a3,a4,a5,a6,_⟩<;>rcases h1 with ⟨b1,b2,b3⟩ | ⟨g',c',cur',e',b1,b2,b3,b4,b5,b6,_⟩
 ·rw [a2,b2]
 ·rw [a3] at b1; cases b1
 ·rw [b3] at a1; cases a1
 ·rw [a1] at b1
  injection b1 with b1
  subst b1
  rw [a3] at b3
  injection b3 with b3
  injection b3 with b3 _ _
  subst b3
  have hz:=gq τ
  have:c = c':=by
   rw [a6] at b6
   exact Nat.eq_of_mul_eq_mul_right hz b6
  subst this
  rw [a2,b2]
theorem aU.step {β bJ : Nat -> Option Nat} {O O' : Nat -> Prop} {w w' : World} {id : Nat} {τ : Ty} {l : List (den τ)} {v : Value} (h : aU β O w id τ l v)
  {Ow:Nat->Prop} (hs:ca Ow w w') (hw:∀ k,k < w.heap.size->Ow k->O k) (hO:∀ k,k < w.heap.size->O' k->O k)
  (cG:bJ id = β id) (hb:∀ g,β id = some g->w'.heap[g]? = w.heap[g]?):aU bJ O' w' id τ l v:=by
 rcases h with ⟨h1,h2,h3⟩ | ⟨g,c,cur,e,h1,h2,h3,h4,h5,h6,h7⟩
 ·exact .inl ⟨h1,h2,cG.trans h3⟩
 ·refine .inr ⟨g,c,cur,e,cG.trans h1,h2,(hb g h1).trans h3,h4,h5,h6,fun i x j av hx ck=>?_⟩
  obtain ⟨u,hu,dw⟩:=h7 i x j av hx ck
  exact ⟨u,hu,dw.step hs hw hO⟩

def fp:AV->List Nat
 | .vec id _ _=>[id]
 | .vp id _ _ _ _=>[id]
 | .vs id _ _ _=>[id]
 | .ob id aR _=>[id,aR]
 | _=>[]
def dT:AV->List Nat
 | .fn _ ak=>ak.flatMap fp
 | .bc cs=>cs.flatMap fp
 | .ag k cs=>cs.flatMap fp
 | av=>fp av

theorem qe.step {β bJ : Nat -> Option Nat} {O O' : Nat -> Prop} {w w' : World} {id aR : Nat} {L : List (List Int)} {i : Nat} {row : List Int} {v : Value} (h : qe β O w id aR L i row v)
  {Ow:Nat->Prop} (hs:ca Ow w w') (hw:∀ k,k < w.heap.size->Ow k->O k) (hO:∀ k,k < w.heap.size->O' k->O k)
  (cG:bJ id = β id) (Au:bJ aR = β aR) (hb:∀ g,β id = some g->w'.heap[g]? = w.heap[g]?) (GC:∀ g,β aR = some g->w'.heap[g]? = w.heap[g]?):qe bJ O' w' id aR L i row v:=by
 obtain ⟨g,c,cur,e,h1,h2,h3,h4,h5,h6,h8,h9⟩:=h
 refine ⟨g,c,cur,e,cG.trans h1,h2,(hb g h1).trans h3,h4,h5,h6,fun j l hj da=>?_,fun hi=>?_⟩
 ·obtain ⟨x,hx,dw⟩:=h8 j l hj da
  exact ⟨x,hx,dw.step hs hw hO⟩
 ·obtain ⟨u,h9,gQ⟩:=h9 hi
  exact ⟨u,h9,gQ.step hs hw hO Au GC⟩
theorem fG.step {β bJ : Nat -> Option Nat} {O O' : Nat -> Prop} {w w' : World} {id aR : Nat} {o : Ob} {v : Value} (h : fG β O w id aR o v)
  {Ow:Nat->Prop} (hs:ca Ow w w') (hw:∀ k,k < w.heap.size->Ow k->O k) (hO:∀ k,k < w.heap.size->O' k->O k)
  (cG:bJ id = β id) (Au:bJ aR = β aR) (hb:∀ g,β id = some g->w'.heap[g]? = w.heap[g]?) (GC:∀ g,β aR = some g->w'.heap[g]? = w.heap[g]?):fG bJ O' w' id aR o v:=by
 cases o with
 | sb T e l =>
  obtain ⟨b,p,u,h1,h2,h3,h4,h5⟩:=h
  refine ⟨b,p,u,cG.trans h1,h2,(hb b h1).trans h3,h4,?_⟩
  rcases h5 with ⟨h5,h6,h7⟩ | ⟨g,c,cur,fz,h5,h6,h7,h8⟩
  ·exact .inl ⟨h5,h6,Au.trans h7⟩
  ·exact .inr ⟨g,c,cur,fz,Au.trans h5,h6,(GC g h5).trans h7,h8⟩
 | it s pos =>
  obtain ⟨g,h1,h2,h3,h4⟩:=h
  exact ⟨g,cG.trans h1,h2,(hb g h1).trans h3,h4⟩
 | mp κ τ es =>
  obtain ⟨g,jD,clock,h1,h2,h3,h4,h5⟩:=h
  exact ⟨g,jD,clock,cG.trans h1,h2,(hb g h1).trans h3,h4,h5.mono fun j a b ha hr=>⟨hr.1.mono fun _ _ _ _ h=>h.step hs hw hO,hr.2.mono fun _ _ _ _ h=>h.step hs hw hO⟩⟩
 | nw zs =>
  obtain ⟨b,T,h1,h2,h3,h4⟩:=h
  exact ⟨b,T,cG.trans h1,h2,(hb b h1).trans h3,h4⟩
 | vw τ l a b =>
  obtain ⟨g,c,h1,h2,h3,h4,h5,h6⟩:=h
  exact ⟨g,c,cG.trans h1,Au.trans h2,h3,h4,h5,h6.step hs hw hO cG hb⟩
 | ln τ l=>exact ⟨Au.trans (h.1.trans cG.symm),h.2.step hs hw hO cG hb⟩
 | gr L i row=>exact qe.step h hs hw hO cG Au hb GC
 | gp L i row n =>
  obtain ⟨h1,⟨g,h2,h3⟩,v',h4⟩:=h
  exact ⟨h1,⟨g,cG.trans h2,h3⟩,v',h4.step hs hw hO cG Au hb GC⟩

theorem cj.step {β bJ : Nat -> Option Nat} {O O' : Nat -> Prop} {w w' : World} {av : AV} {v : Value} (h : cj β O w av v)
  {Ow:Nat->Prop} (hs:ca Ow w w') (hw:∀ k,k < w.heap.size->Ow k->O k) (hO:∀ k,k < w.heap.size->O' k->O k)
  (cG:∀ n ∈ aw av,bJ n = β n) (hb:∀ n ∈ fp av,∀ g,β n = some g->w'.heap[g]? = w.heap[g]?):cj bJ O' w' av v:=by
 cases av with
 | pt n o =>
  obtain ⟨g,h1,h2⟩:=h
  exact ⟨g,(cG n (by simp [aw])).trans h1,h2⟩
 | vec id τ l=>exact aU.step h hs hw hO (cG id (by simp [aw])) (hb id (by simp [fp]))
 | vp id τ l n off =>
  obtain ⟨h0,⟨g,h1,h2⟩,v',h3⟩:=h
  exact ⟨h0,⟨g,(cG id (by simp [aw])).trans h1,h2⟩,v',aU.step h3 hs hw hO (cG id (by simp [aw])) (hb id (by simp [fp]))⟩
 | vs id τ l k =>
  obtain ⟨h0,v',h3,h4⟩:=h
  exact ⟨h0,v',aU.step h3 hs hw hO (cG id (by simp [aw])) (hb id (by simp [fp])),h4⟩
 | ob id aR o=>exact fG.step h hs hw hO (cG id (by simp [aw])) (cG aR (by simp [aw])) (hb id (by simp [fp])) (hb aR (by simp [fp]))
 | np=>exact Im.step h hs hw hO
 | er e=>exact Im.step h hs hw hO
 | ag k cs=>exact Im.step h hs hw hO
 | rp cs=>exact Im.step h hs hw hO
 | i k n=>exact Im.step h hs hw hO
 | b x=>exact Im.step h hs hw hO
 | s l=>exact Im.step h hs hw hO
 | nl=>exact Im.step h hs hw hO
 | rd τ l=>exact Im.step h hs hw hO
 | agg cs=>exact Im.step h hs hw hO
 | bc cs=>exact Im.step h hs hw hO
 | fn f ak=>exact Im.step h hs hw hO
 | x=>exact Im.step h hs hw hO
end Go.SX
end
section
namespace Go.SX

theorem Rel.step {β bJ : Nat -> Option Nat} {O O' : Nat -> Prop} {w w' : World} {av : AV} {v : Value} (h : Rel β O w av v)
  {Ow:Nat->Prop} (hs:ca Ow w w') (hw:∀ k,k < w.heap.size->Ow k->O k) (hO:∀ k,k < w.heap.size->O' k->O k)
  (cG:∀ n ∈ ids av,bJ n = β n) (hb:∀ n ∈ dT av,∀ g,β n = some g->w'.heap[g]? = w.heap[g]?):Rel bJ O' w' av v:=by
 cases av with
 | fn f ak =>
  obtain ⟨vs,hv,ei⟩:=h
  refine ⟨vs,hv,ei.mono fun j a b ha hr=>hr.step hs hw hO (fun n hn=>cG n ?_) (fun n hn=>hb n ?_)⟩
  ·exact List.mem_flatMap.2 ⟨a,List.mem_of_getElem? ha,hn⟩
  ·exact List.mem_flatMap.2 ⟨a,List.mem_of_getElem? ha,hn⟩
 | bc cs =>
  obtain ⟨vs,hv,ei⟩:=h
  refine ⟨vs,hv,ei.mono fun j a b ha hr=>hr.step hs hw hO (fun n hn=>cG n ?_) (fun n hn=>hb n ?_)⟩
  ·exact List.mem_flatMap.2 ⟨a,List.mem_of_getElem? ha,hn⟩
  ·exact List.mem_flatMap.2 ⟨a,List.mem_of_getElem? ha,hn⟩
 | ag k cs =>
  obtain ⟨vs,hv,ei,fx⟩:=h
  refine ⟨vs,hv,ei.mono fun j a b ha hr=>hr.step hs hw hO (fun n hn=>cG n ?_) (fun n hn=>hb n ?_),fx⟩
  ·exact List.mem_flatMap.2 ⟨a,List.mem_of_getElem? ha,hn⟩
  ·exact List.mem_flatMap.2 ⟨a,List.mem_of_getElem? ha,hn⟩
 | _=>exact Rel.jk (cj.step (show cj β O w _ v from h) hs hw hO cG hb)

structure St where
 aj:List (Nat × AV)
 boxes:List (Nat × List AV)

def look:List (Nat × AV)->Nat->AV
 | [],_=>.x
 | (m,v)::r,n=>bif Nat.beq m n then v else look r n
def ax:List (Nat × List AV)->Nat->Option (List AV)
 | [],_=>none
 | (m,v)::r,n=>bif Nat.beq m n then some v else ax r n
def lJ {α:Type}:List (Nat × α)->Nat->α->List (Nat × α)
 | [],n,v=>[(n,v)]
 | (m,u)::r,n,v=>bif Nat.beq m n then (n,v)::r else (m,u)::lJ r n v
def rS {α:Type}:List (Nat × α)->Nat->List (Nat × α)
 | [],_=>[]
 | (m,u)::r,n=>bif Nat.beq m n then rS r n else (m,u)::rS r n
def rZ (f:AV->AV):List (Nat × AV)->List (Nat × AV)
 | []=>[]
 | (m,v)::r=>(m,f v)::rZ f r
def ez (f:AV->AV):List AV->List AV
 | []=>[]
 | v::r=>f v::ez f r
theorem kb (c:AV) (r:List AV):bQ (c::r) = bQ [c]:=by cases c<;>rfl
theorem mn {f:AV->AV} (h:∀ v,bQ [f v] = bQ [v]) (l:List AV):bQ (ez f l) = bQ l:=by
 cases l with
 | nil=>rfl
 | cons c r =>
  show bQ (f c::ez f r) = bQ (c::r)
  rw [kb,kb c]
  exact h c
def AJ (f:AV->AV):List (Nat × List AV)->List (Nat × List AV)
 | []=>[]
 | (m,v)::r=>(m,ez f v)::AJ f r

theorem bI (l:List (Nat × AV)) (d:Nat) (v:AV) (n:Nat):look (lJ l d v) n = if d = n then v else look l n:=by
 induction l with
 | nil=>simp [lJ,look,Bool.cond_eq_ite]
 | cons p r ih =>
  obtain ⟨m,u⟩:=p
  by_cases DV:m = d
  ·subst DV
   by_cases vD:m = n<;>simp [lJ,look,Bool.cond_eq_ite,vD]
  ·by_cases vD:m = n
   ·subst vD
    have:d≠m:=fun e=>DV e.symm
    simp [lJ,look,Bool.cond_eq_ite,DV,this]
   ·simp [lJ,look,Bool.cond_eq_ite,DV,vD,ih]
theorem bW (l:List (Nat × List AV)) (d:Nat) (v:List AV) (n:Nat):ax (lJ l d v) n = if d = n then some v else ax l n:=by
 induction l with
 | nil=>simp [lJ,ax,Bool.cond_eq_ite]
 | cons p r ih =>
  obtain ⟨m,u⟩:=p
  by_cases DV:m = d
  ·subst DV
   by_cases vD:m = n<;>simp [lJ,ax,Bool.cond_eq_ite,vD]
  ·by_cases vD:m = n
   ·subst vD
    have:d≠m:=fun e=>DV e.symm
    simp [lJ,ax,Bool.cond_eq_ite,DV,this]
   ·simp [lJ,ax,Bool.cond_eq_ite,DV,vD,ih]
theorem bV (l:List (Nat × List AV)) (d n:Nat):ax (rS l d) n = if d = n then none else ax l n:=by
 induction l with
 | nil=>simp [rS,ax]
 | cons p r ih =>
  obtain ⟨m,u⟩:=p
  by_cases DV:m = d
  ·subst DV
   by_cases vD:m = n
   ·subst vD; simp [rS,Bool.cond_eq_ite,ih]
   ·simp [rS,ax,Bool.cond_eq_ite,vD,ih]
  ·by_cases vD:m = n
   ·subst vD
    have:d≠m:=fun e=>DV e.symm
    simp [rS,ax,Bool.cond_eq_ite,DV,this]
   ·simp [rS,ax,Bool.cond_eq_ite,DV,vD,ih]
theorem bH (f:AV->AV) (hf:f .x = .x) (l:List (Nat × AV)) (n:Nat):look (rZ f l) n = f (look l n):=by
 induction l with
 | nil=>simp [rZ,look,hf]
 | cons p r ih=>obtain ⟨m,u⟩:=p; by_cases vD:m = n<;>simp [rZ,look,Bool.cond_eq_ite,vD,ih]
theorem bz (f:AV->AV) (l:List AV):ez f l = l.map f:=by induction l with
 | nil=>rfl
 | cons a r ih=>simp [ez,ih]
theorem aV (f:AV->AV) (l:List (Nat × List AV)) (n:Nat):ax (AJ f l) n = (ax l n).map (ez f):=by
 induction l with
 | nil=>simp [AJ,ax]
 | cons p r ih=>obtain ⟨m,u⟩:=p; by_cases vD:m = n<;>simp [AJ,ax,Bool.cond_eq_ite,vD,ih]

def St.put (s:St) (d:Nat) (v:AV):St:={ s with aj:=lJ s.aj d v }
def St.bF (s:St) (n:Nat) (cs:List AV):St:={ s with boxes:=lJ s.boxes n cs }
def St.map (f:AV->AV) (s:St):St:=⟨rZ f s.aj,AJ f s.boxes⟩
def St.bj (s:St) (n:Nat):St:={ s with boxes:=rS s.boxes n }

def Nm (s:St) (n:Nat):Prop :=
 (∃ cs,ax s.boxes n = some cs)\/(∃ m,n ∈ ids (look s.aj m))\/∃ b cs,ax s.boxes b = some cs/\∃ c ∈ cs,n ∈ ids c
def oK (s:St) (β:Nat->Option Nat) (k:Nat):Prop:=∃ n,Nm s n/\β n = some k
def Own (X:Nat->Prop) (s:St) (β:Nat->Option Nat) (k:Nat):Prop:=X k\/oK s β k

class Globs where
 gl:List (Nat × Obj)
def GlobOK [G:Globs] (O:Nat->Prop) (w:World):Prop:=∀ p ∈ G.gl,¬ O p.1/\w.heap[p.1]? = some p.2
theorem GlobOK.step [Globs] {O O' Ow:Nat->Prop} {w w':World} (h:GlobOK O w) (hs:ca Ow w w') (hw:∀ k,k < w.heap.size->Ow k->O k) (hO:∀ k,k < w.heap.size->O' k->O k):GlobOK O' w':=fun p hp=>by
 obtain ⟨h1,h2⟩:=h p hp
 have hlt:p.1 < w.heap.size:=(Array.getElem?_eq_some_iff.1 h2).1
 exact ⟨fun ho=>h1 (hO _ hlt ho),(hs.block _ hlt fun ho=>h1 (hw _ hlt ho)).trans h2⟩
variable [Globs]

structure Fr where
 own:Nat->Prop
 fP:Nat->Option Nat
 th:List Deferred
def Fr.none:Fr:=⟨fun _=>False,fun _=>Option.none,[]⟩
structure ao (W0:World) (F:Fr) (X:Nat->Prop) (N:Nat) (s:St) (β:Nat->Option Nat) (a:Act) (w:World):Prop where
 ext:ca F.own W0 w
 aj:∀ n,Rel β (Own X s β) w (look s.aj n) (a.tmps.getD n undef)
 size:a.tmps.size = N
 boxes:∀ n cs,ax s.boxes n = some cs->∃ g us e,β n = some g/\w.heap[g]? = some (.cells us e (0,0))/\All2 (iP β (Own X s β) w) cs us.toList
 inj:∀ n m g,Nm s n->Nm s m->β n = some g->β m = some g->n = m
 own:∀ n g,Nm s n->β n = some g->g < w.heap.size/\(W0.heap.size<=g\/F.own g)
 defers:a.defers = F.th
 mh:∀ k,X k->k < W0.heap.size/\¬ F.own k
 fP:∀ n cs g,ax s.boxes n = some cs->F.fP n = some g->β n = some g
 vV:∀ n,n < N->F.fP n = none
 gl:GlobOK (fun k=>X k\/F.own k) W0
def Inv (W0:World) (F:Fr) (X:Nat->Prop) (N:Nat) (s:St) (a:Act) (w:World):Prop:=∃ β,ao W0 F X N s β a w

theorem eM (a:Act) (d:Nat) (u:Value) (hd:d < a.tmps.size) (n:Nat):((a.put (some d) u).tmps).getD n undef = if d = n then u else a.tmps.getD n undef:=by
 simp only [Act.put,Array.getD_eq_getD_getElem?,Array.getElem?_setIfInBounds]
 by_cases h:d = n
 ·subst h; simp [hd]
 ·simp [h]
theorem size_put (a:Act) (d:Option Nat) (u:Value):(a.put d u).tmps.size = a.tmps.size:=by cases d<;>simp [Act.put]
theorem fT (a:Act) (d:Option Nat) (u:Value):(a.put d u).defers = a.defers:=by cases d<;>rfl

section
variable {W0:World} {F:Fr} {X:Nat->Prop} {N:Nat} {s:St} {β:Nat->Option Nat} {a:Act} {w:World}

theorem ao.lC (h:ao W0 F X N s β a w):∀ k,k < W0.heap.size->oK s β k->F.own k:=by
 rintro k hk ⟨n,hn,hb⟩
 rcases (h.own n k hn hb).2 with h1 | h1
 ·omega
 ·exact h1

theorem ao.Cd (h:ao W0 F X N s β a w) (n k:Nat) (hn:Nm s n) (hb:β n = some k):¬ X k:=fun hX=>by
 obtain ⟨h1,h2⟩:=h.mh k hX
 rcases (h.own n k hn hb).2 with h3 | h3
 ·omega
 ·exact h2 h3

theorem ao.tC (h:ao W0 F X N s β a w):GlobOK (Own X s β) w :=
 h.gl.step h.ext (fun _ _ h=>.inr h) (fun k hk ho=>ho.imp id fun hn=>h.lC k hk hn)

theorem ao.yS (h : ao W0 F X N s β a w) {s' : St} {bJ : Nat -> Option Nat} {a' : Act} {w' : World} {Ow : Nat -> Prop} (hs : ca Ow w w') (hw : ∀ k, k < w.heap.size -> Ow k -> oK s β k)
  (Cv:∀ n,Rel bJ (Own X s' bJ) w' (look s'.aj n) (a'.tmps.getD n undef))
  (qt:∀ n cs,ax s'.boxes n = some cs->∃ g us e,bJ n = some g/\w'.heap[g]? = some (.cells us e (0,0))/\All2 (iP bJ (Own X s' bJ) w') cs us.toList)
  (Qu:∀ n m g,Nm s' n->Nm s' m->bJ n = some g->bJ m = some g->n = m)
  (rV:∀ n g,Nm s' n->bJ n = some g->g < w'.heap.size/\(W0.heap.size<=g\/F.own g))
  (Iv:a'.tmps.size = a.tmps.size) (Ih:a'.defers = a.defers) (iT:∀ n cs g,ax s'.boxes n = some cs->F.fP n = some g->bJ n = some g):ao W0 F X N s' bJ a' w' :=
 ⟨h.ext.trans hs (fun k hk ho=>h.lC k hk (hw k (Nat.lt_of_lt_of_le hk h.ext.size) ho)),Cv,Iv.trans h.size,qt,Qu,rV,Ih.trans h.defers,h.mh,iT,h.vV,h.gl⟩

theorem ao.less (h : ao W0 F X N s β a w) {s' : St} {a' : Act} {w' : World} (hs : ca (fun _ => False) w w')
  (bP:∀ n,Nm s' n->Nm s n)
  (Cv:∀ n,∃ m,(look s'.aj n = look s.aj m/\a'.tmps.getD n undef = a.tmps.getD m undef)\/Im (Own X s β) w' (look s'.aj n) (a'.tmps.getD n undef) \/
   (Rel β (Own X s β) w (look s'.aj n) (a'.tmps.getD n undef)))
  (qt:∀ n cs,ax s'.boxes n = some cs->ax s.boxes n = some cs)
  (Iv:a'.tmps.size = a.tmps.size) (Ih:a'.defers = a.defers):ao W0 F X N s' β a' w':=by
 have hO:∀ k,Own X s' β k->Own X s β k:=fun k hk=>hk.imp id fun ⟨n,hn,hb⟩=>⟨n,bP n hn,hb⟩
 have hst:∀ av v,(∀ n ∈ ids av,Nm s n)->Rel β (Own X s β) w av v->Rel β (Own X s' β) w' av v:=fun av v _ hr =>
  hr.step hs (fun _ _ h=>h.elim) (fun k _=>hO k) (fun _ _=>rfl) (fun n hn g hg=>by
   by_cases hlt:g < w.heap.size
   ·exact hs.block g hlt (fun h=>h)
   ·rename_i bt
    have jg:Nm s n:=bt n (by
     cases av with
     | fn f ak=>simp only [dT,ids,List.mem_flatMap] at hn ⊢; obtain ⟨c,hc,Co⟩:=hn; exact ⟨c,hc,by cases c<;>simp_all [fp,aw]⟩
     | bc cs=>simp only [dT,ids,List.mem_flatMap] at hn ⊢; obtain ⟨c,hc,Co⟩:=hn; exact ⟨c,hc,by cases c<;>simp_all [fp,aw]⟩
     | ag k cs=>simp only [dT,ids,List.mem_flatMap] at hn ⊢; obtain ⟨c,hc,Co⟩:=hn; exact ⟨c,hc,by cases c<;>simp_all [fp,aw]⟩
     | _=>simp_all [dT,fp,ids,aw])
    exact absurd (h.own n g jg hg).1 hlt)
 refine h.yS hs (fun _ _ h=>h.elim) (fun n=>?_) (fun n cs cZ=>?_) (fun n m g hn hm=>h.inj n m g (bP n hn) (bP m hm)) (fun n g hn hg=>?_) Iv Ih (fun n cs g hc hp=>h.fP n cs g (qt n cs hc) hp)
 ·have bt:∀ k ∈ ids (look s'.aj n),Nm s k:=fun k hk=>bP k (.inr (.inl ⟨n,hk⟩))
  obtain ⟨m,h1 | h1 | h1⟩:=Cv n
  ·rw [h1.2]; rw [h1.1] at bt ⊢; exact hst _ _ bt (h.aj m)
  ·exact Rel.im (h1.step (ca.refl _ _) (fun _ _ h=>h) (fun k _=>hO k))
  ·exact hst _ _ bt h1
 ·obtain ⟨g,us,e,h1,h2,h3⟩:=h.boxes n cs (qt n cs cZ)
  have hN:Nm s n:=.inl ⟨cs,qt n cs cZ⟩
  have hg:=(h.own n g hN h1).1
  refine ⟨g,us,e,h1,(hs.block g hg (fun h=>h)).trans h2,h3.mono fun j c v hc hr=>⟨hst c v (fun k hk=>?_) hr.1,hr.2⟩⟩
  exact .inr (.inr ⟨n,cs,qt n cs cZ,c,List.mem_of_getElem? hc,hk⟩)
 ·obtain ⟨h1,h2⟩:=h.own n g (bP n hn) hg
  exact ⟨Nat.lt_of_lt_of_le h1 hs.size,h2⟩
end
end Go.SX
end
section
namespace Go.SX
variable [Globs]

theorem Im.Av {O:Nat->Prop} {w:World} {av:AV} {v:Value} (h:Im O w av v):aw av = []:=by cases h<;>rfl
theorem Im.cQ {O:Nat->Prop} {w:World} {av:AV} {v:Value} (h:Im O w av v):ids av = []:=by
 cases h with
 | fn f ak vs hl h =>
  simp only [ids,List.flatMap_eq_nil_iff]
  intro c hc
  obtain ⟨j,hj,rfl⟩:=List.getElem_of_mem hc
  exact (h j _ _ (List.getElem?_eq_getElem hj) (List.getElem?_eq_getElem (by rw [<- hl]; exact hj))).Av
 | bc ak vs hl h =>
  simp only [ids,List.flatMap_eq_nil_iff]
  intro c hc
  obtain ⟨j,hj,rfl⟩:=List.getElem_of_mem hc
  exact (h j _ _ (List.getElem?_eq_getElem hj) (List.getElem?_eq_getElem (by rw [<- hl]; exact hj))).Av
 | _=>rfl
theorem Im.mono {O O':Nat->Prop} {w:World} {av:AV} {v:Value} (h:Im O w av v) (hO:∀ k,O' k->O k):Im O' w av v :=
 h.step (ca.refl (fun _=>False) w) (fun _ _ h=>h.elim) (fun k _=>hO k)
theorem Rel.mono {β:Nat->Option Nat} {O O':Nat->Prop} {w:World} {av:AV} {v:Value} (h:Rel β O w av v) (hO:∀ k,O' k->O k):Rel β O' w av v :=
 h.step (ca.refl (fun _=>False) w) (fun _ _ h=>h.elim) (fun k _=>hO k) (fun _ _=>rfl) (fun _ _ _ _=>rfl)

section
variable {W0:World} {F:Fr} {X:Nat->Prop} {N:Nat} {s:St} {β:Nat->Option Nat} {a:Act} {w:World}

theorem Nm.uI {d:Nat} {v:AV} (bt:∀ n ∈ ids v,Nm s n) {n:Nat} (h:Nm (s.put d v) n):Nm s n:=by
 rcases h with ⟨cs,h⟩ | ⟨m,h⟩ | ⟨b,cs,h,c,hc,hn⟩
 ·exact .inl ⟨cs,h⟩
 ·simp only [St.put,bI] at h
  split at h
  ·exact bt n h
  ·exact .inr (.inl ⟨m,h⟩)
 ·exact .inr (.inr ⟨b,cs,h,c,hc,hn⟩)

theorem ao.put (h : ao W0 F X N s β a w) {d : Nat} (hd : d < N) {v : AV} {u : Value} (hr : Rel β (Own X s β) w v u) (bt : ∀ n ∈ ids v, Nm s n) :
  ao W0 F X N (s.put d v) β (a.put (some d) u) w:=by
 refine h.less (ca.refl _ _) (fun n=>Nm.uI bt) (fun n=>?_) (fun n cs h=>h) (size_put _ _ _) (fT _ _ _)
 rw [eM a d u (by rw [h.size]; exact hd)]
 simp only [St.put,bI]
 by_cases qw:d = n
 ·simp only [qw,if_true]; exact ⟨n,.inr (.inr hr)⟩
 ·simp only [qw,if_false]; exact ⟨n,.inl ⟨rfl,rfl⟩⟩

theorem ao.Vc (h : ao W0 F X N s β a w) {d : Nat} (hd : d < N) {w' : World} (hs : ca (fun _ => False) w w') {v : AV} {u : Value} (hr : Im (Own X s β) w' v u) :
  ao W0 F X N (s.put d v) β (a.put (some d) u) w':=by
 refine h.less hs (fun n=>Nm.uI (by rw [hr.cQ]; intro n hn; cases hn)) (fun n=>?_) (fun n cs h=>h) (size_put _ _ _) (fT _ _ _)
 rw [eM a d u (by rw [h.size]; exact hd)]
 simp only [St.put,bI]
 by_cases qw:d = n
 ·simp only [qw,if_true]; exact ⟨n,.inr (.inl hr)⟩
 ·simp only [qw,if_false]; exact ⟨n,.inl ⟨rfl,rfl⟩⟩

theorem ao.grow (h:ao W0 F X N s β a w) {w':World} (hs:ca (fun _=>False) w w'):ao W0 F X N s β a w' :=
 h.less hs (fun _ hn=>hn) (fun n=>⟨n,.inl ⟨rfl,rfl⟩⟩) (fun _ _ h=>h) rfl rfl

theorem ao.mapped (h : ao W0 F X N s β a w) (f : AV -> AV) (hx : f .x = .x) (O' : Nat -> Prop)
  (hf:∀ av v,Rel β (Own X s β) w av v->Rel β O' w (f av) v) (bt:∀ av n,n ∈ ids (f av)->n ∈ ids av)
  (hO:∀ k,Own X (s.map f) β k->O' k):ao W0 F X N (s.map f) β a w:=by
 have bP:∀ n,Nm (s.map f) n->Nm s n:=by
  rintro n (⟨cs,h⟩ | ⟨m,h⟩ | ⟨b,cs,h,c,hc,hn⟩)
  ·simp only [St.map,aV,Option.map_eq_some_iff] at h
   obtain ⟨cs',h1,_⟩:=h
   exact .inl ⟨cs',h1⟩
  ·simp only [St.map,bH f hx] at h
   exact .inr (.inl ⟨m,bt _ _ h⟩)
  ·simp only [St.map,aV,Option.map_eq_some_iff] at h
   obtain ⟨cs',h1,rfl⟩:=h
   rw [bz] at hc
   obtain ⟨c',dv,rfl⟩:=List.mem_map.1 hc
   exact .inr (.inr ⟨b,cs',h1,c',dv,bt _ _ hn⟩)
 refine h.yS (ca.refl (fun _=>False) w) (fun _ _ h=>h.elim) (fun n=>?_) (fun n cs cZ=>?_) (fun n m g hn hm=>h.inj n m g (bP n hn) (bP m hm))
  (fun n g hn hg=>h.own n g (bP n hn) hg) rfl rfl (fun n cs g hc hp=>by
   simp only [St.map,aV,Option.map_eq_some_iff] at hc
   obtain ⟨cs',h1,_⟩:=hc
   exact h.fP n cs' g h1 hp)
 ·simp only [St.map,bH f hx]
  exact (hf _ _ (h.aj n)).mono hO
 ·simp only [St.map,aV,Option.map_eq_some_iff] at cZ
  obtain ⟨cs',h1,rfl⟩:=cZ
  obtain ⟨g,us,e,h2,h3,h4⟩:=h.boxes n cs' h1
  refine ⟨g,us,e,h2,h3,?_⟩
  rw [bz]
  refine ⟨by simpa using h4.1,fun j c v hc hv=>?_⟩
  rw [List.getElem?_map,Option.map_eq_some_iff] at hc
  obtain ⟨c',dv,rfl⟩:=hc
  exact ⟨(hf _ _ (h4.2 j c' v dv hv).1).mono hO,(h4.2 j c' v dv hv).2⟩
end

theorem dQ {m n:Nat} (h:m≠n):Nat.beq m n = false:=by
 rw [<- Bool.not_eq_true]; exact fun e=>h (Nat.eq_of_beq_eq_true e)
def cr (n:Nat):List Nat->Bool
 | []=>false
 | m::r=>bif Nat.beq m n then true else cr n r
theorem b7 (n:Nat) (l:List Nat):cr n l = true↔n ∈ l:=by
 induction l with
 | nil=>simp [cr]
 | cons m r ih =>
  simp only [cr,Bool.cond_eq_ite,List.mem_cons]
  by_cases h:m = n
  ·simp [h]
  ·have h':n≠m:=fun e=>h e.symm
   simp [h,h',ih]

def kill (n:Nat) (av:AV):AV:=bif cr n (ids av) then .x else av
theorem fg (n:Nat) (av:AV) (m:Nat) (h:m ∈ ids (kill n av)):m ∈ ids av/\m≠n:=by
 unfold kill at h
 cases hn:cr n (ids av) with
 | true=>rw [hn] at h; exact absurd h (by simp [ids,aw])
 | false =>
  rw [hn] at h
  have h:m ∈ ids av:=h
  refine ⟨h,?_⟩
  rintro rfl
  rw [(b7 m _).2 h] at hn
  cases hn
theorem mu (n:Nat):kill n .x = .x:=rfl

theorem ao.kill {W0:World} {F:Fr} {X:Nat->Prop} {N:Nat} {s:St} {β:Nat->Option Nat} {a:Act} {w:World} (h:ao W0 F X N s β a w) (n:Nat):ao W0 F X N (s.map (kill n)) β a w:=by
 have hO:∀ k,Own X (s.map (SX.kill n)) β k->Own X s β k:=by
  rintro k (hX | ⟨m,hm,hb⟩)
  ·exact .inl hX
  refine .inr ⟨m,?_,hb⟩
  rcases hm with ⟨cs,h⟩ | ⟨q,h⟩ | ⟨b,cs,h,c,hc,hn⟩
  ·simp only [St.map,aV,Option.map_eq_some_iff] at h
   obtain ⟨cs',h1,_⟩:=h
   exact .inl ⟨cs',h1⟩
  ·simp only [St.map,bH _ (mu n)] at h
   exact .inr (.inl ⟨q,(fg _ _ _ h).1⟩)
  ·simp only [St.map,aV,Option.map_eq_some_iff] at h
   obtain ⟨cs',h1,rfl⟩:=h
   rw [bz] at hc
   obtain ⟨c',dv,rfl⟩:=List.mem_map.1 hc
   exact .inr (.inr ⟨b,cs',h1,c',dv,(fg _ _ _ hn).1⟩)
 refine h.mapped (SX.kill n) (mu n) (Own X s β) (fun av v hr=>?_) (fun av m hm=>(fg _ _ _ hm).1) hO
 unfold SX.kill
 cases cr n (ids av) with
 | true=>exact Rel.x
 | false=>exact hr

def Ci (id i i2:Nat):Ob->AV
 | .gr L k row=>bif Nat.beq i2 id then (bif Nat.beq i id then .x else .vec i .ints (L.set k row)) else .x
 | _=>.x
theorem HO (id i i2:Nat) (o:Ob) (m:Nat) (h:m ∈ ids (Ci id i i2 o)):m = i/\i≠id:=by
 cases o with
 | gr L k row =>
  simp only [Ci] at h
  cases h1:Nat.beq i2 id<;>cases h2:Nat.beq i id<;>simp only [h1,h2,cond_true,cond_false] at h<;>(try (simp [ids,aw] at h; done))
  refine ⟨by simpa [ids,aw] using h,fun e=>?_⟩
  rw [e,Nat.beq_refl] at h2
  cases h2
 | _=>simp [Ci,ids,aw] at h
def cy (id:Nat):AV->AV
 | .vec i τ l=>bif Nat.beq i id then .rd τ l else .vec i τ l
 | .vp i τ l n off=>bif Nat.beq i id then .rp ((enc τ (l.getD n (aD τ))).drop off) else .vp i τ l n off
 | .pt n o=>bif Nat.beq n id then .x else .pt n o
 | .fn f ak=>bif cr id (ak.flatMap aw) then .x else .fn f ak
 | .bc cs=>bif cr id (cs.flatMap aw) then .x else .bc cs
 | .vs i τ l k=>bif Nat.beq i id then .rd τ (l.drop k) else .vs i τ l k
 | .ag k cs=>bif cr id (cs.flatMap aw) then .x else .ag k cs
 | .ob i i2 o=>bif cr id [i,i2] then Ci id i i2 o else .ob i i2 o
 | av=>av
theorem sj (n:Nat) (av:AV) (m:Nat) (h:m ∈ ids (cy n av)):m ∈ ids av/\m≠n:=by
 cases av with
 | vec i τ l=>by_cases e:i = n<;>simp_all [cy,ids,aw,Bool.cond_eq_ite]
 | vp i τ l k off=>by_cases e:i = n<;>simp_all [cy,ids,aw,Bool.cond_eq_ite]
 | pt i o=>by_cases e:i = n<;>simp_all [cy,ids,aw,Bool.cond_eq_ite]
 | fn f ak =>
  by_cases e:cr n (ak.flatMap aw) = true
  ·simp [cy,e,ids,aw] at h
  ·simp only [Bool.not_eq_true] at e
   simp only [cy,e,cond_false] at h
   refine ⟨h,?_⟩
   rintro rfl
   rw [(b7 m (ak.flatMap aw)).2 h] at e
   cases e
 | vs i τ l k=>by_cases e:i = n<;>simp_all [cy,ids,aw,Bool.cond_eq_ite]
 | ob i i2 o =>
  by_cases e:cr n [i,i2] = true
  ·simp only [cy,e,cond_true] at h
   obtain ⟨rfl,h2⟩:=HO _ _ _ _ _ h
   exact ⟨by simp [ids,aw],h2⟩
  ·simp only [Bool.not_eq_true] at e
   simp only [cy,e,cond_false] at h
   refine ⟨h,?_⟩
   rintro rfl
   have h:m ∈ [i,i2]:=h
   rw [(b7 m [i,i2]).2 h] at e
   cases e
 | ag k ak =>
  by_cases e:cr n (ak.flatMap aw) = true
  ·simp [cy,e,ids,aw] at h
  ·simp only [Bool.not_eq_true] at e
   simp only [cy,e,cond_false] at h
   refine ⟨h,?_⟩
   rintro rfl
   rw [(b7 m (ak.flatMap aw)).2 h] at e
   cases e
 | bc ak =>
  by_cases e:cr n (ak.flatMap aw) = true
  ·simp [cy,e,ids,aw] at h
  ·simp only [Bool.not_eq_true] at e
   simp only [cy,e,cond_false] at h
   refine ⟨h,?_⟩
   rintro rfl
   rw [(b7 m (ak.flatMap aw)).2 h] at e
   cases e
 | _=>simp [cy,ids,aw] at h

theorem aU.freeze {β : Nat -> Option Nat} {O O' : Nat -> Prop} {w : World} {id : Nat} {τ : Ty} {l : List (den τ)} {v : Value} (h : aU β O w id τ l v)
  (hO:∀ k,O' k->O k/\β id≠some k):Im O' w (.rd τ l) v:=by
 rcases h with ⟨rfl,rfl,_⟩ | ⟨g,c,cur,e,h1,rfl,h3,h4,h5,h6,h7⟩
 ·exact .uR τ none 0 (by simp [maxLen])
 ·cases l with
  | nil=>exact .uR τ _ c h5
  | cons x l =>
   have hg:¬ O' g:=fun hg=>(hO g hg).2 h1
   refine .rd τ _ g 0 c (fun i j=>(cur[i * aX τ + j]?).getD undef) hg h4 h5 (by simp) (fun i y j av hy ck=>?_) (fun i y j av hy ck=>?_)
   ·obtain ⟨u,hu,_⟩:=h7 i y j av hy ck
    rw [Nat.zero_add,cell_of_row w g _ cur e (0,0) h3,hu]
    rfl
   ·obtain ⟨u,hu,dw⟩:=h7 i y j av hy ck
    simp only [hu,Option.getD_some]
    exact dw.mono fun k hk=>(hO k hk).1

theorem Im.Eo {O : Nat -> Prop} {w : World} {τ : Ty} {l : List (den τ)} {g o n c k : Nat} {ad : Addr} (h : Im O w (.rd τ l) (.slice (some ⟨g, o, none⟩) n c)) (hk : k<=l.length)
  (WV:k < c->ad = ⟨g,o + k * aX τ,none⟩):Im O w (.rd τ (l.drop k)) (.slice (some ad) (n - k) (c - k)):=by
 cases h with
 | uR _ _ _ hc=>simp at hk; subst hk; simp; exact .uR τ _ _ hc
 | rd _ _ g off c u hg hc Y4 da gR dw =>
  cases hl:l.drop k with
  | nil =>
   have:(l.drop k).length = 0:=by rw [hl]; rfl
   simp at this
   rw [show l.length - k = 0 by omega]
   exact .uR τ _ _ (by omega)
  | cons y r =>
   have pj:0 < (l.drop k).length:=by rw [hl]; simp
   simp at pj
   rw [<- hl,WV (by omega),<- List.length_drop]
   refine .rd τ _ g _ _ (fun i j=>u (k + i) j) hg (by simp; omega) (by omega) (by rw [hl]; simp) (fun i z j av hz ck=>?_) (fun i z j av hz ck=>?_)
   ·rw [List.getElem?_drop] at hz
    have:=gR _ _ j av hz ck
    rw [Nat.add_mul] at this
    rw [<- this]
    congr 2
    omega
   ·rw [List.getElem?_drop] at hz
    exact dw _ _ j av hz ck
theorem lZ.freeze {β : Nat -> Option Nat} {O O' : Nat -> Prop} {w : World} {id : Nat} {τ : Ty} {l : List (den τ)} {k : Nat} {v : Value} (h : lZ β O w id τ l k v)
  (hO:∀ k,O' k->O k/\β id≠some k):Im O' w (.rd τ (l.drop k)) v:=by
 obtain ⟨h0,v',h1,h2⟩:=h
 have h3:=h1.freeze hO
 rcases h2 with ⟨rfl,rfl⟩ | ⟨g,n,c,ad,rfl,rfl,h4⟩
 ·exact h3
 ·exact h3.Eo h0 fun h=>by rw [h4 h,Nat.zero_add]
theorem qe.freeze {β : Nat -> Option Nat} {O O' : Nat -> Prop} {w : World} {id aR : Nat} {L : List (List Int)} {i : Nat} {row : List Int} {v : Value} (h : qe β O w id aR L i row v)
  (hO:∀ k,O' k->O k/\β aR≠some k):aU β O' w id .ints (L.set i row) v:=by
 obtain ⟨g,c,cur,e,h1,h2,h3,h4,h5,h6,h7,h8⟩:=h
 refine .inr ⟨g,c,cur,e,h1,by simpa using h2,h3,by simpa using h4,h5,by simpa [aX] using h6,fun j x q av hj ck=>?_⟩
 cases q with
 | succ q=>simp [enc] at ck
 | zero =>
  have ck:AV.rd .int x = av:=by simpa [enc] using ck
  subst ck
  simp only [aX,Nat.mul_one,Nat.add_zero]
  by_cases LA:j = i
  ·subst LA
   have hlt:j < L.length:=by
    have:=(List.getElem?_eq_some_iff.1 hj).1
    simpa using this
   rw [List.getElem?_set_self hlt] at hj
   injection hj with hj
   subst hj
   obtain ⟨u,h9,gQ⟩:=h8 hlt
   exact ⟨u,h9,gQ.freeze hO⟩
  ·rw [List.getElem?_set_ne (fun e=>LA e.symm)] at hj
   obtain ⟨u,hu,dw⟩:=h7 j x hj LA
   exact ⟨u,hu,dw.mono fun k hk=>(hO k hk).1⟩
theorem Rel.cy {β : Nat -> Option Nat} {O O' : Nat -> Prop} {w : World} {id : Nat} {av : AV} {v : Value} (h : Rel β O w av v)
  (hO:∀ k,O' k->O k/\β id≠some k):Rel β O' w (cy id av) v:=by
 have hm:∀ {av v},Rel β O w av v->Rel β O' w av v:=fun h=>h.mono fun k hk=>(hO k hk).1
 cases av with
 | vec i τ l =>
  by_cases e:i = id
  ·subst e; simp only [SX.cy,Nat.beq_refl,cond_true]; exact aU.freeze h hO
  ·simp only [SX.cy,dQ e,cond_false]; exact hm h
 | vp i τ l n off =>
  by_cases e:i = id
  ·subst e
   simp only [SX.cy,Nat.beq_refl,cond_true]
   obtain ⟨hn,⟨g,hg,rfl⟩,v',hv⟩:=h
   refine Im.ur (g:=g) (o:=n * aX τ + off) fun j av hj=>?_
   refine ⟨fun hk=>(hO g hk).2 hg,?_⟩
   rcases hv with ⟨rfl,_,_⟩ | ⟨g',c,cur,e,h1,rfl,h3,h4,h5,h6,h7⟩
   ·simp at hn
   ·rw [h1] at hg
    injection hg with hg
    subst hg
    rw [List.getElem?_drop] at hj
    have hl:l[n]? = some (l.getD n (aD τ)):=by rw [List.getD_eq_getElem?_getD,List.getElem?_eq_getElem hn]; rfl
    obtain ⟨u,hu,dw⟩:=h7 n _ (off + j) av hl hj
    refine ⟨u,?_,dw.mono fun k hk=>(hO k hk).1,plain_one dw (enc_plain τ _ _ (List.mem_of_getElem? hj))⟩
    rw [cell_of_row w g' _ cur e (0,0) h3,Nat.add_assoc,hu]
  ·simp only [SX.cy,dQ e,cond_false]; exact hm h
 | pt n o =>
  by_cases e:n = id
  ·subst e; simp only [SX.cy,Nat.beq_refl,cond_true]; exact Rel.x
  ·simp only [SX.cy,dQ e,cond_false]; exact hm h
 | fn f ak =>
  simp only [SX.cy]
  cases cr id (ak.flatMap aw) with
  | true=>exact Rel.x
  | false=>exact hm h
 | bc ak =>
  simp only [SX.cy]
  cases cr id (ak.flatMap aw) with
  | true=>exact Rel.x
  | false=>exact hm h
 | vs i τ l k =>
  by_cases e:i = id
  ·subst e; simp only [SX.cy,Nat.beq_refl,cond_true]; exact lZ.freeze h hO
  ·simp only [SX.cy,dQ e,cond_false]; exact hm h
 | ag k ak =>
  simp only [SX.cy]
  cases cr id (ak.flatMap aw) with
  | true=>exact Rel.x
  | false=>exact hm h
 | ob i i2 o =>
  simp only [SX.cy]
  cases cr id [i,i2] with
  | true =>
   cases o with
   | gr L k row =>
    simp only [Ci,cond_true]
    by_cases e2:i2 = id
    ·subst e2
     simp only [Nat.beq_refl,cond_true]
     cases Nat.beq i i2 with
     | true=>exact Rel.x
     | false=>exact qe.freeze (show qe β O w i i2 L k row v from h) hO
    ·simp only [dQ e2,cond_false]; exact Rel.x
   | _=>exact Rel.x
  | false=>exact hm h
 | _=>exact hm h

def St.cy (s:St) (id:Nat):St:=(s.map (SX.cy id)).bj id
theorem Nm.ic {s:St} {id n:Nat} (h:Nm (s.cy id) n):Nm s n/\n≠id:=by
 have key:∀ b cs,ax (s.cy id).boxes b = some cs->b≠id/\∃ cs',ax s.boxes b = some cs'/\cs = cs'.map (SX.cy id):=by
  intro b cs h
  simp only [St.cy,St.bj,St.map,bV,aV] at h
  split at h
  ·cases h
  ·rename_i da
   obtain ⟨cs',h1,rfl⟩:=Option.map_eq_some_iff.1 h
   exact ⟨fun e=>da e.symm,cs',h1,bz _ _⟩
 rcases h with ⟨cs,h⟩ | ⟨q,h⟩ | ⟨b,cs,h,c,hc,hn⟩
 ·obtain ⟨h1,cs',h2,_⟩:=key _ _ h
  exact ⟨.inl ⟨cs',h2⟩,h1⟩
 ·simp only [St.cy,St.bj,St.map,bH _ (show SX.cy id .x = .x from rfl)] at h
  exact ⟨.inr (.inl ⟨q,(sj _ _ _ h).1⟩),(sj _ _ _ h).2⟩
 ·obtain ⟨h1,cs',h2,rfl⟩:=key _ _ h
  obtain ⟨c',dv,rfl⟩:=List.mem_map.1 hc
  exact ⟨.inr (.inr ⟨b,cs',h2,c',dv,(sj _ _ _ hn).1⟩),(sj _ _ _ hn).2⟩

theorem ao.cy {W0:World} {F:Fr} {X:Nat->Prop} {N:Nat} {s:St} {β:Nat->Option Nat} {a:Act} {w:World} (h:ao W0 F X N s β a w) (id:Nat):ao W0 F X N (s.cy id) β a w:=by
 by_cases nK:Nm s id
 ·have hO : ∀ k, Own X (s.cy id) β k -> Own X s β k /\ β id ≠ some k := by
   rintro k (hX | ⟨m,hm,hb⟩)
   ·exact ⟨.inl hX,fun e=>h.Cd id k nK e hX⟩
   ·obtain ⟨h1,h2⟩:=Nm.ic hm
    exact ⟨.inr ⟨m,h1,hb⟩,fun e=>h2 (h.inj m id k h1 nK hb e)⟩
  refine h.yS (ca.refl (fun _=>False) w) (fun _ _ h=>h.elim) (fun n=>?_) (fun n cs cZ=>?_) (fun n m g hn hm=>h.inj n m g (Nm.ic hn).1 (Nm.ic hm).1)
   (fun n g hn hg=>h.own n g (Nm.ic hn).1 hg) rfl rfl (fun n cs g hc hp=>by
    simp only [St.cy,St.bj,St.map,bV,aV] at hc
    split at hc
    ·cases hc
    ·obtain ⟨cs',h1,_⟩:=Option.map_eq_some_iff.1 hc
     exact h.fP n cs' g h1 hp)
  ·simp only [St.cy,St.bj,St.map,bH _ (show SX.cy id .x = .x from rfl)]
   exact (h.aj n).cy hO
  ·simp only [St.cy,St.bj,St.map,bV,aV] at cZ
   split at cZ
   ·cases cZ
   ·obtain ⟨cs',h1,rfl⟩:=Option.map_eq_some_iff.1 cZ
    obtain ⟨g,us,e,h2,h3,h4⟩:=h.boxes n cs' h1
    refine ⟨g,us,e,h2,h3,?_⟩
    rw [bz]
    refine ⟨by simpa using h4.1,fun j c v hc hv=>?_⟩
    rw [List.getElem?_map,Option.map_eq_some_iff] at hc
    obtain ⟨c',dv,rfl⟩:=hc
    exact ⟨(h4.2 j c' v dv hv).1.cy hO,(h4.2 j c' v dv hv).2⟩
 ·have hO : ∀ k, Own X (s.cy id) β k -> Own X s β k := by
   rintro k (hX | ⟨m,hm,hb⟩)
   ·exact .inl hX
   ·exact .inr ⟨m,(Nm.ic hm).1,hb⟩
  have wS:∀ av,(∀ n ∈ ids av,Nm s n)->SX.cy id av = av:=by
   intro av ck
   cases av with
   | vec i τ l=>have:i≠id:=fun e=>nK (e ▸ ck i (by simp [ids,aw])); simp [SX.cy,Bool.cond_eq_ite,this]
   | vp i τ l n off=>have:i≠id:=fun e=>nK (e ▸ ck i (by simp [ids,aw])); simp [SX.cy,Bool.cond_eq_ite,this]
   | pt n o=>have:n≠id:=fun e=>nK (e ▸ ck n (by simp [ids,aw])); simp [SX.cy,Bool.cond_eq_ite,this]
   | fn f ak =>
    have:cr id (ak.flatMap aw) = false:=by
     rw [<- Bool.not_eq_true,b7]
     exact fun e=>nK (ck id e)
    simp [SX.cy,this]
   | bc ak =>
    have:cr id (ak.flatMap aw) = false:=by
     rw [<- Bool.not_eq_true,b7]
     exact fun e=>nK (ck id e)
    simp [SX.cy,this]
   | vs i τ l n=>have:i≠id:=fun e=>nK (e ▸ ck i (by simp [ids,aw])); simp [SX.cy,Bool.cond_eq_ite,this]
   | ag k ak =>
    have:cr id (ak.flatMap aw) = false:=by
     rw [<- Bool.not_eq_true,b7]
     exact fun e=>nK (ck id e)
    simp [SX.cy,this]
   | ob i i2 o =>
    have:cr id [i,i2] = false:=by
     rw [<- Bool.not_eq_true,b7]
     exact fun e=>nK (ck id e)
    simp [SX.cy,this]
   | _=>rfl
  refine h.yS (ca.refl (fun _=>False) w) (fun _ _ h=>h.elim) (fun n=>?_) (fun n cs cZ=>?_) (fun n m g hn hm=>h.inj n m g (Nm.ic hn).1 (Nm.ic hm).1)
   (fun n g hn hg=>h.own n g (Nm.ic hn).1 hg) rfl rfl (fun n cs g hc hp=>by
    simp only [St.cy,St.bj,St.map,bV,aV] at hc
    split at hc
    ·cases hc
    ·obtain ⟨cs',h1,_⟩:=Option.map_eq_some_iff.1 hc
     exact h.fP n cs' g h1 hp)
  ·simp only [St.cy,St.bj,St.map,bH _ (show SX.cy id .x = .x from rfl)]
   rw [wS _ (fun k hk=>.inr (.inl ⟨n,hk⟩))]
   exact (h.aj n).mono hO
  ·simp only [St.cy,St.bj,St.map,bV,aV] at cZ
   split at cZ
   ·cases cZ
   ·obtain ⟨cs',h1,rfl⟩:=Option.map_eq_some_iff.1 cZ
    obtain ⟨g,us,e,h2,h3,h4⟩:=h.boxes n cs' h1
    refine ⟨g,us,e,h2,h3,?_⟩
    rw [bz]
    refine ⟨by simpa using h4.1,fun j c v hc hv=>?_⟩
    rw [List.getElem?_map,Option.map_eq_some_iff] at hc
    obtain ⟨c',dv,rfl⟩:=hc
    rw [wS _ (fun k hk=>.inr (.inr ⟨n,cs',h1,c',List.mem_of_getElem? dv,hk⟩))]
    exact ⟨(h4.2 j c' v dv hv).1.mono hO,(h4.2 j c' v dv hv).2⟩
end Go.SX
end
section
namespace Go.SX
variable [Globs]

theorem iu {c:AV} {n:Nat} (hc:n ∈ fp c):n ∈ aw c:=by cases c<;>simp_all [fp,aw]
theorem cN {av:AV} {n:Nat} (h:n ∈ dT av):n ∈ ids av:=by
 cases av with
 | fn f ak=>simp only [dT,ids,List.mem_flatMap] at h ⊢; obtain ⟨c,hc,Co⟩:=h; exact ⟨c,hc,iu Co⟩
 | bc cs=>simp only [dT,ids,List.mem_flatMap] at h ⊢; obtain ⟨c,hc,Co⟩:=h; exact ⟨c,hc,iu Co⟩
 | ag k cs=>simp only [dT,ids,List.mem_flatMap] at h ⊢; obtain ⟨c,hc,Co⟩:=h; exact ⟨c,hc,iu Co⟩
 | _=>simp_all [dT,fp,ids,aw]

section
variable {W0:World} {F:Fr} {X:Nat->Prop} {N:Nat} {s:St} {β:Nat->Option Nat} {a:Act} {w:World}

theorem ao.AD (_h : ao W0 F X N s β a w) {bJ : Nat -> Option Nat} {O' Ow : Nat -> Prop} {w' : World} (hs : ca Ow w w') (hw : ∀ k, k < w.heap.size -> Ow k -> oK s β k)
  (hO:∀ k,k < w.heap.size->O' k->Own X s β k) {av:AV} {v:Value} (hr:Rel β (Own X s β) w av v) (cG:∀ n ∈ ids av,bJ n = β n)
  (hb:∀ n ∈ dT av,∀ g,β n = some g->w'.heap[g]? = w.heap[g]?):Rel bJ O' w' av v:=hr.step hs (fun k hk h=>.inr (hw k hk h)) hO cG hb

def ay (β:Nat->Option Nat) (d:Nat) (b:Option Nat) (n:Nat):Option Nat:=if n = d then b else β n

theorem ca.alloc (w:World) (o:Obj):ca (fun _=>False) w (w.alloc o) :=
 ⟨rfl,rfl,rfl,by simp,fun k hk _=>RowKit.Below.heap_alloc w o k hk⟩
theorem ca.drew (w:World):ca (fun _=>False) w w.drew:=⟨rfl,rfl,rfl,Nat.le_refl _,fun _ _ _=>rfl⟩

theorem ao.box (h : ao W0 F X N s β a w) {d : Nat} (hd : d < N) (bB : ¬ Nm s d) {cs : List AV} {us : Array Value} {e : TypeId}
  (hr:All2 (iP β (Own X s β) w) cs us.toList) (bt:∀ c ∈ cs,∀ n ∈ ids c,Nm s n) :
  ao W0 F X N ((s.bF d cs).put d (.pt d 0)) (ay β d (some w.heap.size)) (a.put (some d) (.pointer (some ⟨w.heap.size,0,none⟩))) (w.alloc (.cells us e)):=by
 have bP:∀ n,Nm ((s.bF d cs).put d (.pt d 0)) n->n = d\/Nm s n:=by
  rintro n (⟨cs',h⟩ | ⟨q,h⟩ | ⟨b,cs',h,c,hc,hn⟩)
  ·simp only [St.put,St.bF,bW] at h
   split at h
   ·rename_i e; exact .inl e.symm
   ·exact .inr (.inl ⟨cs',h⟩)
  ·simp only [St.put,St.bF,bI] at h
   split at h
   ·simp [ids,aw] at h; exact .inl h
   ·exact .inr (.inr (.inl ⟨q,h⟩))
  ·simp only [St.put,St.bF,bW] at h
   split at h
   ·injection h with h; subst h; exact .inr (bt c hc n hn)
   ·exact .inr (.inr (.inr ⟨b,cs',h,c,hc,hn⟩))
 have cG:∀ n,Nm s n->ay β d (some w.heap.size) n = β n:=fun n hn=>by
  unfold ay; rw [if_neg]; rintro rfl; exact bB hn
 have hO:∀ k,k < w.heap.size->Own X ((s.bF d cs).put d (.pt d 0)) (ay β d (some w.heap.size)) k->Own X s β k:=by
  rintro k hk (hX | ⟨n,hn,hb⟩)
  ·exact .inl hX
  rcases bP n hn with rfl | hn
  ·simp only [ay,if_true] at hb; injection hb with hb; omega
  ·exact .inr ⟨n,hn,(cG n hn) ▸ hb⟩
 have hst:=ca.alloc w (.cells us e)
 have hk : ∀ {av : AV} {v : Value}, (∀ n ∈ ids av, Nm s n) -> Rel β (Own X s β) w av v ->
   Rel (ay β d (some w.heap.size)) (Own X ((s.bF d cs).put d (.pt d 0)) (ay β d (some w.heap.size))) (w.alloc (.cells us e)) av v:=fun ck ba =>
  h.AD hst (fun _ _ h=>h.elim) hO ba (fun n hn=>cG n (ck n hn)) (fun n hn g hg=>hst.block g (h.own n g (ck n (cN hn)) hg).1 (fun h=>h))
 refine h.yS hst (fun _ _ h=>h.elim) (fun n=>?_) (fun n cs' cZ=>?_) (fun n m g hn hm h1 h2=>?_) (fun n g hn hg=>?_) (size_put _ _ _) (fT _ _ _) (fun n cs' g hc hp=>by
  simp only [St.put,St.bF,bW] at hc
  split at hc
  ·rename_i e'; subst e'; rw [h.vV _ hd] at hp; cases hp
  ·exact (cG n (.inl ⟨cs',hc⟩)).trans (h.fP n cs' g hc hp))
 ·rw [eM a d _ (by rw [h.size]; exact hd)]
  simp only [St.put,St.bF,bI]
  by_cases qw:d = n
  ·simp only [qw,if_true]; exact ⟨w.heap.size,by simp [ay],rfl⟩
  ·simp only [qw,if_false]; exact hk (fun k hk=>.inr (.inl ⟨n,hk⟩)) (h.aj n)
 ·simp only [St.put,St.bF,bW] at cZ
  split at cZ
  ·rename_i e'; subst e'
   injection cZ with cZ; subst cZ
   exact ⟨w.heap.size,us,e,by simp [ay],heap_alloc_new w _,hr.mono fun j c v hc ba=>⟨hk (bt c (List.mem_of_getElem? hc)) ba.1,ba.2⟩⟩
  ·obtain ⟨g,us',e',h1,h2,h3⟩:=h.boxes n cs' cZ
   have hN:Nm s n:=.inl ⟨cs',cZ⟩
   exact ⟨g,us',e',(cG n hN).trans h1,(hst.block g (h.own n g hN h1).1 (fun h=>h)).trans h2,
    h3.mono fun j c v hc ba=>⟨hk (fun k hk=>.inr (.inr ⟨n,cs',cZ,c,List.mem_of_getElem? hc,hk⟩)) ba.1,ba.2⟩⟩
 ·rcases bP n hn with e1 | n1<;>rcases bP m hm with e2 | m1
  ·rw [e1,e2]
  ·subst e1; rw [cG m m1] at h2; simp only [ay,if_true] at h1; injection h1 with h1; have:=(h.own m g m1 h2).1; omega
  ·subst e2; rw [cG n n1] at h1; simp only [ay,if_true] at h2; injection h2 with h2; have:=(h.own n g n1 h1).1; omega
  ·rw [cG n n1] at h1; rw [cG m m1] at h2; exact h.inj n m g n1 m1 h1 h2
 ·rcases bP n hn with rfl | hn
  ·simp only [ay,if_true] at hg; injection hg with hg; subst hg
   exact ⟨by simp,.inl h.ext.size⟩
  ·rw [cG n hn] at hg
   obtain ⟨h1,h2⟩:=h.own n g hn hg
   exact ⟨Nat.lt_of_lt_of_le h1 hst.size,h2⟩

theorem ca.setRow (w:World) (g:Nat) (cs:Array Value):ca (fun k=>k = g) w (w.setRow g cs) :=
 ⟨rfl,rfl,rfl,by simp [World.setRow],fun k _ hk=>setRow_other w g k cs (fun e=>hk (by first | exact e | exact e.symm))⟩

theorem ao.Kh (h : ao W0 F X N s β a w) {n g : Nat} {fE cs : List AV} {Gl us : Array Value} {e : TypeId} (hn : ax s.boxes n = some fE) (hg : β n = some g)
  (hh:w.heap[g]? = some (.cells Gl e (0,0)))
  (Ap:(∀ m,n ∉ dT (look s.aj m))/\∀ b cs',ax s.boxes b = some cs'->∀ c ∈ cs',n ∉ dT c)
  (hr:All2 (iP β (Own X s β) w) cs us.toList) (bt:∀ c ∈ cs,∀ k ∈ ids c,Nm s k) (UP:∀ c ∈ cs,n ∉ dT c):ao W0 F X N (s.bF n cs) β a (w.setRow g us):=by
 have Mt:Nm s n:=.inl ⟨fE,hn⟩
 have bP:∀ k,Nm (s.bF n cs) k->Nm s k:=by
  rintro k (⟨cs',h⟩ | ⟨q,h⟩ | ⟨b,cs',h,c,hc,hk⟩)
  ·simp only [St.bF,bW] at h
   split at h
   ·rename_i e; exact e ▸ Mt
   ·exact .inl ⟨cs',h⟩
  ·exact .inr (.inl ⟨q,h⟩)
  ·simp only [St.bF,bW] at h
   split at h
   ·injection h with h; subst h; exact bt c hc k hk
   ·exact .inr (.inr ⟨b,cs',h,c,hc,hk⟩)
 have hO:∀ k,k < w.heap.size->Own X (s.bF n cs) β k->Own X s β k:=fun k _ hk=>hk.imp id fun ⟨m,hm,hb⟩=>⟨m,bP m hm,hb⟩
 have hst:=ca.setRow w g us
 have hw:∀ k,k < w.heap.size->k = g->oK s β k:=fun k _ e=>⟨n,Mt,e ▸ hg⟩
 have hk:∀ {av:AV} {v:Value},(∀ k ∈ ids av,Nm s k)->n ∉ dT av->Rel β (Own X s β) w av v->Rel β (Own X (s.bF n cs) β) (w.setRow g us) av v:=fun ck UE ba =>
  h.AD hst hw hO ba (fun _ _=>rfl) (fun m hm g' kL=>hst.block g' (h.own m g' (ck m (cN hm)) kL).1 (fun e=>UE (by
   subst e; rw [h.inj n m g' Mt (ck m (cN hm)) hg kL]; exact hm)))
 refine h.yS hst hw (fun m=>?_) (fun m cs' cZ=>?_) (fun k m g' hk hm=>h.inj k m g' (bP k hk) (bP m hm)) (fun k g' hk kL=>?_) rfl rfl (fun m cs' g' hc hp=>by
  simp only [St.bF,bW] at hc
  split at hc
  ·rename_i e'; subst e'; exact h.fP _ fE g' hn hp
  ·exact h.fP m cs' g' hc hp)
 ·exact hk (fun k hk=>.inr (.inl ⟨m,hk⟩)) (Ap.1 m) (h.aj m)
 ·simp only [St.bF,bW] at cZ
  split at cZ
  ·rename_i e'; subst e'
   injection cZ with cZ; subst cZ
   exact ⟨g,us,e,hg,setRow_heap w g Gl us e _ hh,hr.mono fun j c v hc ba=>⟨hk (bt c (List.mem_of_getElem? hc)) (UP c (List.mem_of_getElem? hc)) ba.1,ba.2⟩⟩
  ·rename_i da
   obtain ⟨g',us',e',h1,h2,h3⟩:=h.boxes m cs' cZ
   have hN:Nm s m:=.inl ⟨cs',cZ⟩
   refine ⟨g',us',e',h1,(hst.block g' (h.own m g' hN h1).1 (fun e=>da ?_)).trans h2,h3.mono fun j c v hc ba=>⟨hk (fun k hk=>.inr (.inr ⟨m,cs',cZ,c,List.mem_of_getElem? hc,hk⟩)) (Ap.2 m cs' cZ c (List.mem_of_getElem? hc)) ba.1,ba.2⟩⟩
   subst e
   exact h.inj n m g' Mt hN hg h1
 ·obtain ⟨h1,h2⟩:=h.own k g' (bP k hk) kL
  exact ⟨Nat.lt_of_lt_of_le h1 hst.size,h2⟩

def St.kill (s:St) (n:Nat):St:=(s.map (SX.kill n)).bj n
theorem Nm.Eg {s:St} {id n:Nat} (h:Nm (s.kill id) n):Nm s n/\n≠id:=by
 have key:∀ b cs,ax (s.kill id).boxes b = some cs->b≠id/\∃ cs',ax s.boxes b = some cs'/\cs = cs'.map (SX.kill id):=by
  intro b cs h
  simp only [St.kill,St.bj,St.map,bV,aV] at h
  split at h
  ·cases h
  ·rename_i da
   obtain ⟨cs',h1,rfl⟩:=Option.map_eq_some_iff.1 h
   exact ⟨fun e=>da e.symm,cs',h1,bz _ _⟩
 rcases h with ⟨cs,h⟩ | ⟨q,h⟩ | ⟨b,cs,h,c,hc,hn⟩
 ·obtain ⟨h1,cs',h2,_⟩:=key _ _ h
  exact ⟨.inl ⟨cs',h2⟩,h1⟩
 ·simp only [St.kill,St.bj,St.map,bH _ (mu id)] at h
  exact ⟨.inr (.inl ⟨q,(fg _ _ _ h).1⟩),(fg _ _ _ h).2⟩
 ·obtain ⟨h1,cs',h2,rfl⟩:=key _ _ h
  obtain ⟨c',dv,rfl⟩:=List.mem_map.1 hc
  exact ⟨.inr (.inr ⟨b,cs',h2,c',dv,(fg _ _ _ hn).1⟩),(fg _ _ _ hn).2⟩

theorem ao.AN (h : ao W0 F X N s β a w) {d id1 : Nat} (hd : d < N) (bB : Nm s d -> d = id1) {w' : World} {Ow : Nat -> Prop} (hs : ca Ow w w')
  (hw:∀ k,Ow k->Nm s id1/\β id1 = some k) {b:Option Nat} (hb:∀ g,b = some g->g < w'.heap.size/\((Nm s id1/\β id1 = some g)\/w.heap.size<=g))
  {av0:AV} {u:Value} (bt:ids av0 = [d]) (hv:∀ O':Nat->Prop,(∀ k,k < w.heap.size->O' k->Own X s β k)->Rel (ay β d b) O' w' av0 u) :
  ao W0 F X N ((s.kill id1).put d av0) (ay β d b) (a.put (some d) u) w':=by
 have bP:∀ n,Nm ((s.kill id1).put d av0) n->n = d\/(Nm s n/\n≠id1/\n≠d):=by
  intro n hn
  by_cases hnd:n = d
  ·exact .inl hnd
  ·refine .inr ?_
   have:Nm (s.kill id1) n:=by
    rcases hn with ⟨cs',h⟩ | ⟨q,h⟩ | ⟨b,cs',h,c,hc,hn⟩
    ·exact .inl ⟨cs',h⟩
    ·simp only [St.put,bI] at h
     split at h
     ·rw [bt] at h; exact absurd (List.mem_singleton.1 h) hnd
     ·exact .inr (.inl ⟨q,h⟩)
    ·exact .inr (.inr ⟨b,cs',h,c,hc,hn⟩)
   obtain ⟨h1,h2⟩:=Nm.Eg this
   exact ⟨h1,h2,hnd⟩
 have cG:∀ n,n≠d->ay β d b n = β n:=fun n hn=>by unfold ay; rw [if_neg hn]
 have hO:∀ k,k < w.heap.size->Own X ((s.kill id1).put d av0) (ay β d b) k->Own X s β k:=by
  rintro k hk (hX | ⟨n,hn,Ql⟩)
  ·exact .inl hX
  rcases bP n hn with rfl | ⟨hn,_,hnd⟩
  ·simp only [ay,if_true] at Ql
   rcases (hb k Ql).2 with h1 | h1
   ·exact .inr ⟨id1,h1.1,h1.2⟩
   ·omega
  ·exact .inr ⟨n,hn,(cG n hnd) ▸ Ql⟩
 have Zo:∀ k,k < w.heap.size->Ow k->oK s β k:=fun k _ hk=>⟨id1,(hw k hk).1,(hw k hk).2⟩
 have tP:∀ n g,Nm s n->n≠id1->β n = some g->w'.heap[g]? = w.heap[g]?:=fun n g hn da hg =>
  hs.block g (h.own n g hn hg).1 (fun ho=>da (h.inj n id1 g hn (hw g ho).1 hg (hw g ho).2))
 have hk : ∀ {av : AV} {v : Value}, (∀ n ∈ ids av, Nm s n /\ n ≠ id1 /\ n ≠ d) -> Rel β (Own X s β) w av v ->
   Rel (ay β d b) (Own X ((s.kill id1).put d av0) (ay β d b)) w' av v:=fun ck ba =>
  h.AD hs Zo hO ba (fun n hn=>cG n (ck n hn).2.2) (fun n hn g hg=>tP n g (ck n (cN hn)).1 (ck n (cN hn)).2.1 hg)
 have Pq:∀ (av:AV) (v:Value),(∀ n ∈ ids av,Nm s n)->Rel β (Own X s β) w av v->Rel (ay β d b) (Own X ((s.kill id1).put d av0) (ay β d b)) w' (SX.kill id1 av) v:=by
  intro av v ck ba
  cases ix:cr id1 (ids av) with
  | true=>simp only [SX.kill,ix,cond_true]; exact Rel.x
  | false =>
   have da:∀ n ∈ ids av,n≠id1:=fun n hn e=>by rw [<- e,(b7 n _).2 hn] at ix; cases ix
   simp only [SX.kill,ix,cond_false]
   exact hk (fun n hn=>⟨ck n hn,da n hn,fun e=>da n hn (by rw [e]; exact bB (e ▸ ck n hn))⟩) ba
 refine h.yS hs Zo (fun n=>?_) (fun n cs cZ=>?_) (fun n m g hn hm h1 h2=>?_) (fun n g hn hg=>?_) (size_put _ _ _) (fT _ _ _) (fun n cs g hc hp=>by
  simp only [St.put,St.kill,St.bj,St.map,bV,aV] at hc
  split at hc
  ·cases hc
  ·rename_i da
   obtain ⟨cs',h1,_⟩:=Option.map_eq_some_iff.1 hc
   have hnd:n≠d:=fun e=>da (by rw [e]; exact (bB (e ▸ .inl ⟨cs',h1⟩)).symm)
   exact (cG n hnd).trans (h.fP n cs' g h1 hp))
 ·rw [eM a d _ (by rw [h.size]; exact hd)]
  simp only [St.put,bI]
  by_cases qw:d = n
  ·simp only [qw,if_true]; subst qw; exact hv _ hO
  ·simp only [qw,if_false,St.kill,St.bj,St.map,bH _ (mu id1)]
   exact Pq _ _ (fun k hk=>.inr (.inl ⟨n,hk⟩)) (h.aj n)
 ·have hN:Nm ((s.kill id1).put d av0) n:=.inl ⟨cs,cZ⟩
  simp only [St.put,St.kill,St.bj,St.map,bV,aV] at cZ
  split at cZ
  ·cases cZ
  ·rename_i da
   obtain ⟨cs',h1,rfl⟩:=Option.map_eq_some_iff.1 cZ
   obtain ⟨g,us,e,h2,h3,h4⟩:=h.boxes n cs' h1
   have hnd:n≠d:=fun e=>da (by rw [e]; exact (bB (e ▸ .inl ⟨cs',h1⟩)).symm)
   refine ⟨g,us,e,(cG n hnd).trans h2,(tP n g (.inl ⟨cs',h1⟩) (fun e=>da e.symm) h2).trans h3,?_⟩
   rw [bz]
   refine ⟨by simpa using h4.1,fun j c v hc Iz=>?_⟩
   rw [List.getElem?_map,Option.map_eq_some_iff] at hc
   obtain ⟨c',dv,rfl⟩:=hc
   exact ⟨Pq _ _ (fun k hk=>.inr (.inr ⟨n,cs',h1,c',List.mem_of_getElem? dv,hk⟩)) (h4.2 j c' v dv Iz).1,(h4.2 j c' v dv Iz).2⟩
 ·have aux : ∀ m, Nm s m /\ m ≠ id1 /\ m ≠ d -> ∀ g, b = some g -> β m = some g -> False := by
   rintro m ⟨hm,da,_⟩ g WZ Fy
   rcases (hb g WZ).2 with h3 | h3
   ·exact da (h.inj m id1 g hm h3.1 Fy h3.2)
   ·have:=(h.own m g hm Fy).1; omega
  rcases bP n hn with e1 | n1<;>rcases bP m hm with e2 | m1
  ·rw [e1,e2]
  ·subst e1; rw [cG m m1.2.2] at h2; simp only [ay,if_true] at h1; exact (aux m m1 g h1 h2).elim
  ·subst e2; rw [cG n n1.2.2] at h1; simp only [ay,if_true] at h2; exact (aux n n1 g h2 h1).elim
  ·rw [cG n n1.2.2] at h1; rw [cG m m1.2.2] at h2; exact h.inj n m g n1.1 m1.1 h1 h2
 ·rcases bP n hn with rfl | hn
  ·simp only [ay,if_true] at hg
   refine ⟨(hb g hg).1,?_⟩
   rcases (hb g hg).2 with h3 | h3
   ·exact (h.own id1 g h3.1 h3.2).2
   ·exact .inl (Nat.le_trans h.ext.size h3)
  ·rw [cG n hn.2.2] at hg
   obtain ⟨h1,h2⟩:=h.own n g hn.1 hg
   exact ⟨Nat.lt_of_lt_of_le h1 hs.size,h2⟩
theorem ao.qF (h : ao W0 F X N s β a w) {d id1 : Nat} (hd : d < N) (bB : Nm s d -> d = id1) {w' : World} {Ow : Nat -> Prop} (hs : ca Ow w w')
  (hw:∀ k,Ow k->Nm s id1/\β id1 = some k) {b:Option Nat} (hb:∀ g,b = some g->g < w'.heap.size/\((Nm s id1/\β id1 = some g)\/w.heap.size<=g))
  {τ:Ty} {l:List (den τ)} {u:Value} (hv:∀ O':Nat->Prop,(∀ k,k < w.heap.size->O' k->Own X s β k)->aU (ay β d b) O' w' d τ l u) :
  ao W0 F X N ((s.kill id1).put d (.vec d τ l)) (ay β d b) (a.put (some d) u) w' :=
 h.AN (av0:=.vec d τ l) hd bB hs hw hb rfl hv

end
end Go.SX
end
section
namespace Go.SX
variable [Globs]

inductive TD where
 | struct (fl:List (Nat × Nat))
 | slice (e:Nat)
 | int (k:IntKind)
 | str
 | bool
 | arr (n e:Nat)
 | mp (k e:Nat)
 | U3
 | other
inductive EK where
 | int
 | str
 | bool
deriving DecidableEq
structure TI where
 cells:Nat
 bytes:Nat
 zero:List Value
 desc:TD
 ty:Option Ty
 eqs:List EK:=[]
 sb:Option Nat:=none
 cmp:Bool:=false
abbrev Ctx:=List (Nat × TI)
def cp:Ctx->Nat->(TI->Prop)->Prop
 | [],_,_=>False
 | (m,t)::r,n,K=>bif Nat.beq m n then K t else cp r n K

def fF:List (Nat × AV)->Nat->(AV->Prop)->Prop
 | [],_,K=>K .x
 | (m,v)::r,n,K=>bif Nat.beq m n then K v else fF r n K
theorem dA (l:List (Nat × AV)) (n:Nat) (K:AV->Prop):fF l n K = K (look l n):=by
 induction l with
 | nil=>rfl
 | cons p r ih=>obtain ⟨m,v⟩:=p; simp only [fF,look]; cases Nat.beq m n<;>simp [ih]
def eE:List (Nat × List AV)->Nat->(List AV->Prop)->Prop
 | [],_,_=>False
 | (m,v)::r,n,K=>bif Nat.beq m n then K v else eE r n K
theorem cJ (l:List (Nat × List AV)) (n:Nat) (K:List AV->Prop):eE l n K↔∃ cs,ax l n = some cs/\K cs:=by
 induction l with
 | nil=>simp [eE,ax]
 | cons p r ih=>obtain ⟨m,v⟩:=p; simp only [eE,ax]; cases Nat.beq m n<;>simp [ih]
def mM {α:Type}:List (Nat × α)->Nat->α->(List (Nat × α)->Prop)->Prop
 | [],n,v,K=>K [(n,v)]
 | (m,u)::r,n,v,K=>bif Nat.beq m n then K ((n,v)::r) else mM r n v fun r'=>K ((m,u)::r')
theorem kU {α:Type} (l:List (Nat × α)) (n:Nat) (v:α):∀ K,mM l n v K = K (lJ l n v):=by
 induction l with
 | nil=>intro K; rfl
 | cons p r ih=>intro K; obtain ⟨m,u⟩:=p; simp only [mM,lJ]; cases Nat.beq m n<;>simp [ih]
def mf {α:Type}:List (Nat × α)->Nat->(List (Nat × α)->Prop)->Prop
 | [],_,K=>K []
 | (m,u)::r,n,K=>bif Nat.beq m n then mf r n K else mf r n fun r'=>K ((m,u)::r')
theorem kH {α:Type} (l:List (Nat × α)) (n:Nat):∀ K,mf l n K = K (rS l n):=by
 induction l with
 | nil=>intro K; rfl
 | cons p r ih=>intro K; obtain ⟨m,u⟩:=p; simp only [mf,rS]; cases Nat.beq m n<;>simp [ih]
def mA (f:AV->(AV->Prop)->Prop):List (Nat × AV)->(List (Nat × AV)->Prop)->Prop
 | [],K=>K []
 | (m,v)::r,K=>f v fun v'=>mA f r fun r'=>K ((m,v')::r')
theorem iE {f:AV->(AV->Prop)->Prop} {g:AV->AV} (h:∀ v K,f v K = K (g v)) (l:List (Nat × AV)):∀ K,mA f l K = K (rZ g l):=by
 induction l with
 | nil=>intro K; rfl
 | cons p r ih=>intro K; obtain ⟨m,v⟩:=p; simp only [mA,rZ,h,ih]
def lR (f:AV->(AV->Prop)->Prop):List AV->(List AV->Prop)->Prop
 | [],K=>K []
 | v::r,K=>f v fun v'=>lR f r fun r'=>K (v'::r')
theorem gE {f:AV->(AV->Prop)->Prop} {g:AV->AV} (h:∀ v K,f v K = K (g v)) (l:List AV):∀ K,lR f l K = K (ez g l):=by
 induction l with
 | nil=>intro K; rfl
 | cons v r ih=>intro K; simp only [lR,ez,h,ih]
def mz (f:AV->(AV->Prop)->Prop):List (Nat × List AV)->(List (Nat × List AV)->Prop)->Prop
 | [],K=>K []
 | (m,v)::r,K=>lR f v fun v'=>mz f r fun r'=>K ((m,v')::r')
theorem iD {f:AV->(AV->Prop)->Prop} {g:AV->AV} (h:∀ v K,f v K = K (g v)) (l:List (Nat × List AV)):∀ K,mz f l K = K (AJ g l):=by
 induction l with
 | nil=>intro K; rfl
 | cons p r ih=>intro K; obtain ⟨m,v⟩:=p; simp only [mz,AJ,gE h,ih]
def kg (n:Nat):AV->(AV->Prop)->Prop
 | .pt m o,K=>bif Nat.beq m n then K .x else K (.pt m o)
 | .vec m τ l,K=>bif Nat.beq m n then K .x else K (.vec m τ l)
 | .vp m τ l i o,K=>bif Nat.beq m n then K .x else K (.vp m τ l i o)
 | .fn f ak,K=>bif cr n (ak.flatMap aw) then K .x else K (.fn f ak)
 | .bc cs,K=>bif cr n (cs.flatMap aw) then K .x else K (.bc cs)
 | .vs m τ l k,K=>bif Nat.beq m n then K .x else K (.vs m τ l k)
 | .ag k cs,K=>bif cr n (cs.flatMap aw) then K .x else K (.ag k cs)
 | .ob i i2 o,K=>bif cr n [i,i2] then K .x else K (.ob i i2 o)
 | v,K=>K v
theorem mr (n:Nat) (v:AV) (K:AV->Prop):kg n v K = K (kill n v):=by
 cases v with
 | pt m o=>simp only [kg,kill,ids,aw,cr]; cases Nat.beq m n<;>rfl
 | vec m τ l=>simp only [kg,kill,ids,aw,cr]; cases Nat.beq m n<;>rfl
 | vp m τ l i o=>simp only [kg,kill,ids,aw,cr]; cases Nat.beq m n<;>rfl
 | fn f ak=>simp only [kg,kill,ids]; cases cr n (List.flatMap aw ak)<;>rfl
 | bc ak=>simp only [kg,kill,ids]; cases cr n (List.flatMap aw ak)<;>rfl
 | vs m τ l k=>simp only [kg,kill,ids,aw,cr]; cases Nat.beq m n<;>rfl
 | ag k ak=>simp only [kg,kill,ids]; cases cr n (List.flatMap aw ak)<;>rfl
 | ob i i2 o=>simp only [kg,kill,ids,aw]; cases cr n [i,i2]<;>rfl
 | _=>rfl
def HM (id i i2:Nat):Ob->(AV->Prop)->Prop
 | .gr L k row,K=>bif Nat.beq i2 id then (bif Nat.beq i id then K .x else K (.vec i .ints (L.set k row))) else K .x
 | _,K=>K .x
theorem HN (id i i2:Nat) (o:Ob) (K:AV->Prop):HM id i i2 o K = K (Ci id i i2 o):=by
 cases o<;>first | rfl | (simp only [HM,Ci]; cases Nat.beq i2 id<;>cases Nat.beq i id<;>rfl)
def tz (n:Nat):AV->(AV->Prop)->Prop
 | .pt m o,K=>bif Nat.beq m n then K .x else K (.pt m o)
 | .vec m τ l,K=>bif Nat.beq m n then K (.rd τ l) else K (.vec m τ l)
 | .vp m τ l i o,K=>bif Nat.beq m n then K (.rp ((enc τ (l.getD i (aD τ))).drop o)) else K (.vp m τ l i o)
 | .fn f ak,K=>bif cr n (ak.flatMap aw) then K .x else K (.fn f ak)
 | .bc cs,K=>bif cr n (cs.flatMap aw) then K .x else K (.bc cs)
 | .vs m τ l k,K=>bif Nat.beq m n then K (.rd τ (l.drop k)) else K (.vs m τ l k)
 | .ag k cs,K=>bif cr n (cs.flatMap aw) then K .x else K (.ag k cs)
 | .ob i i2 o,K=>bif cr n [i,i2] then HM n i i2 o K else K (.ob i i2 o)
 | v,K=>K v
theorem DK (n:Nat) (v:AV) (K:AV->Prop):tz n v K = K (cy n v):=by
 cases v with
 | pt m o=>simp only [tz,cy]; cases Nat.beq m n<;>rfl
 | vec m τ l=>simp only [tz,cy]; cases Nat.beq m n<;>rfl
 | vp m τ l i o=>simp only [tz,cy]; cases Nat.beq m n<;>rfl
 | fn f ak=>simp only [tz,cy]; cases cr n (List.flatMap aw ak)<;>rfl
 | bc ak=>simp only [tz,cy]; cases cr n (List.flatMap aw ak)<;>rfl
 | vs m τ l k=>simp only [tz,cy]; cases Nat.beq m n<;>rfl
 | ag k ak=>simp only [tz,cy]; cases cr n (List.flatMap aw ak)<;>rfl
 | ob i i2 o=>simp only [tz,cy]; cases cr n [i,i2]<;>first | rfl | exact HN ..
 | _=>rfl
def dh (n:Nat) (s:St) (K:St->Prop):Prop:=mA (kg n) s.aj fun sl=>mz (kg n) s.boxes fun b=>mf b n fun b=>K ⟨sl,b⟩
theorem fi (n:Nat) (s:St) (K:St->Prop):dh n s K = K (s.kill n):=by
 simp only [dh,iE (mr n),iD (mr n),kH]; rfl
def dx (n:Nat) (s:St) (K:St->Prop):Prop:=mA (tz n) s.aj fun sl=>mz (tz n) s.boxes fun b=>mf b n fun b=>K ⟨sl,b⟩
theorem cO (n:Nat) (s:St) (K:St->Prop):dx n s K = K (s.cy n):=by
 simp only [dx,iE (DK n),iD (DK n),kH]; rfl
def cA:List Nat->St->St
 | [],s=>s
 | n::r,s=>cA r (s.cy n)
def dP:List Nat->St->(St->Prop)->Prop
 | [],s,K=>K s
 | n::r,s,K=>dx n s fun s'=>dP r s' K
theorem dL (l:List Nat):∀ (s:St) (K:St->Prop),dP l s K = K (cA l s):=by
 induction l with
 | nil=>intro s K; rfl
 | cons n r ih=>intro s K; simp only [dP,cA,cO,ih]
def iS:List AV->(List AV->Prop)->Prop
 | [],K=>K []
 | c::cs,K=>iS cs fun cs'=>K (c::cs')
theorem nb (l:List AV):∀ K,iS l K = K l:=by
 induction l with
 | nil=>intro K; rfl
 | cons c cs ih=>intro K; simp only [iS,ih]
def x3:aH->(aH->Prop)->Prop
 | [],K=>K []
 | c::cs,K=>x3 cs fun cs'=>K (c::cs')
theorem Ft (l:aH):∀ K,x3 l K = K l:=by
 induction l with
 | nil=>intro K; rfl
 | cons c cs ih=>intro K; simp only [x3,ih]

def uC:Value->AV
 | .int k n=>.i k n
 | .bool b=>.b b
 | .string s=>bif Nat.ble s.data.toList.length 1000000 then .s s.data.toList else .x
 | .slice none 0 0=>.nl
 | .nilIface=>.er none
 | _=>.x
def yo:Value->(AV->Prop)->Prop
 | .int k n,K=>K (.i k n)
 | .bool b,K=>K (.b b)
 | .string s,K=>bif Nat.ble s.data.toList.length 1000000 then x3 s.data.toList fun l=>K (.s l) else K .x
 | .slice none 0 0,K=>K .nl
 | .nilIface,K=>K (.er none)
 | _,K=>K .x
theorem xa (v:Value) (K:AV->Prop):yo v K = K (uC v):=by
 cases v with
 | string s=>simp only [yo,uC,Ft]; cases Nat.ble s.data.toList.length 1000000<;>rfl
 | slice a l c=>cases a<;>cases l<;>cases c<;>rfl
 | _=>rfl
def dW:List Value->List AV
 | []=>[]
 | v::r=>uC v::dW r
def eW:List Value->(List AV->Prop)->Prop
 | [],K=>K []
 | v::r,K=>yo v fun a=>eW r fun l=>K (a::l)
theorem eF (l:List Value):∀ K,eW l K = K (dW l):=by
 induction l with
 | nil=>intro K; rfl
 | cons v r ih=>intro K; simp only [eW,dW,xa,ih]
def uA:Value->AV
 | .agg a=>bif a.toList.all Value.oneCell' then .agg (dW a.toList) else .x
 | v=>uC v
def yn:Value->(AV->Prop)->Prop
 | .agg a,K=>bif a.toList.all Value.oneCell' then eW a.toList fun l=>K (.agg l) else K .x
 | v,K=>yo v K
theorem FO (v:Value) (K:AV->Prop):yn v K = K (uA v):=by
 cases v with
 | agg a =>
  simp only [yn,uA,eF]
  cases a.toList.all Value.oneCell'<;>rfl
 | _=>simp only [yn,uA,xa]
def ev (s:St):Operand->AV
 | .tmp t=>look s.aj t
 | .const v=>uA v
 | .func f=>.fn f []
 | .global _=>.x
def bG (s:St):Operand->(AV->Prop)->Prop
 | .tmp t,K=>fF s.aj t K
 | .const v,K=>yn v K
 | .func f,K=>K (.fn f [])
 | .global _,K=>K .x
theorem aE (s:St) (x:Operand) (K:AV->Prop):bG s x K = K (ev s x):=by
 cases x<;>simp [bG,ev,dA,FO]
def kC (s:St):List Operand->List AV
 | []=>[]
 | x::r=>ev s x::kC s r
def fc (s:St):List Operand->(List AV->Prop)->Prop
 | [],K=>K []
 | x::r,K=>bG s x fun v=>fc s r fun l=>K (v::l)
theorem dc (s:St) (l:List Operand):∀ K,fc s l K = K (kC s l):=by
 induction l with
 | nil=>intro K; rfl
 | cons x r ih=>intro K; simp only [fc,kC,aE,ih]
def al (N:Nat) (s:St) (d:Option Nat) (v:AV) (K:St->Prop):Prop :=
 match d with
 | some d=>bif Nat.blt d N then (match s with | ⟨LF,b⟩=>mM LF d v fun sl=>K ⟨sl,b⟩) else False
 | none=>K s
theorem bZ (N:Nat) (s:St) (d:Nat) (v:AV) (K:St->Prop):al N s (some d) v K = (bif Nat.blt d N then K (s.put d v) else False):=by
 obtain ⟨sl,b⟩:=s
 simp only [al,kU]; rfl
def LI:IntKind->Int->Prop
 | .i8,_=>False
 | .i16,_=>False
 | .i32,n=>-2147483648<=n/\n<=2147483647
 | .i64,n=>-9223372036854775808<=n/\n<=9223372036854775807
 | .u8,n=>0<=n/\n<=255
 | .u16,n=>0<=n/\n<=65535
 | .u32,n=>0<=n/\n<=4294967295
 | .u64,n=>0<=n/\n<=18446744073709551615
def la (k:IntKind) (n:Int) (K:AV->Prop):Prop :=
 match k.signed with
 | true=>LI k n/\K (.i k n)
 | false=>K (.i k (k.wrap n))
def ye (op:BinOp) (k:IntKind) (a c:Int) (K:AV->Prop):Prop :=
 match op with
 | .add=>la k (a + c) K
 | .sub=>la k (a - c) K
 | .mul=>la k (a * c) K
 | .quo=>c≠0/\LI k (a.tdiv c)/\K (.i k (a.tdiv c))
 | .rem=>c≠0/\K (.i k (a.tmod c))
 | .and=>K (.i k (bits .and k a c))
 | .or=>K (.i k (bits .or k a c))
 | .xor=>K (.i k (bits .xor k a c))
 | .andNot=>K (.i k (bits .andNot k a c))
 | .eql=>K (.b (a == c))
 | .neq=>K (.b (a != c))
 | .lss=>K (.b (decide (a < c)))
 | .leq=>K (.b (decide (a<=c)))
 | .gtr=>K (.b (decide (c < a)))
 | .geq=>K (.b (decide (c<=a)))
 | _=>False
def yP (op:BinOp) (a c:aH) (K:AV->Prop):Prop :=
 match op with
 | .add=>a.length + c.length<=maxLen/\K (.s (a++c))
 | .eql=>K (.b (a == c))
 | .neq=>K (.b (!(a == c)))
 | .lss=>K (.b (Op.bytesLess a c))
 | .leq=>K (.b (Op.bytesLess a c || a == c))
 | .gtr=>K (.b (!(Op.bytesLess a c || a == c)))
 | .geq=>K (.b (!(Op.bytesLess a c)))
 | _=>False
def zo (op:BinOp):AV->AV->(AV->Prop)->Prop
 | .i k a,.i k' c,K =>
  match op with
  | .shl=>0<=c/\K (.i k (k.wrap (a * 2 ^ (min c.toNat k.bits))))
  | .shr=>0<=c/\K (.i k (a.fdiv (2 ^ (min c.toNat k.bits))))
  | _=>bif decide (k = k') then ye op k a c K else False
 | .s a,.s c,K=>yP op a c K
 | _,_,_=>False
def M6 (k:IntKind) (a:Int) (K:AV->Prop):Prop :=
 match k with
 | .i64=>la .i64 (0 - a) K\/K (.i .i64 (IntKind.i64.wrap (0 - a)))
 | k=>la k (0 - a) K
def Sm (op:UnOp):AV->(AV->Prop)->Prop
 | .b a,K=>match op with
  | .not=>K (.b (!a))
  | _=>False
 | .i k a,K=>match op with
  | .neg=>M6 k a K
  | .xor=>K (.i k (bits .xor k (if k.signed then -1 else k.max) a))
  | _=>False
 | _,_=>False

def cellsOf:AV->List AV
 | .agg l=>l
 | v=>[v]
def dp {α:Type}:List α->Nat->(α->Prop)->Prop
 | [],_,_=>False
 | a::_,0,K=>K a
 | _::r,n + 1,K=>dp r n K
theorem bA {α:Type} (l:List α):∀ (n:Nat) (K:α->Prop),dp l n K↔∃ x,l[n]? = some x/\K x:=by
 induction l with
 | nil=>intro n K; simp [dp]
 | cons a r ih=>intro n K; cases n<;>simp [dp,ih]
def aC (b:Bool) (K:Prop):Prop:=bif b then K else False
theorem af (b:Bool) (K:Prop):aC b K↔b = true/\K:=by cases b<;>simp [aC]

def aK:TD->Bool
 | .struct _=>true
 | .arr _ _=>true
 | _=>false
def fH:List AV->List AV
 | []=>[]
 | .pt _ _::r=>.x::fH r
 | .vec _ _ _::r=>.x::fH r
 | .vp _ _ _ _ _::r=>.x::fH r
 | .rp _::r=>.x::fH r
 | .fn _ _::r=>.x::fH r
 | .bc _::r=>.x::fH r
 | .vs _ _ _ _::r=>.x::fH r
 | .ag _ _::r=>.x::fH r
 | .ob _ _ _::r=>.x::fH r
 | v::r=>v::fH r
def cU:List AV->(List AV->Prop)->Prop
 | [],K=>K []
 | .pt _ _::r,K=>cU r fun l=>K (.x::l)
 | .vec _ _ _::r,K=>cU r fun l=>K (.x::l)
 | .vp _ _ _ _ _::r,K=>cU r fun l=>K (.x::l)
 | .rp _::r,K=>cU r fun l=>K (.x::l)
 | .fn _ _::r,K=>cU r fun l=>K (.x::l)
 | .bc _::r,K=>cU r fun l=>K (.x::l)
 | .vs _ _ _ _::r,K=>cU r fun l=>K (.x::l)
 | .ag _ _::r,K=>cU r fun l=>K (.x::l)
 | .ob _ _ _::r,K=>cU r fun l=>K (.x::l)
 | v::r,K=>cU r fun l=>K (v::l)
theorem ij (l:List AV):∀ K,cU l K = K (fH l):=by
 induction l with
 | nil=>intro K; rfl
 | cons v r ih=>intro K; cases v<;>simp [cU,fH,ih]
def fj {α:Type}:Nat->List α->(List α->Prop)->Prop
 | 0,_,K=>K []
 | _ + 1,[],_=>False
 | n + 1,a::r,K=>fj n r fun l=>K (a::l)
theorem dJ {α:Type} (n:Nat):∀ (l:List α) (K:List α->Prop),fj n l K↔n<=l.length/\K (l.take n):=by
 induction n with
 | zero=>intro l K; simp [fj]
 | succ n ih=>intro l K; cases l<;>simp [fj,ih]
def nD {α:Type}:List α->Nat->List α->List α
 | l,0,v=>v++l.drop v.length
 | [],_ + 1,v=>v
 | a::r,o + 1,v=>a::nD r o v
def gH {α:Type}:List α->Nat->List α->(List α->Prop)->Prop
 | l,0,[],K=>K l
 | _::r,0,v::vs,K=>gH r 0 vs fun l=>K (v::l)
 | a::r,o + 1,v,K=>gH r o v fun l=>K (a::l)
 | _,_,_,_=>False
theorem rK {α:Type} (l:List α):∀ (o:Nat) (v:List α) (K:List α->Prop),gH l o v K->o + v.length<=l.length/\K (l.take o++v++l.drop (o + v.length)):=by
 induction l with
 | nil =>
  intro o v K h
  cases o<;>cases v<;>simp [gH] at h ⊢
  exact h
 | cons a r ih =>
  intro o v K h
  cases o with
  | zero =>
   cases v with
   | nil=>simpa [gH] using h
   | cons b vs =>
    simp only [gH] at h
    obtain ⟨h1,h2⟩:=ih 0 vs _ h
    refine ⟨by simp at h1 ⊢; omega,by simpa using h2⟩
  | succ o =>
   simp only [gH] at h
   obtain ⟨h1,h2⟩:=ih o v _ h
   refine ⟨by simp only [List.length_cons]; omega,?_⟩
   have:o + 1 + v.length = (o + v.length) + 1:=by omega
   rw [this]
   simpa using h2

def Td (n:Nat):List AV->Bool
 | []=>true
 | v::r=>bif cr n (dT v) then false else Td n r
def I2 (n:Nat):List (Nat × AV)->Bool
 | []=>true
 | (_,v)::r=>bif cr n (dT v) then false else I2 n r
def I1 (n:Nat):List (Nat × List AV)->Bool
 | []=>true
 | (_,l)::r=>bif Td n l then I1 n r else false

def iH:AV->AV->AV->(AV->Prop)->Prop
 | .b c,.b a,.b b,K=>K (.b (bif c then a else b))
 | .b c,a,b,K=>bif c then K a else K b
 | _,_,_,_=>False
def oQ (op:BinOp) (a b:Bool) (K:AV->Prop):Prop :=
 match op with
 | .eql=>K (.b (a == b))
 | .neq=>K (.b (!(a == b)))
 | _=>False
def sv:TD->Bool
 | .bool=>true
 | _=>false
def sc:EK->AV->AV->(Bool->Prop)->Prop
 | .int,.i k a,.i k' b,K=>aC (decide (k = k')) (K (decide (a = b)))
 | .str,.s a,.s b,K=>K (a == b)
 | .bool,.b a,.b b,K=>K (a == b)
 | _,_,_,_=>False
def mO:TD->(List (Nat × Nat)->Prop)->Prop
 | .struct fl,K=>K fl
 | _,_=>False
def nV:List EK->List (Nat × Nat)->List AV->List AV->(Bool->Prop)->Prop
 | [],[],_,_,K=>K true
 | k::ks,(o,_)::fl,cs,ds,K=>dp cs o fun a=>dp ds o fun b=>sc k a b fun x=>nV ks fl cs ds fun y=>K (x && y)
 | _,_,_,_,_=>False
def dO (op:BinOp) (b:Bool) (K:AV->Prop):Prop :=
 match op with
 | .eql=>K (.b b)
 | .neq=>K (.b (!b))
 | _=>False
def oP (Γ:Ctx) (op:BinOp) (t:TypeId):AV->AV->(AV->Prop)->Prop
 | .b a,.b b,K=>cp Γ t fun ti=>aC (sv ti.desc) (oQ op a b K)
 | .agg cs,.agg ds,K=>cp Γ t fun ti=>mO ti.desc fun fl=>aC (!ti.eqs.isEmpty) (nV ti.eqs fl cs ds fun b=>dO op b K)
 | a,b,K=>zo op a b K
def o6:TD->AV->(AV->Prop)->Prop
 | .int k,.i _ n,K=>K (.i k (k.wrap n))
 | .str,.s l,K=>K (.s l)
 | .str,.i _ n,K=>K (.s (Utf8.encode n).data.toList)
 | _,_,_=>False
def FN (n:Int):UInt8:=UInt8.ofNat n.toNat
def D2:TD->Bool
 | .int .u8=>true
 | _=>false
def gZ:TD->Bool
 | .str=>true
 | _=>false
def xT:TD->aH->(AV->Prop)->Prop
 | .int .u8,l,K=>K (.rd .u8 (l.map fun b=>(b.toNat:Int)))
 | .int .i32,l,K=>l.length<=70368744177664/\K (.rd .rune (cK l))
 | _,_,_=>False
def lg (Γ:Ctx):TD->TD->AV->(AV->Prop)->Prop
 | .slice e,.str,.rd .u8 l,K=>cp Γ e fun te=>aC (D2 te.desc) (K (.s (l.map FN)))
 | .slice e,.str,.vec _ .u8 l,K=>cp Γ e fun te=>aC (D2 te.desc) (K (.s (l.map FN)))
 | sd,.slice e,.s l,K=>aC (gZ sd) (cp Γ e fun te=>xT te.desc l K)
 | _,d,a,K=>o6 d a K
def ew:TD->(List (Nat × Nat)->Prop)->Prop
 | .struct fl,K=>K fl
 | _,_=>False
def cW:TD->(Nat->Prop)->Prop
 | .slice e,K=>K e
 | _,_=>False
def tn (off:Nat):AV->(AV->Prop)->Prop
 | .pt n o,K=>K (.pt n (o + off))
 | .rp cs,K=>iS (cs.drop off) fun cs=>K (.rp cs)
 | .vp id τ l n o,K=>K (.vp id τ l n (o + off))
 | _,_=>False
def qh:List AV->Bool
 | []=>false
 | .vec _ _ _::_=>true
 | .vs _ _ _ _::_=>true
 | _::r=>qh r
def lS:List AV->Bool
 | []=>true
 | .fn _ _::_=>false
 | .bc _::_=>false
 | .ag _ _::_=>false
 | _::r=>lS r
def jb (str:Bool) (l:List AV) (K:AV->Prop):Prop :=
 match str with
 | true=>match qh l with
  | true=>aC (lS l) (K (.ag 0 l))
  | false=>cU l fun l=>K (.agg l)
 | false=>match l with
  | [v]=>K v
  | _=>False
def tr (off sz:Nat):AV->(AV->Prop)->Prop
 | .agg cs,K=>fj sz (cs.drop off) fun l=>match l with
  | [v]=>K v
  | _=>False
 | _,_=>False
def mi (i:Nat):AV->(AV->Prop)->Prop
 | .bc cs,K=>dp cs i K
 | .ag (k + 1) cs,K=>match i with
  | 0=>fj (k + 1) cs fun l=>K (.ag 0 l)
  | i + 1=>dp cs (k + 1 + i) K
 | _,_=>False
def nL:AV->(Int->Prop)->Prop
 | .i _ n,K=>K n
 | _,_=>False
def Cx (n:Int) (cells:Nat):AV->(AV->Prop)->Prop
 | .rd τ l,K=>aC (Nat.beq cells (aX τ)) ((0<=n/\n < (l.length:Int))/\iS (enc τ (l.getD n.toNat (aD τ))) fun cs=>K (.rp cs))
 | .vec id τ l,K=>aC (Nat.beq cells (aX τ)) ((0<=n/\n < (l.length:Int))/\K (.vp id τ l n.toNat 0))
 | .vs id τ l k,K=>aC (Nat.beq cells (aX τ)) ((0<=n/\n < ((l.length - k:Nat):Int))/\K (.vp id τ l (k + n.toNat) 0))
 | .ob id _ (.vw τ l x y),K=>aC (Nat.beq cells (aX τ)) ((0<=n/\n < ((y - x:Nat):Int))/\K (.vp id τ l (x + n.toNat) 0))
 | .ob id i2 (.gr L i row),K=>aC (Nat.beq cells 1) ((0<=n/\n < (L.length:Int))/\K (.ob id i2 (.gp L i row n.toNat)))
 | _,_=>False
def qV (n:Int):AV->(AV->Prop)->Prop
 | .s l,K=>(0<=n/\n < (l.length:Int))/\K (.i .u8 ((l.getD n.toNat 0).toNat:Int))
 | _,_=>False
def sT (n:Int) (len cells:Nat):AV->(AV->Prop)->Prop
 | .pt m o,K=>(0<=n/\n < (len:Int))/\K (.pt m (o + n.toNat * cells))
 | .vp id τ l i o,K=>aC (Nat.beq i 0) (aC (Nat.beq o 0) (aC (Nat.beq cells (aX τ)) ((0<=n/\n < (len:Int)/\n < (l.length:Int))/\K (.vp id τ l n.toNat 0))))
 | _,_=>False
def xC (n:Int) (len cells:Nat) (str:Bool):AV->(AV->Prop)->Prop
 | .agg cs,K=>aC (Nat.beq cells 1) (aC (!str) ((0<=n/\n < (len:Int))/\dp cs n.toNat K))
 | _,_=>False
def pq (Γ:Ctx) (n:Int) (a:AV) (K:AV->Prop):TD->Prop
 | .slice e=>cp Γ e fun te=>Cx n te.cells a K
 | .arr len e=>cp Γ e fun te=>sT n len te.cells a K
 | _=>False
def ss (Γ:Ctx) (n:Int) (a:AV) (K:AV->Prop):TD->Prop
 | .str=>qV n a K
 | .arr len e=>cp Γ e fun te=>xC n len te.cells (aK te.desc) a K
 | _=>False
def pC:AV->(AV->Prop)->Prop
 | .pt n o,K=>K (.pt n o)
 | .rp cs,K=>K (.rp cs)
 | .vp id τ l n o,K=>K (.vp id τ l n o)
 | _,_=>False
def Wz:Fn->Nat->Nat->(FuncId->Prop)->Prop
 | .func f,0,_,K=>K f
 | .func f,_,0,K=>K f
 | _,_,_,_=>False
def AH:TD->List AV->(AV->Prop)->Prop
 | .slice _,[.nl],K=>K (.i .i64 0)
 | .slice _,[.rd _ l],K=>l.length<=maxLen->K (.i .i64 (l.length:Int))
 | .slice _,[.vec _ _ l],K=>l.length<=maxLen->K (.i .i64 (l.length:Int))
 | .slice _,[.vs _ _ l k],K=>k<=l.length->l.length<=maxLen->K (.i .i64 ((l.length - k:Nat):Int))
 | .slice _,[.ob _ _ (.vw _ l x y)],K=>(x < y/\y<=l.length/\l.length<=maxLen)->K (.i .i64 ((y - x:Nat):Int))
 | .str,[.s l],K=>l.length<=maxLen->K (.i .i64 (l.length:Int))
 | _,_,_=>False
def FL:List AV->(AV->Prop)->Prop
 | [.i k a,.i k' b],K=>aC (decide (k = k')) (K (.i k (if b < a then b else a)))
 | [.i k a,.i k' b,.i k2 c],K=>aC (decide (k = k')) (aC (decide (k = k2)) (K (.i k (if c < (if b < a then b else a) then c else if b < a then b else a))))
 | _,_=>False
def FI:List AV->(AV->Prop)->Prop
 | [.i k a,.i k' b],K=>aC (decide (k = k')) (K (.i k (if a < b then b else a)))
 | _,_=>False
def ko:List AV->Bool
 | []=>true
 | .fn _ _::_=>false
 | .bc _::_=>false
 | .ag _ _::_=>false
 | _::r=>ko r
def cH (s:St):Option Operand->Int->(Int->Prop)->Prop
 | none,d,K=>K d
 | some x,_,K=>bG s x fun v=>nL v K
def fC (s:St) (lo hi:Option Operand):AV->(AV->Prop)->Prop
 | .s l,K=>cH s lo 0 fun lo=>cH s hi (l.length:Int) fun hi=>(0<=lo/\lo<=hi/\hi<=(l.length:Int))/\K (.s ((l.take hi.toNat).drop lo.toNat))
 | _,_=>False
def fQ (s:St) (cells:Nat) (lo hi:Option Operand):AV->(AV->Prop)->Prop
 | .rd τ l,K=>aC (Nat.beq cells (aX τ)) (cH s lo 0 fun lo=>cH s hi (l.length:Int) fun hi=>(0<=lo/\lo<=hi/\hi<=(l.length:Int))/\K (.rd τ ((l.take hi.toNat).drop lo.toNat)))
 | .vec id τ l,K=>aC (Nat.beq cells (aX τ)) (match hi with
  | none=>cH s lo 0 fun lo=>(0<=lo/\lo<=(l.length:Int))/\K (.vs id τ l lo.toNat)
  | some _=>cH s lo 0 fun lo=>cH s hi 0 fun hi=>(0<=lo/\lo < hi/\hi<=(l.length:Int))/\K (.ob id id (.vw τ l lo.toNat hi.toNat)))
 | .vs id τ l k,K=>aC (Nat.beq cells (aX τ)) (match hi with
  | none=>cH s lo 0 fun lo=>(0<=lo/\lo<=((l.length - k:Nat):Int))/\K (.vs id τ l (k + lo.toNat))
  | some _=>False)
 | _,_=>False
def wh (Γ:Ctx) (s:St) (b:Builtin) (args:List Operand) (ts:List TypeId) (K:AV->Prop):Prop :=
 match b with
 | .len=>fc s args fun l=>dp ts 0 fun t=>cp Γ t fun ti=>AH ti.desc l K
 | .min=>fc s args fun l=>FL l K
 | .max=>fc s args fun l=>FI l K
 | _=>False
def Hl (Γ:Ctx) (s:St) (args:List Operand) (ts:List TypeId) (K:AV->Prop):Callee->Prop
 | .builtin b=>wh Γ s b args ts K
 | _=>False
def qY (Γ:Ctx) (s:St) (op:Op) (K:AV->Prop):Prop :=
 match op with
 | .move x=>bG s x K
 | .assign x=>bG s x K
 | .pick c a b=>bG s c fun c=>bG s a fun a=>bG s b fun b=>iH c a b K
 | .binOp op t x y _=>bG s x fun a=>bG s y fun b=>oP Γ op t a b K
 | .unOp op _ x=>bG s x fun a=>Sm op a K
 | .convert src dst x=>bG s x fun a=>cp Γ src fun _=>cp Γ dst fun ti=>o6 ti.desc a K
 | .fieldAddr t x f=>bG s x fun p=>cp Γ t fun ti=>ew ti.desc fun fl=>dp fl f fun d=>match d with | (off,_)=>tn off p K
 | .field t x f=>bG s x fun p=>cp Γ t fun ti=>ew ti.desc fun fl=>dp fl f fun d=>match d with | (off,sz)=>tr off sz p K
 | .extract x i=>bG s x fun p=>mi i p K
 | .indexAddr t x i=>bG s x fun a=>bG s i fun n=>nL n fun n=>cp Γ t fun ti=>pq Γ n a K ti.desc
 | .index t x i=>bG s x fun a=>bG s i fun n=>nL n fun n=>cp Γ t fun ti=>ss Γ n a K ti.desc
 | .nilCheck x=>bG s x fun p=>pC p K
 | .makeFunc fn first captured=>Wz fn first.toList.length captured.toList.length fun f=>match first.toList with
  | []=>fc s captured.toList fun l=>aC (ko l) (aC (!bQ l) (K (.fn f l)))
  | x::r=>fc s (x::r) fun l=>aC (ko l) (K (.fn f (.np::l)))
 | .call c=>Hl Γ s c.args.toList c.argTypes.toList K c.callee
 | .slice t x lo hi mx=>match mx with
  | none=>bG s x fun a=>cp Γ t fun ti=>match gZ ti.desc with
   | true=>fC s lo hi a K
   | false=>cW ti.desc fun e=>cp Γ e fun te=>fQ s te.cells lo hi a K
  | some _=>False
 | _=>False
end Go.SX
end
section
namespace Go.SX
variable [Globs]

def je (P:Program) (f:Field):Bool :=
 P.cellsOf f.type != 0 && (P.info? f.type).isSome && (P.cellsOf f.type != 1 || match P.underlying f.type with
  | some (.struct _)=>false
  | some (.array _ _)=>false
  | none=>false
  | _=>true)
theorem ll {P:Program} {f:Field} (h:je P f = true):P.cellsOf f.type≠0/\(∃ i,P.info? f.type = some i)/\(P.cellsOf f.type = 1->∀ w:World,(isAgg f.type).run P w = .ok false w):=by
 simp only [je,Bool.and_eq_true,bne_iff_ne,Bool.or_eq_true] at h
 obtain ⟨⟨h1,h2⟩,h3⟩:=h
 refine ⟨h1,Option.isSome_iff_exists.1 h2,fun e w=>?_⟩
 rcases h3 with h3 | h3
 ·exact absurd e h3
 ·cases hu:P.underlying f.type with
  | none=>rw [hu] at h3; cases h3
  | some d=>rw [hu] at h3; cases d<;>first | (cases h3; done) | simp [isAgg,run_underlying hu]
def TD.ok (P:Program) (d:TypeDesc):TD->Prop
 | .struct fl=>∃ fs:Array Field,d = .struct fs/\fs.toList.map (fun f=>(f.offset,P.cellsOf f.type)) = fl/\fs.toList.all (je P) = true
 | .slice e=>d = .slice e
 | .int k=>d = .int k
 | .str=>d = .string
 | .bool=>d = .bool
 | .arr n e=>d = .array n e
 | .mp k e=>d = .map k e
 | .U3=>∃ ms,d = .interface ms
 | .other=>(∀ fs,d≠.struct fs)/\(∀ n e,d≠.array n e)/\∀ ms,d≠.interface ms
def Hz (P:Program) (f:Field):Option EK :=
 bif f.name == "_" then none else match P.underlying f.type with
  | some (.int _)=>some .int
  | some .string=>some .str
  | some .bool=>some .bool
  | _=>none
def Qa (P:Program) (t:TypeId) (eqs:List EK):Bool :=
 eqs.isEmpty || match P.underlying t with
  | some (.struct fs)=>!P.stoodInHeld t && !P.eqGuardType P.depth t && decide (fs.toList.map (Hz P) = eqs.map some)
  | _=>false

structure TI.ok (P:Program) (t:TypeId) (ti:TI):Prop where
 info:∃ i z,P.info? t = some i/\i.size = ti.cells/\i.bytes = ti.bytes/\i.zero = some z/\z.cells = ti.zero.toArray
 desc:∃ d,P.underlying t = some d/\ti.desc.ok P d
 eqs:Qa P t ti.eqs = true
 one:aK ti.desc = false->∃ i,P.info? t = some i/\i.zero = ti.zero.head?
 cmp:ti.cmp = true->∃ i,P.info? t = some i/\i.comparable = true
def Ctx.ok (P:Program) (Γ:Ctx):Prop:=∀ p ∈ Γ,p.2.ok P p.1
theorem eZ {Γ:Ctx} {t:Nat} {K:TI->Prop} (h:cp Γ t K):∃ ti:TI,(t,ti) ∈ Γ/\K ti:=by
 induction Γ with
 | nil=>exact h.elim
 | cons p r ih =>
  obtain ⟨m,u⟩:=p
  simp only [cp] at h
  by_cases e:m = t
  ·subst e; simp only [Nat.beq_refl,cond_true] at h; exact ⟨u,List.mem_cons_self .., h⟩
  ·rw [dQ e] at h
   obtain ⟨ti,h1,h2⟩:=ih h
   exact ⟨ti,List.mem_cons_of_mem _ h1,h2⟩
theorem bq {P:Program} {Γ:Ctx} (aY:Γ.ok P) {t:Nat} {K:TI->Prop} (h:cp Γ t K):∃ ti:TI,ti.ok P t/\K ti:=by
 obtain ⟨ti,h1,h2⟩:=eZ h
 exact ⟨ti,aY _ h1,h2⟩
theorem TI.ok.sizeOf {P:Program} {t:Nat} {ti:TI} (h:ti.ok P t) (w:World):(sizeOf t).run P w = .ok ti.cells w:=by
 obtain ⟨i,z,h1,h2,_⟩:=h.info
 simp [Go.sizeOf,typeInfo,h1,h2]
theorem TI.ok.cellsOf {P:Program} {t:Nat} {ti:TI} (h:ti.ok P t):P.cellsOf t = ti.cells:=by
 obtain ⟨i,z,h1,h2,_⟩:=h.info
 simp [Program.cellsOf,h1,h2]
theorem TI.ok.zeroValue {P:Program} {t:Nat} {ti:TI} (h:ti.ok P t) (w:World):∃ z,(zeroValue t).run P w = .ok z w/\z.cells = ti.zero.toArray:=by
 obtain ⟨i,z,h1,h2,h3,h4,h5⟩:=h.info
 exact ⟨z,by simp [Go.zeroValue,typeInfo,h1,h4],h5⟩

section
variable {P:Program} {N:Nat}

theorem eI {o:Oper} {a:Act} {w w':World} {next:Act->World->Prop} {Q:Exit->Act->World->Prop} {u:Value} (bu:(execOp a.eval o).run P w = .ok (.value u) w') (h:next (a.put o.dst u) w'):o.wp P a w next Q:=by
 unfold Oper.wp; rw [bu]; exact h
theorem Dc {o:Oper} {a:Act} {w w':World} {next:Act->World->Prop} {Q:Exit->Act->World->Prop} (bu:(execOp a.eval o).run P w = .ok .skip w') (h:next (a.put o.dst undef) w'):o.wp P a w next Q:=by
 unfold Oper.wp; rw [bu]; exact h

section
variable {W0:World} {F:Fr} {X:Nat->Prop} {s:St} {β:Nat->Option Nat} {a:Act} {w:World}

theorem kP (O:Nat->Prop) (w:World) (v:Value):Im O w (uC v) v:=by
 cases v with
 | int k n=>exact .i k n
 | bool b=>exact .b b
 | string s =>
  simp only [uC]
  cases h:Nat.ble s.data.toList.length 1000000 with
  | false=>exact .x _
  | true =>
   have hl:=Nat.le_of_ble_eq_true h
   have:=Im.s (O:=O) (w:=w) s.data.toList (by unfold maxLen; omega)
   simpa using this
 | slice a l c =>
  cases a with
  | some a=>exact .x _
  | none=>cases l with
   | succ l=>exact .x _
   | zero=>cases c with
    | succ c=>exact .x _
    | zero=>exact .nl
 | nilIface=>exact .Qb
 | _=>exact .x _

theorem uH:∀ l:List Value,(dW l).length = l.length
 | []=>rfl
 | _::r=>congrArg (· + 1) (uH r)
theorem uG:∀ (l:List Value) (j:Nat),(dW l)[j]? = l[j]?.map uC
 | [],_=>rfl
 | _::_,0=>rfl
 | _::r,j + 1=>uG r j
theorem AW (O:Nat->Prop) (w:World) (v:Value):Im O w (uA v) v:=by
 cases v with
 | agg a =>
  show Im O w (bif a.toList.all Value.oneCell' then .agg (dW a.toList) else .x) _
  cases h:a.toList.all Value.oneCell' with
  | false=>exact .x _
  | true =>
   refine Im.agg (dW a.toList) a.toList (uH _) (fun v hv=>List.all_eq_true.1 h v hv) fun j av v h1 h2=>?_
   rw [uG,h2] at h1
   cases h1
   exact kP O w v
 | _=>simp only [uA]; exact kP O w _
theorem aF (h:ao W0 F X N s β a w) (x:Operand):Rel β (Own X s β) w (ev s x) (a.eval x)/\∀ n ∈ ids (ev s x),Nm s n:=by
 cases x with
 | tmp t=>exact ⟨h.aj t,fun n hn=>.inr (.inl ⟨t,hn⟩)⟩
 | const v=>exact ⟨Rel.im (AW _ _ _),by rw [show ev s (.const v) = uA v from rfl,(AW (fun _=>False) w v).cQ]; intro n hn; cases hn⟩
 | global g=>exact ⟨Rel.x,by intro n hn; cases hn⟩
 | func f=>exact ⟨⟨[],rfl,All2.nil _⟩,by intro n hn; simp [ev,ids] at hn⟩
theorem iv (h:ao W0 F X N s β a w) (l:List Operand):All2 (Rel β (Own X s β) w) (kC s l) (l.map a.eval)/\∀ c ∈ kC s l,∀ n ∈ ids c,Nm s n:=by
 induction l with
 | nil=>exact ⟨All2.nil _,by simp [kC]⟩
 | cons x r ih =>
  refine ⟨All2.cons (aF h x).1 ih.1,fun c hc=>?_⟩
  rcases List.mem_cons.1 hc with rfl | hc
  ·exact (aF h x).2
  ·exact ih.2 c hc

theorem lE (h : ao W0 F X N s β a w) {d : Option Nat} {v : AV} {u : Value} {K : St -> Prop} (hK : al N s d v K) (hr : Rel β (Own X s β) w v u) (bt : ∀ n ∈ ids v, Nm s n) :
  ∃ s',K s'/\ao W0 F X N s' β (a.put d u) w:=by
 cases d with
 | none=>exact ⟨s,hK,h⟩
 | some d =>
  rw [bZ] at hK
  by_cases hd:d < N
  ·rw [show Nat.blt d N = true from by rw [Nat.blt_eq]; exact hd,cond_true] at hK
   exact ⟨s.put d v,hK,h.put hd hr bt⟩
  ·rw [show Nat.blt d N = false from by rw [<- Bool.not_eq_true,Nat.blt_eq]; exact hd] at hK
   exact hK.elim
theorem iI (h : ao W0 F X N s β a w) {d : Option Nat} {v : AV} {u : Value} {K : St -> Prop} {w' : World} (hs : ca (fun _ => False) w w') (hK : al N s d v K) (hr : Im (Own X s β) w' v u) :
  ∃ s',K s'/\ao W0 F X N s' β (a.put d u) w':=by
 have h':=h.grow hs
 exact lE h' hK (Rel.im hr) (by rw [hr.cQ]; intro n hn; cases hn)

theorem gJ (h : ao W0 F X N s β a w) {o : Oper} {v : AV} {u : Value} {K : St -> Prop} {next : Act -> World -> Prop} {Q : Exit -> Act -> World -> Prop} (hK : al N s o.dst v K)
  (hn:∀ s' a' w',K s'->Inv W0 F X N s' a' w'->next a' w') (bu:(execOp a.eval o).run P w = .ok (.value u) w) (hr:Rel β (Own X s β) w v u) (bt:∀ n ∈ ids v,Nm s n):o.wp P a w next Q:=by
 obtain ⟨s',h1,h2⟩:=lE h hK hr bt
 exact eI bu (hn _ _ _ h1 ⟨β,h2⟩)
theorem BG (h : ao W0 F X N s β a w) {o : Oper} {v : AV} {u : Value} {K : St -> Prop} {next : Act -> World -> Prop} {Q : Exit -> Act -> World -> Prop} {w' : World} (hs : ca (fun _ => False) w w') (hK : al N s o.dst v K)
  (hn:∀ s' a' w',K s'->Inv W0 F X N s' a' w'->next a' w') (bu:(execOp a.eval o).run P w = .ok (.value u) w') (hr:Im (Own X s β) w' v u):o.wp P a w next Q:=by
 obtain ⟨s',h1,h2⟩:=iI h hs hK hr
 exact eI bu (hn _ _ _ h1 ⟨β,h2⟩)

theorem Rel.kd {k:IntKind} {n:Int} {v:Value} (h:Rel β (Own X s β) w (.i k n) v):v = .int k n:=by cases (show Im _ _ _ _ from h); rfl
theorem Rel.jG {x:Bool} {v:Value} (h:Rel β (Own X s β) w (.b x) v):v = .bool x:=by cases (show Im _ _ _ _ from h); rfl
theorem Rel.pw {l:aH} {v:Value} (h:Rel β (Own X s β) w (.s l) v):v = .string ⟨l.toArray⟩/\l.length<=maxLen:=by
 cases (show Im _ _ _ _ from h) with
 | s _ hl=>exact ⟨rfl,hl⟩
theorem Rel.gz {v:Value} (h:Rel β (Own X s β) w .nl v):v = .slice none 0 0:=by cases (show Im _ _ _ _ from h); rfl
theorem Rel.CA {τ:Ty} {l:List (den τ)} {v:Value} (h:Rel β (Own X s β) w (.rd τ l) v):∃ a c,v = .slice a l.length c/\l.length<=c/\c<=maxLen:=by
 cases (show Im _ _ _ _ from h) with
 | uR _ a c hc=>exact ⟨a,c,rfl,by simp,hc⟩
 | rd _ _ g o c u _ h1 h2=>exact ⟨_,c,rfl,h1,h2⟩
end

theorem uW {k:IntKind} {n:Int} (h:LI k n):k.wrap n = n:=by
 cases k<;>simp only [LI] at h
 ·rw [IntKind.wrap_i32]; omega
 ·rw [IntKind.wrap_i64]; omega
 ·rw [IntKind.wrap_u8]; omega
 ·rw [IntKind.wrap_u16]; omega
 ·rw [IntKind.wrap_u32]; omega
 ·rw [IntKind.wrap_u64]; omega

theorem kF {k:IntKind} {n:Int} {K:AV->Prop} (h:la k n K):∃ m,K (.i k m)/\m = k.wrap n:=by
 unfold la at h
 cases hk:k.signed with
 | true=>rw [hk] at h; exact ⟨n,h.2,(uW h.1).symm⟩
 | false=>rw [hk] at h; exact ⟨_,h,rfl⟩

theorem LO (op : BinOp) {av bv : AV} {K : AV -> Prop} (h : zo op av bv K) {X : Nat -> Prop} {β : Nat -> Option Nat} {s : St} {w : World} {u v : Value} (hu : Rel β (Own X s β) w av u) (hv : Rel β (Own X s β) w bv v)
  (t:TypeId) (x y:Operand):∃ r z,K r/\Im (Own X s β) w r z/\∀ w':World,(do eqGuard op t x y u v; binOp op t u v:Sem Value).run P w' = .ok z w':=by
 cases av with
 | i k a =>
  cases bv with
  | i k' c =>
   obtain rfl:=hu.kd
   obtain rfl:=hv.kd
   have gY : ∀ {m : Int}, K (.i k m) -> (∀ w' : World, (do eqGuard op t x y (.int k a) (.int k' c); binOp op t (.int k a) (.int k' c) : Sem Value).run P w' = .ok (.int k m) w') ->
     ∃ r z,K r/\Im (Own X s β) w r z/\∀ w':World,(do eqGuard op t x y (.int k a) (.int k' c); binOp op t (.int k a) (.int k' c):Sem Value).run P w' = .ok z w' :=
    fun hK hr=>⟨_,_,hK,.i k _,hr⟩
   have hb : ∀ {b : Bool}, K (.b b) -> (∀ w' : World, (do eqGuard op t x y (.int k a) (.int k' c); binOp op t (.int k a) (.int k' c) : Sem Value).run P w' = .ok (.bool b) w') ->
     ∃ r z,K r/\Im (Own X s β) w r z/\∀ w':World,(do eqGuard op t x y (.int k a) (.int k' c); binOp op t (.int k a) (.int k' c):Sem Value).run P w' = .ok z w' :=
    fun hK hr=>⟨_,_,hK,.b _,hr⟩
   by_cases hk:k = k'
   case neg =>
    cases op<;>simp only [zo,hk,decide_false,cond_false] at h
    ·exact gY h.2 (fun w'=>by simp [eqGuard,binOp,Op.shift,show ¬ c < 0 from by omega])
    ·exact gY h.2 (fun w'=>by simp [eqGuard,binOp,Op.shift,show ¬ c < 0 from by omega])
   case pos =>
   subst hk
   cases op<;>simp only [zo,decide_true,cond_true,ye] at h
   case add=>obtain ⟨m,h1,rfl⟩:=kF h; exact gY h1 (fun w'=>by simp [eqGuard,binOp,Op.intArith])
   case sub=>obtain ⟨m,h1,rfl⟩:=kF h; exact gY h1 (fun w'=>by simp [eqGuard,binOp,Op.intArith])
   case mul=>obtain ⟨m,h1,rfl⟩:=kF h; exact gY h1 (fun w'=>by simp [eqGuard,binOp,Op.intArith])
   case quo=>exact gY h.2.2 (fun w'=>by simp [eqGuard,binOp,Op.intDiv,h.1,uW h.2.1])
   case rem=>exact gY h.2 (fun w'=>by simp [eqGuard,binOp,Op.intDiv,h.1])
   case and=>exact gY h (fun w'=>by simp [eqGuard,binOp,intBits_and])
   case or=>exact gY h (fun w'=>by simp [eqGuard,binOp,intBits_or])
   case xor=>exact gY h (fun w'=>by simp [eqGuard,binOp,intBits_xor])
   case andNot=>exact gY h (fun w'=>by simp [eqGuard,binOp,Op.intBits,bits])
   case shl=>exact gY h.2 (fun w'=>by simp [eqGuard,binOp,Op.shift,show ¬ c < 0 from by omega])
   case shr=>exact gY h.2 (fun w'=>by simp [eqGuard,binOp,Op.shift,show ¬ c < 0 from by omega])
   case eql=>exact hb h (fun w'=>by simp [eqGuard,binOp,Op.intCmp])
   case neq=>exact hb h (fun w'=>by simp [eqGuard,binOp,Op.intCmp])
   case lss=>exact hb h (fun w'=>by simp [eqGuard,binOp,Op.intCmp])
   case leq=>exact hb h (fun w'=>by simp [eqGuard,binOp,Op.intCmp])
   case gtr=>exact hb h (fun w'=>by simp [eqGuard,binOp,Op.intCmp])
   case geq=>exact hb h (fun w'=>by simp [eqGuard,binOp,Op.intCmp])
  | _=>exact h.elim
 | s a =>
  cases bv with
  | s c =>
   obtain ⟨rfl,ha⟩:=hu.pw
   obtain ⟨rfl,hc⟩:=hv.pw
   have hb : ∀ {b : Bool}, K (.b b) -> (∀ w' : World, (do eqGuard op t x y (.string ⟨a.toArray⟩) (.string ⟨c.toArray⟩); binOp op t (.string ⟨a.toArray⟩) (.string ⟨c.toArray⟩) : Sem Value).run P w' = .ok (.bool b) w') ->
     ∃ r z,K r/\Im (Own X s β) w r z/\∀ w':World,(do eqGuard op t x y (.string ⟨a.toArray⟩) (.string ⟨c.toArray⟩); binOp op t (.string ⟨a.toArray⟩) (.string ⟨c.toArray⟩):Sem Value).run P w' = .ok z w' :=
    fun hK hr=>⟨_,_,hK,.b _,hr⟩
   have bO:∀ l:aH,(ByteArray.mk l.toArray).size = l.length:=fun l=>by simp [ByteArray.size]
   cases op<;>simp only [zo,yP] at h
   case add =>
    have hle:¬ ((((ByteArray.mk a.toArray).size + (ByteArray.mk c.toArray).size:Nat):Int) > IntKind.i64.max):=by
     rw [bO,bO]
     have:IntKind.i64.max = 9223372036854775807:=rfl
     rw [this]
     have:=h.1
     unfold maxLen at this
     omega
    refine ⟨_,.string (⟨a.toArray⟩++⟨c.toArray⟩),h.2,?_,?_⟩
    ·have:=Im.s (O:=Own X s β) (w:=w) (a++c) (by simpa using h.1)
     have e:(ByteArray.mk a.toArray++ByteArray.mk c.toArray) = ByteArray.mk (a++c).toArray:=by
      apply ByteArray.ext
      simp
     rw [e]; exact this
    ·intro w'
     simp only [eqGuard,binOp,Op.stringOp,if_neg hle]
     simp
   case eql=>exact hb h (fun w'=>by simp [eqGuard,binOp,Op.stringOp])
   case neq=>exact hb h (fun w'=>by simp [eqGuard,binOp,Op.stringOp])
   case lss=>exact hb h (fun w'=>by simp [eqGuard,binOp,Op.stringOp])
   case leq=>exact hb h (fun w'=>by simp [eqGuard,binOp,Op.stringOp])
   case gtr=>exact hb h (fun w'=>by simp [eqGuard,binOp,Op.stringOp])
   case geq=>exact hb h (fun w'=>by simp [eqGuard,binOp,Op.stringOp])
  | _=>exact h.elim
 | _=>exact h.elim
end
end Go.SX
end
section
namespace Go.SX
variable [Globs]
open Go
def kl:EK->Value->Value->Bool
 | .int,.int _ a,.int _ b=>decide (a = b)
 | .str,.string a,.string b=>a == b
 | .bool,.bool a,.bool b=>a == b
 | _,_,_=>false
def xN:EK->Value->Value->Prop
 | .int,.int k _,.int k' _=>k = k'
 | .str,.string _,.string _=>True
 | .bool,.bool _,.bool _=>True
 | _,_,_=>False
theorem P8 {P : Program} {f : Field} {k : EK} (h : Hz P f = some k) : f.name ≠ "_" ∧ (∀ w, (isAgg f.type).run P w = .ok false w) ∧
  ∀ d x y w,xN k x y->(Op.equalIn (d + 1) f.type x y).run P w = .ok (kl k x y) w:=by
 unfold Hz at h
 cases hn : f.name == "_" with
 | true=>rw [hn] at h; cases h
 | false =>
  rw [hn,cond_false] at h
  refine ⟨fun e=>by rw [e] at hn; simp at hn,?_⟩
  split at h
  ·rename_i kk hu
   injection h with h; subst h
   refine ⟨fun w=>by simp [isAgg,run_underlying hu],fun d x y w hc=>?_⟩
   cases x<;>cases y<;>first | exact hc.elim | skip
   rename_i k1 a k2 b
   have:k1 = k2:=hc
   subst this
   simp [Op.equalIn,run_underlying hu,kl]
   rfl
  ·rename_i hu
   injection h with h; subst h
   refine ⟨fun w=>by simp [isAgg,run_underlying hu],fun d x y w hc=>?_⟩
   cases x<;>cases y<;>first | exact hc.elim | skip
   simp [Op.equalIn,run_underlying hu,kl]
  ·rename_i hu
   injection h with h; subst h
   refine ⟨fun w=>by simp [isAgg,run_underlying hu],fun d x y w hc=>?_⟩
   cases x<;>cases y<;>first | exact hc.elim | skip
   simp [Op.equalIn,run_underlying hu,kl]
  ·cases h

def fR:List EK->List Nat->List Value->List Value->Bool
 | k::ks,o::os,xs,ys=>kl k (xs.getD o undef) (ys.getD o undef) && fR ks os xs ys
 | _,_,_,_=>true
def mV:List EK->List Nat->List Value->List Value->Prop
 | [],[],_,_=>True
 | k::ks,o::os,xs,ys=>o < xs.length/\o < ys.length/\xN k (xs.getD o undef) (ys.getD o undef)/\mV ks os xs ys
 | _,_,_,_=>False
theorem Mi {P : Program} {d : Nat} {xs ys : List Value} (w : World) : ∀ (fs : List Field) (ks : List EK), fs.map (Hz P) = ks.map some -> mV ks (fs.map (·.offset)) xs ys ->
  ∃ r, Sem.run P (forIn fs ((none, ()) : Option Bool × Unit) fun f __s =>
          if f.name = "_" then pure (ForInStep.yield (none, ()))
          else do
           let __do_lift <- part f.type xs.toArray f.offset
           let __do_lift_1 <- part f.type ys.toArray f.offset
           let __do_lift <- Op.equalIn (d + 1) f.type __do_lift __do_lift_1
           if __do_lift = false then pure (ForInStep.done (some false,())) else pure (ForInStep.yield (none,()))) w = .ok r w /\
   r.1 = (if fR ks (fs.map (·.offset)) xs ys then none else some false):=by
 intro fs
 induction fs with
 | nil =>
  intro ks h1 h2
  cases ks with
  | nil=>exact ⟨(none,()),by simp,by simp [fR]⟩
  | cons _ _=>cases h1
 | cons f fs ih =>
  intro ks h1 h2
  cases ks with
  | nil=>cases h1
  | cons k ks =>
   simp only [List.map_cons,List.cons.injEq] at h1
   obtain ⟨h3,h4⟩:=h1
   obtain ⟨h5,h6,h7,h8⟩:=(show f.offset < xs.length/\f.offset < ys.length/\xN k (xs.getD f.offset undef) (ys.getD f.offset undef)/\mV ks (fs.map (·.offset)) xs ys from h2)
   obtain ⟨hn,H4,bu⟩:=P8 h3
   have hx:(part f.type xs.toArray f.offset).run P w = .ok (xs.getD f.offset undef) w:=by
    have:xs.toArray[f.offset]? = some (xs.getD f.offset undef):=by simp [h5]
    simp [part,H4,this]
   have hy:(part f.type ys.toArray f.offset).run P w = .ok (ys.getD f.offset undef) w:=by
    have:ys.toArray[f.offset]? = some (ys.getD f.offset undef):=by simp [h6]
    simp [part,H4,this]
   have he:=bu d _ _ w h7
   obtain ⟨r,h9,gQ⟩:=ih ks h4 h8
   rw [List.forIn_cons]
   simp only [hn,if_false,Sem.run_bind,hx,hy,he,Result.andThen_ok]
   cases hc:kl k (xs.getD f.offset undef) (ys.getD f.offset undef) with
   | false =>
    refine ⟨(some false,()),by simp,?_⟩
    simp only [List.map_cons,fR,hc,Bool.false_and]
    simp
   | true =>
    refine ⟨r,by simpa using h9,?_⟩
    simp only [List.map_cons,fR,hc,Bool.true_and]
    exact gQ
theorem vY {P : Program} {t : TypeId} {fs : Array Field} {ks : List EK} (hu : P.underlying t = some (.struct fs)) (hs : P.stoodInHeld t = false) (hk : fs.toList.map (Hz P) = ks.map some) {xs ys : List Value}
  (h:mV ks (fs.toList.map (·.offset)) xs ys) (d:Nat) (w:World) :
  (Op.equalIn (d + 2) t (.agg xs.toArray) (.agg ys.toArray)).run P w = .ok (fR ks (fs.toList.map (·.offset)) xs ys) w:=by
 obtain ⟨r,h1,h2⟩:=Mi (d:=d) w fs.toList ks hk h
 rw [Op.equalIn]
 simp [run_underlying hu,hs]
 rw [<- Array.forIn_toList,h1]
 simp only [Result.andThen_ok]
 rw [h2]
 cases fR ks (fs.toList.map (·.offset)) xs ys<;>simp
theorem l5 {P : Program} {t : TypeId} {eqs : List EK} (da : eqs ≠ []) (rr : Qa P t eqs = true) {fl : List (Nat × Nat)} (GD : ∀ fs : Array Field, P.underlying t = some (.struct fs) -> fs.toList.map (fun f => (f.offset, P.cellsOf f.type)) = fl)
  {xs ys:List Value} (h:mV eqs (fl.map (·.1)) xs ys) (x y:Operand) (w:World) :
  (do eqGuard .eql t x y (.agg xs.toArray) (.agg ys.toArray); binOp .eql t (.agg xs.toArray) (.agg ys.toArray):Sem Value).run P w = .ok (.bool (fR eqs (fl.map (·.1)) xs ys)) w /\
  (do eqGuard .neq t x y (.agg xs.toArray) (.agg ys.toArray); binOp .neq t (.agg xs.toArray) (.agg ys.toArray):Sem Value).run P w = .ok (.bool (!(fR eqs (fl.map (·.1)) xs ys))) w:=by
 unfold Qa at rr
 have he:eqs.isEmpty = false:=by cases eqs with
  | nil=>exact absurd rfl da
  | cons _ _=>rfl
 rw [he,Bool.false_or] at rr
 split at rr
 ·rename_i fs hu
  simp only [Bool.and_eq_true,Bool.not_eq_true',decide_eq_true_eq] at rr
  obtain ⟨⟨h1,h2⟩,h3⟩:=rr
  have hf:=GD fs hu
  have Ct:fl.map (·.1) = fs.toList.map (·.offset):=by rw [<- hf]; simp
  rw [Ct] at h ⊢
  have hr:=vY hu h1 h3 h 9998 w
  refine ⟨?_,?_⟩
  ·simp only [eqGuard,binOp]
   simp [h2,Op.equal,Op.maxDepth,hr]
  ·simp only [eqGuard,binOp]
   simp [h2,Op.equal,Op.maxDepth,hr]
 ·cases rr
theorem bytes_beq (a c:aH):(ByteArray.mk a.toArray == ByteArray.mk c.toArray) = (a == c):=by
 show (a.toArray == c.toArray) = (a == c)
 simp
section
variable {W0:World} {F:Fr} {X:Nat->Prop} {N:Nat} {s:St} {β:Nat->Option Nat} {a:Act} {w:World}
theorem E7 {O:Nat->Prop} {k:EK} {c d:AV} {u v:Value} {K:Bool->Prop} (h:sc k c d K) (hc:Im O w c u) (hd:Im O w d v):xN k u v/\K (kl k u v):=by
 cases k<;>cases c<;>cases d<;>first | exact h.elim | skip
 ·rename_i k1 n k2 m
  cases hc; cases hd
  obtain ⟨h1,h2⟩:=(af _ _).1 (show aC (decide (k1 = k2)) (K (decide (n = m))) from h)
  exact ⟨(of_decide_eq_true h1:k1 = k2),h2⟩
 ·rename_i x y
  cases hc; cases hd
  exact ⟨trivial,by simp only [kl]; rw [bytes_beq]; exact h⟩
 ·cases hc; cases hd
  exact ⟨trivial,h⟩
theorem GQ {O : Nat -> Prop} {cs ds : List AV} {us vs : List Value} (hc : All2 (Im O w) cs us) (hd : All2 (Im O w) ds vs) (ks : List EK) : ∀ (fl : List (Nat × Nat)) {K : Bool -> Prop}, nV ks fl cs ds K ->
  mV ks (fl.map (·.1)) us vs/\K (fR ks (fl.map (·.1)) us vs):=by
 induction ks with
 | nil =>
  intro fl K h
  cases fl with
  | nil=>exact ⟨trivial,h⟩
  | cons _ _=>exact h.elim
 | cons k ks ih =>
  intro fl K h
  cases fl with
  | nil=>exact h.elim
  | cons p fl =>
   obtain ⟨o,sz⟩:=p
   obtain ⟨c,h1,h⟩:=(bA _ _ _).1 (show dp cs o fun a=>dp ds o fun b=>sc k a b fun x=>nV ks fl cs ds fun y=>K (x && y) from h)
   obtain ⟨d,h2,h⟩:=(bA _ _ _).1 h
   have zb:o < us.length:=by rw [<- hc.1]; exact (List.getElem?_eq_some_iff.1 h1).1
   have oa:o < vs.length:=by rw [<- hd.1]; exact (List.getElem?_eq_some_iff.1 h2).1
   have e1:us[o]? = some (us.getD o undef):=by rw [List.getD_eq_getElem?_getD,List.getElem?_eq_getElem zb]; rfl
   have e2:vs[o]? = some (vs.getD o undef):=by rw [List.getD_eq_getElem?_getD,List.getElem?_eq_getElem oa]; rfl
   obtain ⟨h3,h4⟩:=E7 h (hc.2 _ _ _ h1 e1) (hd.2 _ _ _ h2 e2)
   obtain ⟨h5,h6⟩:=ih fl h4
   exact ⟨⟨zb,oa,h3,h5⟩,h6⟩
end
end Go.SX
end
section
namespace Go.SX
variable [Globs]
section
variable {P:Program} {N:Nat} {Γ:Ctx} {W0:World} {F:Fr} {X:Nat->Prop} {s:St} {β:Nat->Option Nat} {a:Act} {w:World}

def e9 (P:Program) (X:Nat->Prop) (s:St) (β:Nat->Option Nat) (a:Act) (w:World) (o:Oper) (K:AV->Prop):Prop :=
 ∃ v u,K v/\Rel β (Own X s β) w v u/\(∀ n ∈ ids v,Nm s n)/\∀ w':World,(execOp a.eval o).run P w' = .ok (.value u) w'
def sN (P:Program) (X:Nat->Prop) (s:St) (β:Nat->Option Nat) (a:Act) (w:World) (o:Oper) (K:AV->Prop):Prop :=
 ∃ v u,K v/\Rel β (Own X s β) w v u/\(∀ n ∈ ids v,Nm s n)/\(execOp a.eval o).run P w = .ok (.value u) w

theorem e9.im {o:Oper} {K:AV->Prop} {v:AV} {u:Value} (hK:K v) (hr:Im (Own X s β) w v u) (bu:∀ w':World,(execOp a.eval o).run P w' = .ok (.value u) w'):e9 P X s β a w o K :=
 ⟨v,u,hK,Rel.im hr,(fun n hn=>by rw [hr.cQ] at hn; cases hn),bu⟩

theorem sN.im {o:Oper} {K:AV->Prop} {v:AV} {u:Value} (hK:K v) (hr:Im (Own X s β) w v u) (bu:(execOp a.eval o).run P w = .ok (.value u) w):sN P X s β a w o K :=
 ⟨v,u,hK,Rel.im hr,(fun n hn=>by rw [hr.cQ] at hn; cases hn),bu⟩

theorem Rel.su {cs:List AV} {v:Value} (h:Rel β (Own X s β) w (.agg cs) v):∃ vs:List Value,v = .agg vs.toArray/\All2 (Im (Own X s β) w) cs vs/\∀ u ∈ vs,u.oneCell' = true:=by
 cases (show Im _ _ _ _ from h) with
 | agg _ vs h1 h0 h2=>exact ⟨vs,rfl,⟨h1,h2⟩,h0⟩
theorem Rel.D1 {cs:List AV} {v:Value} (h:Rel β (Own X s β) w (.bc cs) v):∃ vs:List Value,v = .tuple vs.toArray/\All2 (cj β (Own X s β) w) cs vs:=h
theorem cj.ids {c:AV} {u:Value} (hr:cj β (Own X s β) w c u) {n:Nat} (h:n ∈ SX.ids c):n ∈ aw c:=by
 cases c with
 | fn f ak=>rw [Im.cQ (show Im _ _ _ _ from hr)] at h; cases h
 | bc cs=>rw [Im.cQ (show Im _ _ _ _ from hr)] at h; cases h
 | ag k cs=>rw [Im.cQ (show Im _ _ _ _ from hr)] at h; cases h
 | _=>exact h

theorem dm (g o n:Nat):(⟨g,o,none⟩:Addr).add n = ⟨g,o + n,none⟩:=by
 unfold Addr.add
 split
 ·rename_i h; subst h; rfl
 ·rfl

theorem Sn (op:UnOp) {av:AV} {K:AV->Prop} (h:Sm op av K) {u:Value} (hu:Rel β (Own X s β) w av u):∃ r z,K r/\Im (Own X s β) w r z/\∀ w':World,(Op.unary op u).run P w' = .ok z w':=by
 cases av with
 | b x =>
  obtain rfl:=hu.jG
  cases op<;>simp only [Sm] at h
  exact ⟨_,_,h,.b _,fun w'=>by simp [Op.unary]⟩
 | i k n =>
  obtain rfl:=hu.kd
  cases op<;>simp only [Sm] at h
  ·have h : ∃ m, K (.i k m) /\ m = k.wrap (0 - n) := by
    unfold M6 at h
    split at h
    ·exact h.elim (fun h=>kF h) fun h=>⟨_,h,rfl⟩
    ·exact kF h
   obtain ⟨m,h1,rfl⟩:=h
   exact ⟨_,_,h1,.i k _,fun w'=>by simp [Op.unary,Op.intArith]⟩
  ·exact ⟨_,_,h,.i k _,fun w'=>by simp [Op.unary,intBits_xor]⟩
 | _=>exact h.elim

theorem Pb {fs : Array Field} {fl : List (Nat × Nat)} (h : fs.toList.map (fun f => (f.offset, P.cellsOf f.type)) = fl) {f : Nat} {d : Nat × Nat} (hd : fl[f]? = some d) :
  ∃ fd,fs[f]? = some fd/\fd ∈ fs/\fd.offset = d.1/\P.cellsOf fd.type = d.2:=by
 subst h
 rw [List.getElem?_map,Option.map_eq_some_iff] at hd
 obtain ⟨fd,h1,rfl⟩:=hd
 refine ⟨fd,by simpa using h1,?_,rfl,rfl⟩
 have:=List.mem_of_getElem? h1
 simpa using this

theorem ju {t : Nat} {ti : TI} (cw : ti.ok P t) {K : List (Nat × Nat) -> Prop} (h : ew ti.desc K) :
  ∃ fl fs,K fl/\P.underlying t = some (.struct fs)/\fs.toList.map (fun f=>(f.offset,P.cellsOf f.type)) = fl/\∀ f ∈ fs,je P f = true:=by
 obtain ⟨de,h1,h2⟩:=cw.desc
 cases hd:ti.desc with
 | struct fl =>
  rw [hd] at h h2
  obtain ⟨fs,rfl,h3,h4⟩:=(show ∃ fs:Array Field,de = .struct fs/\fs.toList.map (fun f=>(f.offset,P.cellsOf f.type)) = fl/\fs.toList.all (je P) = true from h2)
  exact ⟨fl,fs,h,h1,h3,fun f hf=>List.all_eq_true.1 h4 f (by simpa using hf)⟩
 | _=>rw [hd] at h; exact h.elim
theorem kV {t:Nat} {ti:TI} (cw:ti.ok P t) {K:Nat->Prop} (h:cW ti.desc K):∃ e,K e/\P.underlying t = some (.slice e):=by
 obtain ⟨de,h1,h2⟩:=cw.desc
 cases hd:ti.desc with
 | slice e=>rw [hd] at h h2; exact ⟨e,h,(show de = .slice e from h2) ▸ h1⟩
 | _=>rw [hd] at h; exact h.elim
theorem Kl {t:Nat} {ti:TI} (cw:ti.ok P t) (h:gZ ti.desc = true):P.underlying t = some .string:=by
 obtain ⟨de,h1,h2⟩:=cw.desc
 cases hd:ti.desc with
 | str=>rw [hd] at h2; exact (show de = .string from h2) ▸ h1
 | _=>rw [hd] at h; cases h
theorem Ma {t:Nat} {ti:TI} (cw:ti.ok P t) (h:sv ti.desc = true):P.underlying t = some .bool:=by
 obtain ⟨de,h1,h2⟩:=cw.desc
 cases hd:ti.desc with
 | bool=>rw [hd] at h2; exact (show de = .bool from h2) ▸ h1
 | _=>rw [hd] at h; cases h
theorem BW {t:Nat} {ti:TI} (cw:ti.ok P t) (w:World):(isAgg t).run P w = .ok (aK ti.desc) w:=by
 obtain ⟨de,h1,h2⟩:=cw.desc
 cases hd:ti.desc with
 | struct fl=>rw [hd] at h2; obtain ⟨fs,rfl,_⟩:=h2; simp [isAgg,run_underlying h1,aK]
 | slice e=>rw [hd] at h2; obtain rfl:=(show de = .slice e from h2); simp [isAgg,run_underlying h1,aK]
 | int k=>rw [hd] at h2; obtain rfl:=(show de = .int k from h2); simp [isAgg,run_underlying h1,aK]
 | str=>rw [hd] at h2; obtain rfl:=(show de = .string from h2); simp [isAgg,run_underlying h1,aK]
 | bool=>rw [hd] at h2; obtain rfl:=(show de = .bool from h2); simp [isAgg,run_underlying h1,aK]
 | arr n e=>rw [hd] at h2; obtain rfl:=(show de = .array n e from h2); simp [isAgg,run_underlying h1,aK]
 | mp k e=>rw [hd] at h2; obtain rfl:=(show de = .map k e from h2); simp [isAgg,run_underlying h1,aK]
 | U3=>rw [hd] at h2; obtain ⟨ms,rfl⟩:=(show ∃ ms,de = .interface ms from h2); simp [isAgg,run_underlying h1,aK]
 | other =>
  rw [hd] at h2
  have h2:=(show (∀ fs,de≠.struct fs)/\(∀ n e,de≠.array n e)/\∀ ms,de≠.interface ms from h2)
  cases de<;>first | exact absurd rfl (h2.1 _) | exact absurd rfl (h2.2.1 _ _) | simp [isAgg,run_underlying h1,aK]

theorem j9 {t f : Nat} {fs : Array Field} (hu : P.underlying t = some (.struct fs)) {fl : List (Nat × Nat)} (h3 : fs.toList.map (fun f => (f.offset, P.cellsOf f.type)) = fl)
  (h4:∀ f ∈ fs,je P f = true) {d:Nat × Nat} (hf:fl[f]? = some d) (g o:Nat) (w:World) :
  (Instr.fieldAt t (.pointer (some ⟨g,o,none⟩)) f).run P w = .ok (.pointer (some ⟨g,o + d.1,none⟩)) w:=by
 obtain ⟨fd,h5,h6,h7,h8⟩:=Pb h3 hf
 obtain ⟨h9,⟨i,hi⟩,_⟩:=ll (h4 fd h6)
 have bO:(sizeOf fd.type).run P w = .ok (P.cellsOf fd.type) w:=by simp [sizeOf,typeInfo,hi,Program.cellsOf]
 have gQ:P.cellsOf fd.type≠0:=h9
 simp [Instr.fieldAt,run_underlying hu,h5,Instr.sureAddr,fieldPlace,bO,gQ,dm,h7]

theorem tZ {v:AV} {K:Int->Prop} (h:nL v K) {u:Value} (hr:Rel β (Own X s β) w v u):∃ k n,u = .int k n/\K n:=by
 cases v with
 | i k n=>exact ⟨k,n,hr.kd,h⟩
 | _=>exact h.elim
theorem Ha (hI : ao W0 F X N s β a w) {x : Option Operand} {d : Int} {K : Int -> Prop} (h : cH s x d K) :
  (x = none/\K d)\/∃ y k n,x = some y/\a.eval y = .int k n/\K n:=by
 cases x with
 | none=>exact .inl ⟨rfl,h⟩
 | some y =>
  have h:bG s y fun v=>nL v K:=h
  rw [aE] at h
  obtain ⟨k,n,h1,h2⟩:=tZ h (aF hI y).1
  exact .inr ⟨y,k,n,rfl,h1,h2⟩

theorem Na (hI:ao W0 F X N s β a w) {o:Oper} {c x y:Operand} (ho:o.op = .pick c x y) {K:AV->Prop} (h:iH (ev s c) (ev s x) (ev s y) K):e9 P X s β a w o K:=by
 have hc:=(aF hI c).1
 have hx:=aF hI x
 have hy:=aF hI y
 cases wN:ev s c with
 | b t =>
  rw [wN] at h hc
  have dv:=hc.jG
  have bu:∀ w':World,(execOp a.eval o).run P w' = .ok (.value (if t then a.eval x else a.eval y)) w':=by
   intro w'; simp [execOp,ho,dv,asBool]
  have kn:(bif t then K (ev s x) else K (ev s y))->e9 P X s β a w o K:=by
   intro h
   cases t with
   | true=>exact ⟨_,_,h,hx.1,hx.2,fun w'=>by rw [bu]; rfl⟩
   | false=>exact ⟨_,_,h,hy.1,hy.2,fun w'=>by rw [bu]; rfl⟩
  cases jT:ev s x with
  | b p =>
   cases lr:ev s y with
   | b q =>
    rw [jT,lr] at h
    rw [jT] at hx; rw [lr] at hy
    refine .im (show K (.b (bif t then p else q)) from h) (.b _) fun w'=>?_
    rw [bu,hx.1.jG,hy.1.jG]
    cases t<;>rfl
   | _=>rw [jT,lr] at h kn; exact kn h
  | _=>rw [jT] at h kn; exact kn h
 | _=>rw [wN] at h; exact h.elim

theorem rD {t : TypeId} (hu : P.underlying t = some .bool) (p q : Bool) (w : World) (x y : Operand) :
  (do eqGuard .eql t x y (.bool p) (.bool q); binOp .eql t (.bool p) (.bool q):Sem Value).run P w = .ok (.bool (p == q)) w /\
  (do eqGuard .neq t x y (.bool p) (.bool q); binOp .neq t (.bool p) (.bool q):Sem Value).run P w = .ok (.bool (!(p == q))) w:=by
 have h:∀ d:Nat,(Op.equalIn (d + 1) t (.bool p) (.bool q)).run P w = .ok (p == q) w:=fun d=>by simp [Op.equalIn,run_underlying hu]
 refine ⟨?_,?_⟩
 ·simp only [eqGuard,binOp]
  simp [Op.equal,Op.maxDepth,h 9999]
 ·simp only [eqGuard,binOp]
  simp [Op.equal,Op.maxDepth,h 9999]

theorem GZ (aY:Γ.ok P) (hI:ao W0 F X N s β a w) {o:Oper} {op:BinOp} {t ty:TypeId} {x y:Operand} (ho:o.op = .binOp op t x y ty) {K:AV->Prop} (h:oP Γ op t (ev s x) (ev s y) K):e9 P X s β a w o K:=by
 have hx:=(aF hI x).1
 have hy:=(aF hI y).1
 have pg:zo op (ev s x) (ev s y) K->e9 P X s β a w o K:=by
  intro h
  obtain ⟨r,z,h1,h2,h3⟩:=LO op h hx hy t x y (P:=P)
  refine .im h1 h2 fun w'=>?_
  have h3:=h3 w'
  simp only [execOp,ho]
  simp only [Sem.run_bind] at h3 ⊢
  rw [h3]
  rfl
 cases jT:ev s x with
 | b p =>
  cases lr:ev s y with
  | b q =>
   rw [jT,lr] at h
   rw [jT] at hx; rw [lr] at hy
   obtain ⟨ti,cw,h⟩:=bq aY (show cp Γ t fun ti=>aC (sv ti.desc) (oQ op p q K) from h)
   rw [af] at h
   have hu:=Ma cw h.1
   have h:=h.2
   cases op<;>simp only [oQ] at h
   ·refine .im h (.b _) fun w'=>?_
    have h3:=(rD hu p q w' x y).1
    simp only [execOp,ho,hx.jG,hy.jG]
    simp only [Sem.run_bind] at h3 ⊢
    rw [h3]
    rfl
   ·refine .im h (.b _) fun w'=>?_
    have h3:=(rD hu p q w' x y).2
    simp only [execOp,ho,hx.jG,hy.jG]
    simp only [Sem.run_bind] at h3 ⊢
    rw [h3]
    rfl
  | _=>rw [jT,lr] at h pg; exact pg h
 | agg cs =>
  cases lr:ev s y with
  | agg ds =>
   rw [jT,lr] at h
   rw [jT] at hx; rw [lr] at hy
   obtain ⟨ti,cw,h⟩:=bq aY (show cp Γ t fun ti=>mO ti.desc fun fl=>aC (!ti.eqs.isEmpty) (nV ti.eqs fl cs ds fun b=>dO op b K) from h)
   have hd:=cw.desc
   cases y8:ti.desc with
   | struct fl =>
    rw [y8] at h hd
    obtain ⟨he,h⟩:=(af _ _).1 (show aC (!ti.eqs.isEmpty) (nV ti.eqs fl cs ds fun b=>dO op b K) from h)
    obtain ⟨us,hu,hxu,_⟩:=hx.su
    obtain ⟨vs,hv,lr,_⟩:=hy.su
    obtain ⟨hc,h⟩:=GQ hxu lr ti.eqs fl h
    have da:ti.eqs≠[]:=fun e=>by rw [e] at he; cases he
    have GD:∀ fs:Array Field,P.underlying t = some (.struct fs)->fs.toList.map (fun f=>(f.offset,P.cellsOf f.type)) = fl:=by
     intro fs hfs
     obtain ⟨de,h1,fs',rfl,h3,_⟩:=hd
     rw [hfs] at h1
     injection h1 with h1; injection h1 with h1
     subst h1
     exact h3
    cases op<;>first | exact (show False from h).elim | skip
    ·refine .im (show K (.b (fR ti.eqs (fl.map (·.1)) us vs)) from h) (.b _) fun w'=>?_
     have h3:=(l5 da cw.eqs GD hc x y w').1
     simp only [execOp,ho,hu,hv]
     simp only [Sem.run_bind] at h3 ⊢
     rw [h3]
     rfl
    ·refine .im (show K (.b (!(fR ti.eqs (fl.map (·.1)) us vs))) from h) (.b _) fun w'=>?_
     have h3:=(l5 da cw.eqs GD hc x y w').2
     simp only [execOp,ho,hu,hv]
     simp only [Sem.run_bind] at h3 ⊢
     rw [h3]
     rfl
   | _=>rw [y8] at h; exact h.elim
  | _=>rw [jT,lr] at h pg; exact pg h
 | _=>rw [jT] at h pg; exact pg h

theorem DC {o : Oper} {src dst : TypeId} {x : Operand} (ho : o.op = .convert src dst x) {ti : TI} (cw : ti.ok P dst) {v : AV} (hr : Rel β (Own X s β) w v (a.eval x)) {K : AV -> Prop} (h : o6 ti.desc v K)
  (XY:∃ d,P.underlying src = some d):e9 P X s β a w o K:=by
 obtain ⟨de,h1,h2⟩:=cw.desc
 obtain ⟨sd,XW⟩:=XY
 cases hd:ti.desc with
 | int k =>
  rw [hd] at h h2
  obtain rfl:=(show de = .int k from h2)
  cases v with
  | i k' n =>
   refine .im (show K (.i k (k.wrap n)) from h) (.i k _) fun w'=>?_
   cases sd<;>simp [execOp,ho,hr.kd,convert,run_underlying h1,run_underlying XW,Conv.intToInt]
  | _=>exact h.elim
 | str =>
  rw [hd] at h h2
  obtain rfl:=(show de = .string from h2)
  cases v with
  | s l =>
   have hl:=hr.pw
   refine .im (show K (.s l) from h) (.s l hl.2) fun w'=>?_
   cases sd<;>simp [execOp,ho,hl.1,convert,run_underlying h1,run_underlying XW]
  | i k' n =>
   have hlen:(Utf8.encode n).data.toList.length<=maxLen:=by
    refine Nat.le_trans (m:=4) ?_ (by decide)
    unfold Utf8.encode
    simp only
    repeat' split
    all_goals exact Nat.le_of_ble_eq_true rfl
   refine .im (show K (.s (Utf8.encode n).data.toList) from h) (.s _ hlen) fun w'=>?_
   cases sd<;>simp [execOp,ho,hr.kd,convert,run_underlying h1,run_underlying XW,Conv.intToString]
  | _=>exact h.elim
 | _=>rw [hd] at h; exact h.elim
end
end Go.SX
end
section
namespace Go.SX
variable [Globs]
section
variable {P:Program} {N:Nat} {Γ:Ctx} {W0:World} {F:Fr} {X:Nat->Prop} {s:St} {β:Nat->Option Nat} {a:Act} {w:World}

theorem HF {o : Oper} {t f : Nat} {x : Operand} (ho : o.op = .fieldAddr t x f) {fs : Array Field} (hu : P.underlying t = some (.struct fs)) {fl : List (Nat × Nat)}
  (h3:fs.toList.map (fun f=>(f.offset,P.cellsOf f.type)) = fl) (h4:∀ f ∈ fs,je P f = true) {d:Nat × Nat} (hf:fl[f]? = some d)
  {v:AV} (hr:Rel β (Own X s β) w v (a.eval x)) (bt:∀ n ∈ ids v,Nm s n) {K:AV->Prop} (h:tn d.1 v K):e9 P X s β a w o K:=by
 cases v with
 | pt n off =>
  obtain ⟨g,h1,h2⟩:=hr
  exact ⟨.pt n (off + d.1),.pointer (some ⟨g,off + d.1,none⟩),h,⟨g,h1,rfl⟩,bt,fun w'=>by simp [execOp,ho,h2,j9 hu h3 h4 hf]⟩
 | rp cs =>
  obtain ⟨g,off,h1,h2⟩:=Im.od hr
  have h:iS (cs.drop d.1) (fun cs=>K (.rp cs)):=h
  rw [nb] at h
  refine ⟨.rp (cs.drop d.1),.pointer (some ⟨g,off + d.1,none⟩),h,Im.ur (g:=g) (o:=off + d.1) fun j av hj=>?_,bt,fun w'=>by simp [execOp,ho,h1,j9 hu h3 h4 hf]⟩
  rw [List.getElem?_drop] at hj
  obtain ⟨h5,u,h6,h7⟩:=h2 _ _ hj
  exact ⟨h5,u,by rw [Nat.add_assoc]; exact h6,h7⟩
 | vp id τ l n off =>
  obtain ⟨h1,⟨g,h2,h5⟩,h6⟩:=hr
  refine ⟨.vp id τ l n (off + d.1),.pointer (some ⟨g,n * aX τ + (off + d.1),none⟩),h,⟨h1,⟨g,h2,rfl⟩,h6⟩,bt,fun w'=>?_⟩
  simp [execOp,ho,h5,j9 hu h3 h4 hf,Nat.add_assoc]
 | _=>exact h.elim

theorem HH {o : Oper} {t f : Nat} {x : Operand} (ho : o.op = .field t x f) {fs : Array Field} (hu : P.underlying t = some (.struct fs)) {fl : List (Nat × Nat)}
  (h3:fs.toList.map (fun f=>(f.offset,P.cellsOf f.type)) = fl) {d:Nat × Nat} (hf:fl[f]? = some d) (h4:∀ f ∈ fs,je P f = true)
  {v:AV} (hr:Rel β (Own X s β) w v (a.eval x)) {K:AV->Prop} (h:tr d.1 d.2 v K):e9 P X s β a w o K:=by
 cases v with
 | agg cs =>
  obtain ⟨vs,h1,h2,_⟩:=hr.su
  have h:fj d.2 (cs.drop d.1) (fun l=>match l with | [v]=>K v | _=>False):=h
  rw [dJ] at h
  obtain ⟨fd,h5,h6,h7,h8⟩:=Pb h3 hf
  cases hl:(cs.drop d.1).take d.2 with
  | nil=>rw [hl] at h; exact h.2.elim
  | cons c r =>
   cases r with
   | cons c' r=>rw [hl] at h; exact h.2.elim
   | nil =>
    rw [hl] at h
    have Ue:d.2 = 1:=by
     have:=congrArg List.length hl
     simp only [List.length_take,List.length_cons,List.length_nil] at this
     have:=h.1
     omega
    have hc:cs[d.1]? = some c:=by
     have h9:((cs.drop d.1).take d.2)[0]? = some c:=by rw [hl]; rfl
     rw [Ue] at h9
     simpa [List.getElem?_take,List.getElem?_drop] using h9
    have hlt:d.1 < cs.length:=(List.getElem?_eq_some_iff.1 hc).1
    have hv:vs[d.1]? = some (vs[d.1]'(by rw [<- h2.1]; exact hlt)):=List.getElem?_eq_getElem _
    refine .im h.2 (h2.2 _ _ _ hc hv) fun w'=>?_
    have hp:=(ll (h4 fd h6)).2.2 (h8.trans Ue) w'
    simp [execOp,ho,h1,Instr.field,run_underlying hu,h5,asAgg,part,hp,h7,hv]
 | _=>exact h.elim

theorem Cf {o:Oper} {i:Nat} {x:Operand} (ho:o.op = .extract x i) {v:AV} (hr:Rel β (Own X s β) w v (a.eval x)) (bt:∀ n ∈ ids v,Nm s n) {K:AV->Prop} (h:mi i v K):e9 P X s β a w o K:=by
 cases v with
 | bc cs =>
  obtain ⟨vs,h1,h2⟩:=hr.D1
  obtain ⟨c,h3,h4⟩:=(bA cs i K).1 h
  have hlt:i < cs.length:=(List.getElem?_eq_some_iff.1 h3).1
  have hv:vs[i]? = some (vs[i]'(by rw [<- h2.1]; exact hlt)):=List.getElem?_eq_getElem _
  have MN:=h2.2 _ _ _ h3 hv
  exact ⟨c,_,h4,Rel.jk MN,fun n hn=>bt n (List.mem_flatMap.2 ⟨c,List.mem_of_getElem? h3,MN.ids hn⟩),fun w'=>by simp [execOp,ho,h1,Instr.extract,hv]⟩
 | ag k cs =>
  cases k with
  | zero=>exact h.elim
  | succ k =>
   obtain ⟨vs,h1,h2,h3⟩:=id hr
   cases i with
   | zero =>
    obtain ⟨h4,h5⟩:=(dJ (k + 1) cs _).1 (show fj (k + 1) cs (fun l=>K (.ag 0 l)) from h)
    refine ⟨_,.agg (vs.take (k + 1)).toArray,h5,⟨vs.take (k + 1),rfl,⟨by rw [List.length_take,List.length_take,h2.1],fun j c u hc hu=>?_⟩,fun u hu=>h3 u (List.mem_of_mem_take hu)⟩,fun n hn=>bt n ?_,fun w'=>by simp [execOp,ho,h1,Instr.extract,shape]⟩
    ·rw [List.getElem?_take] at hc hu
     split at hc
     ·rename_i hj
      rw [if_pos hj] at hu
      exact h2.2 j c u hc hu
     ·cases hc
    ·obtain ⟨c,hc,Co⟩:=List.mem_flatMap.1 (show n ∈ (cs.take (k + 1)).flatMap aw from hn)
     exact List.mem_flatMap.2 ⟨c,List.mem_of_mem_take hc,Co⟩
   | succ i =>
    obtain ⟨c,h4,h5⟩:=(bA cs (k + 1 + i) K).1 h
    have hlt:k + 1 + i < cs.length:=(List.getElem?_eq_some_iff.1 h4).1
    have hv:vs[k + 1 + i]? = some (vs[k + 1 + i]'(by rw [<- h2.1]; exact hlt)):=List.getElem?_eq_getElem _
    have MN:=h2.2 _ _ _ h4 hv
    refine ⟨c,_,h5,Rel.jk MN,fun n hn=>bt n (List.mem_flatMap.2 ⟨c,List.mem_of_getElem? h4,MN.ids hn⟩),fun w'=>?_⟩
    have:(Value.agg (vs.take (k + 1)).toArray::vs.drop (k + 1))[i + 1]? = some (vs[k + 1 + i]'(by rw [<- h2.1]; exact hlt)):=by
     rw [List.getElem?_cons_succ,List.getElem?_drop]; exact hv
    simp [execOp,ho,h1,Instr.extract,shape,this]
 | _=>exact h.elim

theorem lZ.inv {O : Nat -> Prop} {id : Nat} {τ : Ty} {l : List (den τ)} {k : Nat} {v : Value} (h : lZ β O w id τ l k v) :
  k<=l.length/\l.length<=maxLen/\∃ ad c,v = .slice ad (l.length - k) c/\l.length - k<=c/\c<=maxLen:=by
 obtain ⟨h0,v',h1,h2⟩:=h
 rcases h1 with ⟨rfl,rfl,_⟩ | ⟨g,c,cur,e,h3,rfl,h5,h6,h7,h8,h9⟩
 ·refine ⟨h0,Nat.zero_le _,?_⟩
  rcases h2 with ⟨rfl,rfl⟩ | ⟨g,n,c,ad,h3,_⟩
  ·exact ⟨none,0,rfl,Nat.le_refl _,Nat.zero_le _⟩
  ·cases h3
 ·refine ⟨h0,by omega,?_⟩
  rcases h2 with ⟨rfl,rfl⟩ | ⟨g',n,c',ad,h3,h4,_⟩
  ·exact ⟨_,c,rfl,by omega,h7⟩
  ·cases h3; exact ⟨_,c - k,h4,by omega,by omega⟩
theorem j8 {e:Nat} {te:TI} (gO:te.ok P e) {τ:Ty} (bO:Nat.beq te.cells (aX τ) = true) (w:World):(sizeOf e).run P w = .ok (aX τ) w:=by
 rw [gO.sizeOf,Nat.eq_of_beq_eq_true bO]

theorem IE {o : Oper} {t e : Nat} {x i : Operand} (ho : o.op = .indexAddr t x i) (hu : P.underlying t = some (.slice e)) {te : TI} (gO : te.ok P e) {k : IntKind} {n : Int} (hi : a.eval i = .int k n)
  {v:AV} (hr:Rel β (Own X s β) w v (a.eval x)) (bt:∀ n ∈ ids v,Nm s n) {K:AV->Prop} (h:Cx n te.cells v K):e9 P X s β a w o K:=by
 cases v with
 | rd τ l =>
  have h:=(af _ _).1 (show aC (Nat.beq te.cells (aX τ)) ((0<=n/\n < (l.length:Int))/\iS (enc τ (l.getD n.toNat (aD τ))) fun cs=>K (.rp cs)) from h)
  obtain ⟨bO,⟨h0,h1⟩,h2⟩:=h
  rw [nb] at h2
  generalize Fx:a.eval x = xv at hr
  cases (show Im _ _ _ _ from hr) with
  | uR _ ad c hc=>simp at h1; omega
  | rd _ _ g off c u hg hc hm da gR dw =>
   have hn:n.toNat < l.length:=by omega
   have hl:l[n.toNat]? = some (l.getD n.toNat (aD τ)):=by rw [List.getD_eq_getElem?_getD,List.getElem?_eq_getElem hn]; rfl
   refine ⟨_,.pointer (some ⟨g,off + n.toNat * aX τ,none⟩),h2,Im.ur (g:=g) (o:=off + n.toNat * aX τ) fun j av hj=>⟨hg,u n.toNat j,?_,dw _ _ _ _ hl hj,plain_one (dw _ _ _ _ hl hj) (enc_plain τ _ _ (List.mem_of_getElem? hj))⟩,bt,fun w'=>?_⟩
   ·rw [Nat.add_assoc]; exact gR _ _ _ _ hl hj
   ·simp [execOp,ho,Fx,hi,Instr.indexAt,asIntOf,run_underlying hu,h0,h1,j8 gO bO,dm]
 | vec id τ l =>
  have h:=(af _ _).1 (show aC (Nat.beq te.cells (aX τ)) ((0<=n/\n < (l.length:Int))/\K (.vp id τ l n.toNat 0)) from h)
  obtain ⟨bO,⟨h0,h1⟩,h2⟩:=h
  have p8:=hr
  rcases hr with ⟨rfl,_,_⟩ | ⟨g,c,cur,e',h3,h4,h5,h6,h7,h8,h9⟩
  ·simp at h1; omega
  ·refine ⟨_,.pointer (some ⟨g,n.toNat * aX τ + 0,none⟩),h2,⟨by omega,⟨g,h3,rfl⟩,a.eval x,p8⟩,bt,fun w'=>?_⟩
   simp [execOp,ho,h4,hi,Instr.indexAt,asIntOf,run_underlying hu,h0,h1,j8 gO bO,dm]
 | vs id τ l k =>
  have h:=(af _ _).1 (show aC (Nat.beq te.cells (aX τ)) ((0<=n/\n < ((l.length - k:Nat):Int))/\K (.vp id τ l (k + n.toNat) 0)) from h)
  obtain ⟨bO,⟨h0,h1⟩,h2⟩:=h
  obtain ⟨hk,v',Iz,Iy⟩:=hr
  have hv:=Iz
  rcases hv with ⟨rfl,_,_⟩ | ⟨g,c,cur,e',h3,h4,h5,h6,h7,h8,h9⟩
  ·simp at h1; omega
  ·have Fx : a.eval x = .slice (some ⟨g, k * aX τ, none⟩) (l.length - k) (c - k) := by
    rcases Iy with ⟨rfl,hh⟩ | ⟨g',n',c',ad,gQ,S0,WC⟩
    ·rw [hh,h4]; simp
    ·rw [h4] at gQ; cases gQ; rw [S0,WC (by omega)]
   refine ⟨_,.pointer (some ⟨g,(k + n.toNat) * aX τ + 0,none⟩),h2,⟨by omega,⟨g,h3,rfl⟩,v',Iz⟩,bt,fun w'=>?_⟩
   have h1':n < (l.length:Int) - k:=by omega
   simp [execOp,ho,Fx,hi,Instr.indexAt,asIntOf,run_underlying hu,h0,h1,j8 gO bO,dm,Nat.add_mul]
 | ob id aR ob =>
  cases ob with
  | vw τ l x1 y1 =>
   have h:=(af _ _).1 (show aC (Nat.beq te.cells (aX τ)) ((0<=n/\n < ((y1 - x1:Nat):Int))/\K (.vp id τ l (x1 + n.toNat) 0)) from h)
   obtain ⟨bO,⟨h0,h1⟩,h2⟩:=h
   obtain ⟨g,c,h3,_,h4,h5,Fx,h6⟩:=(show fG β (Own X s β) w id aR (.vw τ l x1 y1) (a.eval x) from hr)
   refine ⟨_,.pointer (some ⟨g,(x1 + n.toNat) * aX τ + 0,none⟩),h2,⟨by omega,⟨g,h3,rfl⟩,_,h6⟩,fun m hm=>bt m (by
    have:m = id:=by simpa [ids,aw] using hm
    subst this; simp [ids,aw]),fun w'=>?_⟩
   have h1':n < (y1:Int) - x1:=by omega
   simp [execOp,ho,Fx,hi,Instr.indexAt,asIntOf,run_underlying hu,h0,h1,j8 gO bO,dm,Nat.add_mul]
  | gr L i row =>
   have h:=(af _ _).1 (show aC (Nat.beq te.cells 1) ((0<=n/\n < (L.length:Int))/\K (.ob id aR (.gp L i row n.toNat))) from h)
   obtain ⟨bO,⟨h0,h1⟩,h2⟩:=h
   have hg:=(show qe β (Own X s β) w id aR L i row (a.eval x) from hr)
   have rT:=hg
   obtain ⟨g,c,cur,e1,h3,h4,_⟩:=rT
   refine ⟨_,.pointer (some ⟨g,n.toNat,none⟩),h2,⟨by omega,⟨g,h3,rfl⟩,_,hg⟩,bt,fun w'=>?_⟩
   have hz:(sizeOf e).run P w' = .ok 1 w':=by rw [gO.sizeOf,Nat.eq_of_beq_eq_true bO]
   simp [execOp,ho,h4,hi,Instr.indexAt,asIntOf,run_underlying hu,h0,h1,hz,dm]
  | _=>exact h.elim
 | _=>exact h.elim

theorem BZ {o : Oper} {t e len : Nat} {x i : Operand} (ho : o.op = .indexAddr t x i) (hu : P.underlying t = some (.array len e)) {te : TI} (gO : te.ok P e) {k : IntKind} {n : Int} (hi : a.eval i = .int k n)
  {v:AV} (hr:Rel β (Own X s β) w v (a.eval x)) (bt:∀ n ∈ ids v,Nm s n) {K:AV->Prop} (h:sT n len te.cells v K):e9 P X s β a w o K:=by
 cases v with
 | pt m off =>
  obtain ⟨⟨h0,h1⟩,h2⟩:=(show (0<=n/\n < (len:Int))/\K (.pt m (off + n.toNat * te.cells)) from h)
  obtain ⟨g,h3,h4⟩:=hr
  refine ⟨_,.pointer (some ⟨g,off + n.toNat * te.cells,none⟩),h2,⟨g,h3,rfl⟩,bt,fun w'=>?_⟩
  simp [execOp,ho,h4,hi,Instr.indexAt,asIntOf,run_underlying hu,h0,h1,Instr.sureAddr,gO.sizeOf,dm]
 | vp id τ l i off =>
  obtain ⟨DS,h⟩:=(af _ _).1 (show aC (Nat.beq i 0) (aC (Nat.beq off 0) (aC (Nat.beq te.cells (aX τ)) ((0<=n/\n < (len:Int)/\n < (l.length:Int))/\K (.vp id τ l n.toNat 0)))) from h)
  obtain ⟨ho0,h⟩:=(af _ _).1 h
  obtain ⟨sn,⟨h0,h1,h2⟩,hK⟩:=(af _ _).1 h
  obtain rfl:=Nat.eq_of_beq_eq_true DS
  obtain rfl:=Nat.eq_of_beq_eq_true ho0
  have sn:=Nat.eq_of_beq_eq_true sn
  obtain ⟨Ur,⟨g,hg,hv⟩,v',Wg⟩:=(show (0 < l.length/\(∃ g,β id = some g/\a.eval x = .pointer (some ⟨g,0 * aX τ + 0,none⟩))/\∃ v',aU β (Own X s β) w id τ l v') from hr)
  refine ⟨_,.pointer (some ⟨g,n.toNat * aX τ + 0,none⟩),hK,⟨by omega,⟨g,hg,rfl⟩,v',Wg⟩,bt,fun w'=>?_⟩
  simp [execOp,ho,hv,hi,Instr.indexAt,asIntOf,run_underlying hu,h0,h1,Instr.sureAddr,gO.sizeOf,dm,sn]
 | _=>exact h.elim
theorem EY {o : Oper} {t e len : Nat} {x i : Operand} (ho : o.op = .index t x i) (hu : P.underlying t = some (.array len e)) {te : TI} (gO : te.ok P e) {k : IntKind} {n : Int} (hi : a.eval i = .int k n)
  {v:AV} (hr:Rel β (Own X s β) w v (a.eval x)) {K:AV->Prop} (h:xC n len te.cells (aK te.desc) v K):e9 P X s β a w o K:=by
 cases v with
 | agg cs =>
  obtain ⟨hc,h⟩:=(af _ _).1 (show aC (Nat.beq te.cells 1) (aC (!(aK te.desc)) ((0<=n/\n < (len:Int))/\dp cs n.toNat K)) from h)
  obtain ⟨hs,⟨h0,h1⟩,h⟩:=(af _ _).1 h
  obtain ⟨c,qv,hK⟩:=(bA _ _ _).1 h
  have hc:=Nat.eq_of_beq_eq_true hc
  have hs:aK te.desc = false:=by simpa using hs
  generalize Fx:a.eval x = xv at hr
  cases (show Im _ _ _ _ from hr) with
  | agg _ us hl S8 dw =>
   have hlt:n.toNat < us.length:=by rw [<- hl]; exact (List.getElem?_eq_some_iff.1 qv).1
   have Zk:us[n.toNat]? = some (us[n.toNat]'hlt):=List.getElem?_eq_getElem hlt
   refine .im hK (dw n.toNat c _ qv Zk) fun w'=>?_
   have H4:=BW gO w'
   rw [hs] at H4
   simp [execOp,ho,Fx,hi,Instr.index,asIntOf,run_underlying hu,h0,h1,gO.sizeOf,hc,part,H4,Zk]
 | _=>exact h.elim
theorem Bt {o : Oper} {t : Nat} {x i : Operand} (ho : o.op = .index t x i) (hu : P.underlying t = some .string) {k : IntKind} {n : Int} (hi : a.eval i = .int k n)
  {v:AV} (hr:Rel β (Own X s β) w v (a.eval x)) {K:AV->Prop} (h:qV n v K):e9 P X s β a w o K:=by
 cases v with
 | s l =>
  obtain ⟨⟨h0,h1⟩,h2⟩:=(show (0<=n/\n < (l.length:Int))/\K (.i .u8 ((l.getD n.toNat 0).toNat:Int)) from h)
  obtain ⟨h3,h4⟩:=hr.pw
  have hn:n.toNat < l.length:=by omega
  refine .im h2 (.i _ _) fun w'=>?_
  have hg:(ByteArray.mk l.toArray)[n.toNat]? = some (l.getD n.toNat 0):=by
   have hs:n.toNat < (ByteArray.mk l.toArray).size:=by simpa [ByteArray.size] using hn
   rw [List.getD_eq_getElem?_getD,List.getElem?_eq_getElem hn,getElem?_pos (ByteArray.mk l.toArray) n.toNat hs]
   rfl
  simp [execOp,ho,h3,hi,Instr.index,asIntOf,run_underlying hu,h0,hg]
 | _=>exact h.elim

theorem FM {o:Oper} {x:Operand} (ho:o.op = .nilCheck x) {v:AV} (hr:Rel β (Own X s β) w v (a.eval x)) (bt:∀ n ∈ ids v,Nm s n) {K:AV->Prop} (h:pC v K):e9 P X s β a w o K:=by
 have key:∀ ad,a.eval x = .pointer (some ad)->∀ w':World,(execOp a.eval o).run P w' = .ok (.value (a.eval x)) w':=fun ad e w'=>by simp [execOp,ho,e]
 cases v with
 | pt n off=>exact ⟨_,_,h,hr,bt,by obtain ⟨g,_,h2⟩:=hr; exact key _ h2⟩
 | rp cs=>exact ⟨_,_,h,hr,bt,by obtain ⟨g,off,h2,_⟩:=Im.od hr; exact key _ h2⟩
 | vp id τ l n off=>exact ⟨_,_,h,hr,bt,by obtain ⟨_,⟨g,_,h2⟩,_⟩:=hr; exact key _ h2⟩
 | _=>exact h.elim

theorem DI {l:List Operand} (hI:ao W0 F X N s β a w) (hn:∀ x ∈ l,ko [ev s x] = true):All2 (cj β (Own X s β) w) (kC s l) (l.map a.eval)/\∀ n ∈ (kC s l).flatMap aw,Nm s n:=by
 have he:=iv hI l
 refine ⟨⟨he.1.1,fun j c v hc hv=>?_⟩,fun n jg=>?_⟩
 ·have hr:=he.1.2 j c v hc hv
  have da:ko [c] = true:=by
   have hm:c ∈ kC s l:=List.mem_of_getElem? hc
   have hex:∀ l:List Operand,(∀ x ∈ l,ko [ev s x] = true)->c ∈ kC s l->ko [c] = true:=by
    intro l
    induction l with
    | nil=>intro _ hm; simp [kC] at hm
    | cons x r ih =>
     intro hl hm
     rcases List.mem_cons.1 hm with h1 | h1
     ·exact h1 ▸ hl x (List.mem_cons_self ..)
     ·exact ih (fun y hy=>hl y (List.mem_cons_of_mem _ hy)) h1
   exact hex _ hn hm
  cases c<;>first | exact hr | cases da
 ·simp only [List.mem_flatMap] at jg
  obtain ⟨c,hc,Co⟩:=jg
  refine he.2 c hc n ?_
  cases c<;>first | exact Co | simp [aw] at Co
theorem HK (hI : ao W0 F X N s β a w) {o : Oper} {f : FuncId} {captured : Array Operand} (ho : o.op = .makeFunc (.func f) #[] captured) {K : AV -> Prop} (hn : ∀ x ∈ captured.toList, ko [ev s x] = true)
  (hp:bQ (kC s captured.toList) = false) (h:K (.fn f (kC s captured.toList))):e9 P X s β a w o K:=by
 have he:=DI hI hn
 have e:captured.map a.eval = (captured.toList.map a.eval).toArray:=by apply Array.ext'; simp
 refine ⟨_,.func (.func f) #[] (captured.toList.map a.eval).toArray,h,⟨captured.toList.map a.eval,by unfold BQ; rw [hp],he.1⟩,he.2,fun w'=>by rw [<- e]; simp [execOp,ho,Instr.makeFunc]⟩
theorem GY (hI : ao W0 F X N s β a w) {o : Oper} {f : FuncId} {first : Array Operand} (ho : o.op = .makeFunc (.func f) first #[]) {K : AV -> Prop} (hn : ∀ x ∈ first.toList, ko [ev s x] = true)
  (h:K (.fn f (.np::kC s first.toList))):e9 P X s β a w o K:=by
 have he:=DI hI hn
 have e:first.map a.eval = (first.toList.map a.eval).toArray:=by apply Array.ext'; simp
 refine ⟨_,.func (.func f) (first.toList.map a.eval).toArray #[],h,⟨.pointer none::first.toList.map a.eval,rfl,⟨by rw [List.length_cons,List.length_cons,he.1.1],fun j c v hc hv=>?_⟩⟩,he.2,fun w'=>by rw [<- e]; simp [execOp,ho,Instr.makeFunc]⟩
 cases j with
 | zero=>cases hc; cases hv; exact Im.np
 | succ j=>exact he.1.2 j c v hc hv

theorem QU {o : Oper} {args : Array Operand} {ts : Array TypeId} (ho : o.op = .call { callee := .builtin .len, args := args, argTypes := ts }) (hI : ao W0 F X N s β a w) {t : Nat} (ht : ts.toList[0]? = some t) {ti : TI} (cw : ti.ok P t)
  {K:AV->Prop} (h:AH ti.desc (kC s args.toList) K):e9 P X s β a w o K:=by
 obtain ⟨de,h1,h2⟩:=cw.desc
 have he:=(iv hI args.toList).1
 have wT:ts[0]? = some t:=by simpa using ht
 cases hl:kC s args.toList with
 | nil=>rw [hl] at h; cases hd:ti.desc<;>rw [hd] at h<;>exact h.elim
 | cons c r =>
  cases r with
  | cons c' r=>rw [hl] at h; cases hd:ti.desc<;>rw [hd] at h<;>cases c<;>first | exact h.elim | (rename_i o; cases o<;>exact h.elim)
  | nil =>
   rw [hl] at h he
   obtain ⟨x,hx⟩:∃ x,args.toList = [x]:=by
    have hlen:=he.1
    simp only [List.length_map,List.length_cons,List.length_nil] at hlen
    cases ha:args.toList with
    | nil=>rw [ha] at hlen; simp at hlen
    | cons x r=>cases r with
     | nil=>exact ⟨x,rfl⟩
     | cons y r=>rw [ha] at hlen; simp at hlen
   have dV:args = #[x]:=by rw [<- Array.toArray_toList (xs:=args),hx]
   rw [hx] at he
   have hr:Rel β (Own X s β) w c (a.eval x):=he.head
   have bu:∀ v,∀ w':World,(Builtin.len_ ts o.type #[a.eval x]).run P w' = .ok v w'->(execOp a.eval o).run P w' = .ok (.value v) w':=by
    intro v w' hv
    simp [execOp,ho,dV,resolve,invoke,builtin,hv]
   cases hd:ti.desc with
   | slice e =>
    rw [hd] at h h2
    obtain rfl:=(show de = .slice e from h2)
    have hs:∀ ad n cc,a.eval x = .slice ad n cc->∀ w':World,(execOp a.eval o).run P w' = .ok (.value (.int .i64 n)) w':=fun ad n cc e w'=>bu _ w' (by simp [Builtin.len_,wT,run_underlying h1,e,goInt])
    cases c with
    | nl=>exact .im (show K (.i .i64 0) from h) (.i _ _) (hs _ _ _ hr.gz)
    | rd τ l =>
     obtain ⟨ad,cc,h3,h4,h5⟩:=hr.CA
     exact .im ((show l.length<=maxLen->K (.i .i64 (l.length:Int)) from h) (Nat.le_trans h4 h5)) (.i _ _) (hs _ _ _ h3)
    | vec id τ l =>
     rcases hr with ⟨rfl,h3,_⟩ | ⟨g,cc,cur,e',h3,h4,h5,h6,h7,_⟩
     ·exact .im ((show ([]:List (den τ)).length<=maxLen->K (.i .i64 (([]:List (den τ)).length:Int)) from h) (Nat.zero_le _)) (.i _ _) (hs _ _ _ h3)
     ·exact .im ((show l.length<=maxLen->K (.i .i64 (l.length:Int)) from h) (Nat.le_trans h6 h7)) (.i _ _) (hs _ _ _ h4)
    | vs id τ l k =>
     obtain ⟨h3,h4,ad,cc,h5,_⟩:=lZ.inv hr
     exact .im ((show k<=l.length->l.length<=maxLen->K (.i .i64 ((l.length - k:Nat):Int)) from h) h3 h4) (.i _ _) (hs _ _ _ h5)
    | ob id aR ob =>
     cases ob with
     | vw τ l x1 y1 =>
      obtain ⟨g,cc,_,_,h3,h4,h5,h6⟩:=(show fG β (Own X s β) w id aR (.vw τ l x1 y1) (a.eval x) from hr)
      have hl:l.length<=maxLen:=by
       rcases h6 with ⟨q,_⟩ | ⟨_,_,_,_,_,q,_,q1,q2,_⟩
       ·subst q; exact Nat.zero_le _
       ·exact Nat.le_trans q1 q2
      exact .im ((show (x1 < y1/\y1<=l.length/\l.length<=maxLen)->K (.i .i64 ((y1 - x1:Nat):Int)) from h) ⟨h3,h4,hl⟩) (.i _ _) (hs _ _ _ h5)
     | _=>exact h.elim
    | _=>exact h.elim
   | str =>
    rw [hd] at h h2
    obtain rfl:=(show de = .string from h2)
    cases c with
    | s l =>
     obtain ⟨h3,h4⟩:=hr.pw
     refine .im ((show l.length<=maxLen->K (.i .i64 (l.length:Int)) from h) h4) (.i _ _) fun w'=>(bu _ w' ?_)
     have bO:(ByteArray.mk l.toArray).size = l.length:=by simp [ByteArray.size]
     simp [Builtin.len_,wT,run_underlying h1,h3,goInt,bO]
    | _=>exact h.elim
   | _=>rw [hd] at h; cases c<;>exact h.elim

theorem KU {args : Array Operand} {c d : AV} (hI : ao W0 F X N s β a w) (hl : kC s args.toList = [c, d]) :
  ∃ x y,args = #[x,y]/\Rel β (Own X s β) w c (a.eval x)/\Rel β (Own X s β) w d (a.eval y)/\(∀ n ∈ ids c,Nm s n)/\(∀ n ∈ ids d,Nm s n)/\c = ev s x/\d = ev s y:=by
 have he:=iv hI args.toList
 cases ha:args.toList with
 | nil=>rw [ha] at hl; simp [kC] at hl
 | cons x r =>
  cases r with
  | nil=>rw [ha] at hl; simp [kC] at hl
  | cons y r =>
   cases r with
   | cons z r=>rw [ha] at hl; simp [kC] at hl
   | nil =>
    rw [hl,ha] at he
    rw [ha] at hl
    simp only [kC,List.cons.injEq] at hl
    exact ⟨x,y,by rw [<- Array.toArray_toList (xs:=args),ha],he.1.head,he.1.tail.head,he.2 c (by simp),he.2 d (by simp),hl.1.symm,hl.2.1.symm⟩

theorem w4 {o : Oper} {b : Builtin} {args : Array Operand} {ts : Array TypeId} (ho : o.op = .call { callee := .builtin b, args := args, argTypes := ts }) (hI : ao W0 F X N s β a w)
  {K:AV->Prop} (h:(b = .min/\FL (kC s args.toList) K)\/(b = .max/\FI (kC s args.toList) K)):e9 P X s β a w o K:=by
 have key:∀ k x y,kC s args.toList = [.i k x,.i k y]->∃ p q,args = #[p,q]/\a.eval p = .int k x/\a.eval q = .int k y:=by
  intro k x y hl
  obtain ⟨p,q,h1,h2,h3,_⟩:=KU hI hl
  exact ⟨p,q,h1,h2.kd,h3.kd⟩
 have shp:∀ (L:List AV),(∃ k x k' y,L = [.i k x,.i k' y])\/(∃ k x k' y k2 z,L = [.i k x,.i k' y,.i k2 z])\/(FL L K = False/\FI L K = False):=by
  intro L
  rcases L with _ | ⟨c,_ | ⟨d,_ | ⟨e,_ | ⟨f,r⟩⟩⟩⟩
  ·exact .inr (.inr ⟨rfl,rfl⟩)
  ·exact .inr (.inr (by cases c<;>exact ⟨rfl,rfl⟩))
  ·cases c with
   | i k x=>cases d with
    | i k' y=>exact .inl ⟨k,x,k',y,rfl⟩
    | _=>exact .inr (.inr ⟨rfl,rfl⟩)
   | _=>exact .inr (.inr ⟨rfl,rfl⟩)
  ·cases c with
   | i k x=>cases d with
    | i k' y=>cases e with
     | i k2 z=>exact .inr (.inl ⟨k,x,k',y,k2,z,rfl⟩)
     | _=>exact .inr (.inr ⟨rfl,rfl⟩)
    | _=>exact .inr (.inr ⟨rfl,rfl⟩)
   | _=>exact .inr (.inr ⟨rfl,rfl⟩)
  ·exact .inr (.inr (by cases c<;>cases d<;>cases e<;>exact ⟨rfl,rfl⟩))
 rcases shp (kC s args.toList) with ⟨k,x,k',y,hl⟩ | ⟨k,x,k',y,k2,z,hl⟩ | ⟨h1,h2⟩
 ·rcases h with ⟨rfl,h⟩ | ⟨rfl,h⟩
  ·rw [hl] at h
   obtain ⟨hk,hK⟩:=(af _ _).1 (show aC (decide (k = k')) (K (.i k (if y < x then y else x))) from h)
   obtain rfl:=of_decide_eq_true hk
   obtain ⟨p,q,h1,h2,h3⟩:=key k x y hl
   exact .im hK (.i _ _) (fun w'=>by simp [execOp,ho,h1,h2,h3,resolve,invoke,builtin,Builtin.min_,Builtin.min2])
  ·rw [hl] at h
   obtain ⟨hk,hK⟩:=(af _ _).1 (show aC (decide (k = k')) (K (.i k (if x < y then y else x))) from h)
   obtain rfl:=of_decide_eq_true hk
   obtain ⟨p,q,h1,h2,h3⟩:=key k x y hl
   exact .im hK (.i _ _) (fun w'=>by simp [execOp,ho,h1,h2,h3,resolve,invoke,builtin,Builtin.max_,Builtin.max2])
 ·rcases h with ⟨rfl,h⟩ | ⟨_,h⟩
  ·rw [hl] at h
   obtain ⟨hk,h⟩:=(af _ _).1 (show aC (decide (k = k')) (aC (decide (k = k2)) (K (.i k (if z < (if y < x then y else x) then z else if y < x then y else x)))) from h)
   obtain ⟨tT,hK⟩:=(af _ _).1 h
   obtain rfl:=of_decide_eq_true hk
   obtain rfl:=of_decide_eq_true tT
   have he:=iv hI args.toList
   rw [hl] at he
   obtain ⟨p,q,r,ha⟩:∃ p q r,args.toList = [p,q,r]:=by
    have hlen:=he.1.1
    simp only [List.length_map,List.length_cons,List.length_nil] at hlen
    match hh:args.toList,hlen with
    | [p,q,r],_=>exact ⟨p,q,r,rfl⟩
   rw [ha] at he
   have e1:=he.1.head.kd
   have e2:=he.1.tail.head.kd
   have e3:=he.1.tail.tail.head.kd
   have T8:args = #[p,q,r]:=by rw [<- Array.toArray_toList (xs:=args),ha]
   refine .im hK (.i _ _) (fun w'=>?_)
   by_cases h1:y < x
   ·by_cases h2:z < y<;>simp [execOp,ho,T8,e1,e2,e3,resolve,invoke,builtin,Builtin.min_,Builtin.min2,h1,h2]
   ·by_cases h2:z < x<;>simp [execOp,ho,T8,e1,e2,e3,resolve,invoke,builtin,Builtin.min_,Builtin.min2,h1,h2]
  ·rw [hl] at h; exact h.elim
 ·rcases h with ⟨_,h⟩ | ⟨_,h⟩
  ·rw [h1] at h; exact h.elim
  ·rw [h2] at h; exact h.elim

theorem extract_mk (l:aH) (lo hi:Nat):(ByteArray.mk l.toArray).extract lo hi = ByteArray.mk ((l.take hi).drop lo).toArray:=by
 apply ByteArray.ext
 simp [List.drop_take]

theorem ey (hI : ao W0 F X N s β a w) {x : Option Operand} {d : Int} {K : Int -> Prop} (h : cH s x d K) :
  ∃ n,K n/\((x = none/\n = d)\/∃ y k,x = some y/\a.eval y = .int k n):=by
 rcases Ha hI h with ⟨h1,h2⟩ | ⟨y,k,n,h1,h2,h3⟩
 ·exact ⟨d,h2,.inl ⟨h1,rfl⟩⟩
 ·exact ⟨n,h3,.inr ⟨y,k,h1,h2⟩⟩

theorem gW {x y : Option Operand} {lo hi : Int} {a : Act} (isSlice : Bool) (len cap : Nat) (MJ : (x = none /\ lo = 0) \/ ∃ y' k, x = some y' /\ a.eval y' = .int k lo)
  (hhi:(y = none/\hi = (len:Int))\/∃ y' k,y = some y'/\a.eval y' = .int k hi) (h0:0<=lo) (h1:lo<=hi) (h2:hi<=(len:Int)) (hc:len<=cap) :
  (Instr.sliceBounds isSlice len cap (x.map a.eval) (y.map a.eval) none).run P w = .ok (lo.toNat,hi.toNat,cap) w:=by
 have hb:∀ (k:IntKind) (n:Int) (m:Nat) (code:BoundsCode),0<=n->n<=(m:Int)->(Instr.sliceBound (.int k n) m code).run P w = .ok n.toNat w:=by
  intro k n m code h3 h4
  simp [Instr.sliceBound,asIntOf,h3,h4]
 have ZA:∀ m:Nat,hi.toNat = m->((match x.map a.eval with | some v=>Instr.sliceBound v m (if (none:Option Value).isSome then .slice3C else .sliceB) | none=>pure 0:Sem Nat)).run P w = .ok lo.toNat w:=by
  intro m hm
  rcases MJ with ⟨rfl,rfl⟩ | ⟨y',k,rfl,e⟩
  ·rfl
  ·simp only [Option.map_some,e]
   exact hb _ _ _ _ h0 (by omega)
 rcases hhi with ⟨rfl,rfl⟩ | ⟨y',k,rfl,e⟩
 ·rcases MJ with ⟨rfl,rfl⟩ | ⟨y',k,rfl,e⟩
  ·simp [Instr.sliceBounds]
  ·have:=hb k lo len .sliceB h0 (by omega)
   simp [Instr.sliceBounds,e,this]
 ·have h3:=hb k hi cap (if isSlice then .sliceAcap else .sliceAlen) (by omega) (by omega)
  rcases MJ with ⟨rfl,rfl⟩ | ⟨y'',k',rfl,e'⟩
  ·simp [Instr.sliceBounds,e,h3]
  ·have h4:=hb k' lo hi.toNat .sliceB h0 (by omega)
   simp [Instr.sliceBounds,e,e',h3,h4]

theorem Bu (hI : ao W0 F X N s β a w) {o : Oper} {t : Nat} {x : Operand} {lo hi : Option Operand} (ho : o.op = .slice t x lo hi none) (hu : P.underlying t = some .string)
  {v:AV} (hr:Rel β (Own X s β) w v (a.eval x)) {K:AV->Prop} (h:fC s lo hi v K):e9 P X s β a w o K:=by
 cases v with
 | s l =>
  obtain ⟨h3,h4⟩:=hr.pw
  obtain ⟨m,h,hm⟩:=ey hI (show cH s lo 0 fun lo=>cH s hi (l.length:Int) fun hi=>(0<=lo/\lo<=hi/\hi<=(l.length:Int))/\K (.s ((l.take hi.toNat).drop lo.toNat)) from h)
  obtain ⟨n,⟨⟨p0,p1,p2⟩,hK⟩,hn⟩:=ey hI h
  have bO:(ByteArray.mk l.toArray).size = l.length:=by simp [ByteArray.size]
  refine .im hK (.s _ (by simp; omega)) fun w'=>?_
  have hb:=gW (P:=P) (w:=w') (a:=a) false l.length l.length hm hn p0 p1 p2 (Nat.le_refl _)
  simp [execOp,ho,h3,Instr.sliceAt,run_underlying hu,Instr.slice,bO,hb,extract_mk]
 | _=>exact h.elim

theorem Km {O : Nat -> Prop} {id : Nat} {τ : Ty} {l : List (den τ)} {k m : Nat} {ad : Option Addr} {n c : Nat} (h : lZ β O w id τ l k (.slice ad n c)) (hm : m<=l.length - k) :
  lZ β O w id τ l (k + m) (.slice (if c = m then ad else ad.map (·.add (m * aX τ))) (n - m) (c - m)):=by
 obtain ⟨h0,v',h1,h2⟩:=h
 refine ⟨by omega,v',h1,?_⟩
 rcases h2 with ⟨rfl,rfl⟩ | ⟨g,n',c',ad',rfl,h4,h5⟩
 ·rcases h1 with ⟨rfl,h3,_⟩ | ⟨g,c',cur,e,h3,h4,h5,h6,h7,h8,h9⟩
  ·cases h3
   have:m = 0:=by simp at hm; exact hm
   subst this
   exact .inl ⟨rfl,by simp⟩
  ·cases h4
   by_cases hc:c = m
   ·rw [if_pos hc]; subst hc
    exact .inr ⟨g,_,_,⟨g,0,none⟩,rfl,by rw [Nat.zero_add],fun h=>by omega⟩
   ·rw [if_neg hc]
    exact .inr ⟨g,_,_,(⟨g,0,none⟩:Addr).add (m * aX τ),rfl,by rw [Nat.zero_add]; rfl,fun h=>by simp [dm]⟩
 ·cases h4
  by_cases hc:c' - k = m
  ·rw [if_pos hc]
   exact .inr ⟨g,_,_,ad',rfl,by simp only [Nat.sub_sub],fun h=>by omega⟩
  ·rw [if_neg hc]
   refine .inr ⟨g,_,_,ad'.add (m * aX τ),rfl,by simp only [Nat.sub_sub]; rfl,fun h=>?_⟩
   rw [h5 (by omega),dm,Nat.add_mul]
theorem CM (hI : ao W0 F X N s β a w) {o : Oper} {t e : Nat} {x : Operand} {lo hi : Option Operand} (ho : o.op = .slice t x lo hi none) (hu : P.underlying t = some (.slice e)) {te : TI} (gO : te.ok P e)
  {v:AV} (hr:Rel β (Own X s β) w v (a.eval x)) (bt:∀ n ∈ ids v,Nm s n) {K:AV->Prop} (h:fQ s te.cells lo hi v K):e9 P X s β a w o K:=by
 cases v with
 | rd τ l =>
  obtain ⟨bO,h⟩:=(af _ _).1 (show aC (Nat.beq te.cells (aX τ)) (cH s lo 0 fun lo=>cH s hi (l.length:Int) fun hi=>(0<=lo/\lo<=hi/\hi<=(l.length:Int))/\K (.rd τ ((l.take hi.toNat).drop lo.toNat))) from h)
  obtain ⟨m,h,hm⟩:=ey hI h
  obtain ⟨n,⟨⟨p0,p1,p2⟩,hK⟩,hn⟩:=ey hI h
  obtain ⟨ad,c,h3,h4,h5⟩:=hr.CA
  have bu:∀ w':World,(execOp a.eval o).run P w' = .ok (.value (.slice (if c = m.toNat then ad else ad.map (·.add (m.toNat * aX τ))) (n.toNat - m.toNat) (c - m.toNat))) w':=by
   intro w'
   have hb:=gW (P:=P) (w:=w') (a:=a) true l.length c hm hn p0 p1 p2 h4
   simp [execOp,ho,h3,Instr.sliceAt,run_underlying hu,Instr.slice,hb,j8 gO bO]
  have hlen:((l.take n.toNat).drop m.toNat).length = n.toNat - m.toNat:=by simp; omega
  refine .im hK ?_ bu
  cases hl:(l.take n.toNat).drop m.toNat with
  | nil =>
   rw [hl] at hlen
   rw [<- hlen]
   exact .uR τ _ _ (by omega)
  | cons y r =>
   rw [<- hl,<- hlen]
   have pj:0 < n.toNat - m.toNat:=by rw [<- hlen,hl]; simp
   generalize Fx:a.eval x = xv at hr
   rw [Fx] at h3
   subst h3
   cases (show Im _ _ _ _ from hr) with
   | uR _ ad c hc=>simp at p2; omega
   | rd _ _ g off c u hg hc Y4 da gR dw =>
    rw [if_neg (by omega)]
    simp only [Option.map_some,dm]
    refine .rd τ _ g _ _ (fun i j=>u (m.toNat + i) j) hg (by omega) (by omega) (by rw [hl]; simp) (fun i z j av hz ck=>?_) (fun i z j av hz ck=>?_)
    ·rw [List.getElem?_drop,List.getElem?_take] at hz
     split at hz
     ·have:=gR _ _ j av hz ck
      rw [Nat.add_mul] at this
      rw [<- this]
      congr 2
      omega
     ·cases hz
    ·rw [List.getElem?_drop,List.getElem?_take] at hz
     split at hz
     ·exact dw _ _ j av hz ck
     ·cases hz
 | vec id τ l =>
  have MN:=hr
  have hr:lZ β (Own X s β) w id τ l 0 (a.eval x):=⟨Nat.zero_le _,_,hr,.inl ⟨rfl,rfl⟩⟩
  cases hi with
  | some y =>
   obtain ⟨bO,h⟩:=(af _ _).1 (show aC (Nat.beq te.cells (aX τ)) (cH s lo 0 fun lo=>cH s (some y) 0 fun hi=>(0<=lo/\lo < hi/\hi<=(l.length:Int))/\K (.ob id id (.vw τ l lo.toNat hi.toNat))) from h)
   obtain ⟨m,h,hm⟩:=ey hI h
   obtain ⟨n,⟨⟨p0,p1,p2⟩,hK⟩,hn⟩:=ey hI h
   rcases MN with ⟨q,_⟩ | ⟨g,c,cur,e,q1,q2,q3,q4,q5⟩
   ·subst q; simp at p2; omega
   ·refine ⟨_,.slice (some ⟨g,m.toNat * aX τ,none⟩) (n.toNat - m.toNat) (c - m.toNat),hK,⟨g,c,q1,q1,by omega,by omega,rfl,.inr ⟨g,c,cur,e,q1,rfl,q3,q4,q5⟩⟩,fun k hk=>bt k (by simpa [ids,aw] using hk),fun w'=>?_⟩
    have hb:=gW (P:=P) (w:=w') (a:=a) (y:=some y) true l.length c hm (.inr (hn.resolve_left fun h=>nomatch h.1)) p0 (by omega) p2 q4
    simp only [Option.map_some] at hb
    have da:c≠m.toNat:=by omega
    simp [execOp,ho,q2,Instr.sliceAt,run_underlying hu,Instr.slice,hb,j8 gO bO,da,dm]
  | none =>
   obtain ⟨bO,h⟩:=(af _ _).1 (show aC (Nat.beq te.cells (aX τ)) (cH s lo 0 fun lo=>(0<=lo/\lo<=(l.length:Int))/\K (.vs id τ l lo.toNat)) from h)
   obtain ⟨m,⟨⟨p0,p1⟩,hK⟩,hm⟩:=ey hI h
   obtain ⟨n,jg,hn⟩:=ey hI (show cH s none (l.length:Int) (fun n=>n = (l.length:Int)) from rfl)
   subst jg
   obtain ⟨_,h4,ad,c,h5,h6,h7⟩:=lZ.inv hr
   rw [Nat.sub_zero] at h5 h6
   rw [h5] at hr
   have h8:=Km hr (m:=m.toNat) (by omega)
   rw [Nat.zero_add] at h8
   refine ⟨_,_,hK,h8,bt,fun w'=>?_⟩
   have hb:=gW (P:=P) (w:=w') (a:=a) true l.length c hm hn p0 p1 (Int.le_refl _) h6
   simp only [Int.toNat_natCast,Option.map_none] at hb
   simp [execOp,ho,h5,Instr.sliceAt,run_underlying hu,Instr.slice,hb,j8 gO bO]
 | vs id τ l k =>
  cases hi with
  | some _=>exact ((af _ _).1 (show aC (Nat.beq te.cells (aX τ)) False from h)).2.elim
  | none =>
   obtain ⟨bO,h⟩:=(af _ _).1 (show aC (Nat.beq te.cells (aX τ)) (cH s lo 0 fun lo=>(0<=lo/\lo<=((l.length - k:Nat):Int))/\K (.vs id τ l (k + lo.toNat))) from h)
   obtain ⟨m,⟨⟨p0,p1⟩,hK⟩,hm⟩:=ey hI h
   obtain ⟨n,jg,hn⟩:=ey hI (show cH s none ((l.length - k:Nat):Int) (fun n=>n = ((l.length - k:Nat):Int)) from rfl)
   subst jg
   obtain ⟨_,h4,ad,c,h5,h6,h7⟩:=lZ.inv hr
   rw [h5] at hr
   have h8:=Km hr (m:=m.toNat) (by omega)
   refine ⟨_,_,hK,h8,bt,fun w'=>?_⟩
   have hb:=gW (P:=P) (w:=w') (a:=a) true (l.length - k) c hm hn p0 p1 (Int.le_refl _) h6
   simp only [Int.toNat_natCast,Option.map_none] at hb
   simp [execOp,ho,h5,Instr.sliceAt,run_underlying hu,Instr.slice,hb,j8 gO bO]
 | _=>exact h.elim
end
end Go.SX
end
section
namespace Go.SX
variable [Globs]
section
variable {P:Program} {N:Nat} {Γ:Ctx} {W0:World} {F:Fr} {X:Nat->Prop} {s:St} {β:Nat->Option Nat} {a:Act} {w:World}

theorem yi (P : Program) (w : World) (g o : Nat) (us : List Value) : ∀ (i : Nat) (acc : Array Value), (∀ j u, us[j]? = some u -> w.cell? ⟨g, o + (i + j), none⟩ = some u) ->
  (loadCellsFrom ⟨g,o,none⟩ i us.length acc).run P w = .ok (acc++us.toArray) w:=by
 induction us with
 | nil=>intro i acc _; simp [loadCellsFrom]
 | cons u r ih =>
  intro i acc h
  have h0:w.cell? ⟨g,o + i,none⟩ = some u:=by simpa using h 0 u rfl
  have:=ih (i + 1) (acc.push u) (fun j v hv=>by have:=h (j + 1) v (by simpa using hv); rw [<- this]; congr 2; omega)
  simp only [List.length_cons,loadCellsFrom,dm,Sem.run_bind,run_load,h0,Result.andThen_ok,this]
  simp
theorem fO (P : Program) (w : World) (g o : Nat) (us : List Value) (h : ∀ j u, us[j]? = some u -> w.cell? ⟨g, o + j, none⟩ = some u) :
  (loadCells ⟨g,o,none⟩ us.length).run P w = .ok us.toArray w:=by
 have:=yi P w g o us 0 #[] (by simpa using h)
 simpa [loadCells] using this
theorem kh {t : Nat} {ti : TI} (cw : ti.ok P t) (g o : Nat) (us : List Value) (hl : us.length = ti.cells) (h : ∀ j u, us[j]? = some u -> w.cell? ⟨g, o + j, none⟩ = some u) :
  (aK ti.desc = true->(loadVar t ⟨g,o,none⟩).run P w = .ok (.agg us.toArray) w)/\(aK ti.desc = false->∀ u,us[0]? = some u->(loadVar t ⟨g,o,none⟩).run P w = .ok u w):=by
 refine ⟨fun hs=>?_,fun hs u hu=>?_⟩
 ·have h1:=BW cw w
  have h2:=fO P w g o us h
  rw [hl] at h2
  simp [loadVar,h1,hs,cw.sizeOf w,h2]
 ·have h1:=BW cw w
  have h2:w.cell? ⟨g,o,none⟩ = some u:=by simpa using h 0 u hu
  simp [loadVar,h1,hs,h2]

theorem nr {O:Nat->Prop} {cs:List AV} {us:List Value} (h:All2 (Rel β O w) cs us):All2 (Im O w) (fH cs) us:=by
 induction cs generalizing us with
 | nil=>have:=h.iz; subst this; exact All2.nil _
 | cons c r ih =>
  obtain ⟨u,us',rfl,h1,h2⟩:=h.cons_inv
  cases c<;>exact All2.cons (by first | exact h1 | exact .x _) (ih h2)

def eS (Γ:Ctx) (s:St) (t:TypeId):AV->(AV->Prop)->Prop
 | .pt n o,K=>eE s.boxes n fun cs=>cp Γ t fun ti=>fj ti.cells (cs.drop o) fun l=>jb (aK ti.desc) l K
 | .rp cs,K=>cp Γ t fun ti=>fj ti.cells cs fun l=>jb (aK ti.desc) l K
 | .vp _ τ l n o,K=>cp Γ t fun ti=>fj ti.cells ((enc τ (l.getD n (aD τ))).drop o) fun l=>jb (aK ti.desc) l K
 | .ob _ i2 (.gp L i row n),K=>cp Γ t fun ti=>aC (!aK ti.desc) (aC (Nat.beq ti.cells 1) ((n = i/\K (.vec i2 .int row))\/(n≠i/\K (.rd .int (L.getD n [])))))
 | _,_=>False

theorem w8 {l:List AV} (h:lS l = true) {c:AV} (hc:c ∈ l):lS [c] = true:=by
 induction l with
 | nil=>cases hc
 | cons z r ih =>
  rcases List.mem_cons.1 hc with rfl | hc
  ·cases c<;>first | rfl | (simp [lS] at h)
  ·exact ih (by cases z<;>first | exact h | (simp [lS] at h)) hc
theorem Nh {β:Nat->Option Nat} {O:Nat->Prop} {w:World} {c:AV} {u:Value} (h:Rel β O w c u) (hc:lS [c] = true):cj β O w c u:=by
 cases c<;>first | exact h | (simp [lS] at hc)
theorem IF {c:AV} {n:Nat} (hc:lS [c] = true) (h:n ∈ aw c):n ∈ ids c:=by
 cases c<;>first | exact h | (simp [lS] at hc)
theorem yu {o : Oper} {t : Nat} {x : Operand} (ho : o.op = .load t x) {ti : TI} (cw : ti.ok P t) {g off : Nat} (hx : a.eval x = .pointer (some ⟨g, off, none⟩)) {cs : List AV} {us : List Value}
  (hl:cs.length = ti.cells) (hr:All2 (iP β (Own X s β) w) cs us) (bt:∀ c ∈ cs,∀ n ∈ ids c,Nm s n) (hc:∀ (j:Nat) u,us[j]? = some u->w.cell? ⟨g,off + j,none⟩ = some u)
  {K:AV->Prop} (h:jb (aK ti.desc) cs K):sN P X s β a w o K:=by
 have h2:=kh (w:=w) cw g off us (by rw [<- hr.1,hl]) hc
 cases hs:aK ti.desc with
 | true =>
  rw [hs] at h
  have h:match qh cs with
   | true=>aC (lS cs) (K (.ag 0 cs))
   | false=>cU cs fun l=>K (.agg l):=h
  have fx:∀ u ∈ us,u.oneCell' = true:=fun u hu=>by
   obtain ⟨j,hj,rfl⟩:=List.getElem_of_mem hu
   have hj':j < cs.length:=by rw [hr.1]; exact hj
   exact (hr.2 j _ _ (List.getElem?_eq_getElem hj') (List.getElem?_eq_getElem hj)).2
  cases ha:qh cs with
  | true =>
   rw [ha] at h
   obtain ⟨hf,h⟩:=(af _ _).1 h
   have MN:All2 (cj β (Own X s β) w) cs us:=hr.mono fun j c u hc h9=>Nh h9.1 (w8 hf (List.mem_of_getElem? hc))
   refine ⟨_,.agg us.toArray,h,⟨us,rfl,MN,fx⟩,fun n hn=>?_,by simp [execOp,ho,hx,Instr.loadAt,Instr.sureAddr,h2.1 hs]⟩
   obtain ⟨c,hc,Co⟩:=List.mem_flatMap.1 (show n ∈ cs.flatMap aw from hn)
   exact bt _ hc n (IF (w8 hf hc) Co)
  | false =>
  rw [ha] at h
  have h:cU cs (fun l=>K (.agg l)):=h
  rw [ij] at h
  have dw:=nr (hr.mono fun _ _ _ _ h=>h.1)
  exact .im h (.agg _ us dw.1 (fun u hu=>by
   obtain ⟨j,hj,rfl⟩:=List.getElem_of_mem hu
   have hj':j < cs.length:=by rw [hr.1]; exact hj
   exact (hr.2 j _ _ (List.getElem?_eq_getElem hj') (List.getElem?_eq_getElem hj)).2) dw.2) (by simp [execOp,ho,hx,Instr.loadAt,Instr.sureAddr,h2.1 hs])
 | false =>
  rw [hs] at h
  cases cs with
  | nil=>exact h.elim
  | cons c r =>
   cases r with
   | cons _ _=>exact h.elim
   | nil =>
    obtain ⟨u,us',rfl,h1,h3⟩:=hr.cons_inv
    exact ⟨c,u,h,h1.1,bt c (by simp),by simp [execOp,ho,hx,Instr.loadAt,Instr.sureAddr,h2.2 hs u rfl]⟩

theorem All2.drop_take {R:AV->Value->Prop} {cs:List AV} {us:List Value} (h:All2 R cs us) (o n:Nat):All2 R ((cs.drop o).take n) ((us.drop o).take n):=by
 refine ⟨by simp [h.1],fun j c u hc hu=>?_⟩
 rw [List.getElem?_take,List.getElem?_drop] at hc hu
 split at hc
 ·rename_i hj; rw [if_pos hj] at hu; exact h.2 _ _ _ hc hu
 ·cases hc

theorem nY {R : AV -> Value -> Prop} {cs : List AV} {f : Nat -> Option Value} (h : ∀ (j : Nat) c, cs[j]? = some c -> ∃ u, f j = some u /\ R c u) :
  ∃ us:List Value,All2 R cs us/\∀ (j:Nat) u,us[j]? = some u->f j = some u:=by
 induction cs generalizing f with
 | nil=>exact ⟨[],All2.nil _,by simp⟩
 | cons c r ih =>
  obtain ⟨u,h1,h2⟩:=h 0 c rfl
  obtain ⟨us,h3,h4⟩:=ih (f:=fun j=>f (j + 1)) (fun j c hc=>h (j + 1) c (by simpa using hc))
  refine ⟨u::us,All2.cons h2 h3,fun j v hv=>?_⟩
  cases j with
  | zero=>simp at hv; subst hv; exact h1
  | succ j=>exact h4 j v (by simpa using hv)

theorem ni (aY:Γ.ok P) (hI:ao W0 F X N s β a w) {o:Oper} {t:Nat} {x:Operand} (ho:o.op = .load t x) {v:AV} (hr:Rel β (Own X s β) w v (a.eval x)) (bt:∀ n ∈ ids v,Nm s n) {K:AV->Prop} (h:eS Γ s t v K):sN P X s β a w o K:=by
 cases v with
 | pt n off =>
  obtain ⟨cs,h1,h⟩:=(cJ _ _ _).1 (show eE s.boxes n fun cs=>cp Γ t fun ti=>fj ti.cells (cs.drop off) fun l=>jb (aK ti.desc) l K from h)
  obtain ⟨ti,cw,h⟩:=bq aY h
  rw [dJ] at h
  obtain ⟨g,us,e,h2,h3,h4⟩:=hI.boxes n cs h1
  obtain ⟨g',h5,h6⟩:=hr
  rw [h2] at h5; injection h5 with h5; subst h5
  refine yu ho cw h6 (cs:=(cs.drop off).take ti.cells) (us:=(us.toList.drop off).take ti.cells) (by rw [List.length_take]; omega) (h4.drop_take _ _)
   (fun c hc n' jg=>.inr (.inr ⟨n,cs,h1,c,List.mem_of_mem_drop (List.mem_of_mem_take hc),jg⟩)) (fun j u hu=>?_) h.2
  rw [List.getElem?_take,List.getElem?_drop] at hu
  split at hu
  ·rw [cell_of_row w g _ us e (0,0) h3]; simpa using hu
  ·cases hu
 | rp cs =>
  obtain ⟨ti,cw,h⟩:=bq aY (show cp Γ t fun ti=>fj ti.cells cs fun l=>jb (aK ti.desc) l K from h)
  rw [dJ] at h
  obtain ⟨g,off,h1,h2⟩:=Im.od hr
  obtain ⟨us,h3,h4⟩:=nY (R:=Im (Own X s β) w) (cs:=cs) (f:=fun j=>w.cell? ⟨g,off + j,none⟩) (fun j c hc=>(h2 j c hc).2.imp fun _ hu=>⟨hu.1,hu.2.1⟩)
  refine yu ho cw h1 (cs:=cs.take ti.cells) (us:=us.take ti.cells) (by rw [List.length_take]; omega) ?_ (fun c hc n' jg=>?_) (fun j u hu=>?_) h.2
  ·have h5 : All2 (iP β (Own X s β) w) cs us := ⟨h3.1, fun j c u hc hu => by
    obtain ⟨_,u',iN,dw,fx⟩:=h2 j c hc
    have:=h4 j u hu
    rw [iN] at this; injection this with this; subst this
    exact ⟨Rel.im dw,fx⟩⟩
   have:=h5.drop_take 0 ti.cells
   simpa using this
  ·exfalso
   have dv:=List.mem_of_mem_take hc
   obtain ⟨j,hj,rfl⟩:=List.getElem_of_mem dv
   obtain ⟨_,u,_,dw,_⟩:=h2 j _ (List.getElem?_eq_getElem hj)
   rw [dw.cQ] at jg
   cases jg
  ·rw [List.getElem?_take] at hu
   split at hu
   ·exact h4 j u hu
   ·cases hu
 | ob i1 i2 ob =>
  cases ob with
  | gp L i row n =>
   obtain ⟨ti,cw,h⟩:=bq aY (show cp Γ t fun ti=>aC (!aK ti.desc) (aC (Nat.beq ti.cells 1) ((n = i/\K (.vec i2 .int row))\/(n≠i/\K (.rd .int (L.getD n []))))) from h)
   obtain ⟨hs,h⟩:=(af _ _).1 h
   obtain ⟨hc,h⟩:=(af _ _).1 h
   have hs:aK ti.desc = false:=by simpa using hs
   obtain ⟨hn,⟨g,hg,hx⟩,v',Lz⟩:=hr
   obtain ⟨g',c,cur,e,h1,h2,h3,h4,h5,h6,h7,h8⟩:=Lz
   rw [hg] at h1; injection h1 with h1; subst h1
   have gR:∀ (j:Nat) u,cur[n]? = some u->[u][j]? = some u->w.cell? ⟨g,n + j,none⟩ = some u:=fun j u hu hj=>by
    cases j with
    | zero=>rw [Nat.add_zero,cell_of_row w g _ cur e (0,0) h3]; exact hu
    | succ j=>simp at hj
   have H9:∀ u,cur[n]? = some u->∀ (j:Nat) u',[u][j]? = some u'->w.cell? ⟨g,n + j,none⟩ = some u':=fun u hu j u' hj=>by
    cases j with
    | zero => have : u = u' := by simpa using hj
              subst this; exact gR 0 u hu rfl
    | succ j=>simp at hj
   rcases h with ⟨S7,hK⟩ | ⟨da,hK⟩
   ·subst S7
    obtain ⟨u,hu,hv⟩:=h8 hn
    have fx:u.oneCell' = true:=by
     rcases id hv with ⟨_,rfl,_⟩ | ⟨_,_,_,_,_,rfl,_⟩<;>rfl
    have h9:=kh (w:=w) cw g n [u] (by simpa using (Nat.eq_of_beq_eq_true hc).symm) (H9 u hu)
    exact ⟨_,u,hK,hv,fun m hm=>bt m (by
     have:m = i2:=by simpa [ids,aw] using hm
     subst this; simp [ids,aw]),by simp [execOp,ho,hx,Instr.loadAt,Instr.sureAddr,h9.2 hs u rfl]⟩
   ·obtain ⟨u,hu,dw⟩:=h7 n _ (List.getElem?_eq_getElem hn) da
    have hl:L.getD n [] = L[n]:=by rw [List.getD_eq_getElem?_getD,List.getElem?_eq_getElem hn]; rfl
    rw [hl] at hK
    have h9:=kh (w:=w) cw g n [u] (by simpa using (Nat.eq_of_beq_eq_true hc).symm) (H9 u hu)
    exact .im hK dw (by simp [execOp,ho,hx,Instr.loadAt,Instr.sureAddr,h9.2 hs u rfl])
  | _=>exact h.elim
 | vp id τ l n off =>
  obtain ⟨ti,cw,h⟩:=bq aY (show cp Γ t fun ti=>fj ti.cells ((enc τ (l.getD n (aD τ))).drop off) fun l=>jb (aK ti.desc) l K from h)
  rw [dJ] at h
  obtain ⟨hn,⟨g,h1,h2⟩,v',hv⟩:=hr
  rcases hv with ⟨rfl,_,_⟩ | ⟨g',c,cur,e,h3,_,h5,h6,h7,h8,h9⟩
  ·simp at hn
  rw [h3] at h1; injection h1 with h1; subst h1
  have hl:l[n]? = some (l.getD n (aD τ)):=by rw [List.getD_eq_getElem?_getD,List.getElem?_eq_getElem hn]; rfl
  obtain ⟨us,gQ,S0⟩:=nY (R:=Im (Own X s β) w) (cs:=(enc τ (l.getD n (aD τ))).drop off) (f:=fun j=>w.cell? ⟨g',n * aX τ + off + j,none⟩) (fun j c hc=>by
   rw [List.getElem?_drop] at hc
   obtain ⟨u,hu,dw⟩:=h9 n _ _ c hl hc
   exact ⟨u,by rw [cell_of_row w g' _ cur e (0,0) h5,Nat.add_assoc]; exact hu,dw⟩)
  refine yu ho cw h2 (cs:=((enc τ (l.getD n (aD τ))).drop off).take ti.cells) (us:=us.take ti.cells) (by rw [List.length_take]; omega) ?_ (fun c hc n' jg=>?_) (fun j u hu=>?_) h.2
  ·have WC : All2 (iP β (Own X s β) w) ((enc τ (l.getD n (aD τ))).drop off) us :=
    gQ.mono fun _ _ _ hc h=>⟨Rel.im h,plain_one h (enc_plain τ _ _ (List.mem_of_mem_drop (List.mem_of_getElem? hc)))⟩
   have:=WC.drop_take 0 ti.cells
   simpa using this
  ·exfalso
   have hp:=enc_plain τ _ c (List.mem_of_mem_drop (List.mem_of_mem_take hc))
   cases c<;>first | (cases hp; done) | (simp [ids,aw] at jg)
  ·rw [List.getElem?_take] at hu
   split at hu
   ·exact S0 j u hu
   ·cases hu
 | _=>exact h.elim

def l7:AV->(List AV->Prop)->Prop
 | .agg l,K=>K l
 | .x,_=>False
 | .bc _,_=>False
 | .ag 0 l,K=>K l
 | .ag (_ + 1) _,_=>False
 | v,K=>K [v]
theorem oY {v : AV} {u : Value} (hr : Rel β (Own X s β) w v u) (bt : ∀ n ∈ ids v, Nm s n) {K : List AV -> Prop} (h : l7 v K) :
  ∃ cs,K cs/\All2 (iP β (Own X s β) w) cs u.cells.toList/\(∀ c ∈ cs,∀ n ∈ ids c,Nm s n)/\∀ x ∈ u.cells.toList,x.oneCell' = true:=by
 have one:K [v]->u.cells = #[u]->u.oneCell' = true->∃ cs,K cs/\All2 (iP β (Own X s β) w) cs u.cells.toList/\(∀ c ∈ cs,∀ n ∈ ids c,Nm s n)/\∀ x ∈ u.cells.toList,x.oneCell' = true:=by
  intro hK hc h1
  refine ⟨[v],hK,?_,?_,?_⟩
  ·rw [hc]; exact All2.cons ⟨hr,h1⟩ (All2.nil _)
  ·intro c dv n hn; rw [List.mem_singleton.1 dv] at hn; exact bt n hn
  ·rw [hc]; intro x hx; simp at hx; subst hx; exact h1
 cases v with
 | agg l =>
  obtain ⟨vs,rfl,h2,h3⟩:=hr.su
  refine ⟨l,h,?_,fun c hc n hn=>?_,by simpa [Value.cells] using h3⟩
  ·have h4:All2 (iP β (Own X s β) w) l vs:=⟨h2.1,fun j c u hc hu=>⟨Rel.im (h2.2 j c u hc hu),h3 u (List.mem_of_getElem? hu)⟩⟩
   simpa [Value.cells] using h4
  ·exfalso
   obtain ⟨j,hj,rfl⟩:=List.getElem_of_mem hc
   have hj':j < vs.length:=by rw [<- h2.1]; exact hj
   rw [(h2.2 j _ _ (List.getElem?_eq_getElem hj) (List.getElem?_eq_getElem hj')).cQ] at hn
   cases hn
 | ag k l =>
  cases k with
  | succ k=>exact h.elim
  | zero =>
  obtain ⟨vs,rfl,h2,h3⟩:=id hr
  simp only [shape] at *
  refine ⟨l,h,?_,fun c hc n hn=>?_,by simpa [Value.cells] using h3⟩
  ·have h4:All2 (iP β (Own X s β) w) l vs:=⟨h2.1,fun j c u hc hu=>⟨Rel.jk (h2.2 j c u hc hu),h3 u (List.mem_of_getElem? hu)⟩⟩
   simpa [Value.cells] using h4
  ·obtain ⟨j,hj,rfl⟩:=List.getElem_of_mem hc
   have hj':j < vs.length:=by rw [<- h2.1]; exact hj
   exact bt n (List.mem_flatMap.2 ⟨_,List.getElem_mem hj,(h2.2 j _ _ (List.getElem?_eq_getElem hj) (List.getElem?_eq_getElem hj')).ids hn⟩)
 | vs id τ l k=>obtain ⟨_,_,ad,c,rfl,_⟩:=lZ.inv hr; exact one h rfl rfl
 | i k n=>obtain rfl:=hr.kd; exact one h rfl rfl
 | b t=>obtain rfl:=hr.jG; exact one h rfl rfl
 | s l=>obtain ⟨rfl,_⟩:=hr.pw; exact one h rfl rfl
 | nl=>obtain rfl:=hr.gz; exact one h rfl rfl
 | rd τ l=>obtain ⟨ad,c,rfl,_⟩:=hr.CA; exact one h rfl rfl
 | pt n off=>obtain ⟨g,_,rfl⟩:=id hr; exact one h rfl rfl
 | vec id τ l =>
  have p8:=hr
  rcases p8 with ⟨_,rfl,_⟩ | ⟨_,_,_,_,_,rfl,_⟩
  ·exact one h rfl rfl
  ·exact one h rfl rfl
 | vp id τ l n off=>have p8:=hr; obtain ⟨_,⟨g,_,rfl⟩,_⟩:=p8; exact one h rfl rfl
 | rp cs=>obtain ⟨g,off,rfl,_⟩:=Im.od hr; exact one h rfl rfl
 | fn f ak=>obtain ⟨vs,rfl,_⟩:=id hr; exact one h (Fs _ _ _) (Mn _ _ _)
 | np=>have p8:Im _ _ _ _:=hr; cases p8; exact one h rfl rfl
 | er e=>have p8:Im _ _ _ _:=hr; cases p8<;>exact one h rfl rfl
 | ob i i2 o =>
  cases o with
  | sb T e l=>have p8:=hr; obtain ⟨b,p,q,_,rfl,_⟩:=p8; exact one h rfl rfl
  | it t pos=>have p8:=hr; obtain ⟨g,_,rfl,_⟩:=p8; exact one h rfl rfl
  | mp κ τ es=>have p8:=hr; obtain ⟨g,_,_,_,rfl,_⟩:=p8; exact one h rfl rfl
  | nw zs=>have p8:=hr; obtain ⟨g,_,_,rfl,_⟩:=p8; exact one h rfl rfl
  | vw τ l x y=>have p8:=hr; obtain ⟨g,c,_,_,_,_,rfl,_⟩:=p8; exact one h rfl rfl
  | ln τ l=>have p8:=hr; obtain ⟨_,⟨_,rfl,_⟩ | ⟨g,c,_,_,_,rfl,_⟩⟩:=p8<;>exact one h rfl rfl
  | gr L k row=>have p8:=hr; obtain ⟨g,c,_,_,_,rfl,_⟩:=p8; exact one h rfl rfl
  | gp L k row n=>have p8:=hr; obtain ⟨_,⟨g,_,rfl⟩,_⟩:=p8; exact one h rfl rfl
 | bc _=>exact h.elim
 | x=>exact h.elim

def Hb (N:Nat) (s:St) (d:Nat) (cs:List AV) (K:St->Prop):Prop :=
 aC (Nat.blt d N) (match s with | ⟨LF,b0⟩=>mM b0 d cs fun b=>mM LF d (.pt d 0) fun sl=>K ⟨sl,b⟩)
theorem He (hI : ao W0 F X N s β a w) {d : Nat} (bB : ¬ Nm s d) {cs : List AV} {us : Array Value} {e : TypeId} (hr : All2 (iP β (Own X s β) w) cs us.toList) (bt : ∀ c ∈ cs, ∀ n ∈ ids c, Nm s n)
  {K:St->Prop} (h:Hb N s d cs K):∃ s' bJ,K s'/\ao W0 F X N s' bJ (a.put (some d) (.pointer (some ⟨w.heap.size,0,none⟩))) (w.alloc (.cells us e)):=by
 obtain ⟨h1,h2⟩:=(af _ _).1 h
 have h2:K ((s.bF d cs).put d (.pt d 0)):=by obtain ⟨sl,b⟩:=s; simp only [kU] at h2; exact h2
 exact ⟨_,_,h2,hI.box (by rw [Nat.blt_eq] at h1; exact h1) bB hr bt⟩

theorem jL (t:TypeId) (v:Value) (w:World):(newVar t v).run P w = .ok ⟨w.heap.size,0,none⟩ (w.alloc (.cells v.cells t)):=by
 simp [newVar,newRow,newObj]
 rfl
theorem eu (s:St) (d:Nat):¬ Nm (s.cy d) d:=fun h=>(Nm.ic h).2 rfl

def nW (Γ:Ctx) (N:Nat) (s:St) (t:TypeId) (dst:Option Nat) (K:St->Prop):Prop :=
 match dst with
 | some d=>dx d s fun s=>cp Γ t fun ti=>eW ti.zero fun cs=>Hb N s d cs K
 | none=>False
def Hc (N:Nat) (s:St) (x:Operand) (dst:Option Nat) (K:St->Prop):Prop :=
 match dst with
 | some d=>dx d s fun s=>bG s x fun v=>l7 v fun cs=>Hb N s d cs K
 | none=>False

theorem iG (O:Nat->Prop) (l:List Value) (h1:∀ v ∈ l,v.oneCell' = true):All2 (iP β O w) (dW l) l:=by
 induction l with
 | nil=>exact All2.nil _
 | cons v r ih=>exact All2.cons ⟨Rel.im (kP _ _ _),h1 v (List.mem_cons_self ..)⟩ (ih fun u hu=>h1 u (List.mem_cons_of_mem _ hu))
theorem jN (l:List Value):∀ c ∈ dW l,ids c = []:=by
 induction l with
 | nil=>intro c hc; cases hc
 | cons v r ih =>
  intro c hc
  rcases List.mem_cons.1 hc with rfl | hc
  ·exact (kP (fun _=>False) default v).cQ
  ·exact ih c hc

theorem GU (aY : Γ.ok P) (fx : ∀ p ∈ Γ, ∀ v ∈ p.2.zero, v.oneCell' = true) (hI : ao W0 F X N s β a w) {o : Oper} {t : TypeId} (ho : o.op = .alloc t) {K : St -> Prop} (h : nW Γ N s t o.dst K)
  {next:Act->World->Prop} {Q:Exit->Act->World->Prop} (hn:∀ s' a' w',K s'->Inv W0 F X N s' a' w'->next a' w'):o.wp P a w next Q:=by
 cases hd:o.dst with
 | none=>rw [hd] at h; exact h.elim
 | some d =>
  rw [hd] at h
  have h:dx d s fun s=>cp Γ t fun ti=>eW ti.zero fun cs=>Hb N s d cs K:=h
  rw [cO] at h
  obtain ⟨ti,gw,h2⟩:=eZ h
  have cw:=aY _ gw
  have h1:=fx _ gw
  rw [eF] at h2
  obtain ⟨z,hz,vQ⟩:=cw.zeroValue w
  have hr:All2 (iP β (Own X (s.cy d) β) w) (dW ti.zero) z.cells.toList:=by
   rw [vQ]; exact iG _ _ h1
  obtain ⟨s',bJ,hK,bS⟩:=He (e:=t) (hI.cy d) (eu s d) hr (fun c hc n hn=>by rw [jN _ c hc] at hn; cases hn) h2
  refine eI (u:=.pointer (some ⟨w.heap.size,0,none⟩)) (w':=w.alloc (.cells z.cells t)) ?_ (by rw [hd]; exact hn _ _ _ hK ⟨_,bS⟩)
  simp [execOp,ho,Instr.alloc,hz,jL]

theorem Hd (hI : ao W0 F X N s β a w) {o : Oper} {t : TypeId} {x : Operand} (ho : o.op = .box t x) {K : St -> Prop} (h : Hc N s x o.dst K)
  {next:Act->World->Prop} {Q:Exit->Act->World->Prop} (hn:∀ s' a' w',K s'->Inv W0 F X N s' a' w'->next a' w'):o.wp P a w next Q:=by
 cases hd:o.dst with
 | none=>rw [hd] at h; exact h.elim
 | some d =>
  rw [hd] at h
  have h:dx d s fun s=>bG s x fun v=>l7 v fun cs=>Hb N s d cs K:=h
  rw [cO,aE] at h
  have dg:=hI.cy d
  obtain ⟨cs,h1,h2,h3,_⟩:=oY (aF dg x).1 (aF dg x).2 h
  obtain ⟨s',bJ,hK,bS⟩:=He (e:=t) dg (eu s d) h2 h3 h1
  refine eI (u:=.pointer (some ⟨w.heap.size,0,none⟩)) (w':=w.alloc (.cells (a.eval x).cells t)) ?_ (by rw [hd]; exact hn _ _ _ hK ⟨_,bS⟩)
  simp [execOp,ho,Instr.box,jL]

def xq (s:St) (n o:Nat) (cells:Nat) (v:AV) (K:St->Prop):Prop :=
 eE s.boxes n fun fE=>l7 v fun cs=>aC (Nat.beq cs.length cells) (aC (I2 n s.aj) (aC (I1 n s.boxes) (aC (Td n cs)
  (gH fE o cs fun cs'=>match s with | ⟨sl,b0⟩=>mM b0 n cs' fun b=>K ⟨sl,b⟩))))
theorem AU {n:Nat} {l:List AV} (h:Td n l = true):∀ c ∈ l,n ∉ dT c:=by
 induction l with
 | nil=>intro c hc; cases hc
 | cons v r ih =>
  simp only [Td] at h
  cases ix:cr n (dT v) with
  | true=>rw [ix] at h; cases h
  | false =>
   rw [ix] at h
   intro c hc
   rcases List.mem_cons.1 hc with rfl | hc
   ·rw [<- Bool.not_eq_true,b7] at ix; exact ix
   ·exact ih h c hc
theorem qI {n:Nat} {l:List (Nat × AV)} (h:I2 n l = true):∀ m,n ∉ dT (look l m):=by
 induction l with
 | nil=>intro m hm; simp [look,dT,fp] at hm
 | cons p r ih =>
  obtain ⟨k,v⟩:=p
  simp only [I2] at h
  cases ix:cr n (dT v) with
  | true=>rw [ix] at h; cases h
  | false =>
   rw [ix] at h
   intro m
   simp only [look]
   cases Nat.beq k m with
   | true=>rw [<- Bool.not_eq_true,b7] at ix; exact ix
   | false=>exact ih h m
theorem kO {n:Nat} {l:List (Nat × List AV)} (h:I1 n l = true):∀ b cs,ax l b = some cs->∀ c ∈ cs,n ∉ dT c:=by
 induction l with
 | nil=>intro b cs hb; cases hb
 | cons p r ih =>
  obtain ⟨k,v⟩:=p
  simp only [I1] at h
  cases hv:Td n v with
  | false=>rw [hv] at h; cases h
  | true =>
   rw [hv] at h
   intro b cs hb
   simp only [ax] at hb
   cases hk:Nat.beq k b with
   | true=>rw [hk] at hb; injection hb with hb; subst hb; exact AU hv
   | false=>rw [hk] at hb; exact ih h b cs hb

theorem lK {t : Nat} {ti : TI} (cw : ti.ok P t) {g off : Nat} {v : Value} {us : Array Value} {e : TypeId} (hh : w.heap[g]? = some (.cells us e (0, 0))) (bO : v.cells.size = ti.cells) (hle : off + v.cells.size<=us.size)
  (h1:∀ x ∈ v.cells.toList,x.oneCell' = true) :
  (storeVar t ⟨g,off,none⟩ v).run P w = .ok () (w.setRow g (us.toList.take off++v.cells.toList++us.toList.drop (off + v.cells.size)).toArray):=by
 have:=run_storeCells_at P g off e v.cells.toList 0 us w hh (by simpa using hle) h1
 simp only [Nat.add_zero,Array.length_toList] at this
 simp [storeVar,cw.sizeOf w,bO,this]

theorem All2.yO {R : AV -> Value -> Prop} {fE cs : List AV} {Gl us : List Value} (h0 : All2 R fE Gl) (h : All2 R cs us) (o : Nat) (Zv : o + cs.length<=fE.length) :
  All2 R (fE.take o++cs++fE.drop (o + cs.length)) (Gl.take o++us++Gl.drop (o + us.length)):=by
 have T7:∀ {a c:List AV} {b d:List Value},All2 R a b->All2 R c d->All2 R (a++c) (b++d):=by
  intro a c b d DQ DR
  refine ⟨by simp [DQ.1,DR.1],fun j z y hx hy=>?_⟩
  by_cases hj:j < a.length
  ·rw [List.getElem?_append_left hj] at hx
   rw [List.getElem?_append_left (by rw [<- DQ.1]; exact hj)] at hy
   exact DQ.2 j z y hx hy
  ·rw [List.getElem?_append_right (by omega)] at hx
   rw [List.getElem?_append_right (by rw [<- DQ.1]; omega),<- DQ.1] at hy
   exact DR.2 _ z y hx hy
 have UT:All2 R (fE.take o) (Gl.take o):=by
  have:=h0.drop_take 0 o
  simpa using this
 have Uh:All2 R (fE.drop (o + cs.length)) (Gl.drop (o + us.length)):=by
  rw [<- h.1]
  refine ⟨by simp [h0.1],fun j z y hx hy=>?_⟩
  rw [List.getElem?_drop] at hx hy
  exact h0.2 _ z y hx hy
 exact T7 (T7 UT h) Uh

theorem Bs (hI : ao W0 F X N s β a w) {o : Oper} {t : TypeId} {x y : Operand} (ho : o.op = .store t x y) {ti : TI} (cw : ti.ok P t) {n off : Nat} (hx : Rel β (Own X s β) w (.pt n off) (a.eval x)) {v : AV}
  (hy:Rel β (Own X s β) w v (a.eval y)) (bt:∀ n ∈ ids v,Nm s n) {K:St->Prop} (h:xq s n off ti.cells v K) :
  ∃ s' w',K s'/\ao W0 F X N s' β a w'/\(execOp a.eval o).run P w = .ok .skip w':=by
 obtain ⟨fE,h0,h⟩:=(cJ _ _ _).1 h
 obtain ⟨cs,h,h1,h2,h3⟩:=oY hy bt h
 simp only [af] at h
 obtain ⟨hc,UO,GH,hs3,h⟩:=h
 obtain ⟨hle,h⟩:=rK _ _ _ _ h
 have h:K (s.bF n (fE.take off++cs++fE.drop (off + cs.length))):=by obtain ⟨sl,b⟩:=s; simp only [kU] at h; exact h
 obtain ⟨g,us,e,h4,h5,h6⟩:=hI.boxes n fE h0
 obtain ⟨g',h7,h8⟩:=hx
 rw [h4] at h7; injection h7 with h7; subst h7
 have hlen:cs.length = (a.eval y).cells.size:=by rw [h1.1]; simp
 have Uv:fE.length = us.size:=by rw [h6.1]; simp
 have bu:=lK (w:=w) cw h5 (off:=off) (v:=a.eval y) (by rw [<- hlen]; exact Nat.eq_of_beq_eq_true hc) (by rw [<- hlen,<- Uv]; exact hle) h3
 refine ⟨_,_,h,hI.Kh (us:=(us.toList.take off++(a.eval y).cells.toList++us.toList.drop (off + (a.eval y).cells.size)).toArray) h0 h4 h5 ⟨qI UO,kO GH⟩ ?_ ?_ ?_,by simp [execOp,ho,h8,Instr.storeAt,Instr.sureAddr,bu]⟩
 ·have:=All2.yO h6 h1 off hle
  simpa using this
 ·intro c dv k hk
  rcases List.mem_append.1 dv with dv | dv
  ·rcases List.mem_append.1 dv with dv | dv
   ·exact .inr (.inr ⟨n,fE,h0,c,List.mem_of_mem_take dv,hk⟩)
   ·exact h2 c dv k hk
  ·exact .inr (.inr ⟨n,fE,h0,c,List.mem_of_mem_drop dv,hk⟩)
 ·intro c dv
  rcases List.mem_append.1 dv with dv | dv
  ·rcases List.mem_append.1 dv with dv | dv
   ·exact kO GH n fE h0 c (List.mem_of_mem_take dv)
   ·exact AU hs3 c dv
  ·exact kO GH n fE h0 c (List.mem_of_mem_drop dv)
end
end Go.SX
end
section
namespace Go.SX
variable [Globs]
section
variable {P:Program} {N:Nat} {Γ:Ctx} {W0:World} {F:Fr} {X:Nat->Prop} {s:St} {β:Nat->Option Nat} {a:Act} {w:World}

def flat (τ:Ty) (l:List (den τ)):List AV:=l.flatMap (enc τ)
theorem cx (τ:Ty) (l:List (den τ)):(flat τ l).length = l.length * aX τ:=by
 induction l with
 | nil=>simp [flat]
 | cons x r ih=>simp only [flat,List.flatMap_cons,List.length_append,eh] at ih ⊢; rw [ih,List.length_cons,Nat.succ_mul]; omega
theorem DH {τ:Ty} {l:List (den τ)} {i:Nat} {x:den τ} (h:l[i]? = some x) {j:Nat} (hj:j < aX τ):(flat τ l)[i * aX τ + j]? = (enc τ x)[j]?:=by
 induction l generalizing i with
 | nil=>simp at h
 | cons y r ih =>
  cases i with
  | zero =>
   simp at h; subst h
   simp only [flat,List.flatMap_cons,Nat.zero_mul,Nat.zero_add]
   rw [List.getElem?_append_left (by rw [eh]; exact hj)]
  | succ i =>
   simp at h
   have:=ih h
   simp only [flat,List.flatMap_cons] at this ⊢
   rw [List.getElem?_append_right (by rw [eh,Nat.succ_mul]; omega),eh,Nat.succ_mul]
   rw [<- this]
   congr 1
   omega
theorem xZ {τ:Ty} {l:List (den τ)} {k:Nat} {av:AV} (h:(flat τ l)[k]? = some av):∃ i j x,k = i * aX τ + j/\l[i]? = some x/\(enc τ x)[j]? = some av:=by
 have hp:=gq τ
 have hk:k < l.length * aX τ:=by rw [<- cx]; exact (List.getElem?_eq_some_iff.1 h).1
 have hi:k / aX τ < l.length:=by rw [Nat.div_lt_iff_lt_mul hp]; exact hk
 have QA:k % aX τ < aX τ:=Nat.mod_lt _ hp
 have Uo:k = (k / aX τ) * aX τ + k % aX τ:=by rw [Nat.mul_comm]; exact (Nat.div_add_mod k (aX τ)).symm
 refine ⟨k / aX τ,k % aX τ,l[k / aX τ],Uo,List.getElem?_eq_getElem hi,?_⟩
 rw [<- DH (List.getElem?_eq_getElem hi) QA,<- Uo]
 exact h
theorem tu {τ:Ty} {l:List (den τ)} {av:AV} (h:av ∈ flat τ l):av.plain = true:=by
 obtain ⟨x,_,hx⟩:=List.mem_flatMap.1 h
 exact enc_plain τ x av hx

def zf (P:Program) (O:Nat->Prop) (w:World) (τ:Ty) (l:List (den τ)) (v:Value):Prop :=
 ∃ A c us,v = .slice A l.length c/\All2 (Im O w) (flat τ l) us/\(∀ u ∈ us,u.oneCell' = true) /\
  ∀ w':World,w'.heap = w.heap->(Builtin.firstCells (aX τ) l.length v).run P w' = .ok us.toArray w'
theorem fA {O : Nat -> Prop} {τ : Ty} {l : List (den τ)} {v : Value} (h : Im O w (.rd τ l) v) :
  zf P O w τ l v:=by
 cases h with
 | uR _ A c hc=>exact ⟨A,c,[],rfl,All2.nil _,by simp,fun w' _=>by cases A<;>simp [Builtin.firstCells,loadCells,loadCellsFrom]⟩
 | rd _ _ g o c u hg S5 hm da gR dw =>
  obtain ⟨us,h1,h2⟩:=nY (R:=Im O w) (cs:=flat τ l) (f:=fun j=>w.cell? ⟨g,o + j,none⟩) (fun k av hk=>by
   obtain ⟨i,j,x,rfl,hx,hj⟩:=xZ hk
   exact ⟨_,gR i x j av hx hj,dw i x j av hx hj⟩)
  have hlen:us.length = l.length * aX τ:=by rw [<- h1.1,cx]
  refine ⟨_,c,us,rfl,h1,fun x hx=>?_,fun w' hw=>?_⟩
  ·obtain ⟨j,hj,rfl⟩:=List.getElem_of_mem hx
   have hj':j < (flat τ l).length:=by rw [h1.1]; exact hj
   exact plain_one (h1.2 j _ _ (List.getElem?_eq_getElem hj') (List.getElem?_eq_getElem hj)) (tu (List.getElem_mem hj'))
  ·have:=fO P w' g o us (fun j x hx=>by rw [show w'.cell? ⟨g,o + j,none⟩ = w.cell? ⟨g,o + j,none⟩ from by simp only [World.cell?,hw]]; exact h2 j x hx)
   rw [hlen] at this
   simp only [Builtin.firstCells]
   exact this

theorem oD {β : Nat -> Option Nat} {O : Nat -> Prop} {w : World} {d g c : Nat} {τ : Ty} {l : List (den τ)} {cur : Array Value} {e : TypeId} {us : List Value} (cG : β d = some g) (hh : w.heap[g]? = some (.cells cur e (0, 0)))
  (S5:l.length<=c) (y7:c<=maxLen) (bO:cur.size = c * aX τ) (Cw:All2 (Im O w) (flat τ l) us) (kM:∀ (j:Nat) u,us[j]? = some u->cur[j]? = some u):aU β O w d τ l (.slice (some ⟨g,0,none⟩) l.length c):=by
 refine .inr ⟨g,c,cur,e,cG,rfl,hh,S5,y7,bO,fun i x j av hx ck=>?_⟩
 have hj:j < aX τ:=by rw [<- eh τ x]; exact (List.getElem?_eq_some_iff.1 ck).1
 have hf:(flat τ l)[i * aX τ + j]? = some av:=by rw [DH hx hj]; exact ck
 have hlt:i * aX τ + j < us.length:=by rw [<- Cw.1]; exact (List.getElem?_eq_some_iff.1 hf).1
 exact ⟨us[i * aX τ + j],kM _ _ (List.getElem?_eq_getElem hlt),Cw.2 _ _ _ hf (List.getElem?_eq_getElem hlt)⟩
theorem qZ {O : Nat -> Prop} {w : World} {c : Nat} {τ : Ty} {l : List (den τ)} {cur : Array Value} (bO : cur.size = c * aX τ) (S5 : l.length<=c)
  (h:∀ (i:Nat) x (j:Nat) av,l[i]? = some x->(enc τ x)[j]? = some av->∃ u,cur[i * aX τ + j]? = some u/\Im O w av u) :
  All2 (Im O w) (flat τ l) (cur.toList.take (l.length * aX τ)):=by
 have hle:l.length * aX τ<=cur.size:=by rw [bO]; exact Nat.mul_le_mul_right _ S5
 have Ib:cur.toList.length = cur.size:=Array.length_toList
 refine ⟨by rw [cx,List.length_take,Ib]; omega,fun k av u hk hu=>?_⟩
 obtain ⟨i,j,x,rfl,hx,hj⟩:=xZ hk
 obtain ⟨u',iN,dw⟩:=h i x j av hx hj
 rw [List.getElem?_take] at hu
 split at hu
 ·rw [Array.getElem?_toList,iN] at hu
  injection hu with hu
  subst hu
  exact dw
 ·cases hu

theorem EN {β:Nat->Option Nat} {O:Nat->Prop} {w:World} {id:Nat} {τ:Ty} {l:List (den τ)} {v:Value} (h:aU β O w id τ l v):zf P O w τ l v:=by
 rcases h with ⟨rfl,rfl,_⟩ | ⟨g,c,cur,e',p1,rfl,p3,p4,p5,p6,p7⟩
 ·exact ⟨none,0,[],rfl,All2.nil _,by simp,fun w' _=>by simp [Builtin.firstCells]⟩
 ·have hc:=qZ p6 p4 p7
  have hlen:(cur.toList.take (l.length * aX τ)).length = l.length * aX τ:=by rw [<- hc.1,cx]
  refine ⟨_,c,_,rfl,hc,fun x hx=>?_,fun w' hw=>?_⟩
  ·obtain ⟨j,hj,rfl⟩:=List.getElem_of_mem hx
   have hj':j < (flat τ l).length:=by rw [hc.1]; exact hj
   exact plain_one (hc.2 j _ _ (List.getElem?_eq_getElem hj') (List.getElem?_eq_getElem hj)) (tu (List.getElem_mem hj'))
  ·have := fO P w' g 0 (cur.toList.take (l.length * aX τ)) (fun j x hx => by
    rw [cell_of_row w' g _ cur e' (0,0) (by rw [hw]; exact p3),Nat.zero_add]
    rw [List.getElem?_take] at hx
    split at hx
    ·simpa using hx
    ·cases hx)
   rw [hlen] at this
   simp only [Builtin.firstCells]
   exact this

theorem All2.append {α γ:Type} {R:α->γ->Prop} {a c:List α} {b d:List γ} (DQ:All2 R a b) (DR:All2 R c d):All2 R (a++c) (b++d):=by
 refine ⟨by simp [DQ.1,DR.1],fun j x y hx hy=>?_⟩
 by_cases hj:j < a.length
 ·rw [List.getElem?_append_left hj] at hx
  rw [List.getElem?_append_left (by rw [<- DQ.1]; exact hj)] at hy
  exact DQ.2 j x y hx hy
 ·rw [List.getElem?_append_right (by omega)] at hx
  rw [List.getElem?_append_right (by rw [<- DQ.1]; omega),<- DQ.1] at hy
  exact DR.2 _ x y hx hy
theorem ka (τ:Ty) (l m:List (den τ)):flat τ (l++m) = flat τ l++flat τ m:=by simp [flat]

theorem mJ {t e t' e' : TypeId} {te : TI} (ht : P.underlying t = some (.slice e)) (wT : P.underlying t' = some (.slice e')) (gO : te.ok P e) {τ : Ty} (bO : te.cells = aX τ) (ty : TypeId) {A A2 : Option Addr} {n cap m c : Nat} {iW news : List Value}
  (hold:∀ w':World,w'.heap = w.heap->(Builtin.firstCells (aX τ) n (.slice A n cap)).run P w' = .ok iW.toArray w') (rU:∀ w':World,w'.heap = w.heap->(Builtin.firstCells (aX τ) m (.slice A2 m c)).run P w' = .ok news.toArray w')
  (n9:(n + m) * te.bytes<=140737488355328) (Mq:n + m<=maxLen) :
  (n + m<=cap->∀ w',(match A with | some a=>storeCells (a.add (n * aX τ)) news | none=>pure ():Sem Unit).run P w = .ok () w'->(Builtin.append_ #[t,t'] ty #[.slice A n cap,.slice A2 m c]).run P w = .ok (.slice A (n + m) cap) w') /\
  (cap < n + m->∃ z:Value,z.cells = te.zero.toArray/\(Builtin.append_ #[t,t'] ty #[.slice A n cap,.slice A2 m c]).run P w =
   .ok (.slice (some ⟨w.heap.size,0,none⟩) (n + m) (grownCap w (n + m) cap e)) (w.drew.alloc (.cells (iW.toArray++news.toArray++Builtin.zeroCells z.cells (grownCap w (n + m) cap e - (n + m))) e))):=by
 obtain ⟨i,z,hi,h1,h2,h3,h4⟩:=gO.info
 refine ⟨fun lO w' hst=>?_,fun Uk=>⟨z,h4,?_⟩⟩
 ·have hn:=rU w rfl
  cases A with
  | none =>
   obtain rfl:w' = w:=by simpa using hst.symm
   simp [Builtin.append_,run_underlying ht,run_underlying wT,sizeOf,typeInfo,hi,Builtin.lenOf,lO,h1,bO,hn]
  | some ad =>
   simp [Builtin.append_,run_underlying ht,run_underlying wT,sizeOf,typeInfo,hi,Builtin.lenOf,lO,h1,bO,hn]
   simp at hst
   rw [hst]
   rfl
 ·have hn:¬ (n + m<=cap):=by omega
  have WH:¬ (9223372036854775807 < ((n:Int) + (m:Int))):=by unfold maxLen at Mq; omega
  have WG:¬ (281474976710656 < Builtin.nextslicecap (n + m) cap * i.bytes):=by
   have:=growslice_fits Uk n9
   rw [h2]
   omega
  have hf:=rU w.drew rfl
  have VZ:=hold w.drew rfl
  simp [Builtin.append_,run_underlying ht,run_underlying wT,sizeOf,typeInfo,zeroValue,hi,h3,Builtin.lenOf,hn,WH,WG,Question.forced,h1,bO,hf,VZ,newRow,grownCap]
  rw [show (iW++news).toArray = iW.toArray++news.toArray from by simp,Array.append_assoc]

theorem sS (hI : ao W0 F X N s β a w) {t e t' e0 : TypeId} {te : TI} (ht : P.underlying t = some (.slice e)) (wT : P.underlying t' = some (.slice e0)) (gO : te.ok P e) {τ : Ty} (bO : te.cells = aX τ) (IC : te.zero.length = te.cells) (ty : TypeId)
  {id1 d:Nat} (hd:d < N) (bB:Nm s d->d = id1) {l1 l2:List (den τ)} {u1 u2:Value}
  (h1:(l1 = []/\u1 = .slice none 0 0)\/(Nm s id1/\aU β (Own X s β) w id1 τ l1 u1)) (h2:zf P (Own X s β) w τ l2 u2)
  (n9:(l1.length + l2.length) * te.bytes<=140737488355328) (Mq:l1.length + l2.length<=maxLen) :
  ∃ u w' bJ,(Builtin.append_ #[t,t'] ty #[u1,u2]).run P w = .ok u w'/\ao W0 F X N ((s.kill id1).put d (.vec d τ (l1++l2))) bJ (a.put (some d) u) w' /\
   ((∃ A c,u1 = .slice A l1.length c/\u = .slice A (l1++l2).length c)\/(¬ Nm s d->ao W0 F X N ((s.kill d).put d (.vec d τ (l1++l2))) bJ (a.put (some d) u) w')):=by
 obtain ⟨A2,c2,news,rfl,wP,Io,UC⟩:=h2
 have Xa:0 < aX τ:=gq τ
 -- the PD slice
 have hold : ∃ A cap iW, u1 = .slice A l1.length cap /\ All2 (Im (Own X s β) w) (flat τ l1) iW /\ l1.length<=cap /\
   (∀ w':World,w'.heap = w.heap->(Builtin.firstCells (aX τ) l1.length u1).run P w' = .ok iW.toArray w') /\
   ((A = none/\cap = 0)\/∃ g cur e',A = some ⟨g,0,none⟩/\Nm s id1/\β id1 = some g/\w.heap[g]? = some (.cells cur e' (0,0))/\cap<=maxLen/\cur.size = cap * aX τ/\iW = cur.toList.take (l1.length * aX τ)):=by
  rcases h1 with ⟨rfl,rfl⟩ | ⟨nK,hv⟩
  ·exact ⟨none,0,[],rfl,All2.nil _,Nat.le_refl _,fun w' _=>by simp [Builtin.firstCells],.inl ⟨rfl,rfl⟩⟩
  ·rcases hv with ⟨rfl,rfl,_⟩ | ⟨g,c,cur,e',p1,rfl,p3,p4,p5,p6,p7⟩
   ·exact ⟨none,0,[],rfl,All2.nil _,Nat.le_refl _,fun w' _=>by simp [Builtin.firstCells],.inl ⟨rfl,rfl⟩⟩
   ·have hc:=qZ p6 p4 p7
    have hlen:(cur.toList.take (l1.length * aX τ)).length = l1.length * aX τ:=by rw [<- hc.1,cx]
    refine ⟨_,c,_,rfl,hc,p4,fun w' hw=>?_,.inr ⟨g,cur,e',rfl,nK,p1,p3,p5,p6,rfl⟩⟩
    have:=fO P w' g 0 (cur.toList.take (l1.length * aX τ)) (fun j x hx=>by
     rw [cell_of_row w' g _ cur e' (0,0) (by rw [hw]; exact p3),Nat.zero_add]
     rw [List.getElem?_take] at hx
     split at hx
     ·simpa using hx
     ·cases hx)
    rw [hlen] at this
    simp only [Builtin.firstCells]
    exact this
 obtain ⟨A,cap,iW,rfl,S8,UF,UG,XI⟩:=hold
 have QC:news.length = l2.length * aX τ:=by rw [<- wP.1,cx]
 have UH:iW.length = l1.length * aX τ:=by rw [<- S8.1,cx]
 have pg:=mJ (w:=w) ht wT gO bO ty UG UC n9 Mq
 have ei:All2 (Im (Own X s β) w) (flat τ (l1++l2)) (iW++news):=by rw [ka]; exact S8.append wP
 by_cases lO:l1.length + l2.length<=cap
 ·rcases XI with ⟨rfl,rfl⟩ | ⟨g,cur,e',rfl,nK,hb,hh,y7,cZ,Qo⟩
  ·-- nil and nothing
   have e1:l1 = []:=List.eq_nil_of_length_eq_zero (by omega)
   have e2:l2 = []:=List.eq_nil_of_length_eq_zero (by omega)
   subst e1 e2
   refine ⟨_,w,ay β d none,pg.1 lO w rfl,?_,.inl ⟨_,_,rfl,rfl⟩⟩
   exact hI.qF (Ow:=fun _=>False) hd bB (ca.refl _ _) (fun _ h=>h.elim) (fun g hg=>by cases hg) (fun O' _=>.inl ⟨rfl,rfl,by simp [ay]⟩)
  ·-- in place
   have tS:l1.length * aX τ + 0 + news.length<=cur.size:=by rw [QC,cZ,Nat.add_zero,<- Nat.add_mul]; exact Nat.mul_le_mul_right _ lO
   have hst:=run_storeCells_at P g (l1.length * aX τ) e' news 0 cur w hh tS Io
   simp only [Nat.add_zero] at hst
   have bu:=pg.1 lO _ (by simp only [dm,Nat.zero_add]; exact hst)
   refine ⟨_,_,ay β d (some g),bu,?_,.inl ⟨_,_,rfl,by rw [List.length_append]⟩⟩
   have Ib:cur.toList.length = cur.size:=Array.length_toList
   refine hI.qF (Ow:=fun k=>k = g) hd bB (ca.setRow w g _) (fun k hk=>⟨nK,by rw [hk]; exact hb⟩) (fun g' kL=>?_) (fun O' Aa=>?_)
   ·injection kL with kL; subst kL
    exact ⟨by have:=(hI.own id1 g nK hb).1; simpa [World.setRow] using this,.inl ⟨nK,hb⟩⟩
   ·have Aq:=ca.setRow w g (cur.toList.take (l1.length * aX τ)++news++cur.toList.drop (l1.length * aX τ + news.length)).toArray
    have mm:All2 (Im O' (w.setRow g (cur.toList.take (l1.length * aX τ)++news++cur.toList.drop (l1.length * aX τ + news.length)).toArray)) (flat τ (l1++l2)) (iW++news) :=
     ei.mono fun _ _ _ _ dw=>dw.step Aq (fun k hk e=>.inr ⟨id1,nK,by rw [e]; exact hb⟩) Aa
    rw [show l1.length + l2.length = (l1++l2).length from by simp]
    refine oD (by simp [ay]) (setRow_heap w g cur _ e' _ hh) (by simpa using lO) y7 ?_ mm (fun j x hx=>?_)
    ·simp only [List.size_toArray,List.length_append,List.length_take,List.length_drop,Ib]
     rw [<- cZ]
     omega
    ·rw [<- Qo]
     rw [List.getElem?_toArray,List.getElem?_append_left (by have:=(List.getElem?_eq_some_iff.1 hx).1; exact this)]
     exact hx
 ·-- a new array
  obtain ⟨z,hz,bu⟩:=pg.2 (by omega)
  have BU:z.cells.size = aX τ:=by rw [hz]; simp [IC,bO]
  have Cr:=grownCap_ge w (l1.length + l2.length) cap e
  have y7:=grownCap_le_maxLen w (l1.length + l2.length) cap e Mq
  have Aq:ca (fun _=>False) w (w.drew.alloc (.cells (iW.toArray++news.toArray++Builtin.zeroCells z.cells (grownCap w (l1.length + l2.length) cap e - (l1.length + l2.length))) e)) :=
   (ca.drew w).trans (ca.alloc w.drew _) (fun _ _ h=>h)
  suffices Zn:∀ O':Nat->Prop,(∀ k,k < w.heap.size->O' k->Own X s β k)->aU (ay β d (some w.heap.size)) O' (w.drew.alloc (.cells (iW.toArray++news.toArray++Builtin.zeroCells z.cells (grownCap w (l1.length + l2.length) cap e - (l1.length + l2.length))) e)) d τ (l1++l2) (.slice (some ⟨w.heap.size,0,none⟩) (l1.length + l2.length) (grownCap w (l1.length + l2.length) cap e)) from
   ⟨_,_,ay β d (some w.heap.size),bu,hI.qF (Ow:=fun _=>False) hd bB Aq (fun _ h=>h.elim) (fun g' kL=>by injection kL with kL; subst kL; exact ⟨by simp,.inr (Nat.le_refl _)⟩) Zn,
    .inr fun hnd=>hI.qF (Ow:=fun _=>False) hd (fun h=>absurd h hnd) Aq (fun _ h=>h.elim) (fun g' kL=>by injection kL with kL; subst kL; exact ⟨by simp,.inr (Nat.le_refl _)⟩) Zn⟩
  intro O' Aa
  ·rw [show l1.length + l2.length = (l1++l2).length from by simp] at Cr y7 ⊢
   have mm:=ei.mono (R':=Im O' (w.drew.alloc (.cells (iW.toArray++news.toArray++Builtin.zeroCells z.cells (grownCap w (l1++l2).length cap e - (l1++l2).length)) e))) fun _ _ _ _ dw =>
    dw.step (Ow:=fun _=>False) ((ca.drew w).trans (ca.alloc w.drew _) (fun _ _ h=>h)) (fun k _ h=>h.elim) Aa
   refine oD (by simp [ay]) (heap_alloc_new w.drew _) Cr y7 ?_ mm (fun j x hx=>?_)
   ·simp only [Array.size_append,List.size_toArray,size_zeroCells,BU,UH,QC]
    rw [<- Nat.add_mul,<- Nat.add_mul]
    congr 1
    simp only [List.length_append] at Cr ⊢
    omega
   ·have hj:j < (iW++news).length:=(List.getElem?_eq_some_iff.1 hx).1
    rw [Array.getElem?_append_left (by simpa using hj)]
    simpa using hx

theorem aU.pre {β:Nat->Option Nat} {O:Nat->Prop} {w:World} {id c:Nat} {τ:Ty} {l m:List (den τ)} {A:Option Addr} (h:aU β O w id τ (l++m) (.slice A (l++m).length c)):aU β O w id τ l (.slice A l.length c):=by
 rcases h with ⟨h1,h2,h3⟩ | ⟨g,c',cur,e,h1,h2,h3,h4,h5,h6,h7⟩
 ·obtain ⟨rfl,rfl⟩:=List.append_eq_nil_iff.1 h1
  exact .inl ⟨rfl,h2,h3⟩
 ·injection h2 with e1 _ e3
  subst e1 e3
  refine .inr ⟨g,c,cur,e,h1,rfl,h3,by rw [List.length_append] at h4; omega,h5,h6,fun i x j av hx ck=>h7 i x j av ?_ ck⟩
  rw [List.getElem?_append_left (List.getElem?_eq_some_iff.1 hx).1]
  exact hx
theorem kQ {d:Nat} {u:Value} (h:a.tmps.getD d undef = u) (hd:d < a.tmps.size):a.put (some d) u = a:=by
 subst h
 simp only [Act.put]
 congr 1
 apply Array.ext_getElem?
 intro i
 rw [Array.getElem?_setIfInBounds]
 split
 ·rename_i e; subst e; rw [Array.getElem?_eq_getElem hd]; simp
 ·rfl
theorem EU (hI : ao W0 F X N s β a w) {t e t' e0 : TypeId} {te : TI} (ht : P.underlying t = some (.slice e)) (wT : P.underlying t' = some (.slice e0)) (gO : te.ok P e) {τ : Ty} (bO : te.cells = aX τ) (IC : te.zero.length = te.cells) (ty : TypeId)
  {id d q:Nat} (hd:d < N) (hq:q < N) (da:d≠q) (bB:¬ Nm s d) {l1 l2:List (den τ)} {u2:Value} (hp:look s.aj q = .ob id id (.ln τ l1)) (h2:zf P (Own X s β) w τ l2 u2)
  (n9:(l1.length + l2.length) * te.bytes<=140737488355328) (Mq:l1.length + l2.length<=maxLen) :
  ∃ u w' bJ,(Builtin.append_ #[t,t'] ty #[a.tmps.getD q undef,u2]).run P w = .ok u w'/\(ao W0 F X N (((s.kill d).put d (.vec d τ (l1++l2))).put d (.ob d d (.ln τ (l1++l2)))) bJ (a.put (some d) u) w' \/
   ao W0 F X N ((((s.kill id).put d (.vec d τ (l1++l2))).put d (.ob d d (.ln τ (l1++l2)))).put q (.ob d d (.ln τ l1))) bJ (a.put (some d) u) w'):=by
 have nK:Nm s id:=.inr (.inl ⟨q,by rw [hp]; simp [ids,aw]⟩)
 have hv:=hI.aj q
 rw [hp] at hv
 obtain ⟨u,w',bJ,h1,h3,h4⟩:=sS hI ht wT gO bO IC ty hd (fun h=>absurd h bB) (.inr ⟨nK,(show β id = β id/\aU β (Own X s β) w id τ l1 _ from hv).2⟩) h2 n9 Mq
 refine ⟨u,w',bJ,h1,?_⟩
 have Lv:(a.put (some d) u).tmps.getD d undef = u:=by rw [eM a d u (by rw [hI.size]; exact hd),if_pos rfl]
 have Y0:∀ s1:St,ao W0 F X N (s1.put d (.vec d τ (l1++l2))) bJ (a.put (some d) u) w'->ao W0 F X N ((s1.put d (.vec d τ (l1++l2))).put d (.ob d d (.ln τ (l1++l2)))) bJ (a.put (some d) u) w':=fun s1 h3=>by
  have hr:=h3.aj d
  rw [Lv,show look (s1.put d (.vec d τ (l1++l2))).aj d = .vec d τ (l1++l2) by simp [St.put,bI]] at hr
  have h5:=h3.put (v:=.ob d d (.ln τ (l1++l2))) hd (show Rel bJ _ w' (.ob d d (.ln τ (l1++l2))) u from ⟨rfl,hr⟩) (fun n hn=>.inr (.inl ⟨d,by
   have:n = d:=by simpa [ids,aw] using hn
   subst this
   simp [St.put,bI,ids,aw]⟩))
  rw [kQ Lv (by rw [h3.size]; exact hd)] at h5
  exact h5
 rcases h4 with ⟨A,c,e1,e2⟩ | h4
 ·right
  have h3:=Y0 _ h3
  have GG:(a.put (some d) u).tmps.getD q undef = .slice A l1.length c:=by rw [eM a d u (by rw [hI.size]; exact hd),if_neg da]; exact e1
  have hr:=h3.aj d
  rw [Lv,e2,show look (((s.kill id).put d (.vec d τ (l1++l2))).put d (.ob d d (.ln τ (l1++l2)))).aj d = .ob d d (.ln τ (l1++l2)) by simp [St.put,bI]] at hr
  have h5:=h3.put (v:=.ob d d (.ln τ l1)) hq (show Rel bJ _ w' (.ob d d (.ln τ l1)) (.slice A l1.length c) from ⟨rfl,aU.pre (show bJ d = bJ d/\aU bJ _ w' d τ (l1++l2) _ from hr).2⟩) (fun n hn=>.inr (.inl ⟨d,by
   have:n = d:=by simpa [ids,aw] using hn
   subst this
   simp [St.put,bI,ids,aw]⟩))
  rw [kQ GG (by rw [h3.size]; exact hq)] at h5
  exact h5
 ·exact .inl (Y0 _ (h4 bB))

theorem KY {O : Nat -> Prop} {w : World} {g k : Nat} {τ : Ty} {l : List (den τ)} {cur : Array Value} {e' : TypeId} (hh : w.heap[g]? = some (.cells cur e' (0, 0))) (hk : k<=l.length)
  (Cw:All2 (Im O w) (flat τ l) (cur.toList.take (l.length * aX τ))) :
  All2 (Im O w) (flat τ (l.drop k)) ((cur.toList.take (l.length * aX τ)).drop (k * aX τ)) /\
   ∀ w':World,w'.heap = w.heap->(loadCells ⟨g,k * aX τ,none⟩ ((l.length - k) * aX τ)).run P w' = .ok ((cur.toList.take (l.length * aX τ)).drop (k * aX τ)).toArray w':=by
 have GD:(flat τ (l.take k)).length = k * aX τ:=by rw [cx,List.length_take,Nat.min_eq_left hk]
 have kn:flat τ l = flat τ (l.take k)++flat τ (l.drop k):=by rw [<- ka,List.take_append_drop]
 have hlen:(cur.toList.take (l.length * aX τ)).length = l.length * aX τ:=by rw [<- Cw.1,cx]
 refine ⟨⟨by rw [List.length_drop,hlen,cx,List.length_drop,Nat.sub_mul],fun j av u ck hu=>?_⟩,fun w' hw=>?_⟩
 ·rw [List.getElem?_drop] at hu
  refine Cw.2 (k * aX τ + j) av u ?_ hu
  rw [kn,List.getElem?_append_right (by omega),GD,Nat.add_sub_cancel_left]
  exact ck
 ·have := fO P w' g (k * aX τ) ((cur.toList.take (l.length * aX τ)).drop (k * aX τ)) (fun j x hx => by
   rw [cell_of_row w' g _ cur e' (0,0) (by rw [hw]; exact hh)]
   rw [List.getElem?_drop,List.getElem?_take] at hx
   split at hx
   ·simpa using hx
   ·cases hx)
  rw [List.length_drop,hlen,<- Nat.sub_mul] at this
  exact this

theorem BY (hI : ao W0 F X N s β a w) {t e t' e0 : TypeId} {te : TI} (ht : P.underlying t = some (.slice e)) (wT : P.underlying t' = some (.slice e0)) (gO : te.ok P e) {τ : Ty} (bO : te.cells = aX τ) (IC : te.zero.length = te.cells) (ty : TypeId)
  {id1 d:Nat} (hd:d < N) (bB:Nm s d->d = id1) {l1 l2:List (den τ)} {k:Nat} {u1 u2:Value}
  (nK:Nm s id1) (h1:lZ β (Own X s β) w id1 τ l1 k u1) (h2:Im (Own X s β) w (.rd τ l2) u2)
  (n9:(l1.length - k + l2.length) * te.bytes<=140737488355328) (Mq:l1.length - k + l2.length<=maxLen) :
  ∃ u w' bJ pre,pre.length<=k/\(Builtin.append_ #[t,t'] ty #[u1,u2]).run P w = .ok u w'/\ao W0 F X N ((s.kill id1).put d (.vs d τ (pre++(l1.drop k++l2)) pre.length)) bJ (a.put (some d) u) w':=by
 obtain ⟨A2,c2,news,rfl,wP,Io,UC⟩:=fA h2
 have Xa:0 < aX τ:=gq τ
 obtain ⟨hk,v',hv,Iy⟩:=h1
 have QC:news.length = l2.length * aX τ:=by rw [<- wP.1,cx]
 -- the PD slice
 have hold : ∃ A cap iW, u1 = .slice A (l1.length - k) cap /\ All2 (Im (Own X s β) w) (flat τ (l1.drop k)) iW /\ l1.length - k<=cap /\
   (∀ w':World,w'.heap = w.heap->(Builtin.firstCells (aX τ) (l1.length - k) u1).run P w' = .ok iW.toArray w') /\
   (cap = 0\/∃ g c cur e',0 < cap/\cap = c - k/\A = some ⟨g,k * aX τ,none⟩/\β id1 = some g/\w.heap[g]? = some (.cells cur e' (0,0))/\l1.length<=c/\c<=maxLen/\cur.size = c * aX τ/\All2 (Im (Own X s β) w) (flat τ l1) (cur.toList.take (l1.length * aX τ))):=by
  rcases hv with ⟨rfl,rfl,_⟩ | ⟨g,c,cur,e',p1,rfl,p3,p4,p5,p6,p7⟩
  ·rcases Iy with ⟨rfl,rfl⟩ | ⟨g,n,c,ad,h3,_⟩
   ·exact ⟨none,0,[],rfl,All2.nil _,Nat.le_refl _,fun w' _=>by simp [Builtin.firstCells],.inl rfl⟩
   ·cases h3
  ·have hc:=qZ p6 p4 p7
   obtain ⟨Ta,UR⟩:=KY (P:=P) p3 hk hc
   rcases Iy with ⟨rfl,rfl⟩ | ⟨g',n,c',ad,h3,rfl,h5⟩
   ·refine ⟨_,c,_,rfl,Ta,by omega,fun w' hw=>?_,?_⟩
    ·have:=UR w' hw
     simp only [Builtin.firstCells,Nat.zero_mul,Nat.sub_zero] at this ⊢
     exact this
    ·by_cases sn:c = 0
     ·exact .inl sn
     ·exact .inr ⟨g,c,cur,e',by omega,rfl,by rw [Nat.zero_mul],p1,p3,p4,p5,p6,hc⟩
   ·cases h3
    by_cases MG:k < c
    ·have WV:=h5 MG
     subst WV
     refine ⟨_,c - k,_,rfl,Ta,by omega,fun w' hw=>?_,.inr ⟨g,c,cur,e',by omega,rfl,rfl,p1,p3,p4,p5,p6,hc⟩⟩
     have:=UR w' hw
     simp only [Builtin.firstCells]
     exact this
    ·refine ⟨_,c - k,_,rfl,Ta,by omega,fun w' hw=>?_,.inl (by omega)⟩
     have hz:l1.length - k = 0:=by omega
     have ID:(List.drop (k * aX τ) (List.take (l1.length * aX τ) cur.toList)) = []:=by
      refine List.drop_eq_nil_of_le ?_
      rw [List.length_take]
      exact Nat.le_trans (Nat.min_le_left _ _) (Nat.mul_le_mul_right _ (by omega))
     rw [hz,ID]
     simp [Builtin.firstCells,loadCells,loadCellsFrom]
 obtain ⟨A,cap,iW,rfl,S8,UF,UG,XI⟩:=hold
 have UH:iW.length = (l1.length - k) * aX τ:=by rw [<- S8.1,cx,List.length_drop]
 have pg:=mJ (w:=w) ht wT gO bO ty UG UC n9 Mq
 by_cases lO:l1.length - k + l2.length<=cap
 ·by_cases he:l2 = []
  ·-- nothing
   subst he
   have GF:news = []:=List.eq_nil_of_length_eq_zero (by simpa using QC)
   subst GF
   refine ⟨_,w,ay β d (β id1),l1.take k,by rw [List.length_take]; omega,pg.1 lO w (by cases A<;>simp [storeCells]),?_⟩
   refine hI.AN (Ow:=fun _=>False) hd bB (ca.refl _ _) (fun _ h=>h.elim) (fun g hg=>⟨(hI.own id1 g nK hg).1,.inl ⟨nK,hg⟩⟩) (by simp [ids,aw]) (fun O' Aa=>?_)
   rw [List.append_nil,List.take_append_drop,List.length_take,Nat.min_eq_left hk]
   refine ⟨hk,v',?_,Iy⟩
   rcases hv with ⟨p1,p2,p3⟩ | ⟨g,c,cur,e',p1,p2,p3,p4,p5,p6,p7⟩
   ·exact .inl ⟨p1,p2,by simp [ay,p3]⟩
   ·refine .inr ⟨g,c,cur,e',by simp [ay,p1],p2,p3,p4,p5,p6,fun i x j av hx ck=>?_⟩
    obtain ⟨u,hu,dw⟩:=p7 i x j av hx ck
    exact ⟨u,hu,dw.step (Ow:=fun _=>False) (ca.refl _ _) (fun _ _ h=>h.elim) Aa⟩
  ·have oa:0 < l2.length:=List.length_pos_iff.2 he
   rcases XI with h0 | ⟨g,c,cur,e',Zx,rfl,rfl,hb,hh,S5,y7,cZ,Qo⟩
   ·omega
   ·-- in place
    have Ib:cur.toList.length = cur.size:=Array.length_toList
    have tS:l1.length * aX τ + 0 + news.length<=cur.size:=by rw [QC,cZ,Nat.add_zero,<- Nat.add_mul]; exact Nat.mul_le_mul_right _ (by omega)
    have hst:=run_storeCells_at P g (l1.length * aX τ) e' news 0 cur w hh tS Io
    simp only [Nat.add_zero] at hst
    have WW:k * aX τ + (l1.length - k) * aX τ = l1.length * aX τ:=by rw [<- Nat.add_mul]; congr 1; omega
    have bu:=pg.1 lO _ (by simp only [dm,WW]; exact hst)
    refine ⟨_,_,ay β d (some g),l1.take k,by rw [List.length_take]; omega,bu,?_⟩
    refine hI.AN (Ow:=fun k=>k = g) hd bB (ca.setRow w g _) (fun k hk=>⟨nK,by rw [hk]; exact hb⟩) (fun g' kL=>?_) (by simp [ids,aw]) (fun O' Aa=>?_)
    ·injection kL with kL; subst kL
     exact ⟨by have:=(hI.own id1 g nK hb).1; simpa [World.setRow] using this,.inl ⟨nK,hb⟩⟩
    ·have Aq:=ca.setRow w g (cur.toList.take (l1.length * aX τ)++news++cur.toList.drop (l1.length * aX τ + news.length)).toArray
     have ei:All2 (Im (Own X s β) w) (flat τ (l1++l2)) (cur.toList.take (l1.length * aX τ)++news):=by rw [ka]; exact Qo.append wP
     have mm:All2 (Im O' (w.setRow g (cur.toList.take (l1.length * aX τ)++news++cur.toList.drop (l1.length * aX τ + news.length)).toArray)) (flat τ (l1++l2)) (cur.toList.take (l1.length * aX τ)++news) :=
      ei.mono fun _ _ _ _ dw=>dw.step Aq (fun k hk e=>.inr ⟨id1,nK,by rw [e]; exact hb⟩) Aa
     rw [<- List.append_assoc,List.take_append_drop,List.length_take,Nat.min_eq_left hk]
     refine ⟨by simp only [List.length_append]; omega,.slice (some ⟨g,0,none⟩) (l1++l2).length c,?_,.inr ⟨g,_,c,_,rfl,?_,fun _=>rfl⟩⟩
     ·refine oD (by simp [ay]) (setRow_heap w g cur _ e' _ hh) (by simp only [List.length_append]; omega) y7 ?_ mm (fun j x hx=>?_)
      ·simp only [List.size_toArray,List.length_append,List.length_take,List.length_drop,Ib]
       rw [<- cZ]
       omega
      ·rw [List.getElem?_toArray,List.getElem?_append_left (by have:=(List.getElem?_eq_some_iff.1 hx).1; exact this)]
       exact hx
     ·simp only [List.length_append]
      congr 1
      omega
 ·-- a new array
  obtain ⟨z,hz,bu⟩:=pg.2 (by omega)
  have BU:z.cells.size = aX τ:=by rw [hz]; simp [IC,bO]
  have Cr:=grownCap_ge w (l1.length - k + l2.length) cap e
  have y7:=grownCap_le_maxLen w (l1.length - k + l2.length) cap e Mq
  refine ⟨_,_,ay β d (some w.heap.size),[],Nat.zero_le _,bu,?_⟩
  have Aq:ca (fun _=>False) w (w.drew.alloc (.cells (iW.toArray++news.toArray++Builtin.zeroCells z.cells (grownCap w (l1.length - k + l2.length) cap e - (l1.length - k + l2.length))) e)) :=
   (ca.drew w).trans (ca.alloc w.drew _) (fun _ _ h=>h)
  have ei:All2 (Im (Own X s β) w) (flat τ (l1.drop k++l2)) (iW++news):=by rw [ka]; exact S8.append wP
  refine hI.AN (Ow:=fun _=>False) hd bB Aq (fun _ h=>h.elim) (fun g' kL=>?_) (by simp [ids,aw]) (fun O' Aa=>?_)
  ·injection kL with kL; subst kL
   exact ⟨by simp,.inr (Nat.le_refl _)⟩
  ·rw [List.nil_append,List.length_nil]
   refine ⟨Nat.zero_le _,_,?_,.inl ⟨rfl,rfl⟩⟩
   rw [show l1.length - k + l2.length = (l1.drop k++l2).length from by simp] at Cr y7 ⊢
   have mm:=ei.mono (R':=Im O' (w.drew.alloc (.cells (iW.toArray++news.toArray++Builtin.zeroCells z.cells (grownCap w (l1.drop k++l2).length cap e - (l1.drop k++l2).length)) e))) fun _ _ _ _ dw =>
    dw.step (Ow:=fun _=>False) ((ca.drew w).trans (ca.alloc w.drew _) (fun _ _ h=>h)) (fun k _ h=>h.elim) Aa
   refine oD (by simp [ay]) (heap_alloc_new w.drew _) Cr y7 ?_ mm (fun j x hx=>?_)
   ·simp only [Array.size_append,List.size_toArray,size_zeroCells,BU,UH,QC]
    rw [<- Nat.add_mul,<- Nat.add_mul]
    congr 1
    simp only [List.length_append,List.length_drop] at Cr ⊢
    omega
   ·have hj:j < (iW++news).length:=(List.getElem?_eq_some_iff.1 hx).1
    rw [Array.getElem?_append_left (by simpa using hj)]
    simpa using hx
end
end Go.SX
end
section
namespace Go.SX
variable [Globs]
section
variable {P:Program} {N:Nat} {Γ:Ctx} {W0:World} {F:Fr} {X:Nat->Prop} {s:St} {β:Nat->Option Nat} {a:Act} {w:World}

theorem zT (v : List Value) : ∀ (k off : Nat) (cs : Array Value), off + k + v.length<=cs.size ->
  (v.zipIdx k).foldl (fun (cs:Array Value) (x:Value × Nat)=>cs.setIfInBounds (off + x.2) x.1) cs = (cs.toList.take (off + k)++v++cs.toList.drop (off + k + v.length)).toArray:=by
 induction v with
 | nil=>intro k off cs h; simp
 | cons x r ih =>
  intro k off cs h
  simp only [List.length_cons] at h
  simp only [List.zipIdx_cons,List.foldl_cons]
  rw [ih (k + 1) off _ (by simp; omega)]
  apply Array.ext'
  simp only [Array.toList_setIfInBounds]
  apply List.ext_getElem?
  intro j
  have hl:(cs.toList.take (off + k)).length = off + k:=by simp; omega
  have oa:((cs.toList.set (off + k) x).take (off + (k + 1))).length = off + k + 1:=by simp; omega
  by_cases h1:j < off + k
  ·rw [List.append_assoc,List.append_assoc,List.getElem?_append_left (by omega),List.getElem?_append_left (by omega)]
   rw [List.getElem?_take,List.getElem?_take,if_pos (by omega),if_pos h1,List.getElem?_set_ne (by omega)]
  ·by_cases h2:j = off + k
   ·subst h2
    rw [List.append_assoc,List.append_assoc,List.getElem?_append_left (by omega),List.getElem?_append_right (l₁:=cs.toList.take (off + k)) (by omega),hl,Nat.sub_self]
    rw [List.getElem?_take,if_pos (by omega),List.getElem?_set_self (by simp; omega)]
    rfl
   ·rw [List.append_assoc,List.append_assoc,List.getElem?_append_right (l₁:=(cs.toList.set (off + k) x).take (off + (k + 1))) (by omega),oa,List.getElem?_append_right (l₁:=cs.toList.take (off + k)) (by omega),hl]
    have e1:j - (off + k + 1) + 1 = j - (off + k):=by omega
    rw [<- e1]
    simp only [List.cons_append,List.getElem?_cons_succ]
    by_cases h3:j - (off + k + 1) < r.length
    ·rw [List.getElem?_append_left h3,List.getElem?_append_left h3]
    ·rw [List.getElem?_append_right (by omega),List.getElem?_append_right (by omega),List.getElem?_drop,List.getElem?_drop,List.getElem?_set_ne (by omega)]
     congr 1
     simp only [List.length_cons]
     omega
theorem x2 (v cs : Array Value) (off : Nat) (h : off + v.size<=cs.size) :
  v.zipIdx.foldl (fun (cs:Array Value) (x:Value × Nat)=>cs.setIfInBounds (off + x.2) x.1) cs = (cs.toList.take off++v.toList++cs.toList.drop (off + v.size)).toArray:=by
 have:=zT v.toList 0 off cs (by simpa using h)
 rw [<- Array.foldl_toList,Array.toList_zipIdx]
 simpa using this

def nP (Q1:Nat->(Nat × Nat->Prop)->Prop):List AV->List (Nat × AV)->(List AV->Prop)->Prop
 | cells,[],K=>K cells
 | cells,(i,v)::r,K=>Q1 i fun d=>l7 v fun cs=>aC (Nat.beq cs.length d.2) (gH cells d.1 cs fun cells=>nP Q1 cells r K)
def kq (s:St):List (Nat × Operand)->(List (Nat × AV)->Prop)->Prop
 | [],K=>K []
 | (i,x)::r,K=>bG s x fun v=>kq s r fun l=>K ((i,v)::l)
def parts (s:St):List (Nat × Operand)->List (Nat × AV)
 | []=>[]
 | (i,x)::r=>(i,ev s x)::parts s r
theorem gi (s:St) (l:List (Nat × Operand)):∀ K,kq s l K = K (parts s l):=by
 induction l with
 | nil=>intro K; rfl
 | cons p r ih=>intro K; obtain ⟨i,x⟩:=p; simp only [kq,parts,aE,ih]
def dC (s:St):List (Nat × Operand)->List Nat
 | []=>[]
 | (_,x)::r=>match ev s x with
  | .vec id _ _=>id::dC s r
  | .vs id _ _ _=>id::dC s r
  | _=>dC s r
def eY (s:St):List (Nat × Operand)->(List Nat->Prop)->Prop
 | [],K=>K []
 | (_,x)::r,K=>bG s x fun v=>match v with
  | .vec id _ _=>eY s r fun l=>K (id::l)
  | .vs id _ _ _=>eY s r fun l=>K (id::l)
  | _=>eY s r K
theorem ek (s:St) (l:List (Nat × Operand)):∀ K,eY s l K = K (dC s l):=by
 induction l with
 | nil=>intro K; rfl
 | cons p r ih =>
  intro K
  obtain ⟨i,x⟩:=p
  have h1:eY s ((i,x)::r) K = (match ev s x with
   | .vec id _ _=>eY s r fun l=>K (id::l)
   | .vs id _ _ _=>eY s r fun l=>K (id::l)
   | _=>eY s r K):=by
   show bG s x _ = _
   rw [aE]
  have h2:dC s ((i,x)::r) = (match ev s x with
   | .vec id _ _=>id::dC s r
   | .vs id _ _ _=>id::dC s r
   | _=>dC s r):=rfl
  rw [h1,h2]
  cases ev s x<;>simp [ih]
theorem ao.cA (h:ao W0 F X N s β a w):∀ l,ao W0 F X N (cA l s) β a w:=by
 intro l
 induction l generalizing s with
 | nil=>exact h
 | cons n r ih=>exact ih (h.cy n)

theorem sf (hI : ao W0 F X N s β a w) {Q1 : Nat -> (Nat × Nat -> Prop) -> Prop} {place : Nat -> Option (Nat × Nat)} (sq : ∀ i K, Q1 i K -> ∃ d, place i = some d /\ K d) (ps : List (Nat × Operand)) :
  ∀ (cells:List AV) (us:Array Value) (K:List AV->Prop),All2 (iP β (Own X s β) w) cells us.toList->(∀ c ∈ cells,∀ n ∈ ids c,Nm s n)->nP Q1 cells (parts s ps) K ->
   ∃ cells' us',K cells'/\Instr.fill place us (ps.map fun p=>(p.1,a.eval p.2)) = some us'/\All2 (iP β (Own X s β) w) cells' us'.toList/\(∀ c ∈ cells',∀ n ∈ ids c,Nm s n)/\us'.size = us.size:=by
 induction ps with
 | nil=>intro cells us K h bt hK; exact ⟨cells,us,hK,rfl,h,bt,rfl⟩
 | cons p r ih =>
  intro cells us K h bt hK
  obtain ⟨i,x⟩:=p
  obtain ⟨d,hd,hK⟩:=sq i _ (show Q1 i fun d=>l7 (ev s x) fun cs=>aC (Nat.beq cs.length d.2) (gH cells d.1 cs fun cells=>nP Q1 cells (parts s r) K) from hK)
  obtain ⟨cs,hK,h1,h2,h3⟩:=oY (aF hI x).1 (aF hI x).2 hK
  obtain ⟨bO,hK⟩:=(af _ _).1 hK
  obtain ⟨hle,hK⟩:=rK _ _ _ _ hK
  have hlen:cs.length = (a.eval x).cells.size:=by rw [h1.1]; simp
  have Uw:cells.length = us.size:=by rw [h.1]; simp
  have Ue:(a.eval x).cells.size = d.2:=by rw [<- hlen]; exact Nat.eq_of_beq_eq_true bO
  have tS:d.1 + (a.eval x).cells.size<=us.size:=by rw [<- hlen,<- Uw]; exact hle
  have rU:All2 (iP β (Own X s β) w) (cells.take d.1++cs++cells.drop (d.1 + cs.length)) (us.toList.take d.1++(a.eval x).cells.toList++us.toList.drop (d.1 + (a.eval x).cells.size)).toArray.toList:=by
   have:=All2.yO h h1 d.1 hle
   simpa using this
  obtain ⟨cells',us',k1,k2,k3,k4,k5⟩:=ih _ _ K rU (fun c hc n hn=>by
   rcases List.mem_append.1 hc with hc | hc
   ·rcases List.mem_append.1 hc with hc | hc
    ·exact bt c (List.mem_of_mem_take hc) n hn
    ·exact h2 c hc n hn
   ·exact bt c (List.mem_of_mem_drop hc) n hn) hK
  have Zl:us.toList.length = us.size:=Array.length_toList
  refine ⟨cells',us',k1,?_,k3,k4,?_⟩
  ·have hcond : ((a.eval x).cells.size != d.2 || decide (us.size < d.1 + (a.eval x).cells.size)) = false := by
    simp [Ue]; omega
   have W6:((a.eval x).cells.size != d.2 || decide (d.1 + (a.eval x).cells.size > us.size)) = false:=hcond
   simp only [List.map_cons,Instr.fill,hd]
   rw [if_neg (by
    simp only [ne_eq,Bool.or_eq_true,decide_eq_true_eq,Ue,not_true_eq_false,false_or]
    omega),x2 _ _ _ tS]
   exact k2
  ·rw [k5]
   simp only [List.size_toArray,List.length_append,List.length_take,List.length_drop,Zl,Array.length_toList]
   omega
end
end Go.SX
end
section
namespace Go.SX
variable [Globs]
section
variable {P:Program} {N:Nat} {Γ:Ctx} {W0:World} {F:Fr} {X:Nat->Prop} {s:St} {β:Nat->Option Nat} {a:Act} {w:World}

theorem om {fs : List Field} (h : ∀ f ∈ fs, je P f = true) (w : World) :
  (fs.mapM (fun f=>do pure (f.offset,<- sizeOf f.type):Field->Sem (Nat × Nat))).run P w = .ok (fs.map fun f=>(f.offset,P.cellsOf f.type)) w:=by
 induction fs with
 | nil=>rfl
 | cons f r ih =>
  obtain ⟨_,⟨i,hi⟩,_⟩:=ll (h f (List.mem_cons_self ..))
  have h1:(sizeOf f.type).run P w = .ok (P.cellsOf f.type) w:=by simp [sizeOf,typeInfo,hi,Program.cellsOf]
  have h2:=ih fun g hg=>h g (List.mem_cons_of_mem _ hg)
  rw [List.mapM_cons]
  simp only [Sem.run_bind,h1,Result.andThen_ok,Sem.run_pure] at h2 ⊢
  rw [h2]
  rfl

def jX (Γ:Ctx) (N:Nat) (s:St) (t:TypeId) (ps:List (Nat × Operand)) (dst:Option Nat) (K:St->Prop):Prop :=
 eY s ps fun ids=>dP ids s fun s=>cp Γ t fun ti=>ew ti.desc fun fl=>eW ti.zero fun z=>kq s ps fun l=>nP (dp fl) z l fun cs=>cU cs fun cs=>al N s dst (.agg cs) K

theorem E1 (aY : Γ.ok P) (fx : ∀ p ∈ Γ, ∀ v ∈ p.2.zero, v.oneCell' = true) (hI : ao W0 F X N s β a w) {o : Oper} {t : TypeId} {ps : Array (Nat × Operand)} (ho : o.op = .build t ps) {K : St -> Prop} (h : jX Γ N s t ps.toList o.dst K)
  {next:Act->World->Prop} {Q:Exit->Act->World->Prop} (hn:∀ s' a' w',K s'->Inv W0 F X N s' a' w'->next a' w'):o.wp P a w next Q:=by
 unfold jX at h
 rw [ek,dL] at h
 have dg:=hI.cA (dC s ps.toList)
 obtain ⟨ti,gw,h⟩:=eZ h
 have cw:=aY _ gw
 obtain ⟨fl,fs,h,hu,h3,h4⟩:=ju cw h
 rw [eF,gi] at h
 obtain ⟨z,hz,vQ⟩:=cw.zeroValue w
 have hr:All2 (iP β (Own X (cA (dC s ps.toList) s) β) w) (dW ti.zero) z.cells.toList:=by
  rw [vQ]; exact iG _ _ (fx _ gw)
 obtain ⟨cs,us,hK,hf,ba,bt,_⟩:=sf dg (place:=fun i=>fl[i]?) (fun i K h=>(bA fl i K).1 h) ps.toList _ _ _ hr (fun c hc n hn=>by rw [jN _ c hc] at hn; cases hn) h
 rw [ij] at hK
 have dw:=nr (ba.mono fun _ _ _ _ h=>h.1)
 refine BG dg (ca.refl _ _) (u:=.agg us) hK hn ?_ ?_
 ·have sq:=om (P:=P) (fs:=fs.toList) (fun f hf=>h4 f (by simpa using hf)) w
  have tW:(ps.map fun (p:Nat × Operand)=>(p.1,a.eval p.2)).toList = ps.toList.map fun p=>(p.1,a.eval p.2):=by simp
  have Wh:z.cells = ti.zero.toArray:=vQ
  simp only [execOp,ho,Instr.build,Sem.run_bind,hz,Result.andThen_ok,run_underlying hu,Array.mapM_eq_mapM_toList,Sem.run_map]
  rw [sq]
  simp only [Result.andThen_ok,tW]
  have tU:(fun x:Nat=>(List.toArray (fs.toList.map fun f=>(f.offset,P.cellsOf f.type)))[x]?) = fun i=>fl[i]?:=by
   funext i; rw [h3]; simp
  rw [tU,hf]
  simp
 ·have:us = us.toList.toArray:=by simp
  rw [this]
  refine .agg _ _ dw.1 (fun u hu=>?_) dw.2
  obtain ⟨j,hj,rfl⟩:=List.getElem_of_mem hu
  have hj':j < cs.length:=by rw [ba.1]; exact hj
  exact (ba.2 j _ _ (List.getElem?_eq_getElem hj') (List.getElem?_eq_getElem hj)).2

def xI (Γ:Ctx) (N:Nat) (s:St) (t:TypeId) (ps:List (Nat × Operand)) (dst:Option Nat) (K:St->Prop):Prop :=
 cp Γ t fun ti=>ew ti.desc fun fl=>eW ti.zero fun z=>kq s ps fun l=>nP (dp fl) z l fun cs=>match cs with
  | [.vec id τ l]=>al N s dst (.ag 0 [.vec id τ l]) K
  | _=>False
def ld (Γ:Ctx) (N:Nat) (s:St) (t:TypeId) (ps:List (Nat × Operand)) (dst:Option Nat) (K:St->Prop):Prop :=
 match ps with
 | [(_,x)]=>bG s x fun v=>match v with
  | .vec _ _ _=>cp Γ t fun ti=>match Nat.beq ti.cells 1 with
   | true=>xI Γ N s t ps dst K
   | false=>jX Γ N s t ps dst K
  | _=>jX Γ N s t ps dst K
 | _=>jX Γ N s t ps dst K
theorem xJ {t:TypeId} {ps:List (Nat × Operand)} {dst:Option Nat} {K:St->Prop} (h:ld Γ N s t ps dst K):jX Γ N s t ps dst K\/xI Γ N s t ps dst K:=by
 unfold ld at h
 split at h
 ·rw [aE] at h
  split at h
  ·obtain ⟨ti,_,h⟩:=eZ h
   split at h
   ·exact .inr h
   ·exact .inl h
  ·exact .inl h
 ·exact .inl h
theorem E3 {t:TypeId} {ps:List (Nat × Operand)} {dst:Option Nat} {K:St->Prop} (hn:dC s ps = []) (h:jX Γ N s t ps dst K):ld Γ N s t ps dst K:=by
 unfold ld
 split
 ·rename_i i x
  rw [aE]
  split
  ·rename_i id τ l e
   have:dC s [(i,x)] = [id]:=by simp [dC,e]
   rw [this] at hn; cases hn
  ·exact h
 ·exact h
theorem Hf (aY : Γ.ok P) (fx : ∀ p ∈ Γ, ∀ v ∈ p.2.zero, v.oneCell' = true) (hI : ao W0 F X N s β a w) {o : Oper} {t : TypeId} {ps : Array (Nat × Operand)} (ho : o.op = .build t ps) {K : St -> Prop} (h : ld Γ N s t ps.toList o.dst K)
  {next:Act->World->Prop} {Q:Exit->Act->World->Prop} (hn:∀ s' a' w',K s'->Inv W0 F X N s' a' w'->next a' w'):o.wp P a w next Q:=by
 rcases xJ h with h | h
 ·exact E1 aY fx hI ho h hn
 unfold xI at h
 obtain ⟨ti,gw,h⟩:=eZ h
 have cw:=aY _ gw
 obtain ⟨fl,fs,h,hu,h3,h4⟩:=ju cw h
 rw [eF,gi] at h
 obtain ⟨z,hz,vQ⟩:=cw.zeroValue w
 have hr:All2 (iP β (Own X s β) w) (dW ti.zero) z.cells.toList:=by
  rw [vQ]; exact iG _ _ (fx _ gw)
 obtain ⟨cs,us,hK,hf,ba,bt,_⟩:=sf hI (place:=fun i=>fl[i]?) (fun i K h=>(bA fl i K).1 h) ps.toList _ _ _ hr (fun c hc n hn=>by rw [jN _ c hc] at hn; cases hn) h
 split at hK
 ·rename_i id τ l
  have Cw:us = us.toList.toArray:=by simp
  obtain ⟨s', h1, h2⟩ := lE hI (u := .agg us) hK (by rw [Cw]; exact ⟨us.toList, by simp [shape], ba.mono fun j c v hc hv => by
    cases j with
    | zero=>simp at hc; subst hc; exact hv.1
    | succ j=>simp at hc,fun u hu=>by
     obtain ⟨j,hj,rfl⟩:=List.getElem_of_mem hu
     have hj':j < [AV.vec id τ l].length:=by rw [ba.1]; exact hj
     exact (ba.2 j _ _ (List.getElem?_eq_getElem hj') (List.getElem?_eq_getElem hj)).2⟩) (fun n hn=>bt (.vec id τ l) (by simp) n (by simpa [ids] using hn))
  refine eI ?_ (hn _ _ _ h1 ⟨β,h2⟩)
  have sq:=om (P:=P) (fs:=fs.toList) (fun f hf=>h4 f (by simpa using hf)) w
  have tW:(ps.map fun (p:Nat × Operand)=>(p.1,a.eval p.2)).toList = ps.toList.map fun p=>(p.1,a.eval p.2):=by simp
  have Wh:z.cells = ti.zero.toArray:=vQ
  simp only [execOp,ho,Instr.build,Sem.run_bind,hz,Result.andThen_ok,run_underlying hu,Array.mapM_eq_mapM_toList,Sem.run_map]
  rw [sq]
  simp only [Result.andThen_ok,tW]
  have tU:(fun x:Nat=>(List.toArray (fs.toList.map fun f=>(f.offset,P.cellsOf f.type)))[x]?) = fun i=>fl[i]?:=by
   funext i; rw [h3]; simp
  rw [tU,hf]
  simp
 ·exact hK.elim

def sC:AV->Bool
 | .fn _ _=>false
 | .bc _=>false
 | .ag _ _=>false
 | _=>true
theorem yA {O:Nat->Prop} {c:AV} {v:Value} (h:sC c = true) (hr:Rel β O w c v):cj β O w c v:=by cases c<;>first | exact hr | cases h
theorem Ba {c:AV} (h:sC c = true):ids c = aw c:=by cases c<;>first | rfl | cases h
def oT (Γ:Ctx) (N:Nat) (s:St) (t:TypeId) (ps:List (Nat × Operand)) (dst:Option Nat) (K:St->Prop):Prop :=
 cp Γ t fun ti=>ew ti.desc fun fl=>eW ti.zero fun z=>kq s ps fun l=>nP (dp fl) z l fun cs=>aC (cs.all sC) (al N s dst (.ag 0 cs) K)
theorem E2 (aY : Γ.ok P) (fx : ∀ p ∈ Γ, ∀ v ∈ p.2.zero, v.oneCell' = true) (hI : ao W0 F X N s β a w) {o : Oper} {t : TypeId} {ps : Array (Nat × Operand)} (ho : o.op = .build t ps) {K : St -> Prop} (h : oT Γ N s t ps.toList o.dst K)
  {next:Act->World->Prop} {Q:Exit->Act->World->Prop} (hn:∀ s' a' w',K s'->Inv W0 F X N s' a' w'->next a' w'):o.wp P a w next Q:=by
 unfold oT at h
 obtain ⟨ti,gw,h⟩:=eZ h
 have cw:=aY _ gw
 obtain ⟨fl,fs,h,hu,h3,h4⟩:=ju cw h
 rw [eF,gi] at h
 obtain ⟨z,hz,vQ⟩:=cw.zeroValue w
 have hr:All2 (iP β (Own X s β) w) (dW ti.zero) z.cells.toList:=by
  rw [vQ]; exact iG _ _ (fx _ gw)
 obtain ⟨cs,us,hK,hf,ba,bt,_⟩:=sf hI (place:=fun i=>fl[i]?) (fun i K h=>(bA fl i K).1 h) ps.toList _ _ _ hr (fun c hc n hn=>by rw [jN _ c hc] at hn; cases hn) h
 obtain ⟨ei,hK⟩:=(af _ _).1 hK
 have Zg:∀ c ∈ cs,sC c = true:=List.all_eq_true.1 ei
 have Cw:us = us.toList.toArray:=by simp
 obtain ⟨s',h1,h2⟩:=lE hI (u:=.agg us) hK (by
  rw [Cw]
  exact ⟨us.toList,by simp [shape],ba.mono fun j c v hc hv=>yA (Zg c (List.mem_of_getElem? hc)) hv.1,fun u hu=>by
   obtain ⟨j,hj,rfl⟩:=List.getElem_of_mem hu
   have hj':j < cs.length:=by rw [ba.1]; exact hj
   exact (ba.2 j _ _ (List.getElem?_eq_getElem hj') (List.getElem?_eq_getElem hj)).2⟩) (fun n hn=>by
  obtain ⟨c,hc,hm⟩:=List.mem_flatMap.1 (show n ∈ cs.flatMap aw from hn)
  exact bt c hc n (by rw [Ba (Zg c hc)]; exact hm))
 refine eI ?_ (hn _ _ _ h1 ⟨β,h2⟩)
 have sq:=om (P:=P) (fs:=fs.toList) (fun f hf=>h4 f (by simpa using hf)) w
 have tW:(ps.map fun (p:Nat × Operand)=>(p.1,a.eval p.2)).toList = ps.toList.map fun p=>(p.1,a.eval p.2):=by simp
 have Wh:z.cells = ti.zero.toArray:=vQ
 simp only [execOp,ho,Instr.build,Sem.run_bind,hz,Result.andThen_ok,run_underlying hu,Array.mapM_eq_mapM_toList,Sem.run_map]
 rw [sq]
 simp only [Result.andThen_ok,tW]
 have tU:(fun x:Nat=>(List.toArray (fs.toList.map fun f=>(f.offset,P.cellsOf f.type)))[x]?) = fun i=>fl[i]?:=by
  funext i; rw [h3]; simp
 rw [tU,hf]
 simp

def Cc (τ:Ty):Nat->List AV->Option (List (den τ))
 | 0,_=>some []
 | n + 1,cs=>(dec τ (cs.take (aX τ))).bind fun x=>(Cc τ n (cs.drop (aX τ))).bind fun r=>some (x::r)
def jU {α:Type}:Option α->(α->Prop)->Prop
 | some a,K=>K a
 | none,_=>False
theorem cn {α:Type} (x:Option α) (K:α->Prop):jU x K↔∃ a,x = some a/\K a:=by cases x<;>simp [jU]
theorem Mf {τ:Ty} {n:Nat} {cs:List AV} {l:List (den τ)} (h:Cc τ n cs = some l) (hl:cs.length = n * aX τ):eV cs (flat τ l)/\l.length = n:=by
 induction n generalizing cs l with
 | zero =>
  simp only [Cc] at h; injection h with h; subst h
  have:cs = []:=List.eq_nil_of_length_eq_zero (by simpa using hl)
  subst this
  exact ⟨trivial,rfl⟩
 | succ n ih =>
  simp only [Cc,Option.bind_eq_some_iff,Option.some.injEq] at h
  obtain ⟨x,hx,r,hr,rfl⟩:=h
  have h1:=lj hx
  obtain ⟨h2,h3⟩:=ih hr (by rw [List.length_drop,hl,Nat.succ_mul]; omega)
  refine ⟨?_,by simp [h3]⟩
  have:=eV.append h1 h2
  rw [List.take_append_drop] at this
  exact this
theorem D0 {O:Nat->Prop} {c e:AV} {u:Value} (h:Im O w c u) (hle:vJ c e):Im O w e u:=by
 rcases hle with rfl | ⟨rfl,σ,rfl⟩
 ·exact h
 ·cases h
  exact .uR σ none 0 (Nat.zero_le _)
theorem l4 {O:Nat->Prop} {cs es:List AV} {us:List Value} (h:All2 (Im O w) cs us) (hle:eV cs es):All2 (Im O w) es us:=by
 induction cs generalizing es us with
 | nil =>
  cases es with
  | nil=>exact h
  | cons _ _=>exact hle.elim
 | cons c r ih =>
  cases es with
  | nil=>exact hle.elim
  | cons e t =>
   obtain ⟨u,us',rfl,h1,h2⟩:=h.cons_inv
   exact All2.cons (D0 h1 hle.1) (ih h2 hle.2)

def xs:Nat->List AV
 | 0=>[]
 | n + 1=>.x::xs n
theorem Gv (n:Nat):(xs n).length = n:=by induction n with
 | zero=>rfl
 | succ n ih=>simp [xs,ih]
theorem Lr {n:Nat}:∀ c ∈ xs n,c = .x:=by
 induction n with
 | zero=>intro c hc; cases hc
 | succ n ih=>intro c hc; rcases List.mem_cons.1 hc with rfl | hc; exact rfl; exact ih c hc

def PM:Option Ty->(Ty->Prop)->Prop
 | some τ,K=>K τ
 | none,_=>False
theorem lM (x:Option Ty) (K:Ty->Prop):PM x K↔∃ τ,x = some τ/\K τ:=by cases x<;>simp [PM]
def sa (Γ:Ctx) (N:Nat) (s:St) (t:TypeId) (len:Nat) (ps:List (Nat × Operand)) (dst:Option Nat) (K:St->Prop):Prop :=
 eY s ps fun ids=>dP ids s fun s=>jU dst fun d=>dx d s fun s=>cp Γ t fun ti=>cW ti.desc fun e=>cp Γ e fun te=>PM te.ty fun τ =>
  aC (Nat.beq te.cells (aX τ)) (aC (Nat.ble (len * te.cells) 16777216) (kq s ps fun l=>nP (fun i K=>K (i * te.cells,te.cells)) (xs (len * te.cells)) l fun cs=>cU cs fun cs =>
   jU (Cc τ len cs) fun l=>dh d s fun s=>al N s (some d) (.vec d τ l) K))

theorem wg (aY : Γ.ok P) (fx : ∀ p ∈ Γ, (∀ v ∈ p.2.zero, v.oneCell' = true) /\ p.2.zero.length = p.2.cells) (hI : ao W0 F X N s β a w) {o : Oper} {t : TypeId} {len : Nat} {ps : Array (Nat × Operand)} (ho : o.op = .buildSlice t len ps) {K : St -> Prop}
  (h:sa Γ N s t len ps.toList o.dst K) {next:Act->World->Prop} {Q:Exit->Act->World->Prop} (hn:∀ s' a' w',K s'->Inv W0 F X N s' a' w'->next a' w'):o.wp P a w next Q:=by
 unfold sa at h
 rw [ek,dL] at h
 obtain ⟨d,hd,h⟩:=(cn _ _).1 h
 rw [cO] at h
 have dg:=(hI.cA (dC s ps.toList)).cy d
 have bB:=eu (cA (dC s ps.toList) s) d
 generalize (cA (dC s ps.toList) s).cy d = s1 at h dg bB
 obtain ⟨ti,XB,h⟩:=eZ h
 obtain ⟨e,h,hu⟩:=kV (aY _ XB) h
 obtain ⟨te,gw,h⟩:=eZ h
 have gO:=aY _ gw
 obtain ⟨τ,_,h⟩:=(lM _ _).1 h
 obtain ⟨bO,h⟩:=(af _ _).1 h
 obtain ⟨Yw,h⟩:=(af _ _).1 h
 have bO:=Nat.eq_of_beq_eq_true bO
 have Yw:=Nat.le_of_ble_eq_true Yw
 rw [gi] at h
 obtain ⟨z,hz,vQ⟩:=gO.zeroValue w
 have BU:z.cells.size = te.cells:=by rw [vQ]; simp [(fx _ gw).2]
 -- the zero cells
 have hu0:∀ n:Nat,All2 (iP β (Own X s1 β) w) (xs n) ((List.range n).map (fun i=>z.cells[i % z.cells.size]!)):=by
  intro n
  refine ⟨by simp [Gv],fun j c u hc hu=>?_⟩
  have:=Lr c (List.mem_of_getElem? hc)
  subst this
  refine ⟨Rel.x,?_⟩
  rw [List.getElem?_map,Option.map_eq_some_iff] at hu
  obtain ⟨k,_,rfl⟩:=hu
  have pj:0 < z.cells.size:=by rw [BU,bO]; exact gq τ
  have hlt:k % z.cells.size < z.cells.size:=Nat.mod_lt _ pj
  rw [getElem!_pos z.cells _ hlt]
  have Wh:∀ u ∈ z.cells,u.oneCell' = true:=by rw [vQ]; intro u hu; exact (fx _ gw).1 u (by simpa using hu)
  exact Wh _ (Array.getElem_mem hlt)
 obtain ⟨cs,us,hK,hf,ba,bt,Cw⟩:=sf dg (us:=((List.range (len * te.cells)).map (fun i=>z.cells[i % z.cells.size]!)).toArray) (place:=fun i=>some (i * te.cells,te.cells)) (fun i K h=>⟨_,rfl,h⟩) ps.toList _ _ (by simpa using hu0 (len * te.cells))
  (fun c hc n hn=>by rw [Lr c hc] at hn; cases hn) h
 rw [ij] at hK
 have dw:=nr (ba.mono fun _ _ _ _ h=>h.1)
 obtain ⟨l,hl,hK⟩:=(cn _ _).1 hK
 have UW:us.size = len * aX τ:=by rw [Cw]; simp [bO]
 obtain ⟨hle,hlen⟩:=Mf hl (by rw [dw.1]; simp [UW])
 have ei:=l4 dw hle
 rw [fi] at hK
 cases jS:Nat.blt d N with
 | false=>rw [bZ,jS] at hK; exact hK.elim
 | true =>
  rw [bZ,jS,cond_true] at hK
  rw [Nat.blt_eq] at jS
  have Xv:len<=maxLen:=by
   have pj:0 < te.cells:=by rw [bO]; exact gq τ
   have:len<=len * te.cells:=Nat.le_mul_of_pos_right _ pj
   unfold maxLen
   omega
  have fV:=dg.qF (Ow:=fun _=>False) (id1:=d) (b:=some w.heap.size) (u:=.slice (some ⟨w.heap.size,0,none⟩) len len) (τ:=τ) (l:=l) jS (fun _=>rfl) (ca.alloc w (.cells us e)) (fun _ h=>h.elim)
   (fun g hg=>by injection hg with hg; subst hg; exact ⟨by simp,.inr (Nat.le_refl _)⟩) (fun O' Aa=>by
    have mm:=ei.mono (R':=Im O' (w.alloc (.cells us e))) fun _ _ _ _ dw=>dw.step (ca.alloc w _) (fun _ _ h=>h.elim) Aa
    have:=oD (d:=d) (β:=ay β d (some w.heap.size)) (c:=len) (cur:=us) (e:=e) (by simp [ay]) (heap_alloc_new w _) (by omega) Xv UW mm (fun j u hu=>by simpa using hu)
    rw [hlen] at this
    exact this)
  refine eI (u:=.slice (some ⟨w.heap.size,0,none⟩) len len) (w':=w.alloc (.cells us e)) ?_ (by rw [hd]; exact hn _ _ _ hK ⟨_,fV⟩)
  have tW:(ps.map fun (p:Nat × Operand)=>(p.1,a.eval p.2)).toList = ps.toList.map fun p=>(p.1,a.eval p.2):=by simp
  have WE:¬ (len * te.cells > 2 ^ 24):=by omega
  simp only [execOp,ho,Instr.buildSlice,Sem.run_bind,run_underlying hu,gO.sizeOf w,Result.andThen_ok,if_neg WE]
  by_cases h0:len * te.cells = 0
  ·have e0:(List.map (fun i=>z.cells[i % z.cells.size]!) (List.range (len * te.cells))).toArray = (Array.range (len * te.cells)).map (fun i=>(#[]:Array Value)[i % (#[]:Array Value).size]!):=by rw [h0]; simp
   rw [e0] at hf
   simp only [h0,if_true,Sem.run_bind,Sem.run_pure,Result.andThen_ok,tW]
   rw [h0] at hf
   rw [hf]
   simp [newRow,newObj]
   rfl
  ·have e0 : (List.map (fun i => z.cells[i % z.cells.size]!) (List.range (len * te.cells))).toArray = (Array.range (len * te.cells)).map (fun i => z.cells[i % z.cells.size]!) := by
    apply Array.ext'; simp
   rw [e0] at hf
   simp only [h0,if_false,Sem.run_bind,hz,Sem.run_pure,Result.andThen_ok,tW]
   rw [hf]
   simp [newRow,newObj]
   rfl
end
end Go.SX
end
