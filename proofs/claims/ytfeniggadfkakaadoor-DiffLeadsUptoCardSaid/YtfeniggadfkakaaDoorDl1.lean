/-
  A part of a proof: plain laws and walks, one after the other. No conditions.
-/
import Derived.WalkKit
import Derived.Lib.DecodeN
set_option linter.constructorNameAsVariable false
set_option linter.unusedVariables false
set_option linter.unusedSimpArgs false
set_option linter.unusedSectionVars false
namespace Go
theorem aN {a b : Prop} (x : a) (y : b) : a ∧ b := ⟨x, y⟩
theorem eX.{u} {α : Sort u} {p : α → Prop} (w : α) (h : p w) : Exists p := ⟨w, h⟩
theorem bN2 {a b c : Prop} (y : c) (h1 : a := by omega) (h2 : b := by omega) : (a ∧ b) ∧ c := ⟨⟨h1, h2⟩, y⟩
theorem bX {a c : Prop} (y : c) (h : a := by first | exact ⟨by omega, by omega⟩ | exact ⟨by omega, by omega, by omega⟩) : a ∧ c := ⟨h, y⟩
theorem wK {p : Prop} (h : p := by repeat' (first | exact trivial | exact Or.inl rfl | exact Or.inr (Or.inl ⟨rfl, _, rfl⟩) | exact Or.inr (Or.inr (Or.inr ⟨_, _, _, rfl, rfl⟩)) | refine And.intro ?_ ?_)) : p := h
theorem rL {p : Prop} (h : p := by repeat' (first | exact trivial | exact Or.inl rfl | exact Or.inr ⟨rfl, _, rfl⟩ | refine And.intro ?_ ?_)) : p := h
theorem wA {p : Prop} (h : p := by first | exact trivial | exact Or.inl rfl) : p := h
theorem bN3 {a b d c : Prop} (y : c) (h1 : a := by omega) (h2 : b := by omega) (h3 : d := by omega) : (a ∧ b ∧ d) ∧ c := ⟨⟨h1, h2, h3⟩, y⟩
end Go
section
namespace Go.SX
abbrev Str:=List UInt8
def decAt (l:Str) (p:Nat):Nat × Nat:=Lib.decodeN (l.length - p) (l.getD p 0).toNat (l.getD (p + 1) 0).toNat (l.getD (p + 2) 0).toNat (l.getD (p + 3) 0).toNat
def runesF (l:Str):Nat→Nat→List Int
 | 0,_=>[]
 | f + 1,i=>if i < l.length then ((decAt l i).1:Int)::runesF l f (i + (decAt l i).2) else []
def runes (l:Str):List Int:=runesF l l.length 0

structure Part where
 kind:Int
 n:Int
 s:Str
deriving Inhabited,DecidableEq
structure Token where
 kind:Int
 fr:Int
 to:Int
deriving Inhabited,DecidableEq
structure PStep where
 key:Str
 i:Int
deriving Inhabited,DecidableEq
structure Atom where
 pos:Int
 c:Int
deriving Inhabited,DecidableEq
structure Val where
 kind:Int
 n:Int
 f:Int
 s:Str
 l:List Val
 e:List (Str × Val)
deriving Inhabited
structure Node where
 kind:Int
 fr:Int
 to:Int
 kids:List Node
deriving Inhabited
structure VPlace where
 v:Val
 above:Int
deriving Inhabited
structure Move where
 kind:Int
 p:List Str
 key:Str
 to:Str
 v:Val
deriving Inhabited
structure Link where
 fr:Int
 to:Int
 moves:List Move
deriving Inhabited

structure OpR where
 kind:Int
 p:List PStep
 v:Val
 key:Str
deriving Inhabited

structure FldP (T:Type) where
 name:Str
 opt:Bool
 hasDef:Bool
 t:T
 dflt:Val
deriving Inhabited
structure TypR where
 kind:Int
 lo:Int
 hi:Int
 texts:List Str
 t:List TypR
 f:List (FldP TypR)
 name:Str
deriving Inhabited
structure DefR where
 name:Str
 t:TypR
deriving Inhabited
structure SchemaR where
 defs:List DefR
 root:TypR
deriving Inhabited
structure TPlace where
 t:TypR
 around:Int
deriving Inhabited
structure ClientR where
 text:Str
 seen:Int
 isSent:Bool
 sent:List Part
 isHeld:Bool
 held:List Part
deriving Inhabited
structure NotedR where
 client:Int
 c:List Part
deriving Inhabited
structure MbR where
 is:Bool
 v:Val
deriving Inhabited
structure ActR where
 kind:Int
 client:Int
 c:List Part
deriving Inhabited
inductive Ty where
 | int | i64 | u32 | u64 | u8 | rune | errno | bool | str | ints | part | token | val | ent | node | pstep | psteps | atom | vplace | move | link | op | frt | typ | fld | dfn | tplace | parts | typs | bools | strs | client | rclient | noted | act | mb
deriving DecidableEq

@[reducible] def den:Ty→Type
  | .int | .i64 | .u32 | .u64 | .u8 | .rune | .errno=>Int
  | .bool=>Bool
  | .str=>Str
  | .ints=>List Int
  | .part=>Part
  | .token=>Token
  | .val=>Val
  | .ent=>Str × Val
  | .node=>Node
  | .pstep=>PStep
  | .psteps=>List PStep
  | .atom=>Atom
  | .vplace=>VPlace
  | .move=>Move
  | .link=>Link
  | .op=>OpR
  | .frt=>Str × Int
  | .typ=>TypR
  | .fld=>FldP TypR
  | .dfn=>DefR
  | .tplace=>TPlace
  | .parts=>List Part
  | .typs=>List TypR
  | .bools=>List Bool
  | .strs=>List Str
  | .client=>ClientR
  | .rclient=>ClientR
  | .noted=>NotedR
  | .act=>ActR
  | .mb=>MbR

@[reducible] def dflt:(τ:Ty)→den τ
  | .int | .i64 | .u32 | .u64 | .u8 | .rune | .errno=>(0:Int)
  | .bool=>false
  | .str=>([]:List UInt8)
  | .ints=>([]:List Int)
  | .part=>(default:Part)
  | .token=>(default:Token)
  | .val=>(default:Val)
  | .ent=>(([],default):Str × Val)
  | .node=>(default:Node)
  | .pstep=>(default:PStep)
  | .psteps=>([]:List PStep)
  | .atom=>(default:Atom)
  | .vplace=>(default:VPlace)
  | .move=>(default:Move)
  | .link=>(default:Link)
  | .op=>(default:OpR)
  | .frt=>(([],0):Str × Int)
  | .typ=>(default:TypR)
  | .fld=>(default:FldP TypR)
  | .dfn=>(default:DefR)
  | .tplace=>(default:TPlace)
  | .parts=>([]:List Part)
  | .typs=>([]:List TypR)
  | .bools=>([]:List Bool)
  | .strs=>([]:List Str)
  | .client=>(default:ClientR)
  | .rclient=>(default:ClientR)
  | .noted=>(default:NotedR)
  | .act=>(default:ActR)
  | .mb=>(default:MbR)

inductive Ob where
 | sb (T e:TypeId) (l:Str)
 | it (s:Str) (pos:Nat)
 | mp (κ τ:Ty) (es:List (den κ × den τ))
 | nw (zs:List Value)
 | vw (τ:Ty) (l:List (den τ)) (a b:Nat)
 | ln (τ:Ty) (l:List (den τ))
 | gr (L:List (List Int)) (i:Nat) (row:List Int)
 | gp (L:List (List Int)) (i:Nat) (row:List Int) (n:Nat)

def Ob.grid:Ob→Bool
 | .gr .. => true
 | .gp .. => true
 | _=>false
inductive AV where
 | i (k:IntKind) (n:Int)
 | b (x:Bool)
 | s (x:Str)
 | nl
 | rd (τ:Ty) (l:List (den τ))
 | rp (cs:List AV)
 | pt (name off:Nat)
 | vec (id:Nat) (τ:Ty) (l:List (den τ))
 | vp (id:Nat) (τ:Ty) (l:List (den τ)) (n off:Nat)
 | agg (cs:List AV)
 | tup (cs:List AV)
 | fn (f:FuncId) (caps:List AV)
 | vs (id:Nat) (τ:Ty) (l:List (den τ)) (k:Nat)
 | ag (k:Nat) (cs:List AV)
 | ob (id id2:Nat) (o:Ob)
 | np
 | er (e:Option (TypeId × Option Int))
 | x

def encVal (v:Val):List AV:=[.i .i64 v.kind,.i .i64 v.n,.i .u64 v.f,.s v.s,.rd .val v.l,.rd .ent v.e]
def encTyp (t:TypR):List AV:=[.i .i64 t.kind,.i .i64 t.lo,.i .i64 t.hi,.rd .str t.texts,.rd .typ t.t,.rd .fld t.f,.s t.name]
def encFld (f:FldP TypR):List AV:=.s f.name::.b f.opt::.b f.hasDef::encTyp f.t++encVal f.dflt
def enc:(τ:Ty)→den τ→List AV
 | .int,n=>[.i .i64 n]
 | .i64,n=>[.i .i64 n]
 | .u32,n=>[.i .u32 n]
 | .u64,n=>[.i .u64 n]
 | .u8,n=>[.i .u8 n]
 | .rune,n=>[.i .i32 n]
 | .errno,n=>[.i .i64 n]
 | .bool,x=>[.b x]
 | .str,s=>[.s s]
 | .ints,l=>[.rd .int l]
 | .part,p=>[.i .i64 p.kind,.i .i64 p.n,.s p.s]
 | .token,t=>[.i .i64 t.kind,.i .i64 t.fr,.i .i64 t.to]
 | .val,v=>encVal v
 | .ent,e=>.s e.1::encVal e.2
 | .node,n=>[.i .i64 n.kind,.i .i64 n.fr,.i .i64 n.to,.rd .node n.kids]
 | .pstep,p=>[.s p.key,.i .i64 p.i]
 | .psteps,l=>[.rd .pstep l]
 | .atom,a=>[.i .i64 a.pos,.i .u8 a.c]
 | .vplace,p=>encVal p.v++[.i .i64 p.above]
 | .move,m=>.i .i64 m.kind::.rd .str m.p::.s m.key::.s m.to::encVal m.v
 | .link,k=>[.i .i64 k.fr,.i .i64 k.to,.rd .move k.moves]
 | .op,o=>.i .i64 o.kind::.rd .pstep o.p::encVal o.v++[.s o.key]
 | .frt,p=>[.s p.1,.i .u64 p.2]
 | .typ,t=>encTyp t
 | .fld,f=>encFld f
 | .dfn,d=>.s d.name::encTyp d.t
 | .tplace,p=>encTyp p.t++[.i .i64 p.around]
 | .parts,l=>[.rd .part l]
 | .typs,l=>[.rd .typ l]
 | .bools,l=>[.rd .bool l]
 | .strs,l=>[.rd .str l]
 | .client,c=>[.s c.text,.i .i64 c.seen,.b c.isSent,.rd .part c.sent,.b c.isHeld,.rd .part c.held]
 | .rclient,c=>[.s c.text,.i .i64 c.seen,.rd .part c.sent,.rd .part c.held,.b c.isSent,.b c.isHeld]
 | .noted,n=>[.i .i64 n.client,.rd .part n.c]
 | .act,a=>[.i .i64 a.kind,.i .i64 a.client,.rd .part a.c]
 | .mb,m=>.b m.is::encVal m.v
def esz:Ty→Nat
 | .int | .i64 | .u32 | .u64 | .u8 | .rune | .errno | .bool | .str | .ints | .psteps=>1
 | .part=>3
 | .token=>3
 | .val=>6
 | .ent=>7
 | .node=>4
 | .pstep=>2
 | .atom=>2
 | .vplace=>7
 | .move=>10
 | .link=>3
 | .op=>9
 | .frt=>2
 | .typ=>7
 | .fld=>16
 | .dfn=>8
 | .tplace=>8
 | .parts | .typs | .bools | .strs=>1
 | .client=>6
 | .rclient=>6
 | .noted=>2
 | .act=>3
 | .mb=>7
theorem enc_length (τ:Ty) (x:den τ):(enc τ x).length = esz τ:=by cases τ<;>rfl
theorem esz_pos (τ:Ty):0 < esz τ:=by cases τ<;>decide

def AV.plain:AV→Bool
 | .i .. | .b .. | .s .. | .nl | .rd .. => true
 | _=>false
theorem enc_plain (τ:Ty) (x:den τ):∀ av ∈ enc τ x,av.plain = true:=by
 cases τ<;>simp [enc,encVal,encTyp,encFld,AV.plain]

def AV.list (τ:Ty):AV→Option (List (den τ))
 | .nl=>some []
 | .rd σ l=>if h:σ = τ then some (h ▸ l) else none
 | _=>none
def AV.int (k:IntKind):AV→Option Int
 | .i k' n=>if k' = k then some n else none
 | _=>none
def AV.str:AV→Option Str
 | .s l=>some l
 | _=>none
def AV.bool:AV→Option Bool
 | .b t=>some t
 | _=>none
def decVal:List AV→Option Val
 | [a,b,c,d,e,f]=>(a.int .i64).bind fun k=>(b.int .i64).bind fun n=>(c.int .u64).bind fun g=>d.str.bind fun s=>(e.list .val).bind fun l=>(f.list .ent).bind fun m=>some ⟨k,n,g,s,l,m⟩
 | _=>none
def decTyp:List AV→Option TypR
 | [a,b,c,d,e,f,g]=>(a.int .i64).bind fun k=>(b.int .i64).bind fun n=>(c.int .i64).bind fun m=>(d.list .str).bind fun s=>(e.list .typ).bind fun l=>(f.list .fld).bind fun q=>g.str.bind fun x=>some ⟨k,n,m,s,l,q,x⟩
 | _=>none
def one {α:Type} (f:AV→Option α):List AV→Option α
 | [v]=>f v
 | _=>none
def dec:(τ:Ty)→List AV→Option (den τ)
 | .int,cs=>one (AV.int .i64) cs
 | .i64,cs=>one (AV.int .i64) cs
 | .u32,cs=>one (AV.int .u32) cs
 | .u64,cs=>one (AV.int .u64) cs
 | .u8,cs=>one (AV.int .u8) cs
 | .rune,cs=>one (AV.int .i32) cs
 | .errno,cs=>one (AV.int .i64) cs
 | .bool,cs=>one AV.bool cs
 | .str,cs=>one AV.str cs
 | .ints,cs=>one (AV.list .int) cs
 | .psteps,cs=>one (AV.list .pstep) cs
 | .part,cs=>match cs with
  | [a,b,c]=>(a.int .i64).bind fun k=>(b.int .i64).bind fun n=>c.str.bind fun s=>some ⟨k,n,s⟩
  | _=>none
 | .token,cs=>match cs with
  | [a,b,c]=>(a.int .i64).bind fun k=>(b.int .i64).bind fun f=>(c.int .i64).bind fun t=>some ⟨k,f,t⟩
  | _=>none
 | .val,cs=>decVal cs
 | .ent,cs=>match cs with
  | k::cs=>k.str.bind fun k=>(decVal cs).bind fun v=>some (k,v)
  | _=>none
 | .node,cs=>match cs with
  | [a,b,c,d]=>(a.int .i64).bind fun k=>(b.int .i64).bind fun f=>(c.int .i64).bind fun t=>(d.list .node).bind fun l=>some ⟨k,f,t,l⟩
  | _=>none
 | .pstep,cs=>match cs with
  | [a,b]=>a.str.bind fun k=>(b.int .i64).bind fun n=>some ⟨k,n⟩
  | _=>none
 | .frt,cs=>match cs with
  | [a,b]=>a.str.bind fun k=>(b.int .u64).bind fun n=>some (k,n)
  | _=>none
 | .atom,cs=>match cs with
  | [a,b]=>(a.int .i64).bind fun p=>(b.int .u8).bind fun c=>some ⟨p,c⟩
  | _=>none
 | .vplace,cs=>match cs with
  | [a,b,c,d,e,f,g]=>(decVal [a,b,c,d,e,f]).bind fun v=>(g.int .i64).bind fun n=>some ⟨v,n⟩
  | _=>none
 | .typ,cs=>decTyp cs
 | .fld,cs=>match cs with
  | a::b::c::d::e::f::g::h::i::j::r=>a.str.bind fun n=>b.bool.bind fun o=>c.bool.bind fun p=>(decTyp [d,e,f,g,h,i,j]).bind fun t=>(decVal r).bind fun v=>some ⟨n,o,p,t,v⟩
  | _=>none
 | .dfn,cs=>match cs with
  | a::r=>a.str.bind fun n=>(decTyp r).bind fun t=>some ⟨n,t⟩
  | _=>none
 | .tplace,cs=>match cs with
  | [a,b,c,d,e,f,g,h]=>(decTyp [a,b,c,d,e,f,g]).bind fun t=>(h.int .i64).bind fun n=>some ⟨t,n⟩
  | _=>none
 | .parts,cs=>one (AV.list .part) cs
 | .typs,cs=>one (AV.list .typ) cs
 | .bools,cs=>one (AV.list .bool) cs
 | .strs,cs=>one (AV.list .str) cs
 | .client,cs=>match cs with
  | [a,b,c,d,e,f]=>a.str.bind fun x=>(b.int .i64).bind fun n=>c.bool.bind fun i=>(d.list .part).bind fun l=>e.bool.bind fun j=>(f.list .part).bind fun m=>some ⟨x,n,i,l,j,m⟩
  | _=>none
 | .rclient,cs=>match cs with
  | [a,b,d,f,c,e]=>a.str.bind fun x=>(b.int .i64).bind fun n=>c.bool.bind fun i=>(d.list .part).bind fun l=>e.bool.bind fun j=>(f.list .part).bind fun m=>some ⟨x,n,i,l,j,m⟩
  | _=>none
 | .noted,cs=>match cs with
  | [a,b]=>(a.int .i64).bind fun n=>(b.list .part).bind fun l=>some ⟨n,l⟩
  | _=>none
 | .act,cs=>match cs with
  | [a,b,c]=>(a.int .i64).bind fun k=>(b.int .i64).bind fun n=>(c.list .part).bind fun l=>some ⟨k,n,l⟩
  | _=>none
 | .mb,cs=>match cs with
  | a::cs=>a.bool.bind fun i=>(decVal cs).bind fun v=>some ⟨i,v⟩
  | _=>none
 | .move,_=>none
 | .link,cs=>match cs with
  | [a,b,c]=>(a.int .i64).bind fun f=>(b.int .i64).bind fun t=>(c.list .move).bind fun l=>some ⟨f,t,l⟩
  | _=>none
 | .op,cs=>match cs with
  | [a,b,c,d,e,f,g,h,i]=>(a.int .i64).bind fun k=>(b.list .pstep).bind fun p=>(decVal [c,d,e,f,g,h]).bind fun v=>i.str.bind fun s=>some ⟨k,p,v,s⟩
  | _=>none

def AVle (c e:AV):Prop:=c = e∨(c = .nl∧∃ σ,e = .rd σ [])
def AVles:List AV→List AV→Prop
 | [],[]=>True
 | a::r,b::t=>AVle a b∧AVles r t
 | _,_=>False
theorem AV.list_le {τ:Ty} {v:AV} {l:List (den τ)} (h:v.list τ = some l):AVle v (.rd τ l):=by
 cases v with
 | nl=>injection h with h; subst h; exact .inr ⟨rfl,τ,rfl⟩
 | rd σ m =>
  simp only [AV.list] at h
  split at h
  ·rename_i e; subst e; injection h with h; subst h; exact .inl rfl
  ·cases h
 | _=>cases h
theorem AV.int_le {k:IntKind} {v:AV} {n:Int} (h:v.int k = some n):AVle v (.i k n):=by
 cases v with
 | i k' m =>
  simp only [AV.int] at h
  split at h
  ·rename_i e; subst e; injection h with h; subst h; exact .inl rfl
  ·cases h
 | _=>cases h
theorem AV.str_le {v:AV} {l:Str} (h:v.str = some l):AVle v (.s l):=by
 cases v with
 | s m=>injection h with h; subst h; exact .inl rfl
 | _=>cases h
theorem AV.bool_le {v:AV} {t:Bool} (h:v.bool = some t):AVle v (.b t):=by
 cases v with
 | b m=>injection h with h; subst h; exact .inl rfl
 | _=>cases h
theorem decVal_le {cs:List AV} {v:Val} (h:decVal cs = some v):AVles cs (encVal v):=by
 unfold decVal at h
 split at h
 ·simp only [Option.bind_eq_some_iff,Option.some.injEq] at h
  obtain ⟨k,hk,n,hn,g,hg,s,hs,l,hl,m,hm,rfl⟩:=h
  exact ⟨AV.int_le hk,AV.int_le hn,AV.int_le hg,AV.str_le hs,AV.list_le hl,AV.list_le hm,trivial⟩
 ·cases h
theorem decTyp_le {cs:List AV} {v:TypR} (h:decTyp cs = some v):AVles cs (encTyp v):=by
 unfold decTyp at h
 split at h
 ·simp only [Option.bind_eq_some_iff,Option.some.injEq] at h
  obtain ⟨k,hk,n,hn,g,hg,s,hs,l,hl,m,hm,x,hx,rfl⟩:=h
  exact ⟨AV.int_le hk,AV.int_le hn,AV.int_le hg,AV.list_le hs,AV.list_le hl,AV.list_le hm,AV.str_le hx,trivial⟩
 ·cases h
theorem one_le {α:Type} {f:AV→Option α} {g:α→AV} (hf:∀ v x,f v = some x→AVle v (g x)) {cs:List AV} {x:α} (h:one f cs = some x):AVles cs [g x]:=by
 unfold one at h
 split at h
 ·exact ⟨hf _ _ h,trivial⟩
 ·cases h
theorem AVles.append {a b c d:List AV} (h:AVles a b) (k:AVles c d):AVles (a++c) (b++d):=by
 induction a generalizing b with
 | nil=>cases b with
  | nil=>exact k
  | cons _ _=>exact h.elim
 | cons z r ih=>cases b with
  | nil=>exact h.elim
  | cons y t=>exact ⟨h.1,ih h.2⟩
theorem dec_le {τ:Ty} {cs:List AV} {x:den τ} (h:dec τ cs = some x):AVles cs (enc τ x):=by
 cases τ with
 | int=>exact one_le (fun _ _=>AV.int_le) h
 | i64=>exact one_le (fun _ _=>AV.int_le) h
 | u32=>exact one_le (fun _ _=>AV.int_le) h
 | u64=>exact one_le (fun _ _=>AV.int_le) h
 | u8=>exact one_le (fun _ _=>AV.int_le) h
 | rune=>exact one_le (fun _ _=>AV.int_le) h
 | errno=>exact one_le (fun _ _=>AV.int_le) h
 | bool=>exact one_le (fun _ _=>AV.bool_le) h
 | str=>exact one_le (fun _ _=>AV.str_le) h
 | ints=>exact one_le (fun _ _=>AV.list_le) h
 | psteps=>exact one_le (fun _ _=>AV.list_le) h
 | part =>
  simp only [dec] at h
  split at h
  ·simp only [Option.bind_eq_some_iff,Option.some.injEq] at h
   obtain ⟨k,hk,n,hn,s,hs,rfl⟩:=h
   exact ⟨AV.int_le hk,AV.int_le hn,AV.str_le hs,trivial⟩
  ·cases h
 | token =>
  simp only [dec] at h
  split at h
  ·simp only [Option.bind_eq_some_iff,Option.some.injEq] at h
   obtain ⟨k,hk,n,hn,s,hs,rfl⟩:=h
   exact ⟨AV.int_le hk,AV.int_le hn,AV.int_le hs,trivial⟩
  ·cases h
 | val=>exact decVal_le h
 | ent =>
  simp only [dec] at h
  split at h
  ·simp only [Option.bind_eq_some_iff,Option.some.injEq] at h
   obtain ⟨k,hk,v,hv,rfl⟩:=h
   exact ⟨AV.str_le hk,decVal_le hv⟩
  ·cases h
 | node =>
  simp only [dec] at h
  split at h
  ·simp only [Option.bind_eq_some_iff,Option.some.injEq] at h
   obtain ⟨k,hk,n,hn,s,hs,l,hl,rfl⟩:=h
   exact ⟨AV.int_le hk,AV.int_le hn,AV.int_le hs,AV.list_le hl,trivial⟩
  ·cases h
 | pstep =>
  simp only [dec] at h
  split at h
  ·simp only [Option.bind_eq_some_iff,Option.some.injEq] at h
   obtain ⟨k,hk,n,hn,rfl⟩:=h
   exact ⟨AV.str_le hk,AV.int_le hn,trivial⟩
  ·cases h
 | frt =>
  simp only [dec] at h
  split at h
  ·simp only [Option.bind_eq_some_iff,Option.some.injEq] at h
   obtain ⟨k,hk,n,hn,rfl⟩:=h
   exact ⟨AV.str_le hk,AV.int_le hn,trivial⟩
  ·cases h
 | atom =>
  simp only [dec] at h
  split at h
  ·simp only [Option.bind_eq_some_iff,Option.some.injEq] at h
   obtain ⟨k,hk,n,hn,rfl⟩:=h
   exact ⟨AV.int_le hk,AV.int_le hn,trivial⟩
  ·cases h
 | vplace =>
  simp only [dec] at h
  split at h
  ·simp only [Option.bind_eq_some_iff,Option.some.injEq] at h
   obtain ⟨k,hk,n,hn,rfl⟩:=h
   exact AVles.append (decVal_le hk) (show AVles [_] [_] from ⟨AV.int_le hn,trivial⟩)
  ·cases h
 | typ=>exact decTyp_le h
 | fld =>
  simp only [dec] at h
  split at h
  ·simp only [Option.bind_eq_some_iff,Option.some.injEq] at h
   obtain ⟨n,hn,o,ho,p,hp,t,ht,v,hv,rfl⟩:=h
   exact ⟨AV.str_le hn,AV.bool_le ho,AV.bool_le hp,AVles.append (decTyp_le ht) (decVal_le hv)⟩
  ·cases h
 | dfn =>
  simp only [dec] at h
  split at h
  ·simp only [Option.bind_eq_some_iff,Option.some.injEq] at h
   obtain ⟨n,hn,t,ht,rfl⟩:=h
   exact ⟨AV.str_le hn,decTyp_le ht⟩
  ·cases h
 | tplace =>
  simp only [dec] at h
  split at h
  ·simp only [Option.bind_eq_some_iff,Option.some.injEq] at h
   obtain ⟨t,ht,n,hn,rfl⟩:=h
   exact AVles.append (decTyp_le ht) (show AVles [_] [_] from ⟨AV.int_le hn,trivial⟩)
  ·cases h
 | parts=>exact one_le (fun _ _=>AV.list_le) h
 | typs=>exact one_le (fun _ _=>AV.list_le) h
 | bools=>exact one_le (fun _ _=>AV.list_le) h
 | strs=>exact one_le (fun _ _=>AV.list_le) h
 | client =>
  simp only [dec] at h
  split at h
  ·simp only [Option.bind_eq_some_iff,Option.some.injEq] at h
   obtain ⟨x,hx,n,hn,i,hi,l,hl,j,hj,m,hm,rfl⟩:=h
   exact ⟨AV.str_le hx,AV.int_le hn,AV.bool_le hi,AV.list_le hl,AV.bool_le hj,AV.list_le hm,trivial⟩
  ·cases h
 | rclient =>
  simp only [dec] at h
  split at h
  ·simp only [Option.bind_eq_some_iff,Option.some.injEq] at h
   obtain ⟨x,hx,n,hn,i,hi,l,hl,j,hj,m,hm,rfl⟩:=h
   exact ⟨AV.str_le hx,AV.int_le hn,AV.list_le hl,AV.list_le hm,AV.bool_le hi,AV.bool_le hj,trivial⟩
  ·cases h
 | noted =>
  simp only [dec] at h
  split at h
  ·simp only [Option.bind_eq_some_iff,Option.some.injEq] at h
   obtain ⟨n,hn,l,hl,rfl⟩:=h
   exact ⟨AV.int_le hn,AV.list_le hl,trivial⟩
  ·cases h
 | act =>
  simp only [dec] at h
  split at h
  ·simp only [Option.bind_eq_some_iff,Option.some.injEq] at h
   obtain ⟨k,hk,n,hn,l,hl,rfl⟩:=h
   exact ⟨AV.int_le hk,AV.int_le hn,AV.list_le hl,trivial⟩
  ·cases h
 | mb =>
  simp only [dec] at h
  split at h
  ·simp only [Option.bind_eq_some_iff,Option.some.injEq] at h
   obtain ⟨i,hi,v,hv,rfl⟩:=h
   exact ⟨AV.bool_le hi,decVal_le hv⟩
  ·cases h
 | move=>cases h
 | link =>
  simp only [dec] at h
  split at h
  ·simp only [Option.bind_eq_some_iff,Option.some.injEq] at h
   obtain ⟨k,hk,n,hn,s,hs,rfl⟩:=h
   exact ⟨AV.int_le hk,AV.int_le hn,AV.list_le hs,trivial⟩
  ·cases h
 | op =>
  simp only [dec] at h
  split at h
  ·simp only [Option.bind_eq_some_iff,Option.some.injEq] at h
   obtain ⟨k,hk,l,hl,y,hy,s,hs,rfl⟩:=h
   exact ⟨AV.int_le hk,AV.list_le hl,AVles.append (decVal_le hy) (show AVles [_] [_] from ⟨AV.str_le hs,trivial⟩)⟩
  ·cases h
end Go.SX
end
section
namespace Go.SX

def All2 {α β:Type} (R:α→β→Prop) (xs:List α) (bs:List β):Prop :=
 xs.length = bs.length∧∀ (j:Nat) a b,xs[j]? = some a→bs[j]? = some b→R a b
theorem All2.nil {α β:Type} (R:α→β→Prop):All2 R [] []:=⟨rfl,fun _ _ _ h=>by simp at h⟩
theorem All2.cons {α β:Type} {R:α→β→Prop} {a:α} {b:β} {xs:List α} {bs:List β} (h:R a b) (t:All2 R xs bs):All2 R (a::xs) (b::bs):=by
 refine ⟨by simp [t.1],fun j x y hx hy=>?_⟩
 cases j with
 | zero=>simp at hx hy; subst hx hy; exact h
 | succ j=>simp at hx hy; exact t.2 j x y hx hy
theorem All2.head {α β:Type} {R:α→β→Prop} {a:α} {b:β} {xs:List α} {bs:List β} (h:All2 R (a::xs) (b::bs)):R a b:=h.2 0 a b rfl rfl
theorem All2.tail {α β:Type} {R:α→β→Prop} {a:α} {b:β} {xs:List α} {bs:List β} (h:All2 R (a::xs) (b::bs)):All2 R xs bs :=
 ⟨by simpa using h.1,fun j x y hx hy=>h.2 (j + 1) x y (by simpa using hx) (by simpa using hy)⟩
theorem All2.mono {α β:Type} {R R':α→β→Prop} {xs:List α} {bs:List β} (h:All2 R xs bs) (hr:∀ (j:Nat) a b,xs[j]? = some a→R a b→R' a b):All2 R' xs bs :=
 ⟨h.1,fun j a b ha hb=>hr j a b ha (h.2 j a b ha hb)⟩
theorem All2.cons_inv {α β:Type} {R:α→β→Prop} {a:α} {xs:List α} {bs:List β} (h:All2 R (a::xs) bs):∃ b bs',bs = b::bs'∧R a b∧All2 R xs bs':=by
 cases bs with
 | nil=>simp [All2] at h
 | cons b bs'=>exact ⟨b,bs',rfl,h.head,h.tail⟩
theorem All2.nil_inv {α β:Type} {R:α→β→Prop} {bs:List β} (h:All2 R [] bs):bs = []:=by
 cases bs with
 | nil=>rfl
 | cons b bs'=>simp [All2] at h

structure Stp (O:Nat→Prop) (w w':World):Prop where
 os:w'.os = w.os
 tape:w'.tape = w.tape
 output:w'.output = w.output
 size:w.heap.size≤w'.heap.size
 block:∀ k,k < w.heap.size→¬ O k→w'.heap[k]? = w.heap[k]?
theorem Stp.refl (O:Nat→Prop) (w:World):Stp O w w:=⟨rfl,rfl,rfl,Nat.le_refl _,fun _ _ _=>rfl⟩
theorem Stp.trans {O O':Nat→Prop} {a b c:World} (h:Stp O a b) (k:Stp O' b c) (hO:∀ k,k < a.heap.size→O' k→O k):Stp O a c :=
 ⟨k.os.trans h.os,k.tape.trans h.tape,k.output.trans h.output,Nat.le_trans h.size k.size,
  fun i hi ho=>(k.block i (Nat.lt_of_lt_of_le hi h.size) (fun h'=>ho (hO i hi h'))).trans (h.block i hi ho)⟩
theorem Stp.mono {O O':Nat→Prop} {a b:World} (h:Stp O a b) (hO:∀ k,k < a.heap.size→O k→O' k):Stp O' a b :=
 ⟨h.os,h.tape,h.output,h.size,fun i hi ho=>h.block i hi (fun h'=>ho (hO i hi h'))⟩
theorem Stp.cell {O:Nat→Prop} {w w':World} (h:Stp O w w') {g o:Nat} {v:Value} (hO:¬ O g) (hc:w.cell? ⟨g,o,none⟩ = some v):w'.cell? ⟨g,o,none⟩ = some v:=by
 have hlt:g < w.heap.size:=World.block_lt_of_cell? w ⟨g,o,none⟩ hc
 rw [World.cell?_of_block (w:=w) (a:=⟨g,o,none⟩) (h.block g hlt hO)]
 exact hc

def headNp:List AV→Bool
 | .np::_=>true
 | _=>false
def fnV (caps:List AV) (f:FuncId) (vs:List Value):Value:=match headNp caps with
 | true=>.func (.func f) (vs.drop 1).toArray #[]
 | false=>.func (.func f) #[] vs.toArray
theorem fnV_of {c d:List AV} (h:headNp c = headNp d) (f:FuncId) (vs:List Value):fnV c f vs = fnV d f vs:=by unfold fnV; rw [h]
theorem fnV_one (c:List AV) (f:FuncId) (vs:List Value):(fnV c f vs).oneCell' = true:=by
 unfold fnV
 cases headNp c<;>rfl
theorem fnV_cells (c:List AV) (f:FuncId) (vs:List Value):(fnV c f vs).cells = #[fnV c f vs]:=by
 unfold fnV
 cases headNp c<;>rfl
def callArgs (vs caps:List AV):List AV:=match caps with
 | .np::fs=>fs++vs
 | _=>vs++caps
def cargs (caps:List AV) (us cvs:List Value):List Value:=match headNp caps with
 | true=>cvs.drop 1++us
 | false=>us++cvs
inductive Im (O:Nat→Prop) (w:World):AV→Value→Prop where
 | i (k:IntKind) (n:Int):Im O w (.i k n) (.int k n)
 | b (x:Bool):Im O w (.b x) (.bool x)
 | s (l:Str):l.length≤maxLen→Im O w (.s l) (.string ⟨l.toArray⟩)
 | nl:Im O w .nl (.slice none 0 0)
 | rd0 (τ:Ty) (a:Option Addr) (c:Nat):c≤maxLen→Im O w (.rd τ []) (.slice a 0 c)
 | rd (τ : Ty) (l : List (den τ)) (g o c : Nat) (u : Nat → Nat → Value) : ¬ O g → l.length ≤ c → c ≤ maxLen → l ≠ [] →
   (∀ (i:Nat) x (j:Nat) av,l[i]? = some x→(enc τ x)[j]? = some av→w.cell? ⟨g,o + (i * esz τ + j),none⟩ = some (u i j)) →
   (∀ (i:Nat) x (j:Nat) av,l[i]? = some x→(enc τ x)[j]? = some av→Im O w av (u i j)) →
   Im O w (.rd τ l) (.slice (some ⟨g,o,none⟩) l.length c)
 | agg (cs:List AV) (vs:List Value):cs.length = vs.length→(∀ v ∈ vs,v.oneCell' = true)→(∀ (j:Nat) av v,cs[j]? = some av→vs[j]? = some v→Im O w av v)→Im O w (.agg cs) (.agg vs.toArray)
 | tup (cs:List AV) (vs:List Value):cs.length = vs.length→(∀ (j:Nat) av v,cs[j]? = some av→vs[j]? = some v→Im O w av v)→Im O w (.tup cs) (.tuple vs.toArray)
 | rp (cs : List AV) (g o : Nat) (u : Nat → Value) : (∀ (j : Nat) av, cs[j]? = some av → ¬ O g ∧ w.cell? ⟨g, o + j, none⟩ = some (u j) ∧ (u j).oneCell' = true) →
   (∀ (j:Nat) av,cs[j]? = some av→Im O w av (u j))→Im O w (.rp cs) (.pointer (some ⟨g,o,none⟩))
 | fn (f:FuncId) (caps:List AV) (vs:List Value):caps.length = vs.length→(∀ (j:Nat) av v,caps[j]? = some av→vs[j]? = some v→Im O w av v)→Im O w (.fn f caps) (fnV caps f vs)
 | np:Im O w .np (.pointer none)
 | er0:Im O w (.er none) .nilIface
 | er1 (t:TypeId) (n:Int):Im O w (.er (some (t,some n))) (.iface t (.int .i64 n))
 | er2 (t:TypeId) (v:Value):Im O w (.er (some (t,none))) (.iface t v)
 | x (v:Value):Im O w .x v

theorem plain_one {O:Nat→Prop} {w:World} {c:AV} {u:Value} (h:Im O w c u) (hp:c.plain = true):u.oneCell' = true:=by
 cases h<;>first | rfl | (cases hp)

theorem Im.step {O O' : Nat → Prop} {w w' : World} {av : AV} {v : Value} (h : Im O w av v) {Ow : Nat → Prop} (hs : Stp Ow w w') (hw : ∀ k, k < w.heap.size → Ow k → O k)
  (hO:∀ k,k < w.heap.size→O' k→O k):Im O' w' av v:=by
 induction h with
 | i k n=>exact .i k n
 | b x=>exact .b x
 | s l h=>exact .s l h
 | nl=>exact .nl
 | rd0 τ a c h=>exact .rd0 τ a c h
 | rd τ l g o c u hg hc hm hne hcell _ ih =>
  have hlt:g < w.heap.size:=by
   cases l with
   | nil=>exact absurd rfl hne
   | cons x l =>
    have h0:(enc τ x)[0]? = some ((enc τ x)[0]'(by rw [enc_length]; exact esz_pos τ)):=List.getElem?_eq_getElem _
    exact World.block_lt_of_cell? w ⟨g,_,none⟩ (hcell 0 x 0 _ rfl h0)
  exact .rd τ l g o c u (fun h'=>hg (hO g hlt h')) hc hm hne (fun i x j av hx hav=>hs.cell (fun h'=>hg (hw g hlt h')) (hcell i x j av hx hav)) ih
 | agg cs vs hl ho _ ih=>exact .agg cs vs hl ho ih
 | tup cs vs hl _ ih=>exact .tup cs vs hl ih
 | rp cs g o u hc _ ih =>
  refine .rp cs g o u (fun j av hj=>?_) ih
  obtain ⟨h1,h2,h3⟩:=hc j av hj
  have hlt:g < w.heap.size:=World.block_lt_of_cell? w ⟨g,_,none⟩ h2
  exact ⟨fun h'=>h1 (hO g hlt h'),hs.cell (fun h'=>h1 (hw g hlt h')) h2,h3⟩
 | fn f caps vs hl _ ih=>exact .fn f caps vs hl ih
 | np=>exact .np
 | er0=>exact .er0
 | er1 t n=>exact .er1 t n
 | er2 t v=>exact .er2 t v
 | x v=>exact .x v

def ids0:AV→List Nat
 | .pt n _=>[n]
 | .vec id _ _=>[id]
 | .vp id _ _ _ _=>[id]
 | .vs id _ _ _=>[id]
 | .ob id id2 _=>[id,id2]
 | _=>[]
def ids:AV→List Nat
 | .fn _ caps=>caps.flatMap ids0
 | .tup cs=>cs.flatMap ids0
 | .ag k cs=>cs.flatMap ids0
 | av=>ids0 av

def VecAt (β:Nat→Option Nat) (O:Nat→Prop) (w:World) (id:Nat) (τ:Ty) (l:List (den τ)) (v:Value):Prop :=
 (l = []∧v = .slice none 0 0∧β id = none) ∨
 ∃ g c cur e,β id = some g∧v = .slice (some ⟨g,0,none⟩) l.length c∧w.heap[g]? = some (.cells cur e (0,0))∧l.length≤c∧c≤maxLen∧cur.size = c * esz τ ∧
  ∀ (i:Nat) x (j:Nat) av,l[i]? = some x→(enc τ x)[j]? = some av→∃ u,cur[i * esz τ + j]? = some u∧Im O w av u

def Suf (z k:Nat) (v' v:Value):Prop :=
 (k = 0∧v = v')∨∃ g n c ad,v' = .slice (some ⟨g,0,none⟩) n c∧v = .slice (some ad) (n - k) (c - k)∧(k < c→ad = ⟨g,k * z,none⟩)
def VsAt (β:Nat→Option Nat) (O:Nat→Prop) (w:World) (id:Nat) (τ:Ty) (l:List (den τ)) (k:Nat) (v:Value):Prop :=
 k≤l.length∧∃ v',VecAt β O w id τ l v'∧Suf (esz τ) k v' v

def bcells (l:Str):List Value:=l.map fun b=>.int .u8 (b.toNat:Int)
def BufAt (β:Nat→Option Nat) (w:World) (id2:Nat) (e:TypeId) (l:Str) (u:Value):Prop :=
 (l = []∧u = .slice none 0 0∧β id2 = none) ∨
 ∃ g c cur fz,β id2 = some g∧u = .slice (some ⟨g,0,none⟩) l.length c∧w.heap[g]? = some (.cells cur e fz)∧fz.2≤l.length∧l.length≤c∧c≤maxLen∧cur.size = c∧cur.toList.take l.length = bcells l∧l≠[]
def GrAt (β:Nat→Option Nat) (O:Nat→Prop) (w:World) (id id2:Nat) (L:List (List Int)) (i:Nat) (row:List Int) (v:Value):Prop :=
 ∃ g c cur e,β id = some g∧v = .slice (some ⟨g,0,none⟩) L.length c∧w.heap[g]? = some (.cells cur e (0,0))∧L.length≤c∧c≤maxLen∧cur.size = c ∧
  (∀ (j:Nat) l,L[j]? = some l→j≠i→∃ u,cur[j]? = some u∧Im O w (.rd .int l) u)∧(i < L.length→∃ u,cur[i]? = some u∧VecAt β O w id2 .int row u)
def ObAt (β:Nat→Option Nat) (O:Nat→Prop) (w:World) (id id2:Nat):Ob→Value→Prop
 | .sb T e l,v=>∃ b p u,β id = some b∧v = .pointer (some ⟨b,0,none⟩)∧w.heap[b]? = some (.cells #[p,u] T (0,0))∧(p = .pointer none∨p = v)∧BufAt β w id2 e l u
 | .it s pos,v=>∃ g,β id = some g∧v = .pointer (some ⟨g,0,none⟩)∧w.heap[g]? = some (.stringIter ⟨s.toArray⟩ pos)∧s.length≤maxLen∧pos≤s.length
 | .mp κ τ es, v => ∃ g ents clock, β id = some g ∧ v = .map (some g) ∧ w.heap[g]? = some (.map ents clock) ∧ es.length ≤ maxLen ∧
   All2 (fun p (e:MapEntry)=>All2 (Im O w) (enc κ p.1) [e.key]∧All2 (Im O w) (enc τ p.2) [e.val]) es ents.toList
 | .nw zs,v=>∃ b T,β id = some b∧v = .pointer (some ⟨b,0,none⟩)∧w.heap[b]? = some (.cells zs.toArray T (0,0))∧∀ z ∈ zs,z.oneCell' = true
 | .vw τ l a b,v=>∃ g c,β id = some g∧β id2 = some g∧a < b∧b≤l.length∧v = .slice (some ⟨g,a * esz τ,none⟩) (b - a) (c - a)∧VecAt β O w id τ l (.slice (some ⟨g,0,none⟩) l.length c)
 | .ln τ l,v=>β id2 = β id∧VecAt β O w id τ l v
 | .gr L i row,v=>GrAt β O w id id2 L i row v
 | .gp L i row n,v=>n < L.length∧(∃ g,β id = some g∧v = .pointer (some ⟨g,n,none⟩))∧∃ v',GrAt β O w id id2 L i row v'

def Rel0 (β:Nat→Option Nat) (O:Nat→Prop) (w:World):AV→Value→Prop
 | .pt n o,v=>∃ g,β n = some g∧v = .pointer (some ⟨g,o,none⟩)
 | .vec id τ l,v=>VecAt β O w id τ l v
 | .vp id τ l n off,v=>n < l.length∧(∃ g,β id = some g∧v = .pointer (some ⟨g,n * esz τ + off,none⟩))∧∃ v',VecAt β O w id τ l v'
 | .vs id τ l k,v=>VsAt β O w id τ l k v
 | .ob id id2 o,v=>ObAt β O w id id2 o v
 | av,v=>Im O w av v
def shape:Nat→List Value→Value
 | 0,vs=>.agg vs.toArray
 | k + 1,vs=>.tuple ((.agg (vs.take (k + 1)).toArray::vs.drop (k + 1))).toArray
def Rel (β:Nat→Option Nat) (O:Nat→Prop) (w:World):AV→Value→Prop
 | .fn f caps,v=>∃ vs:List Value,v = fnV caps f vs∧All2 (Rel0 β O w) caps vs
 | .tup cs,v=>∃ vs:List Value,v = .tuple vs.toArray∧All2 (Rel0 β O w) cs vs
 | .ag k cs,v=>∃ vs:List Value,v = shape k vs∧All2 (Rel0 β O w) cs vs∧∀ v ∈ vs,v.oneCell' = true
 | av,v=>Rel0 β O w av v

def RelC (β:Nat→Option Nat) (O:Nat→Prop) (w:World) (c:AV) (u:Value):Prop:=Rel β O w c u∧u.oneCell' = true

theorem Rel0.im {β:Nat→Option Nat} {O:Nat→Prop} {w:World} {av:AV} {v:Value} (h:Im O w av v):Rel0 β O w av v:=by
 cases av<;>first | exact h | cases h
theorem Rel.im {β:Nat→Option Nat} {O:Nat→Prop} {w:World} {av:AV} {v:Value} (h:Im O w av v):Rel β O w av v:=by
 cases av with
 | fn f caps =>
  cases h with
  | fn _ _ vs h1 h2=>exact ⟨vs,rfl,h1,fun j c u hc hu=>Rel0.im (h2 j c u hc hu)⟩
 | tup cs =>
  cases h with
  | tup _ vs h1 h2=>exact ⟨vs,rfl,h1,fun j c u hc hu=>Rel0.im (h2 j c u hc hu)⟩
 | _=>first | exact h | cases h
theorem Rel.rel0 {β:Nat→Option Nat} {O:Nat→Prop} {w:World} {av:AV} {v:Value} (h:Rel0 β O w av v):Rel β O w av v:=by
 cases av with
 | fn f caps=>exact Rel.im h
 | tup cs=>exact Rel.im h
 | ag k cs=>exact Rel.im h
 | _=>exact h
theorem Im.inv_rp {O : Nat → Prop} {w : World} {cs : List AV} {v : Value} (h : Im O w (.rp cs) v) :
  ∃ g o,v = .pointer (some ⟨g,o,none⟩)∧∀ (j:Nat) av,cs[j]? = some av→¬ O g∧∃ u,w.cell? ⟨g,o + j,none⟩ = some u∧Im O w av u∧u.oneCell' = true:=by
 cases h with
 | rp _ g o u h1 h2=>exact ⟨g,o,rfl,fun j av hj=>⟨(h1 j av hj).1,u j,(h1 j av hj).2.1,h2 j av hj,(h1 j av hj).2.2⟩⟩
theorem Im.mk_rp {O : Nat → Prop} {w : World} {cs : List AV} {g o : Nat} (h : ∀ (j : Nat) av, cs[j]? = some av → ¬ O g ∧ ∃ u, w.cell? ⟨g, o + j, none⟩ = some u ∧ Im O w av u ∧ u.oneCell' = true) :
  Im O w (.rp cs) (.pointer (some ⟨g,o,none⟩)) :=
 .rp cs g o (fun j=>(w.cell? ⟨g,o + j,none⟩).getD undef) (fun j av hj=>by
  obtain ⟨h1,u,h2,_,h3⟩:=h j av hj
  exact ⟨h1,by rw [h2]; rfl,by rw [h2]; exact h3⟩) (fun j av hj=>by
  obtain ⟨_,u,h2,h4,_⟩:=h j av hj
  rw [h2]; exact h4)
theorem Rel.x {β:Nat→Option Nat} {O:Nat→Prop} {w:World} {v:Value}:Rel β O w .x v:=Im.x v

theorem VecAt.uniq {β:Nat→Option Nat} {w:World} {O:Nat→Prop} {id:Nat} {τ:Ty} {l:List (den τ)} {u v:Value} (h:VecAt β O w id τ l u) (h1:VecAt β O w id τ l v):u = v:=by
 rcases h with ⟨a1,a2,a3⟩ | ⟨g,c,cur,e,a1,a2,a3,a4,a5,a6,_⟩<;>rcases h1 with ⟨b1,b2,b3⟩ | ⟨g',c',cur',e',b1,b2,b3,b4,b5,b6,_⟩
 ·rw [a2,b2]
 ·rw [a3] at b1; cases b1
 ·rw [b3] at a1; cases a1
 ·rw [a1] at b1
  injection b1 with b1
  subst b1
  rw [a3] at b3
  injection b3 with b3
  injection b3 with b3 _ _
  subst b3
  have hz:=esz_pos τ
  have:c = c':=by
   rw [a6] at b6
   exact Nat.eq_of_mul_eq_mul_right hz b6
  subst this
  rw [a2,b2]
theorem VecAt.step {β β' : Nat → Option Nat} {O O' : Nat → Prop} {w w' : World} {id : Nat} {τ : Ty} {l : List (den τ)} {v : Value} (h : VecAt β O w id τ l v)
  {Ow:Nat→Prop} (hs:Stp Ow w w') (hw:∀ k,k < w.heap.size→Ow k→O k) (hO:∀ k,k < w.heap.size→O' k→O k)
  (hβ:β' id = β id) (hb:∀ g,β id = some g→w'.heap[g]? = w.heap[g]?):VecAt β' O' w' id τ l v:=by
 rcases h with ⟨h1,h2,h3⟩ | ⟨g,c,cur,e,h1,h2,h3,h4,h5,h6,h7⟩
 ·exact .inl ⟨h1,h2,hβ.trans h3⟩
 ·refine .inr ⟨g,c,cur,e,hβ.trans h1,h2,(hb g h1).trans h3,h4,h5,h6,fun i x j av hx hav=>?_⟩
  obtain ⟨u,hu,him⟩:=h7 i x j av hx hav
  exact ⟨u,hu,him.step hs hw hO⟩

def vids0:AV→List Nat
 | .vec id _ _=>[id]
 | .vp id _ _ _ _=>[id]
 | .vs id _ _ _=>[id]
 | .ob id id2 _=>[id,id2]
 | _=>[]
def vids:AV→List Nat
 | .fn _ caps=>caps.flatMap vids0
 | .tup cs=>cs.flatMap vids0
 | .ag k cs=>cs.flatMap vids0
 | av=>vids0 av

theorem GrAt.step {β β' : Nat → Option Nat} {O O' : Nat → Prop} {w w' : World} {id id2 : Nat} {L : List (List Int)} {i : Nat} {row : List Int} {v : Value} (h : GrAt β O w id id2 L i row v)
  {Ow:Nat→Prop} (hs:Stp Ow w w') (hw:∀ k,k < w.heap.size→Ow k→O k) (hO:∀ k,k < w.heap.size→O' k→O k)
  (hβ:β' id = β id) (hβ2:β' id2 = β id2) (hb:∀ g,β id = some g→w'.heap[g]? = w.heap[g]?) (hb2:∀ g,β id2 = some g→w'.heap[g]? = w.heap[g]?):GrAt β' O' w' id id2 L i row v:=by
 obtain ⟨g,c,cur,e,h1,h2,h3,h4,h5,h6,h8,h9⟩:=h
 refine ⟨g,c,cur,e,hβ.trans h1,h2,(hb g h1).trans h3,h4,h5,h6,fun j l hj hne=>?_,fun hi=>?_⟩
 ·obtain ⟨x,hx,him⟩:=h8 j l hj hne
  exact ⟨x,hx,him.step hs hw hO⟩
 ·obtain ⟨u,h9,h10⟩:=h9 hi
  exact ⟨u,h9,h10.step hs hw hO hβ2 hb2⟩
theorem ObAt.step {β β' : Nat → Option Nat} {O O' : Nat → Prop} {w w' : World} {id id2 : Nat} {o : Ob} {v : Value} (h : ObAt β O w id id2 o v)
  {Ow:Nat→Prop} (hs:Stp Ow w w') (hw:∀ k,k < w.heap.size→Ow k→O k) (hO:∀ k,k < w.heap.size→O' k→O k)
  (hβ:β' id = β id) (hβ2:β' id2 = β id2) (hb:∀ g,β id = some g→w'.heap[g]? = w.heap[g]?) (hb2:∀ g,β id2 = some g→w'.heap[g]? = w.heap[g]?):ObAt β' O' w' id id2 o v:=by
 cases o with
 | sb T e l =>
  obtain ⟨b,p,u,h1,h2,h3,h4,h5⟩:=h
  refine ⟨b,p,u,hβ.trans h1,h2,(hb b h1).trans h3,h4,?_⟩
  rcases h5 with ⟨h5,h6,h7⟩ | ⟨g,c,cur,fz,h5,h6,h7,h8⟩
  ·exact .inl ⟨h5,h6,hβ2.trans h7⟩
  ·exact .inr ⟨g,c,cur,fz,hβ2.trans h5,h6,(hb2 g h5).trans h7,h8⟩
 | it s pos =>
  obtain ⟨g,h1,h2,h3,h4⟩:=h
  exact ⟨g,hβ.trans h1,h2,(hb g h1).trans h3,h4⟩
 | mp κ τ es =>
  obtain ⟨g,ents,clock,h1,h2,h3,h4,h5⟩:=h
  exact ⟨g,ents,clock,hβ.trans h1,h2,(hb g h1).trans h3,h4,h5.mono fun j a b ha hr=>⟨hr.1.mono fun _ _ _ _ h=>h.step hs hw hO,hr.2.mono fun _ _ _ _ h=>h.step hs hw hO⟩⟩
 | nw zs =>
  obtain ⟨b,T,h1,h2,h3,h4⟩:=h
  exact ⟨b,T,hβ.trans h1,h2,(hb b h1).trans h3,h4⟩
 | vw τ l a b =>
  obtain ⟨g,c,h1,h2,h3,h4,h5,h6⟩:=h
  exact ⟨g,c,hβ.trans h1,hβ2.trans h2,h3,h4,h5,h6.step hs hw hO hβ hb⟩
 | ln τ l=>exact ⟨hβ2.trans (h.1.trans hβ.symm),h.2.step hs hw hO hβ hb⟩
 | gr L i row=>exact GrAt.step h hs hw hO hβ hβ2 hb hb2
 | gp L i row n =>
  obtain ⟨h1,⟨g,h2,h3⟩,v',h4⟩:=h
  exact ⟨h1,⟨g,hβ.trans h2,h3⟩,v',h4.step hs hw hO hβ hβ2 hb hb2⟩

theorem Rel0.step {β β' : Nat → Option Nat} {O O' : Nat → Prop} {w w' : World} {av : AV} {v : Value} (h : Rel0 β O w av v)
  {Ow:Nat→Prop} (hs:Stp Ow w w') (hw:∀ k,k < w.heap.size→Ow k→O k) (hO:∀ k,k < w.heap.size→O' k→O k)
  (hβ:∀ n ∈ ids0 av,β' n = β n) (hb:∀ n ∈ vids0 av,∀ g,β n = some g→w'.heap[g]? = w.heap[g]?):Rel0 β' O' w' av v:=by
 cases av with
 | pt n o =>
  obtain ⟨g,h1,h2⟩:=h
  exact ⟨g,(hβ n (by simp [ids0])).trans h1,h2⟩
 | vec id τ l=>exact VecAt.step h hs hw hO (hβ id (by simp [ids0])) (hb id (by simp [vids0]))
 | vp id τ l n off =>
  obtain ⟨h0,⟨g,h1,h2⟩,v',h3⟩:=h
  exact ⟨h0,⟨g,(hβ id (by simp [ids0])).trans h1,h2⟩,v',VecAt.step h3 hs hw hO (hβ id (by simp [ids0])) (hb id (by simp [vids0]))⟩
 | vs id τ l k =>
  obtain ⟨h0,v',h3,h4⟩:=h
  exact ⟨h0,v',VecAt.step h3 hs hw hO (hβ id (by simp [ids0])) (hb id (by simp [vids0])),h4⟩
 | ob id id2 o=>exact ObAt.step h hs hw hO (hβ id (by simp [ids0])) (hβ id2 (by simp [ids0])) (hb id (by simp [vids0])) (hb id2 (by simp [vids0]))
 | np=>exact Im.step h hs hw hO
 | er e=>exact Im.step h hs hw hO
 | ag k cs=>exact Im.step h hs hw hO
 | rp cs=>exact Im.step h hs hw hO
 | i k n=>exact Im.step h hs hw hO
 | b x=>exact Im.step h hs hw hO
 | s l=>exact Im.step h hs hw hO
 | nl=>exact Im.step h hs hw hO
 | rd τ l=>exact Im.step h hs hw hO
 | agg cs=>exact Im.step h hs hw hO
 | tup cs=>exact Im.step h hs hw hO
 | fn f caps=>exact Im.step h hs hw hO
 | x=>exact Im.step h hs hw hO
end Go.SX
end
section
namespace Go.SX

theorem Rel.step {β β' : Nat → Option Nat} {O O' : Nat → Prop} {w w' : World} {av : AV} {v : Value} (h : Rel β O w av v)
  {Ow:Nat→Prop} (hs:Stp Ow w w') (hw:∀ k,k < w.heap.size→Ow k→O k) (hO:∀ k,k < w.heap.size→O' k→O k)
  (hβ:∀ n ∈ ids av,β' n = β n) (hb:∀ n ∈ vids av,∀ g,β n = some g→w'.heap[g]? = w.heap[g]?):Rel β' O' w' av v:=by
 cases av with
 | fn f caps =>
  obtain ⟨vs,hv,hall⟩:=h
  refine ⟨vs,hv,hall.mono fun j a b ha hr=>hr.step hs hw hO (fun n hn=>hβ n ?_) (fun n hn=>hb n ?_)⟩
  ·exact List.mem_flatMap.2 ⟨a,List.mem_of_getElem? ha,hn⟩
  ·exact List.mem_flatMap.2 ⟨a,List.mem_of_getElem? ha,hn⟩
 | tup cs =>
  obtain ⟨vs,hv,hall⟩:=h
  refine ⟨vs,hv,hall.mono fun j a b ha hr=>hr.step hs hw hO (fun n hn=>hβ n ?_) (fun n hn=>hb n ?_)⟩
  ·exact List.mem_flatMap.2 ⟨a,List.mem_of_getElem? ha,hn⟩
  ·exact List.mem_flatMap.2 ⟨a,List.mem_of_getElem? ha,hn⟩
 | ag k cs =>
  obtain ⟨vs,hv,hall,hone⟩:=h
  refine ⟨vs,hv,hall.mono fun j a b ha hr=>hr.step hs hw hO (fun n hn=>hβ n ?_) (fun n hn=>hb n ?_),hone⟩
  ·exact List.mem_flatMap.2 ⟨a,List.mem_of_getElem? ha,hn⟩
  ·exact List.mem_flatMap.2 ⟨a,List.mem_of_getElem? ha,hn⟩
 | _=>exact Rel.rel0 (Rel0.step (show Rel0 β O w _ v from h) hs hw hO hβ hb)

structure St where
 slots:List (Nat × AV)
 boxes:List (Nat × List AV)

def look:List (Nat × AV)→Nat→AV
 | [],_=>.x
 | (m,v)::r,n=>bif Nat.beq m n then v else look r n
def lookB:List (Nat × List AV)→Nat→Option (List AV)
 | [],_=>none
 | (m,v)::r,n=>bif Nat.beq m n then some v else lookB r n
def setL {α:Type}:List (Nat × α)→Nat→α→List (Nat × α)
 | [],n,v=>[(n,v)]
 | (m,u)::r,n,v=>bif Nat.beq m n then (n,v)::r else (m,u)::setL r n v
def delL {α:Type}:List (Nat × α)→Nat→List (Nat × α)
 | [],_=>[]
 | (m,u)::r,n=>bif Nat.beq m n then delL r n else (m,u)::delL r n
def mapV (f:AV→AV):List (Nat × AV)→List (Nat × AV)
 | []=>[]
 | (m,v)::r=>(m,f v)::mapV f r
def mapC (f:AV→AV):List AV→List AV
 | []=>[]
 | v::r=>f v::mapC f r
theorem headNp_cons (c:AV) (r:List AV):headNp (c::r) = headNp [c]:=by cases c<;>rfl
theorem headNp_mapC {f:AV→AV} (h:∀ v,headNp [f v] = headNp [v]) (l:List AV):headNp (mapC f l) = headNp l:=by
 cases l with
 | nil=>rfl
 | cons c r =>
  show headNp (f c::mapC f r) = headNp (c::r)
  rw [headNp_cons,headNp_cons c]
  exact h c
def mapB (f:AV→AV):List (Nat × List AV)→List (Nat × List AV)
 | []=>[]
 | (m,v)::r=>(m,mapC f v)::mapB f r

theorem look_setL (l:List (Nat × AV)) (d:Nat) (v:AV) (n:Nat):look (setL l d v) n = if d = n then v else look l n:=by
 induction l with
 | nil=>simp [setL,look,Bool.cond_eq_ite]
 | cons p r ih =>
  obtain ⟨m,u⟩:=p
  by_cases hmd:m = d
  ·subst hmd
   by_cases hmn:m = n<;>simp [setL,look,Bool.cond_eq_ite,hmn]
  ·by_cases hmn:m = n
   ·subst hmn
    have:d≠m:=fun e=>hmd e.symm
    simp [setL,look,Bool.cond_eq_ite,hmd,this]
   ·simp [setL,look,Bool.cond_eq_ite,hmd,hmn,ih]
theorem lookB_setL (l:List (Nat × List AV)) (d:Nat) (v:List AV) (n:Nat):lookB (setL l d v) n = if d = n then some v else lookB l n:=by
 induction l with
 | nil=>simp [setL,lookB,Bool.cond_eq_ite]
 | cons p r ih =>
  obtain ⟨m,u⟩:=p
  by_cases hmd:m = d
  ·subst hmd
   by_cases hmn:m = n<;>simp [setL,lookB,Bool.cond_eq_ite,hmn]
  ·by_cases hmn:m = n
   ·subst hmn
    have:d≠m:=fun e=>hmd e.symm
    simp [setL,lookB,Bool.cond_eq_ite,hmd,this]
   ·simp [setL,lookB,Bool.cond_eq_ite,hmd,hmn,ih]
theorem lookB_delL (l:List (Nat × List AV)) (d n:Nat):lookB (delL l d) n = if d = n then none else lookB l n:=by
 induction l with
 | nil=>simp [delL,lookB]
 | cons p r ih =>
  obtain ⟨m,u⟩:=p
  by_cases hmd:m = d
  ·subst hmd
   by_cases hmn:m = n
   ·subst hmn; simp [delL,Bool.cond_eq_ite,ih]
   ·simp [delL,lookB,Bool.cond_eq_ite,hmn,ih]
  ·by_cases hmn:m = n
   ·subst hmn
    have:d≠m:=fun e=>hmd e.symm
    simp [delL,lookB,Bool.cond_eq_ite,hmd,this]
   ·simp [delL,lookB,Bool.cond_eq_ite,hmd,hmn,ih]
theorem look_mapV (f:AV→AV) (hf:f .x = .x) (l:List (Nat × AV)) (n:Nat):look (mapV f l) n = f (look l n):=by
 induction l with
 | nil=>simp [mapV,look,hf]
 | cons p r ih=>obtain ⟨m,u⟩:=p; by_cases hmn:m = n<;>simp [mapV,look,Bool.cond_eq_ite,hmn,ih]
theorem mapC_eq (f:AV→AV) (l:List AV):mapC f l = l.map f:=by induction l with
 | nil=>rfl
 | cons a r ih=>simp [mapC,ih]
theorem lookB_mapB (f:AV→AV) (l:List (Nat × List AV)) (n:Nat):lookB (mapB f l) n = (lookB l n).map (mapC f):=by
 induction l with
 | nil=>simp [mapB,lookB]
 | cons p r ih=>obtain ⟨m,u⟩:=p; by_cases hmn:m = n<;>simp [mapB,lookB,Bool.cond_eq_ite,hmn,ih]

def St.put (s:St) (d:Nat) (v:AV):St:={ s with slots:=setL s.slots d v }
def St.setBox (s:St) (n:Nat) (cs:List AV):St:={ s with boxes:=setL s.boxes n cs }
def St.map (f:AV→AV) (s:St):St:=⟨mapV f s.slots,mapB f s.boxes⟩
def St.delBox (s:St) (n:Nat):St:={ s with boxes:=delL s.boxes n }

def Nm (s:St) (n:Nat):Prop :=
 (∃ cs,lookB s.boxes n = some cs)∨(∃ m,n ∈ ids (look s.slots m))∨∃ b cs,lookB s.boxes b = some cs∧∃ c ∈ cs,n ∈ ids c
def OwnN (s:St) (β:Nat→Option Nat) (k:Nat):Prop:=∃ n,Nm s n∧β n = some k
def Own (X:Nat→Prop) (s:St) (β:Nat→Option Nat) (k:Nat):Prop:=X k∨OwnN s β k

class Globs where
 gl:List (Nat × Obj)
def GlobOK [G:Globs] (O:Nat→Prop) (w:World):Prop:=∀ p ∈ G.gl,¬ O p.1∧w.heap[p.1]? = some p.2
theorem GlobOK.step [Globs] {O O' Ow:Nat→Prop} {w w':World} (h:GlobOK O w) (hs:Stp Ow w w') (hw:∀ k,k < w.heap.size→Ow k→O k) (hO:∀ k,k < w.heap.size→O' k→O k):GlobOK O' w':=fun p hp=>by
 obtain ⟨h1,h2⟩:=h p hp
 have hlt:p.1 < w.heap.size:=(Array.getElem?_eq_some_iff.1 h2).1
 exact ⟨fun ho=>h1 (hO _ hlt ho),(hs.block _ hlt fun ho=>h1 (hw _ hlt ho)).trans h2⟩
variable [Globs]

structure Fr where
 own:Nat→Prop
 pin:Nat→Option Nat
 dfr:List Deferred
def Fr.none:Fr:=⟨fun _=>False,fun _=>Option.none,[]⟩
structure InvB (W0:World) (F:Fr) (X:Nat→Prop) (N:Nat) (s:St) (β:Nat→Option Nat) (a:Act) (w:World):Prop where
 ext:Stp F.own W0 w
 slots:∀ n,Rel β (Own X s β) w (look s.slots n) (a.tmps.getD n undef)
 size:a.tmps.size = N
 boxes:∀ n cs,lookB s.boxes n = some cs→∃ g us e,β n = some g∧w.heap[g]? = some (.cells us e (0,0))∧All2 (RelC β (Own X s β) w) cs us.toList
 inj:∀ n m g,Nm s n→Nm s m→β n = some g→β m = some g→n = m
 own:∀ n g,Nm s n→β n = some g→g < w.heap.size∧(W0.heap.size≤g∨F.own g)
 defers:a.defers = F.dfr
 ext2:∀ k,X k→k < W0.heap.size∧¬ F.own k
 pin:∀ n cs g,lookB s.boxes n = some cs→F.pin n = some g→β n = some g
 pinN:∀ n,n < N→F.pin n = none
 gl:GlobOK (fun k=>X k∨F.own k) W0
def Inv (W0:World) (F:Fr) (X:Nat→Prop) (N:Nat) (s:St) (a:Act) (w:World):Prop:=∃ β,InvB W0 F X N s β a w

theorem getD_put (a:Act) (d:Nat) (u:Value) (hd:d < a.tmps.size) (n:Nat):((a.put (some d) u).tmps).getD n undef = if d = n then u else a.tmps.getD n undef:=by
 simp only [Act.put,Array.getD_eq_getD_getElem?,Array.getElem?_setIfInBounds]
 by_cases h:d = n
 ·subst h; simp [hd]
 ·simp [h]
theorem size_put (a:Act) (d:Option Nat) (u:Value):(a.put d u).tmps.size = a.tmps.size:=by cases d<;>simp [Act.put]
theorem defers_put (a:Act) (d:Option Nat) (u:Value):(a.put d u).defers = a.defers:=by cases d<;>rfl

section
variable {W0:World} {F:Fr} {X:Nat→Prop} {N:Nat} {s:St} {β:Nat→Option Nat} {a:Act} {w:World}

theorem InvB.ownF (h:InvB W0 F X N s β a w):∀ k,k < W0.heap.size→OwnN s β k→F.own k:=by
 rintro k hk ⟨n,hn,hb⟩
 rcases (h.own n k hn hb).2 with h1 | h1
 ·omega
 ·exact h1

theorem InvB.disj (h:InvB W0 F X N s β a w) (n k:Nat) (hn:Nm s n) (hb:β n = some k):¬ X k:=fun hX=>by
 obtain ⟨h1,h2⟩:=h.ext2 k hX
 rcases (h.own n k hn hb).2 with h3 | h3
 ·omega
 ·exact h2 h3

theorem InvB.globs (h:InvB W0 F X N s β a w):GlobOK (Own X s β) w :=
 h.gl.step h.ext (fun _ _ h=>.inr h) (fun k hk ho=>ho.imp id fun hn=>h.ownF k hk hn)

theorem InvB.upd (h : InvB W0 F X N s β a w) {s' : St} {β' : Nat → Option Nat} {a' : Act} {w' : World} {Ow : Nat → Prop} (hs : Stp Ow w w') (hw : ∀ k, k < w.heap.size → Ow k → OwnN s β k)
  (hslots:∀ n,Rel β' (Own X s' β') w' (look s'.slots n) (a'.tmps.getD n undef))
  (hboxes:∀ n cs,lookB s'.boxes n = some cs→∃ g us e,β' n = some g∧w'.heap[g]? = some (.cells us e (0,0))∧All2 (RelC β' (Own X s' β') w') cs us.toList)
  (hinj:∀ n m g,Nm s' n→Nm s' m→β' n = some g→β' m = some g→n = m)
  (hown:∀ n g,Nm s' n→β' n = some g→g < w'.heap.size∧(W0.heap.size≤g∨F.own g))
  (hsize:a'.tmps.size = a.tmps.size) (hdef:a'.defers = a.defers) (hpin:∀ n cs g,lookB s'.boxes n = some cs→F.pin n = some g→β' n = some g):InvB W0 F X N s' β' a' w' :=
 ⟨h.ext.trans hs (fun k hk ho=>h.ownF k hk (hw k (Nat.lt_of_lt_of_le hk h.ext.size) ho)),hslots,hsize.trans h.size,hboxes,hinj,hown,hdef.trans h.defers,h.ext2,hpin,h.pinN,h.gl⟩

theorem InvB.less (h : InvB W0 F X N s β a w) {s' : St} {a' : Act} {w' : World} (hs : Stp (fun _ => False) w w')
  (hNm:∀ n,Nm s' n→Nm s n)
  (hslots:∀ n,∃ m,(look s'.slots n = look s.slots m∧a'.tmps.getD n undef = a.tmps.getD m undef)∨Im (Own X s β) w' (look s'.slots n) (a'.tmps.getD n undef) ∨
   (Rel β (Own X s β) w (look s'.slots n) (a'.tmps.getD n undef)))
  (hboxes:∀ n cs,lookB s'.boxes n = some cs→lookB s.boxes n = some cs)
  (hsize:a'.tmps.size = a.tmps.size) (hdef:a'.defers = a.defers):InvB W0 F X N s' β a' w':=by
 have hO:∀ k,Own X s' β k→Own X s β k:=fun k hk=>hk.imp id fun ⟨n,hn,hb⟩=>⟨n,hNm n hn,hb⟩
 have hst:∀ av v,(∀ n ∈ ids av,Nm s n)→Rel β (Own X s β) w av v→Rel β (Own X s' β) w' av v:=fun av v _ hr =>
  hr.step hs (fun _ _ h=>h.elim) (fun k _=>hO k) (fun _ _=>rfl) (fun n hn g hg=>by
   by_cases hlt:g < w.heap.size
   ·exact hs.block g hlt (fun h=>h)
   ·rename_i hids
    have hn':Nm s n:=hids n (by
     cases av with
     | fn f caps=>simp only [vids,ids,List.mem_flatMap] at hn ⊢; obtain ⟨c,hc,hcn⟩:=hn; exact ⟨c,hc,by cases c<;>simp_all [vids0,ids0]⟩
     | tup cs=>simp only [vids,ids,List.mem_flatMap] at hn ⊢; obtain ⟨c,hc,hcn⟩:=hn; exact ⟨c,hc,by cases c<;>simp_all [vids0,ids0]⟩
     | ag k cs=>simp only [vids,ids,List.mem_flatMap] at hn ⊢; obtain ⟨c,hc,hcn⟩:=hn; exact ⟨c,hc,by cases c<;>simp_all [vids0,ids0]⟩
     | _=>simp_all [vids,vids0,ids,ids0])
    exact absurd (h.own n g hn' hg).1 hlt)
 refine h.upd hs (fun _ _ h=>h.elim) (fun n=>?_) (fun n cs hcs=>?_) (fun n m g hn hm=>h.inj n m g (hNm n hn) (hNm m hm)) (fun n g hn hg=>?_) hsize hdef (fun n cs g hc hp=>h.pin n cs g (hboxes n cs hc) hp)
 ·have hids:∀ k ∈ ids (look s'.slots n),Nm s k:=fun k hk=>hNm k (.inr (.inl ⟨n,hk⟩))
  obtain ⟨m,h1 | h1 | h1⟩:=hslots n
  ·rw [h1.2]; rw [h1.1] at hids ⊢; exact hst _ _ hids (h.slots m)
  ·exact Rel.im (h1.step (Stp.refl _ _) (fun _ _ h=>h) (fun k _=>hO k))
  ·exact hst _ _ hids h1
 ·obtain ⟨g,us,e,h1,h2,h3⟩:=h.boxes n cs (hboxes n cs hcs)
  have hN:Nm s n:=.inl ⟨cs,hboxes n cs hcs⟩
  have hg:=(h.own n g hN h1).1
  refine ⟨g,us,e,h1,(hs.block g hg (fun h=>h)).trans h2,h3.mono fun j c v hc hr=>⟨hst c v (fun k hk=>?_) hr.1,hr.2⟩⟩
  exact .inr (.inr ⟨n,cs,hboxes n cs hcs,c,List.mem_of_getElem? hc,hk⟩)
 ·obtain ⟨h1,h2⟩:=h.own n g (hNm n hn) hg
  exact ⟨Nat.lt_of_lt_of_le h1 hs.size,h2⟩
end
end Go.SX
end
section
namespace Go.SX
variable [Globs]

theorem Im.ids0_nil {O:Nat→Prop} {w:World} {av:AV} {v:Value} (h:Im O w av v):ids0 av = []:=by cases h<;>rfl
theorem Im.ids_nil {O:Nat→Prop} {w:World} {av:AV} {v:Value} (h:Im O w av v):ids av = []:=by
 cases h with
 | fn f caps vs hl h =>
  simp only [ids,List.flatMap_eq_nil_iff]
  intro c hc
  obtain ⟨j,hj,rfl⟩:=List.getElem_of_mem hc
  exact (h j _ _ (List.getElem?_eq_getElem hj) (List.getElem?_eq_getElem (by rw [← hl]; exact hj))).ids0_nil
 | tup caps vs hl h =>
  simp only [ids,List.flatMap_eq_nil_iff]
  intro c hc
  obtain ⟨j,hj,rfl⟩:=List.getElem_of_mem hc
  exact (h j _ _ (List.getElem?_eq_getElem hj) (List.getElem?_eq_getElem (by rw [← hl]; exact hj))).ids0_nil
 | _=>rfl
theorem Im.mono {O O':Nat→Prop} {w:World} {av:AV} {v:Value} (h:Im O w av v) (hO:∀ k,O' k→O k):Im O' w av v :=
 h.step (Stp.refl (fun _=>False) w) (fun _ _ h=>h.elim) (fun k _=>hO k)
theorem Rel.mono {β:Nat→Option Nat} {O O':Nat→Prop} {w:World} {av:AV} {v:Value} (h:Rel β O w av v) (hO:∀ k,O' k→O k):Rel β O' w av v :=
 h.step (Stp.refl (fun _=>False) w) (fun _ _ h=>h.elim) (fun k _=>hO k) (fun _ _=>rfl) (fun _ _ _ _=>rfl)

section
variable {W0:World} {F:Fr} {X:Nat→Prop} {N:Nat} {s:St} {β:Nat→Option Nat} {a:Act} {w:World}

theorem Nm.of_put {d:Nat} {v:AV} (hids:∀ n ∈ ids v,Nm s n) {n:Nat} (h:Nm (s.put d v) n):Nm s n:=by
 rcases h with ⟨cs,h⟩ | ⟨m,h⟩ | ⟨b,cs,h,c,hc,hn⟩
 ·exact .inl ⟨cs,h⟩
 ·simp only [St.put,look_setL] at h
  split at h
  ·exact hids n h
  ·exact .inr (.inl ⟨m,h⟩)
 ·exact .inr (.inr ⟨b,cs,h,c,hc,hn⟩)

theorem InvB.put (h : InvB W0 F X N s β a w) {d : Nat} (hd : d < N) {v : AV} {u : Value} (hr : Rel β (Own X s β) w v u) (hids : ∀ n ∈ ids v, Nm s n) :
  InvB W0 F X N (s.put d v) β (a.put (some d) u) w:=by
 refine h.less (Stp.refl _ _) (fun n=>Nm.of_put hids) (fun n=>?_) (fun n cs h=>h) (size_put _ _ _) (defers_put _ _ _)
 rw [getD_put a d u (by rw [h.size]; exact hd)]
 simp only [St.put,look_setL]
 by_cases hdn:d = n
 ·simp only [hdn,if_true]; exact ⟨n,.inr (.inr hr)⟩
 ·simp only [hdn,if_false]; exact ⟨n,.inl ⟨rfl,rfl⟩⟩

theorem InvB.putIm (h : InvB W0 F X N s β a w) {d : Nat} (hd : d < N) {w' : World} (hs : Stp (fun _ => False) w w') {v : AV} {u : Value} (hr : Im (Own X s β) w' v u) :
  InvB W0 F X N (s.put d v) β (a.put (some d) u) w':=by
 refine h.less hs (fun n=>Nm.of_put (by rw [hr.ids_nil]; intro n hn; cases hn)) (fun n=>?_) (fun n cs h=>h) (size_put _ _ _) (defers_put _ _ _)
 rw [getD_put a d u (by rw [h.size]; exact hd)]
 simp only [St.put,look_setL]
 by_cases hdn:d = n
 ·simp only [hdn,if_true]; exact ⟨n,.inr (.inl hr)⟩
 ·simp only [hdn,if_false]; exact ⟨n,.inl ⟨rfl,rfl⟩⟩

theorem InvB.grow (h:InvB W0 F X N s β a w) {w':World} (hs:Stp (fun _=>False) w w'):InvB W0 F X N s β a w' :=
 h.less hs (fun _ hn=>hn) (fun n=>⟨n,.inl ⟨rfl,rfl⟩⟩) (fun _ _ h=>h) rfl rfl

theorem InvB.mapped (h : InvB W0 F X N s β a w) (f : AV → AV) (hx : f .x = .x) (O' : Nat → Prop)
  (hf:∀ av v,Rel β (Own X s β) w av v→Rel β O' w (f av) v) (hids:∀ av n,n ∈ ids (f av)→n ∈ ids av)
  (hO:∀ k,Own X (s.map f) β k→O' k):InvB W0 F X N (s.map f) β a w:=by
 have hNm:∀ n,Nm (s.map f) n→Nm s n:=by
  rintro n (⟨cs,h⟩ | ⟨m,h⟩ | ⟨b,cs,h,c,hc,hn⟩)
  ·simp only [St.map,lookB_mapB,Option.map_eq_some_iff] at h
   obtain ⟨cs',h1,_⟩:=h
   exact .inl ⟨cs',h1⟩
  ·simp only [St.map,look_mapV f hx] at h
   exact .inr (.inl ⟨m,hids _ _ h⟩)
  ·simp only [St.map,lookB_mapB,Option.map_eq_some_iff] at h
   obtain ⟨cs',h1,rfl⟩:=h
   rw [mapC_eq] at hc
   obtain ⟨c',hc',rfl⟩:=List.mem_map.1 hc
   exact .inr (.inr ⟨b,cs',h1,c',hc',hids _ _ hn⟩)
 refine h.upd (Stp.refl (fun _=>False) w) (fun _ _ h=>h.elim) (fun n=>?_) (fun n cs hcs=>?_) (fun n m g hn hm=>h.inj n m g (hNm n hn) (hNm m hm))
  (fun n g hn hg=>h.own n g (hNm n hn) hg) rfl rfl (fun n cs g hc hp=>by
   simp only [St.map,lookB_mapB,Option.map_eq_some_iff] at hc
   obtain ⟨cs',h1,_⟩:=hc
   exact h.pin n cs' g h1 hp)
 ·simp only [St.map,look_mapV f hx]
  exact (hf _ _ (h.slots n)).mono hO
 ·simp only [St.map,lookB_mapB,Option.map_eq_some_iff] at hcs
  obtain ⟨cs',h1,rfl⟩:=hcs
  obtain ⟨g,us,e,h2,h3,h4⟩:=h.boxes n cs' h1
  refine ⟨g,us,e,h2,h3,?_⟩
  rw [mapC_eq]
  refine ⟨by simpa using h4.1,fun j c v hc hv=>?_⟩
  rw [List.getElem?_map,Option.map_eq_some_iff] at hc
  obtain ⟨c',hc',rfl⟩:=hc
  exact ⟨(hf _ _ (h4.2 j c' v hc' hv).1).mono hO,(h4.2 j c' v hc' hv).2⟩
end

theorem nbeq_ne {m n:Nat} (h:m≠n):Nat.beq m n = false:=by
 rw [← Bool.not_eq_true]; exact fun e=>h (Nat.eq_of_beq_eq_true e)
def inL (n:Nat):List Nat→Bool
 | []=>false
 | m::r=>bif Nat.beq m n then true else inL n r
theorem inL_iff (n:Nat) (l:List Nat):inL n l = true↔n ∈ l:=by
 induction l with
 | nil=>simp [inL]
 | cons m r ih =>
  simp only [inL,Bool.cond_eq_ite,List.mem_cons]
  by_cases h:m = n
  ·simp [h]
  ·have h':n≠m:=fun e=>h e.symm
   simp [h,h',ih]

def kill (n:Nat) (av:AV):AV:=bif inL n (ids av) then .x else av
theorem kill_ids (n:Nat) (av:AV) (m:Nat) (h:m ∈ ids (kill n av)):m ∈ ids av∧m≠n:=by
 unfold kill at h
 cases hn:inL n (ids av) with
 | true=>rw [hn] at h; exact absurd h (by simp [ids,ids0])
 | false =>
  rw [hn] at h
  have h:m ∈ ids av:=h
  refine ⟨h,?_⟩
  rintro rfl
  rw [(inL_iff m _).2 h] at hn
  cases hn
theorem kill_x (n:Nat):kill n .x = .x:=rfl

theorem InvB.kill {W0:World} {F:Fr} {X:Nat→Prop} {N:Nat} {s:St} {β:Nat→Option Nat} {a:Act} {w:World} (h:InvB W0 F X N s β a w) (n:Nat):InvB W0 F X N (s.map (kill n)) β a w:=by
 have hO:∀ k,Own X (s.map (SX.kill n)) β k→Own X s β k:=by
  rintro k (hX | ⟨m,hm,hb⟩)
  ·exact .inl hX
  refine .inr ⟨m,?_,hb⟩
  rcases hm with ⟨cs,h⟩ | ⟨q,h⟩ | ⟨b,cs,h,c,hc,hn⟩
  ·simp only [St.map,lookB_mapB,Option.map_eq_some_iff] at h
   obtain ⟨cs',h1,_⟩:=h
   exact .inl ⟨cs',h1⟩
  ·simp only [St.map,look_mapV _ (kill_x n)] at h
   exact .inr (.inl ⟨q,(kill_ids _ _ _ h).1⟩)
  ·simp only [St.map,lookB_mapB,Option.map_eq_some_iff] at h
   obtain ⟨cs',h1,rfl⟩:=h
   rw [mapC_eq] at hc
   obtain ⟨c',hc',rfl⟩:=List.mem_map.1 hc
   exact .inr (.inr ⟨b,cs',h1,c',hc',(kill_ids _ _ _ hn).1⟩)
 refine h.mapped (SX.kill n) (kill_x n) (Own X s β) (fun av v hr=>?_) (fun av m hm=>(kill_ids _ _ _ hm).1) hO
 unfold SX.kill
 cases inL n (ids av) with
 | true=>exact Rel.x
 | false=>exact hr

def frzG (id i i2:Nat):Ob→AV
 | .gr L k row=>bif Nat.beq i2 id then (bif Nat.beq i id then .x else .vec i .ints (L.set k row)) else .x
 | _=>.x
theorem frzG_ids (id i i2:Nat) (o:Ob) (m:Nat) (h:m ∈ ids (frzG id i i2 o)):m = i∧i≠id:=by
 cases o with
 | gr L k row =>
  simp only [frzG] at h
  cases h1:Nat.beq i2 id<;>cases h2:Nat.beq i id<;>simp only [h1,h2,cond_true,cond_false] at h<;>(try (simp [ids,ids0] at h; done))
  refine ⟨by simpa [ids,ids0] using h,fun e=>?_⟩
  rw [e,Nat.beq_refl] at h2
  cases h2
 | _=>simp [frzG,ids,ids0] at h
def frz (id:Nat):AV→AV
 | .vec i τ l=>bif Nat.beq i id then .rd τ l else .vec i τ l
 | .vp i τ l n off=>bif Nat.beq i id then .rp ((enc τ (l.getD n (dflt τ))).drop off) else .vp i τ l n off
 | .pt n o=>bif Nat.beq n id then .x else .pt n o
 | .fn f caps=>bif inL id (caps.flatMap ids0) then .x else .fn f caps
 | .tup cs=>bif inL id (cs.flatMap ids0) then .x else .tup cs
 | .vs i τ l k=>bif Nat.beq i id then .rd τ (l.drop k) else .vs i τ l k
 | .ag k cs=>bif inL id (cs.flatMap ids0) then .x else .ag k cs
 | .ob i i2 o=>bif inL id [i,i2] then frzG id i i2 o else .ob i i2 o
 | av=>av
theorem frz_ids (n:Nat) (av:AV) (m:Nat) (h:m ∈ ids (frz n av)):m ∈ ids av∧m≠n:=by
 cases av with
 | vec i τ l=>by_cases e:i = n<;>simp_all [frz,ids,ids0,Bool.cond_eq_ite]
 | vp i τ l k off=>by_cases e:i = n<;>simp_all [frz,ids,ids0,Bool.cond_eq_ite]
 | pt i o=>by_cases e:i = n<;>simp_all [frz,ids,ids0,Bool.cond_eq_ite]
 | fn f caps =>
  by_cases e:inL n (caps.flatMap ids0) = true
  ·simp [frz,e,ids,ids0] at h
  ·simp only [Bool.not_eq_true] at e
   simp only [frz,e,cond_false] at h
   refine ⟨h,?_⟩
   rintro rfl
   rw [(inL_iff m (caps.flatMap ids0)).2 h] at e
   cases e
 | vs i τ l k=>by_cases e:i = n<;>simp_all [frz,ids,ids0,Bool.cond_eq_ite]
 | ob i i2 o =>
  by_cases e:inL n [i,i2] = true
  ·simp only [frz,e,cond_true] at h
   obtain ⟨rfl,h2⟩:=frzG_ids _ _ _ _ _ h
   exact ⟨by simp [ids,ids0],h2⟩
  ·simp only [Bool.not_eq_true] at e
   simp only [frz,e,cond_false] at h
   refine ⟨h,?_⟩
   rintro rfl
   have h:m ∈ [i,i2]:=h
   rw [(inL_iff m [i,i2]).2 h] at e
   cases e
 | ag k caps =>
  by_cases e:inL n (caps.flatMap ids0) = true
  ·simp [frz,e,ids,ids0] at h
  ·simp only [Bool.not_eq_true] at e
   simp only [frz,e,cond_false] at h
   refine ⟨h,?_⟩
   rintro rfl
   rw [(inL_iff m (caps.flatMap ids0)).2 h] at e
   cases e
 | tup caps =>
  by_cases e:inL n (caps.flatMap ids0) = true
  ·simp [frz,e,ids,ids0] at h
  ·simp only [Bool.not_eq_true] at e
   simp only [frz,e,cond_false] at h
   refine ⟨h,?_⟩
   rintro rfl
   rw [(inL_iff m (caps.flatMap ids0)).2 h] at e
   cases e
 | _=>simp [frz,ids,ids0] at h

theorem VecAt.freeze {β : Nat → Option Nat} {O O' : Nat → Prop} {w : World} {id : Nat} {τ : Ty} {l : List (den τ)} {v : Value} (h : VecAt β O w id τ l v)
  (hO:∀ k,O' k→O k∧β id≠some k):Im O' w (.rd τ l) v:=by
 rcases h with ⟨rfl,rfl,_⟩ | ⟨g,c,cur,e,h1,rfl,h3,h4,h5,h6,h7⟩
 ·exact .rd0 τ none 0 (by simp [maxLen])
 ·cases l with
  | nil=>exact .rd0 τ _ c h5
  | cons x l =>
   have hg:¬ O' g:=fun hg=>(hO g hg).2 h1
   refine .rd τ _ g 0 c (fun i j=>(cur[i * esz τ + j]?).getD undef) hg h4 h5 (by simp) (fun i y j av hy hav=>?_) (fun i y j av hy hav=>?_)
   ·obtain ⟨u,hu,_⟩:=h7 i y j av hy hav
    rw [Nat.zero_add,cell_of_row w g _ cur e (0,0) h3,hu]
    rfl
   ·obtain ⟨u,hu,him⟩:=h7 i y j av hy hav
    simp only [hu,Option.getD_some]
    exact him.mono fun k hk=>(hO k hk).1

theorem Im.rd_drop {O : Nat → Prop} {w : World} {τ : Ty} {l : List (den τ)} {g o n c k : Nat} {ad : Addr} (h : Im O w (.rd τ l) (.slice (some ⟨g, o, none⟩) n c)) (hk : k ≤ l.length)
  (had:k < c→ad = ⟨g,o + k * esz τ,none⟩):Im O w (.rd τ (l.drop k)) (.slice (some ad) (n - k) (c - k)):=by
 cases h with
 | rd0 _ _ _ hc=>simp at hk; subst hk; simp; exact .rd0 τ _ _ hc
 | rd _ _ g off c u hg hc hmx hne hcell him =>
  cases hl:l.drop k with
  | nil =>
   have:(l.drop k).length = 0:=by rw [hl]; rfl
   simp at this
   rw [show l.length - k = 0 by omega]
   exact .rd0 τ _ _ (by omega)
  | cons y r =>
   have hpos:0 < (l.drop k).length:=by rw [hl]; simp
   simp at hpos
   rw [← hl,had (by omega),← List.length_drop]
   refine .rd τ _ g _ _ (fun i j=>u (k + i) j) hg (by simp; omega) (by omega) (by rw [hl]; simp) (fun i z j av hz hav=>?_) (fun i z j av hz hav=>?_)
   ·rw [List.getElem?_drop] at hz
    have:=hcell _ _ j av hz hav
    rw [Nat.add_mul] at this
    rw [← this]
    congr 2
    omega
   ·rw [List.getElem?_drop] at hz
    exact him _ _ j av hz hav
theorem VsAt.freeze {β : Nat → Option Nat} {O O' : Nat → Prop} {w : World} {id : Nat} {τ : Ty} {l : List (den τ)} {k : Nat} {v : Value} (h : VsAt β O w id τ l k v)
  (hO:∀ k,O' k→O k∧β id≠some k):Im O' w (.rd τ (l.drop k)) v:=by
 obtain ⟨h0,v',h1,h2⟩:=h
 have h3:=h1.freeze hO
 rcases h2 with ⟨rfl,rfl⟩ | ⟨g,n,c,ad,rfl,rfl,h4⟩
 ·exact h3
 ·exact h3.rd_drop h0 fun h=>by rw [h4 h,Nat.zero_add]
theorem GrAt.freeze {β : Nat → Option Nat} {O O' : Nat → Prop} {w : World} {id id2 : Nat} {L : List (List Int)} {i : Nat} {row : List Int} {v : Value} (h : GrAt β O w id id2 L i row v)
  (hO:∀ k,O' k→O k∧β id2≠some k):VecAt β O' w id .ints (L.set i row) v:=by
 obtain ⟨g,c,cur,e,h1,h2,h3,h4,h5,h6,h7,h8⟩:=h
 refine .inr ⟨g,c,cur,e,h1,by simpa using h2,h3,by simpa using h4,h5,by simpa [esz] using h6,fun j x q av hj hav=>?_⟩
 cases q with
 | succ q=>simp [enc] at hav
 | zero =>
  have hav:AV.rd .int x = av:=by simpa [enc] using hav
  subst hav
  simp only [esz,Nat.mul_one,Nat.add_zero]
  by_cases hji:j = i
  ·subst hji
   have hlt:j < L.length:=by
    have:=(List.getElem?_eq_some_iff.1 hj).1
    simpa using this
   rw [List.getElem?_set_self hlt] at hj
   injection hj with hj
   subst hj
   obtain ⟨u,h9,h10⟩:=h8 hlt
   exact ⟨u,h9,h10.freeze hO⟩
  ·rw [List.getElem?_set_ne (fun e=>hji e.symm)] at hj
   obtain ⟨u,hu,him⟩:=h7 j x hj hji
   exact ⟨u,hu,him.mono fun k hk=>(hO k hk).1⟩
theorem Rel.frz {β : Nat → Option Nat} {O O' : Nat → Prop} {w : World} {id : Nat} {av : AV} {v : Value} (h : Rel β O w av v)
  (hO:∀ k,O' k→O k∧β id≠some k):Rel β O' w (frz id av) v:=by
 have hm:∀ {av v},Rel β O w av v→Rel β O' w av v:=fun h=>h.mono fun k hk=>(hO k hk).1
 cases av with
 | vec i τ l =>
  by_cases e:i = id
  ·subst e; simp only [SX.frz,Nat.beq_refl,cond_true]; exact VecAt.freeze h hO
  ·simp only [SX.frz,nbeq_ne e,cond_false]; exact hm h
 | vp i τ l n off =>
  by_cases e:i = id
  ·subst e
   simp only [SX.frz,Nat.beq_refl,cond_true]
   obtain ⟨hn,⟨g,hg,rfl⟩,v',hv⟩:=h
   refine Im.mk_rp (g:=g) (o:=n * esz τ + off) fun j av hj=>?_
   refine ⟨fun hk=>(hO g hk).2 hg,?_⟩
   rcases hv with ⟨rfl,_,_⟩ | ⟨g',c,cur,e,h1,rfl,h3,h4,h5,h6,h7⟩
   ·simp at hn
   ·rw [h1] at hg
    injection hg with hg
    subst hg
    rw [List.getElem?_drop] at hj
    have hl:l[n]? = some (l.getD n (dflt τ)):=by rw [List.getD_eq_getElem?_getD,List.getElem?_eq_getElem hn]; rfl
    obtain ⟨u,hu,him⟩:=h7 n _ (off + j) av hl hj
    refine ⟨u,?_,him.mono fun k hk=>(hO k hk).1,plain_one him (enc_plain τ _ _ (List.mem_of_getElem? hj))⟩
    rw [cell_of_row w g' _ cur e (0,0) h3,Nat.add_assoc,hu]
  ·simp only [SX.frz,nbeq_ne e,cond_false]; exact hm h
 | pt n o =>
  by_cases e:n = id
  ·subst e; simp only [SX.frz,Nat.beq_refl,cond_true]; exact Rel.x
  ·simp only [SX.frz,nbeq_ne e,cond_false]; exact hm h
 | fn f caps =>
  simp only [SX.frz]
  cases inL id (caps.flatMap ids0) with
  | true=>exact Rel.x
  | false=>exact hm h
 | tup caps =>
  simp only [SX.frz]
  cases inL id (caps.flatMap ids0) with
  | true=>exact Rel.x
  | false=>exact hm h
 | vs i τ l k =>
  by_cases e:i = id
  ·subst e; simp only [SX.frz,Nat.beq_refl,cond_true]; exact VsAt.freeze h hO
  ·simp only [SX.frz,nbeq_ne e,cond_false]; exact hm h
 | ag k caps =>
  simp only [SX.frz]
  cases inL id (caps.flatMap ids0) with
  | true=>exact Rel.x
  | false=>exact hm h
 | ob i i2 o =>
  simp only [SX.frz]
  cases inL id [i,i2] with
  | true =>
   cases o with
   | gr L k row =>
    simp only [frzG,cond_true]
    by_cases e2:i2 = id
    ·subst e2
     simp only [Nat.beq_refl,cond_true]
     cases Nat.beq i i2 with
     | true=>exact Rel.x
     | false=>exact GrAt.freeze (show GrAt β O w i i2 L k row v from h) hO
    ·simp only [nbeq_ne e2,cond_false]; exact Rel.x
   | _=>exact Rel.x
  | false=>exact hm h
 | _=>exact hm h

def St.frz (s:St) (id:Nat):St:=(s.map (SX.frz id)).delBox id
theorem Nm.of_frz {s:St} {id n:Nat} (h:Nm (s.frz id) n):Nm s n∧n≠id:=by
 have key:∀ b cs,lookB (s.frz id).boxes b = some cs→b≠id∧∃ cs',lookB s.boxes b = some cs'∧cs = cs'.map (SX.frz id):=by
  intro b cs h
  simp only [St.frz,St.delBox,St.map,lookB_delL,lookB_mapB] at h
  split at h
  ·cases h
  ·rename_i hne
   obtain ⟨cs',h1,rfl⟩:=Option.map_eq_some_iff.1 h
   exact ⟨fun e=>hne e.symm,cs',h1,mapC_eq _ _⟩
 rcases h with ⟨cs,h⟩ | ⟨q,h⟩ | ⟨b,cs,h,c,hc,hn⟩
 ·obtain ⟨h1,cs',h2,_⟩:=key _ _ h
  exact ⟨.inl ⟨cs',h2⟩,h1⟩
 ·simp only [St.frz,St.delBox,St.map,look_mapV _ (show SX.frz id .x = .x from rfl)] at h
  exact ⟨.inr (.inl ⟨q,(frz_ids _ _ _ h).1⟩),(frz_ids _ _ _ h).2⟩
 ·obtain ⟨h1,cs',h2,rfl⟩:=key _ _ h
  obtain ⟨c',hc',rfl⟩:=List.mem_map.1 hc
  exact ⟨.inr (.inr ⟨b,cs',h2,c',hc',(frz_ids _ _ _ hn).1⟩),(frz_ids _ _ _ hn).2⟩

theorem InvB.frz {W0:World} {F:Fr} {X:Nat→Prop} {N:Nat} {s:St} {β:Nat→Option Nat} {a:Act} {w:World} (h:InvB W0 F X N s β a w) (id:Nat):InvB W0 F X N (s.frz id) β a w:=by
 by_cases hid:Nm s id
 ·have hO : ∀ k, Own X (s.frz id) β k → Own X s β k ∧ β id ≠ some k := by
   rintro k (hX | ⟨m,hm,hb⟩)
   ·exact ⟨.inl hX,fun e=>h.disj id k hid e hX⟩
   ·obtain ⟨h1,h2⟩:=Nm.of_frz hm
    exact ⟨.inr ⟨m,h1,hb⟩,fun e=>h2 (h.inj m id k h1 hid hb e)⟩
  refine h.upd (Stp.refl (fun _=>False) w) (fun _ _ h=>h.elim) (fun n=>?_) (fun n cs hcs=>?_) (fun n m g hn hm=>h.inj n m g (Nm.of_frz hn).1 (Nm.of_frz hm).1)
   (fun n g hn hg=>h.own n g (Nm.of_frz hn).1 hg) rfl rfl (fun n cs g hc hp=>by
    simp only [St.frz,St.delBox,St.map,lookB_delL,lookB_mapB] at hc
    split at hc
    ·cases hc
    ·obtain ⟨cs',h1,_⟩:=Option.map_eq_some_iff.1 hc
     exact h.pin n cs' g h1 hp)
  ·simp only [St.frz,St.delBox,St.map,look_mapV _ (show SX.frz id .x = .x from rfl)]
   exact (h.slots n).frz hO
  ·simp only [St.frz,St.delBox,St.map,lookB_delL,lookB_mapB] at hcs
   split at hcs
   ·cases hcs
   ·obtain ⟨cs',h1,rfl⟩:=Option.map_eq_some_iff.1 hcs
    obtain ⟨g,us,e,h2,h3,h4⟩:=h.boxes n cs' h1
    refine ⟨g,us,e,h2,h3,?_⟩
    rw [mapC_eq]
    refine ⟨by simpa using h4.1,fun j c v hc hv=>?_⟩
    rw [List.getElem?_map,Option.map_eq_some_iff] at hc
    obtain ⟨c',hc',rfl⟩:=hc
    exact ⟨(h4.2 j c' v hc' hv).1.frz hO,(h4.2 j c' v hc' hv).2⟩
 ·have hO : ∀ k, Own X (s.frz id) β k → Own X s β k := by
   rintro k (hX | ⟨m,hm,hb⟩)
   ·exact .inl hX
   ·exact .inr ⟨m,(Nm.of_frz hm).1,hb⟩
  have hsame:∀ av,(∀ n ∈ ids av,Nm s n)→SX.frz id av = av:=by
   intro av hav
   cases av with
   | vec i τ l=>have:i≠id:=fun e=>hid (e ▸ hav i (by simp [ids,ids0])); simp [SX.frz,Bool.cond_eq_ite,this]
   | vp i τ l n off=>have:i≠id:=fun e=>hid (e ▸ hav i (by simp [ids,ids0])); simp [SX.frz,Bool.cond_eq_ite,this]
   | pt n o=>have:n≠id:=fun e=>hid (e ▸ hav n (by simp [ids,ids0])); simp [SX.frz,Bool.cond_eq_ite,this]
   | fn f caps =>
    have:inL id (caps.flatMap ids0) = false:=by
     rw [← Bool.not_eq_true,inL_iff]
     exact fun e=>hid (hav id e)
    simp [SX.frz,this]
   | tup caps =>
    have:inL id (caps.flatMap ids0) = false:=by
     rw [← Bool.not_eq_true,inL_iff]
     exact fun e=>hid (hav id e)
    simp [SX.frz,this]
   | vs i τ l n=>have:i≠id:=fun e=>hid (e ▸ hav i (by simp [ids,ids0])); simp [SX.frz,Bool.cond_eq_ite,this]
   | ag k caps =>
    have:inL id (caps.flatMap ids0) = false:=by
     rw [← Bool.not_eq_true,inL_iff]
     exact fun e=>hid (hav id e)
    simp [SX.frz,this]
   | ob i i2 o =>
    have:inL id [i,i2] = false:=by
     rw [← Bool.not_eq_true,inL_iff]
     exact fun e=>hid (hav id e)
    simp [SX.frz,this]
   | _=>rfl
  refine h.upd (Stp.refl (fun _=>False) w) (fun _ _ h=>h.elim) (fun n=>?_) (fun n cs hcs=>?_) (fun n m g hn hm=>h.inj n m g (Nm.of_frz hn).1 (Nm.of_frz hm).1)
   (fun n g hn hg=>h.own n g (Nm.of_frz hn).1 hg) rfl rfl (fun n cs g hc hp=>by
    simp only [St.frz,St.delBox,St.map,lookB_delL,lookB_mapB] at hc
    split at hc
    ·cases hc
    ·obtain ⟨cs',h1,_⟩:=Option.map_eq_some_iff.1 hc
     exact h.pin n cs' g h1 hp)
  ·simp only [St.frz,St.delBox,St.map,look_mapV _ (show SX.frz id .x = .x from rfl)]
   rw [hsame _ (fun k hk=>.inr (.inl ⟨n,hk⟩))]
   exact (h.slots n).mono hO
  ·simp only [St.frz,St.delBox,St.map,lookB_delL,lookB_mapB] at hcs
   split at hcs
   ·cases hcs
   ·obtain ⟨cs',h1,rfl⟩:=Option.map_eq_some_iff.1 hcs
    obtain ⟨g,us,e,h2,h3,h4⟩:=h.boxes n cs' h1
    refine ⟨g,us,e,h2,h3,?_⟩
    rw [mapC_eq]
    refine ⟨by simpa using h4.1,fun j c v hc hv=>?_⟩
    rw [List.getElem?_map,Option.map_eq_some_iff] at hc
    obtain ⟨c',hc',rfl⟩:=hc
    rw [hsame _ (fun k hk=>.inr (.inr ⟨n,cs',h1,c',List.mem_of_getElem? hc',hk⟩))]
    exact ⟨(h4.2 j c' v hc' hv).1.mono hO,(h4.2 j c' v hc' hv).2⟩
end Go.SX
end
section
namespace Go.SX
variable [Globs]

theorem vids0_ids0 {c:AV} {n:Nat} (hc:n ∈ vids0 c):n ∈ ids0 c:=by cases c<;>simp_all [vids0,ids0]
theorem vids_ids {av:AV} {n:Nat} (h:n ∈ vids av):n ∈ ids av:=by
 cases av with
 | fn f caps=>simp only [vids,ids,List.mem_flatMap] at h ⊢; obtain ⟨c,hc,hcn⟩:=h; exact ⟨c,hc,vids0_ids0 hcn⟩
 | tup cs=>simp only [vids,ids,List.mem_flatMap] at h ⊢; obtain ⟨c,hc,hcn⟩:=h; exact ⟨c,hc,vids0_ids0 hcn⟩
 | ag k cs=>simp only [vids,ids,List.mem_flatMap] at h ⊢; obtain ⟨c,hc,hcn⟩:=h; exact ⟨c,hc,vids0_ids0 hcn⟩
 | _=>simp_all [vids,vids0,ids,ids0]

section
variable {W0:World} {F:Fr} {X:Nat→Prop} {N:Nat} {s:St} {β:Nat→Option Nat} {a:Act} {w:World}

theorem InvB.keep (_h : InvB W0 F X N s β a w) {β' : Nat → Option Nat} {O' Ow : Nat → Prop} {w' : World} (hs : Stp Ow w w') (hw : ∀ k, k < w.heap.size → Ow k → OwnN s β k)
  (hO:∀ k,k < w.heap.size→O' k→Own X s β k) {av:AV} {v:Value} (hr:Rel β (Own X s β) w av v) (hβ:∀ n ∈ ids av,β' n = β n)
  (hb:∀ n ∈ vids av,∀ g,β n = some g→w'.heap[g]? = w.heap[g]?):Rel β' O' w' av v:=hr.step hs (fun k hk h=>.inr (hw k hk h)) hO hβ hb

def setβ (β:Nat→Option Nat) (d:Nat) (b:Option Nat) (n:Nat):Option Nat:=if n = d then b else β n

theorem Stp.alloc (w:World) (o:Obj):Stp (fun _=>False) w (w.alloc o) :=
 ⟨rfl,rfl,rfl,by simp,fun k hk _=>RowKit.Below.heap_alloc w o k hk⟩
theorem Stp.drew (w:World):Stp (fun _=>False) w w.drew:=⟨rfl,rfl,rfl,Nat.le_refl _,fun _ _ _=>rfl⟩

theorem InvB.box (h : InvB W0 F X N s β a w) {d : Nat} (hd : d < N) (hfree : ¬ Nm s d) {cs : List AV} {us : Array Value} {e : TypeId}
  (hr:All2 (RelC β (Own X s β) w) cs us.toList) (hids:∀ c ∈ cs,∀ n ∈ ids c,Nm s n) :
  InvB W0 F X N ((s.setBox d cs).put d (.pt d 0)) (setβ β d (some w.heap.size)) (a.put (some d) (.pointer (some ⟨w.heap.size,0,none⟩))) (w.alloc (.cells us e)):=by
 have hNm:∀ n,Nm ((s.setBox d cs).put d (.pt d 0)) n→n = d∨Nm s n:=by
  rintro n (⟨cs',h⟩ | ⟨q,h⟩ | ⟨b,cs',h,c,hc,hn⟩)
  ·simp only [St.put,St.setBox,lookB_setL] at h
   split at h
   ·rename_i e; exact .inl e.symm
   ·exact .inr (.inl ⟨cs',h⟩)
  ·simp only [St.put,St.setBox,look_setL] at h
   split at h
   ·simp [ids,ids0] at h; exact .inl h
   ·exact .inr (.inr (.inl ⟨q,h⟩))
  ·simp only [St.put,St.setBox,lookB_setL] at h
   split at h
   ·injection h with h; subst h; exact .inr (hids c hc n hn)
   ·exact .inr (.inr (.inr ⟨b,cs',h,c,hc,hn⟩))
 have hβ:∀ n,Nm s n→setβ β d (some w.heap.size) n = β n:=fun n hn=>by
  unfold setβ; rw [if_neg]; rintro rfl; exact hfree hn
 have hO:∀ k,k < w.heap.size→Own X ((s.setBox d cs).put d (.pt d 0)) (setβ β d (some w.heap.size)) k→Own X s β k:=by
  rintro k hk (hX | ⟨n,hn,hb⟩)
  ·exact .inl hX
  rcases hNm n hn with rfl | hn
  ·simp only [setβ,if_true] at hb; injection hb with hb; omega
  ·exact .inr ⟨n,hn,(hβ n hn) ▸ hb⟩
 have hst:=Stp.alloc w (.cells us e)
 have hk : ∀ {av : AV} {v : Value}, (∀ n ∈ ids av, Nm s n) → Rel β (Own X s β) w av v →
   Rel (setβ β d (some w.heap.size)) (Own X ((s.setBox d cs).put d (.pt d 0)) (setβ β d (some w.heap.size))) (w.alloc (.cells us e)) av v:=fun hav hrel =>
  h.keep hst (fun _ _ h=>h.elim) hO hrel (fun n hn=>hβ n (hav n hn)) (fun n hn g hg=>hst.block g (h.own n g (hav n (vids_ids hn)) hg).1 (fun h=>h))
 refine h.upd hst (fun _ _ h=>h.elim) (fun n=>?_) (fun n cs' hcs=>?_) (fun n m g hn hm h1 h2=>?_) (fun n g hn hg=>?_) (size_put _ _ _) (defers_put _ _ _) (fun n cs' g hc hp=>by
  simp only [St.put,St.setBox,lookB_setL] at hc
  split at hc
  ·rename_i e'; subst e'; rw [h.pinN _ hd] at hp; cases hp
  ·exact (hβ n (.inl ⟨cs',hc⟩)).trans (h.pin n cs' g hc hp))
 ·rw [getD_put a d _ (by rw [h.size]; exact hd)]
  simp only [St.put,St.setBox,look_setL]
  by_cases hdn:d = n
  ·simp only [hdn,if_true]; exact ⟨w.heap.size,by simp [setβ],rfl⟩
  ·simp only [hdn,if_false]; exact hk (fun k hk=>.inr (.inl ⟨n,hk⟩)) (h.slots n)
 ·simp only [St.put,St.setBox,lookB_setL] at hcs
  split at hcs
  ·rename_i e'; subst e'
   injection hcs with hcs; subst hcs
   exact ⟨w.heap.size,us,e,by simp [setβ],heap_alloc_new w _,hr.mono fun j c v hc hrel=>⟨hk (hids c (List.mem_of_getElem? hc)) hrel.1,hrel.2⟩⟩
  ·obtain ⟨g,us',e',h1,h2,h3⟩:=h.boxes n cs' hcs
   have hN:Nm s n:=.inl ⟨cs',hcs⟩
   exact ⟨g,us',e',(hβ n hN).trans h1,(hst.block g (h.own n g hN h1).1 (fun h=>h)).trans h2,
    h3.mono fun j c v hc hrel=>⟨hk (fun k hk=>.inr (.inr ⟨n,cs',hcs,c,List.mem_of_getElem? hc,hk⟩)) hrel.1,hrel.2⟩⟩
 ·rcases hNm n hn with e1 | n1<;>rcases hNm m hm with e2 | m1
  ·rw [e1,e2]
  ·subst e1; rw [hβ m m1] at h2; simp only [setβ,if_true] at h1; injection h1 with h1; have:=(h.own m g m1 h2).1; omega
  ·subst e2; rw [hβ n n1] at h1; simp only [setβ,if_true] at h2; injection h2 with h2; have:=(h.own n g n1 h1).1; omega
  ·rw [hβ n n1] at h1; rw [hβ m m1] at h2; exact h.inj n m g n1 m1 h1 h2
 ·rcases hNm n hn with rfl | hn
  ·simp only [setβ,if_true] at hg; injection hg with hg; subst hg
   exact ⟨by simp,.inl h.ext.size⟩
  ·rw [hβ n hn] at hg
   obtain ⟨h1,h2⟩:=h.own n g hn hg
   exact ⟨Nat.lt_of_lt_of_le h1 hst.size,h2⟩

theorem Stp.setRow (w:World) (g:Nat) (cs:Array Value):Stp (fun k=>k = g) w (w.setRow g cs) :=
 ⟨rfl,rfl,rfl,by simp [World.setRow],fun k _ hk=>setRow_other w g k cs (fun e=>hk (by first | exact e | exact e.symm))⟩

theorem InvB.storeBox (h : InvB W0 F X N s β a w) {n g : Nat} {cs0 cs : List AV} {us0 us : Array Value} {e : TypeId} (hn : lookB s.boxes n = some cs0) (hg : β n = some g)
  (hh:w.heap[g]? = some (.cells us0 e (0,0)))
  (hsep:(∀ m,n ∉ vids (look s.slots m))∧∀ b cs',lookB s.boxes b = some cs'→∀ c ∈ cs',n ∉ vids c)
  (hr:All2 (RelC β (Own X s β) w) cs us.toList) (hids:∀ c ∈ cs,∀ k ∈ ids c,Nm s k) (hsepc:∀ c ∈ cs,n ∉ vids c):InvB W0 F X N (s.setBox n cs) β a (w.setRow g us):=by
 have hNn:Nm s n:=.inl ⟨cs0,hn⟩
 have hNm:∀ k,Nm (s.setBox n cs) k→Nm s k:=by
  rintro k (⟨cs',h⟩ | ⟨q,h⟩ | ⟨b,cs',h,c,hc,hk⟩)
  ·simp only [St.setBox,lookB_setL] at h
   split at h
   ·rename_i e; exact e ▸ hNn
   ·exact .inl ⟨cs',h⟩
  ·exact .inr (.inl ⟨q,h⟩)
  ·simp only [St.setBox,lookB_setL] at h
   split at h
   ·injection h with h; subst h; exact hids c hc k hk
   ·exact .inr (.inr ⟨b,cs',h,c,hc,hk⟩)
 have hO:∀ k,k < w.heap.size→Own X (s.setBox n cs) β k→Own X s β k:=fun k _ hk=>hk.imp id fun ⟨m,hm,hb⟩=>⟨m,hNm m hm,hb⟩
 have hst:=Stp.setRow w g us
 have hw:∀ k,k < w.heap.size→k = g→OwnN s β k:=fun k _ e=>⟨n,hNn,e ▸ hg⟩
 have hk:∀ {av:AV} {v:Value},(∀ k ∈ ids av,Nm s k)→n ∉ vids av→Rel β (Own X s β) w av v→Rel β (Own X (s.setBox n cs) β) (w.setRow g us) av v:=fun hav hnv hrel =>
  h.keep hst hw hO hrel (fun _ _=>rfl) (fun m hm g' hg'=>hst.block g' (h.own m g' (hav m (vids_ids hm)) hg').1 (fun e=>hnv (by
   subst e; rw [h.inj n m g' hNn (hav m (vids_ids hm)) hg hg']; exact hm)))
 refine h.upd hst hw (fun m=>?_) (fun m cs' hcs=>?_) (fun k m g' hk hm=>h.inj k m g' (hNm k hk) (hNm m hm)) (fun k g' hk hg'=>?_) rfl rfl (fun m cs' g' hc hp=>by
  simp only [St.setBox,lookB_setL] at hc
  split at hc
  ·rename_i e'; subst e'; exact h.pin _ cs0 g' hn hp
  ·exact h.pin m cs' g' hc hp)
 ·exact hk (fun k hk=>.inr (.inl ⟨m,hk⟩)) (hsep.1 m) (h.slots m)
 ·simp only [St.setBox,lookB_setL] at hcs
  split at hcs
  ·rename_i e'; subst e'
   injection hcs with hcs; subst hcs
   exact ⟨g,us,e,hg,setRow_heap w g us0 us e _ hh,hr.mono fun j c v hc hrel=>⟨hk (hids c (List.mem_of_getElem? hc)) (hsepc c (List.mem_of_getElem? hc)) hrel.1,hrel.2⟩⟩
  ·rename_i hne
   obtain ⟨g',us',e',h1,h2,h3⟩:=h.boxes m cs' hcs
   have hN:Nm s m:=.inl ⟨cs',hcs⟩
   refine ⟨g',us',e',h1,(hst.block g' (h.own m g' hN h1).1 (fun e=>hne ?_)).trans h2,h3.mono fun j c v hc hrel=>⟨hk (fun k hk=>.inr (.inr ⟨m,cs',hcs,c,List.mem_of_getElem? hc,hk⟩)) (hsep.2 m cs' hcs c (List.mem_of_getElem? hc)) hrel.1,hrel.2⟩⟩
   subst e
   exact h.inj n m g' hNn hN hg h1
 ·obtain ⟨h1,h2⟩:=h.own k g' (hNm k hk) hg'
  exact ⟨Nat.lt_of_lt_of_le h1 hst.size,h2⟩

def St.kill (s:St) (n:Nat):St:=(s.map (SX.kill n)).delBox n
theorem Nm.of_kill {s:St} {id n:Nat} (h:Nm (s.kill id) n):Nm s n∧n≠id:=by
 have key:∀ b cs,lookB (s.kill id).boxes b = some cs→b≠id∧∃ cs',lookB s.boxes b = some cs'∧cs = cs'.map (SX.kill id):=by
  intro b cs h
  simp only [St.kill,St.delBox,St.map,lookB_delL,lookB_mapB] at h
  split at h
  ·cases h
  ·rename_i hne
   obtain ⟨cs',h1,rfl⟩:=Option.map_eq_some_iff.1 h
   exact ⟨fun e=>hne e.symm,cs',h1,mapC_eq _ _⟩
 rcases h with ⟨cs,h⟩ | ⟨q,h⟩ | ⟨b,cs,h,c,hc,hn⟩
 ·obtain ⟨h1,cs',h2,_⟩:=key _ _ h
  exact ⟨.inl ⟨cs',h2⟩,h1⟩
 ·simp only [St.kill,St.delBox,St.map,look_mapV _ (kill_x id)] at h
  exact ⟨.inr (.inl ⟨q,(kill_ids _ _ _ h).1⟩),(kill_ids _ _ _ h).2⟩
 ·obtain ⟨h1,cs',h2,rfl⟩:=key _ _ h
  obtain ⟨c',hc',rfl⟩:=List.mem_map.1 hc
  exact ⟨.inr (.inr ⟨b,cs',h2,c',hc',(kill_ids _ _ _ hn).1⟩),(kill_ids _ _ _ hn).2⟩

theorem InvB.newAv (h : InvB W0 F X N s β a w) {d id1 : Nat} (hd : d < N) (hfree : Nm s d → d = id1) {w' : World} {Ow : Nat → Prop} (hs : Stp Ow w w')
  (hw:∀ k,Ow k→Nm s id1∧β id1 = some k) {b:Option Nat} (hb:∀ g,b = some g→g < w'.heap.size∧((Nm s id1∧β id1 = some g)∨w.heap.size≤g))
  {av0:AV} {u:Value} (hids:ids av0 = [d]) (hv:∀ O':Nat→Prop,(∀ k,k < w.heap.size→O' k→Own X s β k)→Rel (setβ β d b) O' w' av0 u) :
  InvB W0 F X N ((s.kill id1).put d av0) (setβ β d b) (a.put (some d) u) w':=by
 have hNm:∀ n,Nm ((s.kill id1).put d av0) n→n = d∨(Nm s n∧n≠id1∧n≠d):=by
  intro n hn
  by_cases hnd:n = d
  ·exact .inl hnd
  ·refine .inr ?_
   have:Nm (s.kill id1) n:=by
    rcases hn with ⟨cs',h⟩ | ⟨q,h⟩ | ⟨b,cs',h,c,hc,hn⟩
    ·exact .inl ⟨cs',h⟩
    ·simp only [St.put,look_setL] at h
     split at h
     ·rw [hids] at h; exact absurd (List.mem_singleton.1 h) hnd
     ·exact .inr (.inl ⟨q,h⟩)
    ·exact .inr (.inr ⟨b,cs',h,c,hc,hn⟩)
   obtain ⟨h1,h2⟩:=Nm.of_kill this
   exact ⟨h1,h2,hnd⟩
 have hβ:∀ n,n≠d→setβ β d b n = β n:=fun n hn=>by unfold setβ; rw [if_neg hn]
 have hO:∀ k,k < w.heap.size→Own X ((s.kill id1).put d av0) (setβ β d b) k→Own X s β k:=by
  rintro k hk (hX | ⟨n,hn,hb'⟩)
  ·exact .inl hX
  rcases hNm n hn with rfl | ⟨hn,_,hnd⟩
  ·simp only [setβ,if_true] at hb'
   rcases (hb k hb').2 with h1 | h1
   ·exact .inr ⟨id1,h1.1,h1.2⟩
   ·omega
  ·exact .inr ⟨n,hn,(hβ n hnd) ▸ hb'⟩
 have hw':∀ k,k < w.heap.size→Ow k→OwnN s β k:=fun k _ hk=>⟨id1,(hw k hk).1,(hw k hk).2⟩
 have hblk:∀ n g,Nm s n→n≠id1→β n = some g→w'.heap[g]? = w.heap[g]?:=fun n g hn hne hg =>
  hs.block g (h.own n g hn hg).1 (fun ho=>hne (h.inj n id1 g hn (hw g ho).1 hg (hw g ho).2))
 have hk : ∀ {av : AV} {v : Value}, (∀ n ∈ ids av, Nm s n ∧ n ≠ id1 ∧ n ≠ d) → Rel β (Own X s β) w av v →
   Rel (setβ β d b) (Own X ((s.kill id1).put d av0) (setβ β d b)) w' av v:=fun hav hrel =>
  h.keep hs hw' hO hrel (fun n hn=>hβ n (hav n hn).2.2) (fun n hn g hg=>hblk n g (hav n (vids_ids hn)).1 (hav n (vids_ids hn)).2.1 hg)
 have hkill:∀ (av:AV) (v:Value),(∀ n ∈ ids av,Nm s n)→Rel β (Own X s β) w av v→Rel (setβ β d b) (Own X ((s.kill id1).put d av0) (setβ β d b)) w' (SX.kill id1 av) v:=by
  intro av v hav hrel
  cases hin:inL id1 (ids av) with
  | true=>simp only [SX.kill,hin,cond_true]; exact Rel.x
  | false =>
   have hne:∀ n ∈ ids av,n≠id1:=fun n hn e=>by rw [← e,(inL_iff n _).2 hn] at hin; cases hin
   simp only [SX.kill,hin,cond_false]
   exact hk (fun n hn=>⟨hav n hn,hne n hn,fun e=>hne n hn (by rw [e]; exact hfree (e ▸ hav n hn))⟩) hrel
 refine h.upd hs hw' (fun n=>?_) (fun n cs hcs=>?_) (fun n m g hn hm h1 h2=>?_) (fun n g hn hg=>?_) (size_put _ _ _) (defers_put _ _ _) (fun n cs g hc hp=>by
  simp only [St.put,St.kill,St.delBox,St.map,lookB_delL,lookB_mapB] at hc
  split at hc
  ·cases hc
  ·rename_i hne
   obtain ⟨cs',h1,_⟩:=Option.map_eq_some_iff.1 hc
   have hnd:n≠d:=fun e=>hne (by rw [e]; exact (hfree (e ▸ .inl ⟨cs',h1⟩)).symm)
   exact (hβ n hnd).trans (h.pin n cs' g h1 hp))
 ·rw [getD_put a d _ (by rw [h.size]; exact hd)]
  simp only [St.put,look_setL]
  by_cases hdn:d = n
  ·simp only [hdn,if_true]; subst hdn; exact hv _ hO
  ·simp only [hdn,if_false,St.kill,St.delBox,St.map,look_mapV _ (kill_x id1)]
   exact hkill _ _ (fun k hk=>.inr (.inl ⟨n,hk⟩)) (h.slots n)
 ·have hN:Nm ((s.kill id1).put d av0) n:=.inl ⟨cs,hcs⟩
  simp only [St.put,St.kill,St.delBox,St.map,lookB_delL,lookB_mapB] at hcs
  split at hcs
  ·cases hcs
  ·rename_i hne
   obtain ⟨cs',h1,rfl⟩:=Option.map_eq_some_iff.1 hcs
   obtain ⟨g,us,e,h2,h3,h4⟩:=h.boxes n cs' h1
   have hnd:n≠d:=fun e=>hne (by rw [e]; exact (hfree (e ▸ .inl ⟨cs',h1⟩)).symm)
   refine ⟨g,us,e,(hβ n hnd).trans h2,(hblk n g (.inl ⟨cs',h1⟩) (fun e=>hne e.symm) h2).trans h3,?_⟩
   rw [mapC_eq]
   refine ⟨by simpa using h4.1,fun j c v hc hv'=>?_⟩
   rw [List.getElem?_map,Option.map_eq_some_iff] at hc
   obtain ⟨c',hc',rfl⟩:=hc
   exact ⟨hkill _ _ (fun k hk=>.inr (.inr ⟨n,cs',h1,c',List.mem_of_getElem? hc',hk⟩)) (h4.2 j c' v hc' hv').1,(h4.2 j c' v hc' hv').2⟩
 ·have aux : ∀ m, Nm s m ∧ m ≠ id1 ∧ m ≠ d → ∀ g, b = some g → β m = some g → False := by
   rintro m ⟨hm,hne,_⟩ g hbg hmg
   rcases (hb g hbg).2 with h3 | h3
   ·exact hne (h.inj m id1 g hm h3.1 hmg h3.2)
   ·have:=(h.own m g hm hmg).1; omega
  rcases hNm n hn with e1 | n1<;>rcases hNm m hm with e2 | m1
  ·rw [e1,e2]
  ·subst e1; rw [hβ m m1.2.2] at h2; simp only [setβ,if_true] at h1; exact (aux m m1 g h1 h2).elim
  ·subst e2; rw [hβ n n1.2.2] at h1; simp only [setβ,if_true] at h2; exact (aux n n1 g h2 h1).elim
  ·rw [hβ n n1.2.2] at h1; rw [hβ m m1.2.2] at h2; exact h.inj n m g n1.1 m1.1 h1 h2
 ·rcases hNm n hn with rfl | hn
  ·simp only [setβ,if_true] at hg
   refine ⟨(hb g hg).1,?_⟩
   rcases (hb g hg).2 with h3 | h3
   ·exact (h.own id1 g h3.1 h3.2).2
   ·exact .inl (Nat.le_trans h.ext.size h3)
  ·rw [hβ n hn.2.2] at hg
   obtain ⟨h1,h2⟩:=h.own n g hn.1 hg
   exact ⟨Nat.lt_of_lt_of_le h1 hs.size,h2⟩
theorem InvB.newVec (h : InvB W0 F X N s β a w) {d id1 : Nat} (hd : d < N) (hfree : Nm s d → d = id1) {w' : World} {Ow : Nat → Prop} (hs : Stp Ow w w')
  (hw:∀ k,Ow k→Nm s id1∧β id1 = some k) {b:Option Nat} (hb:∀ g,b = some g→g < w'.heap.size∧((Nm s id1∧β id1 = some g)∨w.heap.size≤g))
  {τ:Ty} {l:List (den τ)} {u:Value} (hv:∀ O':Nat→Prop,(∀ k,k < w.heap.size→O' k→Own X s β k)→VecAt (setβ β d b) O' w' d τ l u) :
  InvB W0 F X N ((s.kill id1).put d (.vec d τ l)) (setβ β d b) (a.put (some d) u) w' :=
 h.newAv (av0:=.vec d τ l) hd hfree hs hw hb rfl hv

end
end Go.SX
end
section
namespace Go.SX
variable [Globs]

inductive TD where
 | struct (fl:List (Nat × Nat))
 | slice (e:Nat)
 | int (k:IntKind)
 | str
 | bool
 | arr (n e:Nat)
 | mp (k e:Nat)
 | ifc
 | other
inductive EK where
 | int
 | str
 | bool
deriving DecidableEq
structure TI where
 cells:Nat
 bytes:Nat
 zero:List Value
 desc:TD
 ty:Option Ty
 eqs:List EK:=[]
 sb:Option Nat:=none
 cmp:Bool:=false
abbrev Ctx:=List (Nat × TI)
def tiK:Ctx→Nat→(TI→Prop)→Prop
 | [],_,_=>False
 | (m,t)::r,n,K=>bif Nat.beq m n then K t else tiK r n K

def lookK:List (Nat × AV)→Nat→(AV→Prop)→Prop
 | [],_,K=>K .x
 | (m,v)::r,n,K=>bif Nat.beq m n then K v else lookK r n K
theorem lookK_eq (l:List (Nat × AV)) (n:Nat) (K:AV→Prop):lookK l n K = K (look l n):=by
 induction l with
 | nil=>rfl
 | cons p r ih=>obtain ⟨m,v⟩:=p; simp only [lookK,look]; cases Nat.beq m n<;>simp [ih]
def lookBK:List (Nat × List AV)→Nat→(List AV→Prop)→Prop
 | [],_,_=>False
 | (m,v)::r,n,K=>bif Nat.beq m n then K v else lookBK r n K
theorem lookBK_iff (l:List (Nat × List AV)) (n:Nat) (K:List AV→Prop):lookBK l n K↔∃ cs,lookB l n = some cs∧K cs:=by
 induction l with
 | nil=>simp [lookBK,lookB]
 | cons p r ih=>obtain ⟨m,v⟩:=p; simp only [lookBK,lookB]; cases Nat.beq m n<;>simp [ih]
def setLK {α:Type}:List (Nat × α)→Nat→α→(List (Nat × α)→Prop)→Prop
 | [],n,v,K=>K [(n,v)]
 | (m,u)::r,n,v,K=>bif Nat.beq m n then K ((n,v)::r) else setLK r n v fun r'=>K ((m,u)::r')
theorem setLK_eq {α:Type} (l:List (Nat × α)) (n:Nat) (v:α):∀ K,setLK l n v K = K (setL l n v):=by
 induction l with
 | nil=>intro K; rfl
 | cons p r ih=>intro K; obtain ⟨m,u⟩:=p; simp only [setLK,setL]; cases Nat.beq m n<;>simp [ih]
def delLK {α:Type}:List (Nat × α)→Nat→(List (Nat × α)→Prop)→Prop
 | [],_,K=>K []
 | (m,u)::r,n,K=>bif Nat.beq m n then delLK r n K else delLK r n fun r'=>K ((m,u)::r')
theorem delLK_eq {α:Type} (l:List (Nat × α)) (n:Nat):∀ K,delLK l n K = K (delL l n):=by
 induction l with
 | nil=>intro K; rfl
 | cons p r ih=>intro K; obtain ⟨m,u⟩:=p; simp only [delLK,delL]; cases Nat.beq m n<;>simp [ih]
def mapVK (f:AV→(AV→Prop)→Prop):List (Nat × AV)→(List (Nat × AV)→Prop)→Prop
 | [],K=>K []
 | (m,v)::r,K=>f v fun v'=>mapVK f r fun r'=>K ((m,v')::r')
theorem mapVK_eq {f:AV→(AV→Prop)→Prop} {g:AV→AV} (h:∀ v K,f v K = K (g v)) (l:List (Nat × AV)):∀ K,mapVK f l K = K (mapV g l):=by
 induction l with
 | nil=>intro K; rfl
 | cons p r ih=>intro K; obtain ⟨m,v⟩:=p; simp only [mapVK,mapV,h,ih]
def mapCK (f:AV→(AV→Prop)→Prop):List AV→(List AV→Prop)→Prop
 | [],K=>K []
 | v::r,K=>f v fun v'=>mapCK f r fun r'=>K (v'::r')
theorem mapCK_eq {f:AV→(AV→Prop)→Prop} {g:AV→AV} (h:∀ v K,f v K = K (g v)) (l:List AV):∀ K,mapCK f l K = K (mapC g l):=by
 induction l with
 | nil=>intro K; rfl
 | cons v r ih=>intro K; simp only [mapCK,mapC,h,ih]
def mapBK (f:AV→(AV→Prop)→Prop):List (Nat × List AV)→(List (Nat × List AV)→Prop)→Prop
 | [],K=>K []
 | (m,v)::r,K=>mapCK f v fun v'=>mapBK f r fun r'=>K ((m,v')::r')
theorem mapBK_eq {f:AV→(AV→Prop)→Prop} {g:AV→AV} (h:∀ v K,f v K = K (g v)) (l:List (Nat × List AV)):∀ K,mapBK f l K = K (mapB g l):=by
 induction l with
 | nil=>intro K; rfl
 | cons p r ih=>intro K; obtain ⟨m,v⟩:=p; simp only [mapBK,mapB,mapCK_eq h,ih]
def killK (n:Nat):AV→(AV→Prop)→Prop
 | .pt m o,K=>bif Nat.beq m n then K .x else K (.pt m o)
 | .vec m τ l,K=>bif Nat.beq m n then K .x else K (.vec m τ l)
 | .vp m τ l i o,K=>bif Nat.beq m n then K .x else K (.vp m τ l i o)
 | .fn f caps,K=>bif inL n (caps.flatMap ids0) then K .x else K (.fn f caps)
 | .tup cs,K=>bif inL n (cs.flatMap ids0) then K .x else K (.tup cs)
 | .vs m τ l k,K=>bif Nat.beq m n then K .x else K (.vs m τ l k)
 | .ag k cs,K=>bif inL n (cs.flatMap ids0) then K .x else K (.ag k cs)
 | .ob i i2 o,K=>bif inL n [i,i2] then K .x else K (.ob i i2 o)
 | v,K=>K v
theorem killK_eq (n:Nat) (v:AV) (K:AV→Prop):killK n v K = K (kill n v):=by
 cases v with
 | pt m o=>simp only [killK,kill,ids,ids0,inL]; cases Nat.beq m n<;>rfl
 | vec m τ l=>simp only [killK,kill,ids,ids0,inL]; cases Nat.beq m n<;>rfl
 | vp m τ l i o=>simp only [killK,kill,ids,ids0,inL]; cases Nat.beq m n<;>rfl
 | fn f caps=>simp only [killK,kill,ids]; cases inL n (List.flatMap ids0 caps)<;>rfl
 | tup caps=>simp only [killK,kill,ids]; cases inL n (List.flatMap ids0 caps)<;>rfl
 | vs m τ l k=>simp only [killK,kill,ids,ids0,inL]; cases Nat.beq m n<;>rfl
 | ag k caps=>simp only [killK,kill,ids]; cases inL n (List.flatMap ids0 caps)<;>rfl
 | ob i i2 o=>simp only [killK,kill,ids,ids0]; cases inL n [i,i2]<;>rfl
 | _=>rfl
def frzGK (id i i2:Nat):Ob→(AV→Prop)→Prop
 | .gr L k row,K=>bif Nat.beq i2 id then (bif Nat.beq i id then K .x else K (.vec i .ints (L.set k row))) else K .x
 | _,K=>K .x
theorem frzGK_eq (id i i2:Nat) (o:Ob) (K:AV→Prop):frzGK id i i2 o K = K (frzG id i i2 o):=by
 cases o<;>first | rfl | (simp only [frzGK,frzG]; cases Nat.beq i2 id<;>cases Nat.beq i id<;>rfl)
def frzK (n:Nat):AV→(AV→Prop)→Prop
 | .pt m o,K=>bif Nat.beq m n then K .x else K (.pt m o)
 | .vec m τ l,K=>bif Nat.beq m n then K (.rd τ l) else K (.vec m τ l)
 | .vp m τ l i o,K=>bif Nat.beq m n then K (.rp ((enc τ (l.getD i (dflt τ))).drop o)) else K (.vp m τ l i o)
 | .fn f caps,K=>bif inL n (caps.flatMap ids0) then K .x else K (.fn f caps)
 | .tup cs,K=>bif inL n (cs.flatMap ids0) then K .x else K (.tup cs)
 | .vs m τ l k,K=>bif Nat.beq m n then K (.rd τ (l.drop k)) else K (.vs m τ l k)
 | .ag k cs,K=>bif inL n (cs.flatMap ids0) then K .x else K (.ag k cs)
 | .ob i i2 o,K=>bif inL n [i,i2] then frzGK n i i2 o K else K (.ob i i2 o)
 | v,K=>K v
theorem frzK_eq (n:Nat) (v:AV) (K:AV→Prop):frzK n v K = K (frz n v):=by
 cases v with
 | pt m o=>simp only [frzK,frz]; cases Nat.beq m n<;>rfl
 | vec m τ l=>simp only [frzK,frz]; cases Nat.beq m n<;>rfl
 | vp m τ l i o=>simp only [frzK,frz]; cases Nat.beq m n<;>rfl
 | fn f caps=>simp only [frzK,frz]; cases inL n (List.flatMap ids0 caps)<;>rfl
 | tup caps=>simp only [frzK,frz]; cases inL n (List.flatMap ids0 caps)<;>rfl
 | vs m τ l k=>simp only [frzK,frz]; cases Nat.beq m n<;>rfl
 | ag k caps=>simp only [frzK,frz]; cases inL n (List.flatMap ids0 caps)<;>rfl
 | ob i i2 o=>simp only [frzK,frz]; cases inL n [i,i2]<;>first | rfl | exact frzGK_eq ..
 | _=>rfl
def stKillK (n:Nat) (s:St) (K:St→Prop):Prop:=mapVK (killK n) s.slots fun sl=>mapBK (killK n) s.boxes fun b=>delLK b n fun b=>K ⟨sl,b⟩
theorem stKillK_eq (n:Nat) (s:St) (K:St→Prop):stKillK n s K = K (s.kill n):=by
 simp only [stKillK,mapVK_eq (killK_eq n),mapBK_eq (killK_eq n),delLK_eq]; rfl
def stFrzK (n:Nat) (s:St) (K:St→Prop):Prop:=mapVK (frzK n) s.slots fun sl=>mapBK (frzK n) s.boxes fun b=>delLK b n fun b=>K ⟨sl,b⟩
theorem stFrzK_eq (n:Nat) (s:St) (K:St→Prop):stFrzK n s K = K (s.frz n):=by
 simp only [stFrzK,mapVK_eq (frzK_eq n),mapBK_eq (frzK_eq n),delLK_eq]; rfl
def frzAll:List Nat→St→St
 | [],s=>s
 | n::r,s=>frzAll r (s.frz n)
def frzAllK:List Nat→St→(St→Prop)→Prop
 | [],s,K=>K s
 | n::r,s,K=>stFrzK n s fun s'=>frzAllK r s' K
theorem frzAllK_eq (l:List Nat):∀ (s:St) (K:St→Prop),frzAllK l s K = K (frzAll l s):=by
 induction l with
 | nil=>intro s K; rfl
 | cons n r ih=>intro s K; simp only [frzAllK,frzAll,stFrzK_eq,ih]
def forceL:List AV→(List AV→Prop)→Prop
 | [],K=>K []
 | c::cs,K=>forceL cs fun cs'=>K (c::cs')
theorem forceL_eq (l:List AV):∀ K,forceL l K = K l:=by
 induction l with
 | nil=>intro K; rfl
 | cons c cs ih=>intro K; simp only [forceL,ih]
def forceS:Str→(Str→Prop)→Prop
 | [],K=>K []
 | c::cs,K=>forceS cs fun cs'=>K (c::cs')
theorem forceS_eq (l:Str):∀ K,forceS l K = K l:=by
 induction l with
 | nil=>intro K; rfl
 | cons c cs ih=>intro K; simp only [forceS,ih]

def ofVal:Value→AV
 | .int k n=>.i k n
 | .bool b=>.b b
 | .string s=>bif Nat.ble s.data.toList.length 1000000 then .s s.data.toList else .x
 | .slice none 0 0=>.nl
 | .nilIface=>.er none
 | _=>.x
def ofValK:Value→(AV→Prop)→Prop
 | .int k n,K=>K (.i k n)
 | .bool b,K=>K (.b b)
 | .string s,K=>bif Nat.ble s.data.toList.length 1000000 then forceS s.data.toList fun l=>K (.s l) else K .x
 | .slice none 0 0,K=>K .nl
 | .nilIface,K=>K (.er none)
 | _,K=>K .x
theorem ofValK_eq (v:Value) (K:AV→Prop):ofValK v K = K (ofVal v):=by
 cases v with
 | string s=>simp only [ofValK,ofVal,forceS_eq]; cases Nat.ble s.data.toList.length 1000000<;>rfl
 | slice a l c=>cases a<;>cases l<;>cases c<;>rfl
 | _=>rfl
def ofVals:List Value→List AV
 | []=>[]
 | v::r=>ofVal v::ofVals r
def ofValsK:List Value→(List AV→Prop)→Prop
 | [],K=>K []
 | v::r,K=>ofValK v fun a=>ofValsK r fun l=>K (a::l)
theorem ofValsK_eq (l:List Value):∀ K,ofValsK l K = K (ofVals l):=by
 induction l with
 | nil=>intro K; rfl
 | cons v r ih=>intro K; simp only [ofValsK,ofVals,ofValK_eq,ih]
def ofLit:Value→AV
 | .agg a=>bif a.toList.all Value.oneCell' then .agg (ofVals a.toList) else .x
 | v=>ofVal v
def ofLitK:Value→(AV→Prop)→Prop
 | .agg a,K=>bif a.toList.all Value.oneCell' then ofValsK a.toList fun l=>K (.agg l) else K .x
 | v,K=>ofValK v K
theorem ofLitK_eq (v:Value) (K:AV→Prop):ofLitK v K = K (ofLit v):=by
 cases v with
 | agg a =>
  simp only [ofLitK,ofLit,ofValsK_eq]
  cases a.toList.all Value.oneCell'<;>rfl
 | _=>simp only [ofLitK,ofLit,ofValK_eq]
def ev (s:St):Operand→AV
 | .tmp t=>look s.slots t
 | .const v=>ofLit v
 | .func f=>.fn f []
 | .global _=>.x
def evK (s:St):Operand→(AV→Prop)→Prop
 | .tmp t,K=>lookK s.slots t K
 | .const v,K=>ofLitK v K
 | .func f,K=>K (.fn f [])
 | .global _,K=>K .x
theorem evK_eq (s:St) (x:Operand) (K:AV→Prop):evK s x K = K (ev s x):=by
 cases x<;>simp [evK,ev,lookK_eq,ofLitK_eq]
def evs (s:St):List Operand→List AV
 | []=>[]
 | x::r=>ev s x::evs s r
def evsK (s:St):List Operand→(List AV→Prop)→Prop
 | [],K=>K []
 | x::r,K=>evK s x fun v=>evsK s r fun l=>K (v::l)
theorem evsK_eq (s:St) (l:List Operand):∀ K,evsK s l K = K (evs s l):=by
 induction l with
 | nil=>intro K; rfl
 | cons x r ih=>intro K; simp only [evsK,evs,evK_eq,ih]
def stPutK (N:Nat) (s:St) (d:Option Nat) (v:AV) (K:St→Prop):Prop :=
 match d with
 | some d=>bif Nat.blt d N then (match s with | ⟨sl0,b⟩=>setLK sl0 d v fun sl=>K ⟨sl,b⟩) else False
 | none=>K s
theorem stPutK_some (N:Nat) (s:St) (d:Nat) (v:AV) (K:St→Prop):stPutK N s (some d) v K = (bif Nat.blt d N then K (s.put d v) else False):=by
 obtain ⟨sl,b⟩:=s
 simp only [stPutK,setLK_eq]; rfl
def Rng:IntKind→Int→Prop
 | .i8,_=>False
 | .i16,_=>False
 | .i32,n=>-2147483648≤n∧n≤2147483647
 | .i64,n=>-9223372036854775808≤n∧n≤9223372036854775807
 | .u8,n=>0≤n∧n≤255
 | .u16,n=>0≤n∧n≤65535
 | .u32,n=>0≤n∧n≤4294967295
 | .u64,n=>0≤n∧n≤18446744073709551615
def arithK (k:IntKind) (n:Int) (K:AV→Prop):Prop :=
 match k.signed with
 | true=>Rng k n∧K (.i k n)
 | false=>K (.i k (k.wrap n))
def intBinK (op:BinOp) (k:IntKind) (a c:Int) (K:AV→Prop):Prop :=
 match op with
 | .add=>arithK k (a + c) K
 | .sub=>arithK k (a - c) K
 | .mul=>arithK k (a * c) K
 | .quo=>c≠0∧Rng k (a.tdiv c)∧K (.i k (a.tdiv c))
 | .rem=>c≠0∧K (.i k (a.tmod c))
 | .and=>K (.i k (bits .and k a c))
 | .or=>K (.i k (bits .or k a c))
 | .xor=>K (.i k (bits .xor k a c))
 | .andNot=>K (.i k (bits .andNot k a c))
 | .eql=>K (.b (a == c))
 | .neq=>K (.b (a != c))
 | .lss=>K (.b (decide (a < c)))
 | .leq=>K (.b (decide (a≤c)))
 | .gtr=>K (.b (decide (c < a)))
 | .geq=>K (.b (decide (c≤a)))
 | _=>False
def strBinK (op:BinOp) (a c:Str) (K:AV→Prop):Prop :=
 match op with
 | .add=>a.length + c.length≤maxLen∧K (.s (a++c))
 | .eql=>K (.b (a == c))
 | .neq=>K (.b (!(a == c)))
 | .lss=>K (.b (Op.bytesLess a c))
 | .leq=>K (.b (Op.bytesLess a c || a == c))
 | .gtr=>K (.b (!(Op.bytesLess a c || a == c)))
 | .geq=>K (.b (!(Op.bytesLess a c)))
 | _=>False
def binK (op:BinOp):AV→AV→(AV→Prop)→Prop
 | .i k a,.i k' c,K =>
  match op with
  | .shl=>0≤c∧K (.i k (k.wrap (a * 2 ^ (min c.toNat k.bits))))
  | .shr=>0≤c∧K (.i k (a.fdiv (2 ^ (min c.toNat k.bits))))
  | _=>bif decide (k = k') then intBinK op k a c K else False
 | .s a,.s c,K=>strBinK op a c K
 | _,_,_=>False
def negK (k:IntKind) (a:Int) (K:AV→Prop):Prop :=
 match k with
 | .i64=>arithK .i64 (0 - a) K∨K (.i .i64 (IntKind.i64.wrap (0 - a)))
 | k=>arithK k (0 - a) K
def unK (op:UnOp):AV→(AV→Prop)→Prop
 | .b a,K=>match op with
  | .not=>K (.b (!a))
  | _=>False
 | .i k a,K=>match op with
  | .neg=>negK k a K
  | .xor=>K (.i k (bits .xor k (if k.signed then -1 else k.max) a))
  | _=>False
 | _,_=>False

def cellsOf:AV→List AV
 | .agg l=>l
 | v=>[v]
def nthK {α:Type}:List α→Nat→(α→Prop)→Prop
 | [],_,_=>False
 | a::_,0,K=>K a
 | _::r,n + 1,K=>nthK r n K
theorem nthK_iff {α:Type} (l:List α):∀ (n:Nat) (K:α→Prop),nthK l n K↔∃ x,l[n]? = some x∧K x:=by
 induction l with
 | nil=>intro n K; simp [nthK]
 | cons a r ih=>intro n K; cases n<;>simp [nthK,ih]
def chkK (b:Bool) (K:Prop):Prop:=bif b then K else False
theorem chkK_iff (b:Bool) (K:Prop):chkK b K↔b = true∧K:=by cases b<;>simp [chkK]

def isStruct:TD→Bool
 | .struct _=>true
 | .arr _ _=>true
 | _=>false
def plainC:List AV→List AV
 | []=>[]
 | .pt _ _::r=>.x::plainC r
 | .vec _ _ _::r=>.x::plainC r
 | .vp _ _ _ _ _::r=>.x::plainC r
 | .rp _::r=>.x::plainC r
 | .fn _ _::r=>.x::plainC r
 | .tup _::r=>.x::plainC r
 | .vs _ _ _ _::r=>.x::plainC r
 | .ag _ _::r=>.x::plainC r
 | .ob _ _ _::r=>.x::plainC r
 | v::r=>v::plainC r
def plainCK:List AV→(List AV→Prop)→Prop
 | [],K=>K []
 | .pt _ _::r,K=>plainCK r fun l=>K (.x::l)
 | .vec _ _ _::r,K=>plainCK r fun l=>K (.x::l)
 | .vp _ _ _ _ _::r,K=>plainCK r fun l=>K (.x::l)
 | .rp _::r,K=>plainCK r fun l=>K (.x::l)
 | .fn _ _::r,K=>plainCK r fun l=>K (.x::l)
 | .tup _::r,K=>plainCK r fun l=>K (.x::l)
 | .vs _ _ _ _::r,K=>plainCK r fun l=>K (.x::l)
 | .ag _ _::r,K=>plainCK r fun l=>K (.x::l)
 | .ob _ _ _::r,K=>plainCK r fun l=>K (.x::l)
 | v::r,K=>plainCK r fun l=>K (v::l)
theorem plainCK_eq (l:List AV):∀ K,plainCK l K = K (plainC l):=by
 induction l with
 | nil=>intro K; rfl
 | cons v r ih=>intro K; cases v<;>simp [plainCK,plainC,ih]
def takeK {α:Type}:Nat→List α→(List α→Prop)→Prop
 | 0,_,K=>K []
 | _ + 1,[],_=>False
 | n + 1,a::r,K=>takeK n r fun l=>K (a::l)
theorem takeK_iff {α:Type} (n:Nat):∀ (l:List α) (K:List α→Prop),takeK n l K↔n≤l.length∧K (l.take n):=by
 induction n with
 | zero=>intro l K; simp [takeK]
 | succ n ih=>intro l K; cases l<;>simp [takeK,ih]
def spliceL {α:Type}:List α→Nat→List α→List α
 | l,0,v=>v++l.drop v.length
 | [],_ + 1,v=>v
 | a::r,o + 1,v=>a::spliceL r o v
def spliceK {α:Type}:List α→Nat→List α→(List α→Prop)→Prop
 | l,0,[],K=>K l
 | _::r,0,v::vs,K=>spliceK r 0 vs fun l=>K (v::l)
 | a::r,o + 1,v,K=>spliceK r o v fun l=>K (a::l)
 | _,_,_,_=>False
theorem spliceK_iff {α:Type} (l:List α):∀ (o:Nat) (v:List α) (K:List α→Prop),spliceK l o v K→o + v.length≤l.length∧K (l.take o++v++l.drop (o + v.length)):=by
 induction l with
 | nil =>
  intro o v K h
  cases o<;>cases v<;>simp [spliceK] at h ⊢
  exact h
 | cons a r ih =>
  intro o v K h
  cases o with
  | zero =>
   cases v with
   | nil=>simpa [spliceK] using h
   | cons b vs =>
    simp only [spliceK] at h
    obtain ⟨h1,h2⟩:=ih 0 vs _ h
    refine ⟨by simp at h1 ⊢; omega,by simpa using h2⟩
  | succ o =>
   simp only [spliceK] at h
   obtain ⟨h1,h2⟩:=ih o v _ h
   refine ⟨by simp only [List.length_cons]; omega,?_⟩
   have:o + 1 + v.length = (o + v.length) + 1:=by omega
   rw [this]
   simpa using h2

def noV (n:Nat):List AV→Bool
 | []=>true
 | v::r=>bif inL n (vids v) then false else noV n r
def noVs (n:Nat):List (Nat × AV)→Bool
 | []=>true
 | (_,v)::r=>bif inL n (vids v) then false else noVs n r
def noVb (n:Nat):List (Nat × List AV)→Bool
 | []=>true
 | (_,l)::r=>bif noV n l then noVb n r else false

def pickK:AV→AV→AV→(AV→Prop)→Prop
 | .b c,.b a,.b b,K=>K (.b (bif c then a else b))
 | .b c,a,b,K=>bif c then K a else K b
 | _,_,_,_=>False
def boolBinK (op:BinOp) (a b:Bool) (K:AV→Prop):Prop :=
 match op with
 | .eql=>K (.b (a == b))
 | .neq=>K (.b (!(a == b)))
 | _=>False
def isBoolT:TD→Bool
 | .bool=>true
 | _=>false
def cellEqK:EK→AV→AV→(Bool→Prop)→Prop
 | .int,.i k a,.i k' b,K=>chkK (decide (k = k')) (K (decide (a = b)))
 | .str,.s a,.s b,K=>K (a == b)
 | .bool,.b a,.b b,K=>K (a == b)
 | _,_,_,_=>False
def structFK:TD→(List (Nat × Nat)→Prop)→Prop
 | .struct fl,K=>K fl
 | _,_=>False
def aggEqK:List EK→List (Nat × Nat)→List AV→List AV→(Bool→Prop)→Prop
 | [],[],_,_,K=>K true
 | k::ks,(o,_)::fl,cs,ds,K=>nthK cs o fun a=>nthK ds o fun b=>cellEqK k a b fun x=>aggEqK ks fl cs ds fun y=>K (x && y)
 | _,_,_,_,_=>False
def aggBinK (op:BinOp) (b:Bool) (K:AV→Prop):Prop :=
 match op with
 | .eql=>K (.b b)
 | .neq=>K (.b (!b))
 | _=>False
def binTK (Γ:Ctx) (op:BinOp) (t:TypeId):AV→AV→(AV→Prop)→Prop
 | .b a,.b b,K=>tiK Γ t fun ti=>chkK (isBoolT ti.desc) (boolBinK op a b K)
 | .agg cs,.agg ds,K=>tiK Γ t fun ti=>structFK ti.desc fun fl=>chkK (!ti.eqs.isEmpty) (aggEqK ti.eqs fl cs ds fun b=>aggBinK op b K)
 | a,b,K=>binK op a b K
def convK:TD→AV→(AV→Prop)→Prop
 | .int k,.i _ n,K=>K (.i k (k.wrap n))
 | .str,.s l,K=>K (.s l)
 | .str,.i _ n,K=>K (.s (Utf8.encode n).data.toList)
 | _,_,_=>False
def ofB (n:Int):UInt8:=UInt8.ofNat n.toNat
def isU8T:TD→Bool
 | .int .u8=>true
 | _=>false
def isStrT:TD→Bool
 | .str=>true
 | _=>false
def convSK:TD→Str→(AV→Prop)→Prop
 | .int .u8,l,K=>K (.rd .u8 (l.map fun b=>(b.toNat:Int)))
 | .int .i32,l,K=>l.length≤70368744177664∧K (.rd .rune (runes l))
 | _,_,_=>False
def convAK (Γ:Ctx):TD→TD→AV→(AV→Prop)→Prop
 | .slice e,.str,.rd .u8 l,K=>tiK Γ e fun te=>chkK (isU8T te.desc) (K (.s (l.map ofB)))
 | .slice e,.str,.vec _ .u8 l,K=>tiK Γ e fun te=>chkK (isU8T te.desc) (K (.s (l.map ofB)))
 | sd,.slice e,.s l,K=>chkK (isStrT sd) (tiK Γ e fun te=>convSK te.desc l K)
 | _,d,a,K=>convK d a K
def structK:TD→(List (Nat × Nat)→Prop)→Prop
 | .struct fl,K=>K fl
 | _,_=>False
def sliceTK:TD→(Nat→Prop)→Prop
 | .slice e,K=>K e
 | _,_=>False
def faddrK (off:Nat):AV→(AV→Prop)→Prop
 | .pt n o,K=>K (.pt n (o + off))
 | .rp cs,K=>forceL (cs.drop off) fun cs=>K (.rp cs)
 | .vp id τ l n o,K=>K (.vp id τ l n (o + off))
 | _,_=>False
def anyVec:List AV→Bool
 | []=>false
 | .vec _ _ _::_=>true
 | .vs _ _ _ _::_=>true
 | _::r=>anyVec r
def noFn0:List AV→Bool
 | []=>true
 | .fn _ _::_=>false
 | .tup _::_=>false
 | .ag _ _::_=>false
 | _::r=>noFn0 r
def packK (str:Bool) (l:List AV) (K:AV→Prop):Prop :=
 match str with
 | true=>match anyVec l with
  | true=>chkK (noFn0 l) (K (.ag 0 l))
  | false=>plainCK l fun l=>K (.agg l)
 | false=>match l with
  | [v]=>K v
  | _=>False
def fieldK (off sz:Nat):AV→(AV→Prop)→Prop
 | .agg cs,K=>takeK sz (cs.drop off) fun l=>match l with
  | [v]=>K v
  | _=>False
 | _,_=>False
def extractK (i:Nat):AV→(AV→Prop)→Prop
 | .tup cs,K=>nthK cs i K
 | .ag (k + 1) cs,K=>match i with
  | 0=>takeK (k + 1) cs fun l=>K (.ag 0 l)
  | i + 1=>nthK cs (k + 1 + i) K
 | _,_=>False
def intK:AV→(Int→Prop)→Prop
 | .i _ n,K=>K n
 | _,_=>False
def iaddrK (n:Int) (cells:Nat):AV→(AV→Prop)→Prop
 | .rd τ l,K=>chkK (Nat.beq cells (esz τ)) ((0≤n∧n < (l.length:Int))∧forceL (enc τ (l.getD n.toNat (dflt τ))) fun cs=>K (.rp cs))
 | .vec id τ l,K=>chkK (Nat.beq cells (esz τ)) ((0≤n∧n < (l.length:Int))∧K (.vp id τ l n.toNat 0))
 | .vs id τ l k,K=>chkK (Nat.beq cells (esz τ)) ((0≤n∧n < ((l.length - k:Nat):Int))∧K (.vp id τ l (k + n.toNat) 0))
 | .ob id _ (.vw τ l x y),K=>chkK (Nat.beq cells (esz τ)) ((0≤n∧n < ((y - x:Nat):Int))∧K (.vp id τ l (x + n.toNat) 0))
 | .ob id i2 (.gr L i row),K=>chkK (Nat.beq cells 1) ((0≤n∧n < (L.length:Int))∧K (.ob id i2 (.gp L i row n.toNat)))
 | _,_=>False
def strIndexK (n:Int):AV→(AV→Prop)→Prop
 | .s l,K=>(0≤n∧n < (l.length:Int))∧K (.i .u8 ((l.getD n.toNat 0).toNat:Int))
 | _,_=>False
def arrAddrK (n:Int) (len cells:Nat):AV→(AV→Prop)→Prop
 | .pt m o,K=>(0≤n∧n < (len:Int))∧K (.pt m (o + n.toNat * cells))
 | .vp id τ l i o,K=>chkK (Nat.beq i 0) (chkK (Nat.beq o 0) (chkK (Nat.beq cells (esz τ)) ((0≤n∧n < (len:Int)∧n < (l.length:Int))∧K (.vp id τ l n.toNat 0))))
 | _,_=>False
def arrIdxK (n:Int) (len cells:Nat) (str:Bool):AV→(AV→Prop)→Prop
 | .agg cs,K=>chkK (Nat.beq cells 1) (chkK (!str) ((0≤n∧n < (len:Int))∧nthK cs n.toNat K))
 | _,_=>False
def idxAddrK (Γ:Ctx) (n:Int) (a:AV) (K:AV→Prop):TD→Prop
 | .slice e=>tiK Γ e fun te=>iaddrK n te.cells a K
 | .arr len e=>tiK Γ e fun te=>arrAddrK n len te.cells a K
 | _=>False
def idxValK (Γ:Ctx) (n:Int) (a:AV) (K:AV→Prop):TD→Prop
 | .str=>strIndexK n a K
 | .arr len e=>tiK Γ e fun te=>arrIdxK n len te.cells (isStruct te.desc) a K
 | _=>False
def nilChkK:AV→(AV→Prop)→Prop
 | .pt n o,K=>K (.pt n o)
 | .rp cs,K=>K (.rp cs)
 | .vp id τ l n o,K=>K (.vp id τ l n o)
 | _,_=>False
def fnK:Fn→Nat→Nat→(FuncId→Prop)→Prop
 | .func f,0,_,K=>K f
 | .func f,_,0,K=>K f
 | _,_,_,_=>False
def lenVK:TD→List AV→(AV→Prop)→Prop
 | .slice _,[.nl],K=>K (.i .i64 0)
 | .slice _,[.rd _ l],K=>l.length≤maxLen→K (.i .i64 (l.length:Int))
 | .slice _,[.vec _ _ l],K=>l.length≤maxLen→K (.i .i64 (l.length:Int))
 | .slice _,[.vs _ _ l k],K=>k≤l.length→l.length≤maxLen→K (.i .i64 ((l.length - k:Nat):Int))
 | .slice _,[.ob _ _ (.vw _ l x y)],K=>(x < y∧y≤l.length∧l.length≤maxLen)→K (.i .i64 ((y - x:Nat):Int))
 | .str,[.s l],K=>l.length≤maxLen→K (.i .i64 (l.length:Int))
 | _,_,_=>False
def minK:List AV→(AV→Prop)→Prop
 | [.i k a,.i k' b],K=>chkK (decide (k = k')) (K (.i k (if b < a then b else a)))
 | [.i k a,.i k' b,.i k2 c],K=>chkK (decide (k = k')) (chkK (decide (k = k2)) (K (.i k (if c < (if b < a then b else a) then c else if b < a then b else a))))
 | _,_=>False
def maxK:List AV→(AV→Prop)→Prop
 | [.i k a,.i k' b],K=>chkK (decide (k = k')) (K (.i k (if a < b then b else a)))
 | _,_=>False
def noFn:List AV→Bool
 | []=>true
 | .fn _ _::_=>false
 | .tup _::_=>false
 | .ag _ _::_=>false
 | _::r=>noFn r
def boundK (s:St):Option Operand→Int→(Int→Prop)→Prop
 | none,d,K=>K d
 | some x,_,K=>evK s x fun v=>intK v K
def strSliceK (s:St) (lo hi:Option Operand):AV→(AV→Prop)→Prop
 | .s l,K=>boundK s lo 0 fun lo=>boundK s hi (l.length:Int) fun hi=>(0≤lo∧lo≤hi∧hi≤(l.length:Int))∧K (.s ((l.take hi.toNat).drop lo.toNat))
 | _,_=>False
def rdSliceK (s:St) (cells:Nat) (lo hi:Option Operand):AV→(AV→Prop)→Prop
 | .rd τ l,K=>chkK (Nat.beq cells (esz τ)) (boundK s lo 0 fun lo=>boundK s hi (l.length:Int) fun hi=>(0≤lo∧lo≤hi∧hi≤(l.length:Int))∧K (.rd τ ((l.take hi.toNat).drop lo.toNat)))
 | .vec id τ l,K=>chkK (Nat.beq cells (esz τ)) (match hi with
  | none=>boundK s lo 0 fun lo=>(0≤lo∧lo≤(l.length:Int))∧K (.vs id τ l lo.toNat)
  | some _=>boundK s lo 0 fun lo=>boundK s hi 0 fun hi=>(0≤lo∧lo < hi∧hi≤(l.length:Int))∧K (.ob id id (.vw τ l lo.toNat hi.toNat)))
 | .vs id τ l k,K=>chkK (Nat.beq cells (esz τ)) (match hi with
  | none=>boundK s lo 0 fun lo=>(0≤lo∧lo≤((l.length - k:Nat):Int))∧K (.vs id τ l (k + lo.toNat))
  | some _=>False)
 | _,_=>False
def builtinVK (Γ:Ctx) (s:St) (b:Builtin) (args:List Operand) (ts:List TypeId) (K:AV→Prop):Prop :=
 match b with
 | .len=>evsK s args fun l=>nthK ts 0 fun t=>tiK Γ t fun ti=>lenVK ti.desc l K
 | .min=>evsK s args fun l=>minK l K
 | .max=>evsK s args fun l=>maxK l K
 | _=>False
def calleeVK (Γ:Ctx) (s:St) (args:List Operand) (ts:List TypeId) (K:AV→Prop):Callee→Prop
 | .builtin b=>builtinVK Γ s b args ts K
 | _=>False
def valK (Γ:Ctx) (s:St) (op:Op) (K:AV→Prop):Prop :=
 match op with
 | .move x=>evK s x K
 | .assign x=>evK s x K
 | .pick c a b=>evK s c fun c=>evK s a fun a=>evK s b fun b=>pickK c a b K
 | .binOp op t x y _=>evK s x fun a=>evK s y fun b=>binTK Γ op t a b K
 | .unOp op _ x=>evK s x fun a=>unK op a K
 | .convert src dst x=>evK s x fun a=>tiK Γ src fun _=>tiK Γ dst fun ti=>convK ti.desc a K
 | .fieldAddr t x f=>evK s x fun p=>tiK Γ t fun ti=>structK ti.desc fun fl=>nthK fl f fun d=>match d with | (off,_)=>faddrK off p K
 | .field t x f=>evK s x fun p=>tiK Γ t fun ti=>structK ti.desc fun fl=>nthK fl f fun d=>match d with | (off,sz)=>fieldK off sz p K
 | .extract x i=>evK s x fun p=>extractK i p K
 | .indexAddr t x i=>evK s x fun a=>evK s i fun n=>intK n fun n=>tiK Γ t fun ti=>idxAddrK Γ n a K ti.desc
 | .index t x i=>evK s x fun a=>evK s i fun n=>intK n fun n=>tiK Γ t fun ti=>idxValK Γ n a K ti.desc
 | .nilCheck x=>evK s x fun p=>nilChkK p K
 | .makeFunc fn first captured=>fnK fn first.toList.length captured.toList.length fun f=>match first.toList with
  | []=>evsK s captured.toList fun l=>chkK (noFn l) (chkK (!headNp l) (K (.fn f l)))
  | x::r=>evsK s (x::r) fun l=>chkK (noFn l) (K (.fn f (.np::l)))
 | .call c=>calleeVK Γ s c.args.toList c.argTypes.toList K c.callee
 | .slice t x lo hi mx=>match mx with
  | none=>evK s x fun a=>tiK Γ t fun ti=>match isStrT ti.desc with
   | true=>strSliceK s lo hi a K
   | false=>sliceTK ti.desc fun e=>tiK Γ e fun te=>rdSliceK s te.cells lo hi a K
  | some _=>False
 | _=>False
end Go.SX
end
section
namespace Go.SX
variable [Globs]

def fieldOk (P:Program) (f:Field):Bool :=
 P.cellsOf f.type != 0 && (P.info? f.type).isSome && (P.cellsOf f.type != 1 || match P.underlying f.type with
  | some (.struct _)=>false
  | some (.array _ _)=>false
  | none=>false
  | _=>true)
theorem fieldOk_spec {P:Program} {f:Field} (h:fieldOk P f = true):P.cellsOf f.type≠0∧(∃ i,P.info? f.type = some i)∧(P.cellsOf f.type = 1→∀ w:World,(isAgg f.type).run P w = .ok false w):=by
 simp only [fieldOk,Bool.and_eq_true,bne_iff_ne,Bool.or_eq_true] at h
 obtain ⟨⟨h1,h2⟩,h3⟩:=h
 refine ⟨h1,Option.isSome_iff_exists.1 h2,fun e w=>?_⟩
 rcases h3 with h3 | h3
 ·exact absurd e h3
 ·cases hu:P.underlying f.type with
  | none=>rw [hu] at h3; cases h3
  | some d=>rw [hu] at h3; cases d<;>first | (cases h3; done) | simp [isAgg,run_underlying hu]
def TD.ok (P:Program) (d:TypeDesc):TD→Prop
 | .struct fl=>∃ fs:Array Field,d = .struct fs∧fs.toList.map (fun f=>(f.offset,P.cellsOf f.type)) = fl∧fs.toList.all (fieldOk P) = true
 | .slice e=>d = .slice e
 | .int k=>d = .int k
 | .str=>d = .string
 | .bool=>d = .bool
 | .arr n e=>d = .array n e
 | .mp k e=>d = .map k e
 | .ifc=>∃ ms,d = .interface ms
 | .other=>(∀ fs,d≠.struct fs)∧(∀ n e,d≠.array n e)∧∀ ms,d≠.interface ms
def ekOf (P:Program) (f:Field):Option EK :=
 bif f.name == "_" then none else match P.underlying f.type with
  | some (.int _)=>some .int
  | some .string=>some .str
  | some .bool=>some .bool
  | _=>none
def eqOK (P:Program) (t:TypeId) (eqs:List EK):Bool :=
 eqs.isEmpty || match P.underlying t with
  | some (.struct fs)=>!P.stoodInHeld t && !P.eqGuardType P.depth t && decide (fs.toList.map (ekOf P) = eqs.map some)
  | _=>false

structure TI.ok (P:Program) (t:TypeId) (ti:TI):Prop where
 info:∃ i z,P.info? t = some i∧i.size = ti.cells∧i.bytes = ti.bytes∧i.zero = some z∧z.cells = ti.zero.toArray
 desc:∃ d,P.underlying t = some d∧ti.desc.ok P d
 eqs:eqOK P t ti.eqs = true
 one:isStruct ti.desc = false→∃ i,P.info? t = some i∧i.zero = ti.zero.head?
 cmp:ti.cmp = true→∃ i,P.info? t = some i∧i.comparable = true
def Ctx.ok (P:Program) (Γ:Ctx):Prop:=∀ p ∈ Γ,p.2.ok P p.1
theorem tiK_mem {Γ:Ctx} {t:Nat} {K:TI→Prop} (h:tiK Γ t K):∃ ti:TI,(t,ti) ∈ Γ∧K ti:=by
 induction Γ with
 | nil=>exact h.elim
 | cons p r ih =>
  obtain ⟨m,u⟩:=p
  simp only [tiK] at h
  by_cases e:m = t
  ·subst e; simp only [Nat.beq_refl,cond_true] at h; exact ⟨u,List.mem_cons_self .., h⟩
  ·rw [nbeq_ne e] at h
   obtain ⟨ti,h1,h2⟩:=ih h
   exact ⟨ti,List.mem_cons_of_mem _ h1,h2⟩
theorem tiK_ok {P:Program} {Γ:Ctx} (hΓ:Γ.ok P) {t:Nat} {K:TI→Prop} (h:tiK Γ t K):∃ ti:TI,ti.ok P t∧K ti:=by
 obtain ⟨ti,h1,h2⟩:=tiK_mem h
 exact ⟨ti,hΓ _ h1,h2⟩
theorem TI.ok.sizeOf {P:Program} {t:Nat} {ti:TI} (h:ti.ok P t) (w:World):(sizeOf t).run P w = .ok ti.cells w:=by
 obtain ⟨i,z,h1,h2,_⟩:=h.info
 simp [Go.sizeOf,typeInfo,h1,h2]
theorem TI.ok.cellsOf {P:Program} {t:Nat} {ti:TI} (h:ti.ok P t):P.cellsOf t = ti.cells:=by
 obtain ⟨i,z,h1,h2,_⟩:=h.info
 simp [Program.cellsOf,h1,h2]
theorem TI.ok.zeroValue {P:Program} {t:Nat} {ti:TI} (h:ti.ok P t) (w:World):∃ z,(zeroValue t).run P w = .ok z w∧z.cells = ti.zero.toArray:=by
 obtain ⟨i,z,h1,h2,h3,h4,h5⟩:=h.info
 exact ⟨z,by simp [Go.zeroValue,typeInfo,h1,h4],h5⟩

section
variable {P:Program} {N:Nat}

theorem wp_val {o:Oper} {a:Act} {w w':World} {next:Act→World→Prop} {Q:Exit→Act→World→Prop} {u:Value} (hrun:(execOp a.eval o).run P w = .ok (.value u) w') (h:next (a.put o.dst u) w'):o.wp P a w next Q:=by
 unfold Oper.wp; rw [hrun]; exact h
theorem wp_skp {o:Oper} {a:Act} {w w':World} {next:Act→World→Prop} {Q:Exit→Act→World→Prop} (hrun:(execOp a.eval o).run P w = .ok .skip w') (h:next (a.put o.dst undef) w'):o.wp P a w next Q:=by
 unfold Oper.wp; rw [hrun]; exact h

section
variable {W0:World} {F:Fr} {X:Nat→Prop} {s:St} {β:Nat→Option Nat} {a:Act} {w:World}

theorem ofVal_im (O:Nat→Prop) (w:World) (v:Value):Im O w (ofVal v) v:=by
 cases v with
 | int k n=>exact .i k n
 | bool b=>exact .b b
 | string s =>
  simp only [ofVal]
  cases h:Nat.ble s.data.toList.length 1000000 with
  | false=>exact .x _
  | true =>
   have hl:=Nat.le_of_ble_eq_true h
   have:=Im.s (O:=O) (w:=w) s.data.toList (by unfold maxLen; omega)
   simpa using this
 | slice a l c =>
  cases a with
  | some a=>exact .x _
  | none=>cases l with
   | succ l=>exact .x _
   | zero=>cases c with
    | succ c=>exact .x _
    | zero=>exact .nl
 | nilIface=>exact .er0
 | _=>exact .x _

theorem ofVals_len:∀ l:List Value,(ofVals l).length = l.length
 | []=>rfl
 | _::r=>congrArg (· + 1) (ofVals_len r)
theorem ofVals_get:∀ (l:List Value) (j:Nat),(ofVals l)[j]? = l[j]?.map ofVal
 | [],_=>rfl
 | _::_,0=>rfl
 | _::r,j + 1=>ofVals_get r j
theorem ofLit_im (O:Nat→Prop) (w:World) (v:Value):Im O w (ofLit v) v:=by
 cases v with
 | agg a =>
  show Im O w (bif a.toList.all Value.oneCell' then .agg (ofVals a.toList) else .x) _
  cases h:a.toList.all Value.oneCell' with
  | false=>exact .x _
  | true =>
   refine Im.agg (ofVals a.toList) a.toList (ofVals_len _) (fun v hv=>List.all_eq_true.1 h v hv) fun j av v h1 h2=>?_
   rw [ofVals_get,h2] at h1
   cases h1
   exact ofVal_im O w v
 | _=>simp only [ofLit]; exact ofVal_im O w _
theorem ev_rel (h:InvB W0 F X N s β a w) (x:Operand):Rel β (Own X s β) w (ev s x) (a.eval x)∧∀ n ∈ ids (ev s x),Nm s n:=by
 cases x with
 | tmp t=>exact ⟨h.slots t,fun n hn=>.inr (.inl ⟨t,hn⟩)⟩
 | const v=>exact ⟨Rel.im (ofLit_im _ _ _),by rw [show ev s (.const v) = ofLit v from rfl,(ofLit_im (fun _=>False) w v).ids_nil]; intro n hn; cases hn⟩
 | global g=>exact ⟨Rel.x,by intro n hn; cases hn⟩
 | func f=>exact ⟨⟨[],rfl,All2.nil _⟩,by intro n hn; simp [ev,ids] at hn⟩
theorem evs_rel (h:InvB W0 F X N s β a w) (l:List Operand):All2 (Rel β (Own X s β) w) (evs s l) (l.map a.eval)∧∀ c ∈ evs s l,∀ n ∈ ids c,Nm s n:=by
 induction l with
 | nil=>exact ⟨All2.nil _,by simp [evs]⟩
 | cons x r ih =>
  refine ⟨All2.cons (ev_rel h x).1 ih.1,fun c hc=>?_⟩
  rcases List.mem_cons.1 hc with rfl | hc
  ·exact (ev_rel h x).2
  ·exact ih.2 c hc

theorem put_ok (h : InvB W0 F X N s β a w) {d : Option Nat} {v : AV} {u : Value} {K : St → Prop} (hK : stPutK N s d v K) (hr : Rel β (Own X s β) w v u) (hids : ∀ n ∈ ids v, Nm s n) :
  ∃ s',K s'∧InvB W0 F X N s' β (a.put d u) w:=by
 cases d with
 | none=>exact ⟨s,hK,h⟩
 | some d =>
  rw [stPutK_some] at hK
  by_cases hd:d < N
  ·rw [show Nat.blt d N = true from by rw [Nat.blt_eq]; exact hd,cond_true] at hK
   exact ⟨s.put d v,hK,h.put hd hr hids⟩
  ·rw [show Nat.blt d N = false from by rw [← Bool.not_eq_true,Nat.blt_eq]; exact hd] at hK
   exact hK.elim
theorem putIm_ok (h : InvB W0 F X N s β a w) {d : Option Nat} {v : AV} {u : Value} {K : St → Prop} {w' : World} (hs : Stp (fun _ => False) w w') (hK : stPutK N s d v K) (hr : Im (Own X s β) w' v u) :
  ∃ s',K s'∧InvB W0 F X N s' β (a.put d u) w':=by
 have h':=h.grow hs
 exact put_ok h' hK (Rel.im hr) (by rw [hr.ids_nil]; intro n hn; cases hn)

theorem val_ok (h : InvB W0 F X N s β a w) {o : Oper} {v : AV} {u : Value} {K : St → Prop} {next : Act → World → Prop} {Q : Exit → Act → World → Prop} (hK : stPutK N s o.dst v K)
  (hn:∀ s' a' w',K s'→Inv W0 F X N s' a' w'→next a' w') (hrun:(execOp a.eval o).run P w = .ok (.value u) w) (hr:Rel β (Own X s β) w v u) (hids:∀ n ∈ ids v,Nm s n):o.wp P a w next Q:=by
 obtain ⟨s',h1,h2⟩:=put_ok h hK hr hids
 exact wp_val hrun (hn _ _ _ h1 ⟨β,h2⟩)
theorem valIm_ok (h : InvB W0 F X N s β a w) {o : Oper} {v : AV} {u : Value} {K : St → Prop} {next : Act → World → Prop} {Q : Exit → Act → World → Prop} {w' : World} (hs : Stp (fun _ => False) w w') (hK : stPutK N s o.dst v K)
  (hn:∀ s' a' w',K s'→Inv W0 F X N s' a' w'→next a' w') (hrun:(execOp a.eval o).run P w = .ok (.value u) w') (hr:Im (Own X s β) w' v u):o.wp P a w next Q:=by
 obtain ⟨s',h1,h2⟩:=putIm_ok h hs hK hr
 exact wp_val hrun (hn _ _ _ h1 ⟨β,h2⟩)

theorem Rel.inv_i {k:IntKind} {n:Int} {v:Value} (h:Rel β (Own X s β) w (.i k n) v):v = .int k n:=by cases (show Im _ _ _ _ from h); rfl
theorem Rel.inv_b {x:Bool} {v:Value} (h:Rel β (Own X s β) w (.b x) v):v = .bool x:=by cases (show Im _ _ _ _ from h); rfl
theorem Rel.inv_s {l:Str} {v:Value} (h:Rel β (Own X s β) w (.s l) v):v = .string ⟨l.toArray⟩∧l.length≤maxLen:=by
 cases (show Im _ _ _ _ from h) with
 | s _ hl=>exact ⟨rfl,hl⟩
theorem Rel.inv_nl {v:Value} (h:Rel β (Own X s β) w .nl v):v = .slice none 0 0:=by cases (show Im _ _ _ _ from h); rfl
theorem Rel.inv_rd {τ:Ty} {l:List (den τ)} {v:Value} (h:Rel β (Own X s β) w (.rd τ l) v):∃ a c,v = .slice a l.length c∧l.length≤c∧c≤maxLen:=by
 cases (show Im _ _ _ _ from h) with
 | rd0 _ a c hc=>exact ⟨a,c,rfl,by simp,hc⟩
 | rd _ _ g o c u _ h1 h2=>exact ⟨_,c,rfl,h1,h2⟩
end

theorem rng_wrap {k:IntKind} {n:Int} (h:Rng k n):k.wrap n = n:=by
 cases k<;>simp only [Rng] at h
 ·rw [IntKind.wrap_i32]; omega
 ·rw [IntKind.wrap_i64]; omega
 ·rw [IntKind.wrap_u8]; omega
 ·rw [IntKind.wrap_u16]; omega
 ·rw [IntKind.wrap_u32]; omega
 ·rw [IntKind.wrap_u64]; omega

theorem arith_run {k:IntKind} {n:Int} {K:AV→Prop} (h:arithK k n K):∃ m,K (.i k m)∧m = k.wrap n:=by
 unfold arithK at h
 cases hk:k.signed with
 | true=>rw [hk] at h; exact ⟨n,h.2,(rng_wrap h.1).symm⟩
 | false=>rw [hk] at h; exact ⟨_,h,rfl⟩

theorem bin_run (op : BinOp) {av bv : AV} {K : AV → Prop} (h : binK op av bv K) {X : Nat → Prop} {β : Nat → Option Nat} {s : St} {w : World} {u v : Value} (hu : Rel β (Own X s β) w av u) (hv : Rel β (Own X s β) w bv v)
  (t:TypeId) (x y:Operand):∃ r z,K r∧Im (Own X s β) w r z∧∀ w':World,(do eqGuard op t x y u v; binOp op t u v:Sem Value).run P w' = .ok z w':=by
 cases av with
 | i k a =>
  cases bv with
  | i k' c =>
   obtain rfl:=hu.inv_i
   obtain rfl:=hv.inv_i
   have hshift : ∀ {m : Int}, K (.i k m) → (∀ w' : World, (do eqGuard op t x y (.int k a) (.int k' c); binOp op t (.int k a) (.int k' c) : Sem Value).run P w' = .ok (.int k m) w') →
     ∃ r z,K r∧Im (Own X s β) w r z∧∀ w':World,(do eqGuard op t x y (.int k a) (.int k' c); binOp op t (.int k a) (.int k' c):Sem Value).run P w' = .ok z w' :=
    fun hK hr=>⟨_,_,hK,.i k _,hr⟩
   have hb : ∀ {b : Bool}, K (.b b) → (∀ w' : World, (do eqGuard op t x y (.int k a) (.int k' c); binOp op t (.int k a) (.int k' c) : Sem Value).run P w' = .ok (.bool b) w') →
     ∃ r z,K r∧Im (Own X s β) w r z∧∀ w':World,(do eqGuard op t x y (.int k a) (.int k' c); binOp op t (.int k a) (.int k' c):Sem Value).run P w' = .ok z w' :=
    fun hK hr=>⟨_,_,hK,.b _,hr⟩
   by_cases hk:k = k'
   case neg =>
    cases op<;>simp only [binK,hk,decide_false,cond_false] at h
    ·exact hshift h.2 (fun w'=>by simp [eqGuard,binOp,Op.shift,show ¬ c < 0 from by omega])
    ·exact hshift h.2 (fun w'=>by simp [eqGuard,binOp,Op.shift,show ¬ c < 0 from by omega])
   case pos =>
   subst hk
   cases op<;>simp only [binK,decide_true,cond_true,intBinK] at h
   case add=>obtain ⟨m,h1,rfl⟩:=arith_run h; exact hshift h1 (fun w'=>by simp [eqGuard,binOp,Op.intArith])
   case sub=>obtain ⟨m,h1,rfl⟩:=arith_run h; exact hshift h1 (fun w'=>by simp [eqGuard,binOp,Op.intArith])
   case mul=>obtain ⟨m,h1,rfl⟩:=arith_run h; exact hshift h1 (fun w'=>by simp [eqGuard,binOp,Op.intArith])
   case quo=>exact hshift h.2.2 (fun w'=>by simp [eqGuard,binOp,Op.intDiv,h.1,rng_wrap h.2.1])
   case rem=>exact hshift h.2 (fun w'=>by simp [eqGuard,binOp,Op.intDiv,h.1])
   case and=>exact hshift h (fun w'=>by simp [eqGuard,binOp,intBits_and])
   case or=>exact hshift h (fun w'=>by simp [eqGuard,binOp,intBits_or])
   case xor=>exact hshift h (fun w'=>by simp [eqGuard,binOp,intBits_xor])
   case andNot=>exact hshift h (fun w'=>by simp [eqGuard,binOp,Op.intBits,bits])
   case shl=>exact hshift h.2 (fun w'=>by simp [eqGuard,binOp,Op.shift,show ¬ c < 0 from by omega])
   case shr=>exact hshift h.2 (fun w'=>by simp [eqGuard,binOp,Op.shift,show ¬ c < 0 from by omega])
   case eql=>exact hb h (fun w'=>by simp [eqGuard,binOp,Op.intCmp])
   case neq=>exact hb h (fun w'=>by simp [eqGuard,binOp,Op.intCmp])
   case lss=>exact hb h (fun w'=>by simp [eqGuard,binOp,Op.intCmp])
   case leq=>exact hb h (fun w'=>by simp [eqGuard,binOp,Op.intCmp])
   case gtr=>exact hb h (fun w'=>by simp [eqGuard,binOp,Op.intCmp])
   case geq=>exact hb h (fun w'=>by simp [eqGuard,binOp,Op.intCmp])
  | _=>exact h.elim
 | s a =>
  cases bv with
  | s c =>
   obtain ⟨rfl,ha⟩:=hu.inv_s
   obtain ⟨rfl,hc⟩:=hv.inv_s
   have hb : ∀ {b : Bool}, K (.b b) → (∀ w' : World, (do eqGuard op t x y (.string ⟨a.toArray⟩) (.string ⟨c.toArray⟩); binOp op t (.string ⟨a.toArray⟩) (.string ⟨c.toArray⟩) : Sem Value).run P w' = .ok (.bool b) w') →
     ∃ r z,K r∧Im (Own X s β) w r z∧∀ w':World,(do eqGuard op t x y (.string ⟨a.toArray⟩) (.string ⟨c.toArray⟩); binOp op t (.string ⟨a.toArray⟩) (.string ⟨c.toArray⟩):Sem Value).run P w' = .ok z w' :=
    fun hK hr=>⟨_,_,hK,.b _,hr⟩
   have hsz:∀ l:Str,(ByteArray.mk l.toArray).size = l.length:=fun l=>by simp [ByteArray.size]
   cases op<;>simp only [binK,strBinK] at h
   case add =>
    have hle:¬ ((((ByteArray.mk a.toArray).size + (ByteArray.mk c.toArray).size:Nat):Int) > IntKind.i64.max):=by
     rw [hsz,hsz]
     have:IntKind.i64.max = 9223372036854775807:=rfl
     rw [this]
     have:=h.1
     unfold maxLen at this
     omega
    refine ⟨_,.string (⟨a.toArray⟩++⟨c.toArray⟩),h.2,?_,?_⟩
    ·have:=Im.s (O:=Own X s β) (w:=w) (a++c) (by simpa using h.1)
     have e:(ByteArray.mk a.toArray++ByteArray.mk c.toArray) = ByteArray.mk (a++c).toArray:=by
      apply ByteArray.ext
      simp
     rw [e]; exact this
    ·intro w'
     simp only [eqGuard,binOp,Op.stringOp,if_neg hle]
     simp
   case eql=>exact hb h (fun w'=>by simp [eqGuard,binOp,Op.stringOp])
   case neq=>exact hb h (fun w'=>by simp [eqGuard,binOp,Op.stringOp])
   case lss=>exact hb h (fun w'=>by simp [eqGuard,binOp,Op.stringOp])
   case leq=>exact hb h (fun w'=>by simp [eqGuard,binOp,Op.stringOp])
   case gtr=>exact hb h (fun w'=>by simp [eqGuard,binOp,Op.stringOp])
   case geq=>exact hb h (fun w'=>by simp [eqGuard,binOp,Op.stringOp])
  | _=>exact h.elim
 | _=>exact h.elim
end
end Go.SX
end
section
namespace Go.SX
variable [Globs]
open Go
def cellEq:EK→Value→Value→Bool
 | .int,.int _ a,.int _ b=>decide (a = b)
 | .str,.string a,.string b=>a == b
 | .bool,.bool a,.bool b=>a == b
 | _,_,_=>false
def cellOK:EK→Value→Value→Prop
 | .int,.int k _,.int k' _=>k = k'
 | .str,.string _,.string _=>True
 | .bool,.bool _,.bool _=>True
 | _,_,_=>False
theorem ek_run {P : Program} {f : Field} {k : EK} (h : ekOf P f = some k) : f.name ≠ "_" ∧ (∀ w, (isAgg f.type).run P w = .ok false w) ∧
  ∀ d x y w,cellOK k x y→(Op.equalIn (d + 1) f.type x y).run P w = .ok (cellEq k x y) w:=by
 unfold ekOf at h
 cases hn : f.name == "_" with
 | true=>rw [hn] at h; cases h
 | false =>
  rw [hn,cond_false] at h
  refine ⟨fun e=>by rw [e] at hn; simp at hn,?_⟩
  split at h
  ·rename_i kk hu
   injection h with h; subst h
   refine ⟨fun w=>by simp [isAgg,run_underlying hu],fun d x y w hc=>?_⟩
   cases x<;>cases y<;>first | exact hc.elim | skip
   rename_i k1 a k2 b
   have:k1 = k2:=hc
   subst this
   simp [Op.equalIn,run_underlying hu,cellEq]
   rfl
  ·rename_i hu
   injection h with h; subst h
   refine ⟨fun w=>by simp [isAgg,run_underlying hu],fun d x y w hc=>?_⟩
   cases x<;>cases y<;>first | exact hc.elim | skip
   simp [Op.equalIn,run_underlying hu,cellEq]
  ·rename_i hu
   injection h with h; subst h
   refine ⟨fun w=>by simp [isAgg,run_underlying hu],fun d x y w hc=>?_⟩
   cases x<;>cases y<;>first | exact hc.elim | skip
   simp [Op.equalIn,run_underlying hu,cellEq]
  ·cases h

def cellsEq:List EK→List Nat→List Value→List Value→Bool
 | k::ks,o::os,xs,ys=>cellEq k (xs.getD o undef) (ys.getD o undef) && cellsEq ks os xs ys
 | _,_,_,_=>true
def cellsOK:List EK→List Nat→List Value→List Value→Prop
 | [],[],_,_=>True
 | k::ks,o::os,xs,ys=>o < xs.length∧o < ys.length∧cellOK k (xs.getD o undef) (ys.getD o undef)∧cellsOK ks os xs ys
 | _,_,_,_=>False
theorem eq_loop {P : Program} {d : Nat} {xs ys : List Value} (w : World) : ∀ (fs : List Field) (ks : List EK), fs.map (ekOf P) = ks.map some → cellsOK ks (fs.map (·.offset)) xs ys →
  ∃ r, Sem.run P (forIn fs ((none, ()) : Option Bool × Unit) fun f __s =>
          if f.name = "_" then pure (ForInStep.yield (none, ()))
          else do
           let __do_lift ← part f.type xs.toArray f.offset
           let __do_lift_1 ← part f.type ys.toArray f.offset
           let __do_lift ← Op.equalIn (d + 1) f.type __do_lift __do_lift_1
           if __do_lift = false then pure (ForInStep.done (some false,())) else pure (ForInStep.yield (none,()))) w = .ok r w ∧
   r.1 = (if cellsEq ks (fs.map (·.offset)) xs ys then none else some false):=by
 intro fs
 induction fs with
 | nil =>
  intro ks h1 h2
  cases ks with
  | nil=>exact ⟨(none,()),by simp,by simp [cellsEq]⟩
  | cons _ _=>cases h1
 | cons f fs ih =>
  intro ks h1 h2
  cases ks with
  | nil=>cases h1
  | cons k ks =>
   simp only [List.map_cons,List.cons.injEq] at h1
   obtain ⟨h3,h4⟩:=h1
   obtain ⟨h5,h6,h7,h8⟩:=(show f.offset < xs.length∧f.offset < ys.length∧cellOK k (xs.getD f.offset undef) (ys.getD f.offset undef)∧cellsOK ks (fs.map (·.offset)) xs ys from h2)
   obtain ⟨hn,hag,hrun⟩:=ek_run h3
   have hx:(part f.type xs.toArray f.offset).run P w = .ok (xs.getD f.offset undef) w:=by
    have:xs.toArray[f.offset]? = some (xs.getD f.offset undef):=by simp [h5]
    simp [part,hag,this]
   have hy:(part f.type ys.toArray f.offset).run P w = .ok (ys.getD f.offset undef) w:=by
    have:ys.toArray[f.offset]? = some (ys.getD f.offset undef):=by simp [h6]
    simp [part,hag,this]
   have he:=hrun d _ _ w h7
   obtain ⟨r,h9,h10⟩:=ih ks h4 h8
   rw [List.forIn_cons]
   simp only [hn,if_false,Sem.run_bind,hx,hy,he,Result.andThen_ok]
   cases hc:cellEq k (xs.getD f.offset undef) (ys.getD f.offset undef) with
   | false =>
    refine ⟨(some false,()),by simp,?_⟩
    simp only [List.map_cons,cellsEq,hc,Bool.false_and]
    simp
   | true =>
    refine ⟨r,by simpa using h9,?_⟩
    simp only [List.map_cons,cellsEq,hc,Bool.true_and]
    exact h10
theorem struct_eq_run {P : Program} {t : TypeId} {fs : Array Field} {ks : List EK} (hu : P.underlying t = some (.struct fs)) (hs : P.stoodInHeld t = false) (hk : fs.toList.map (ekOf P) = ks.map some) {xs ys : List Value}
  (h:cellsOK ks (fs.toList.map (·.offset)) xs ys) (d:Nat) (w:World) :
  (Op.equalIn (d + 2) t (.agg xs.toArray) (.agg ys.toArray)).run P w = .ok (cellsEq ks (fs.toList.map (·.offset)) xs ys) w:=by
 obtain ⟨r,h1,h2⟩:=eq_loop (d:=d) w fs.toList ks hk h
 rw [Op.equalIn]
 simp [run_underlying hu,hs]
 rw [← Array.forIn_toList,h1]
 simp only [Result.andThen_ok]
 rw [h2]
 cases cellsEq ks (fs.toList.map (·.offset)) xs ys<;>simp
theorem bin_struct_run {P : Program} {t : TypeId} {eqs : List EK} (hne : eqs ≠ []) (hok : eqOK P t eqs = true) {fl : List (Nat × Nat)} (hfl : ∀ fs : Array Field, P.underlying t = some (.struct fs) → fs.toList.map (fun f => (f.offset, P.cellsOf f.type)) = fl)
  {xs ys:List Value} (h:cellsOK eqs (fl.map (·.1)) xs ys) (x y:Operand) (w:World) :
  (do eqGuard .eql t x y (.agg xs.toArray) (.agg ys.toArray); binOp .eql t (.agg xs.toArray) (.agg ys.toArray):Sem Value).run P w = .ok (.bool (cellsEq eqs (fl.map (·.1)) xs ys)) w ∧
  (do eqGuard .neq t x y (.agg xs.toArray) (.agg ys.toArray); binOp .neq t (.agg xs.toArray) (.agg ys.toArray):Sem Value).run P w = .ok (.bool (!(cellsEq eqs (fl.map (·.1)) xs ys))) w:=by
 unfold eqOK at hok
 have he:eqs.isEmpty = false:=by cases eqs with
  | nil=>exact absurd rfl hne
  | cons _ _=>rfl
 rw [he,Bool.false_or] at hok
 split at hok
 ·rename_i fs hu
  simp only [Bool.and_eq_true,Bool.not_eq_true',decide_eq_true_eq] at hok
  obtain ⟨⟨h1,h2⟩,h3⟩:=hok
  have hf:=hfl fs hu
  have hoff:fl.map (·.1) = fs.toList.map (·.offset):=by rw [← hf]; simp
  rw [hoff] at h ⊢
  have hr:=struct_eq_run hu h1 h3 h 9998 w
  refine ⟨?_,?_⟩
  ·simp only [eqGuard,binOp]
   simp [h2,Op.equal,Op.maxDepth,hr]
  ·simp only [eqGuard,binOp]
   simp [h2,Op.equal,Op.maxDepth,hr]
 ·cases hok
theorem bytes_beq (a c:Str):(ByteArray.mk a.toArray == ByteArray.mk c.toArray) = (a == c):=by
 show (a.toArray == c.toArray) = (a == c)
 simp
section
variable {W0:World} {F:Fr} {X:Nat→Prop} {N:Nat} {s:St} {β:Nat→Option Nat} {a:Act} {w:World}
theorem cellEq_im {O:Nat→Prop} {k:EK} {c d:AV} {u v:Value} {K:Bool→Prop} (h:cellEqK k c d K) (hc:Im O w c u) (hd:Im O w d v):cellOK k u v∧K (cellEq k u v):=by
 cases k<;>cases c<;>cases d<;>first | exact h.elim | skip
 ·rename_i k1 n k2 m
  cases hc; cases hd
  obtain ⟨h1,h2⟩:=(chkK_iff _ _).1 (show chkK (decide (k1 = k2)) (K (decide (n = m))) from h)
  exact ⟨(of_decide_eq_true h1:k1 = k2),h2⟩
 ·rename_i x y
  cases hc; cases hd
  exact ⟨trivial,by simp only [cellEq]; rw [bytes_beq]; exact h⟩
 ·cases hc; cases hd
  exact ⟨trivial,h⟩
theorem aggEq_im {O : Nat → Prop} {cs ds : List AV} {us vs : List Value} (hc : All2 (Im O w) cs us) (hd : All2 (Im O w) ds vs) (ks : List EK) : ∀ (fl : List (Nat × Nat)) {K : Bool → Prop}, aggEqK ks fl cs ds K →
  cellsOK ks (fl.map (·.1)) us vs∧K (cellsEq ks (fl.map (·.1)) us vs):=by
 induction ks with
 | nil =>
  intro fl K h
  cases fl with
  | nil=>exact ⟨trivial,h⟩
  | cons _ _=>exact h.elim
 | cons k ks ih =>
  intro fl K h
  cases fl with
  | nil=>exact h.elim
  | cons p fl =>
   obtain ⟨o,sz⟩:=p
   obtain ⟨c,h1,h⟩:=(nthK_iff _ _ _).1 (show nthK cs o fun a=>nthK ds o fun b=>cellEqK k a b fun x=>aggEqK ks fl cs ds fun y=>K (x && y) from h)
   obtain ⟨d,h2,h⟩:=(nthK_iff _ _ _).1 h
   have hl1:o < us.length:=by rw [← hc.1]; exact (List.getElem?_eq_some_iff.1 h1).1
   have hl2:o < vs.length:=by rw [← hd.1]; exact (List.getElem?_eq_some_iff.1 h2).1
   have e1:us[o]? = some (us.getD o undef):=by rw [List.getD_eq_getElem?_getD,List.getElem?_eq_getElem hl1]; rfl
   have e2:vs[o]? = some (vs.getD o undef):=by rw [List.getD_eq_getElem?_getD,List.getElem?_eq_getElem hl2]; rfl
   obtain ⟨h3,h4⟩:=cellEq_im h (hc.2 _ _ _ h1 e1) (hd.2 _ _ _ h2 e2)
   obtain ⟨h5,h6⟩:=ih fl h4
   exact ⟨⟨hl1,hl2,h3,h5⟩,h6⟩
end
end Go.SX
end
section
namespace Go.SX
variable [Globs]
section
variable {P:Program} {N:Nat} {Γ:Ctx} {W0:World} {F:Fr} {X:Nat→Prop} {s:St} {β:Nat→Option Nat} {a:Act} {w:World}

def ValOK (P:Program) (X:Nat→Prop) (s:St) (β:Nat→Option Nat) (a:Act) (w:World) (o:Oper) (K:AV→Prop):Prop :=
 ∃ v u,K v∧Rel β (Own X s β) w v u∧(∀ n ∈ ids v,Nm s n)∧∀ w':World,(execOp a.eval o).run P w' = .ok (.value u) w'
def LoadOK (P:Program) (X:Nat→Prop) (s:St) (β:Nat→Option Nat) (a:Act) (w:World) (o:Oper) (K:AV→Prop):Prop :=
 ∃ v u,K v∧Rel β (Own X s β) w v u∧(∀ n ∈ ids v,Nm s n)∧(execOp a.eval o).run P w = .ok (.value u) w

theorem ValOK.im {o:Oper} {K:AV→Prop} {v:AV} {u:Value} (hK:K v) (hr:Im (Own X s β) w v u) (hrun:∀ w':World,(execOp a.eval o).run P w' = .ok (.value u) w'):ValOK P X s β a w o K :=
 ⟨v,u,hK,Rel.im hr,(fun n hn=>by rw [hr.ids_nil] at hn; cases hn),hrun⟩

theorem LoadOK.im {o:Oper} {K:AV→Prop} {v:AV} {u:Value} (hK:K v) (hr:Im (Own X s β) w v u) (hrun:(execOp a.eval o).run P w = .ok (.value u) w):LoadOK P X s β a w o K :=
 ⟨v,u,hK,Rel.im hr,(fun n hn=>by rw [hr.ids_nil] at hn; cases hn),hrun⟩

theorem Rel.inv_agg {cs:List AV} {v:Value} (h:Rel β (Own X s β) w (.agg cs) v):∃ vs:List Value,v = .agg vs.toArray∧All2 (Im (Own X s β) w) cs vs∧∀ u ∈ vs,u.oneCell' = true:=by
 cases (show Im _ _ _ _ from h) with
 | agg _ vs h1 h0 h2=>exact ⟨vs,rfl,⟨h1,h2⟩,h0⟩
theorem Rel.inv_tup {cs:List AV} {v:Value} (h:Rel β (Own X s β) w (.tup cs) v):∃ vs:List Value,v = .tuple vs.toArray∧All2 (Rel0 β (Own X s β) w) cs vs:=h
theorem Rel0.ids {c:AV} {u:Value} (hr:Rel0 β (Own X s β) w c u) {n:Nat} (h:n ∈ SX.ids c):n ∈ ids0 c:=by
 cases c with
 | fn f caps=>rw [Im.ids_nil (show Im _ _ _ _ from hr)] at h; cases h
 | tup cs=>rw [Im.ids_nil (show Im _ _ _ _ from hr)] at h; cases h
 | ag k cs=>rw [Im.ids_nil (show Im _ _ _ _ from hr)] at h; cases h
 | _=>exact h

theorem add_none (g o n:Nat):(⟨g,o,none⟩:Addr).add n = ⟨g,o + n,none⟩:=by
 unfold Addr.add
 split
 ·rename_i h; subst h; rfl
 ·rfl

theorem un_run (op:UnOp) {av:AV} {K:AV→Prop} (h:unK op av K) {u:Value} (hu:Rel β (Own X s β) w av u):∃ r z,K r∧Im (Own X s β) w r z∧∀ w':World,(Op.unary op u).run P w' = .ok z w':=by
 cases av with
 | b x =>
  obtain rfl:=hu.inv_b
  cases op<;>simp only [unK] at h
  exact ⟨_,_,h,.b _,fun w'=>by simp [Op.unary]⟩
 | i k n =>
  obtain rfl:=hu.inv_i
  cases op<;>simp only [unK] at h
  ·have h : ∃ m, K (.i k m) ∧ m = k.wrap (0 - n) := by
    unfold negK at h
    split at h
    ·exact h.elim (fun h=>arith_run h) fun h=>⟨_,h,rfl⟩
    ·exact arith_run h
   obtain ⟨m,h1,rfl⟩:=h
   exact ⟨_,_,h1,.i k _,fun w'=>by simp [Op.unary,Op.intArith]⟩
  ·exact ⟨_,_,h,.i k _,fun w'=>by simp [Op.unary,intBits_xor]⟩
 | _=>exact h.elim

theorem fl_at {fs : Array Field} {fl : List (Nat × Nat)} (h : fs.toList.map (fun f => (f.offset, P.cellsOf f.type)) = fl) {f : Nat} {d : Nat × Nat} (hd : fl[f]? = some d) :
  ∃ fd,fs[f]? = some fd∧fd ∈ fs∧fd.offset = d.1∧P.cellsOf fd.type = d.2:=by
 subst h
 rw [List.getElem?_map,Option.map_eq_some_iff] at hd
 obtain ⟨fd,h1,rfl⟩:=hd
 refine ⟨fd,by simpa using h1,?_,rfl,rfl⟩
 have:=List.mem_of_getElem? h1
 simpa using this

theorem struct_ok {t : Nat} {ti : TI} (hti : ti.ok P t) {K : List (Nat × Nat) → Prop} (h : structK ti.desc K) :
  ∃ fl fs,K fl∧P.underlying t = some (.struct fs)∧fs.toList.map (fun f=>(f.offset,P.cellsOf f.type)) = fl∧∀ f ∈ fs,fieldOk P f = true:=by
 obtain ⟨de,h1,h2⟩:=hti.desc
 cases hd:ti.desc with
 | struct fl =>
  rw [hd] at h h2
  obtain ⟨fs,rfl,h3,h4⟩:=(show ∃ fs:Array Field,de = .struct fs∧fs.toList.map (fun f=>(f.offset,P.cellsOf f.type)) = fl∧fs.toList.all (fieldOk P) = true from h2)
  exact ⟨fl,fs,h,h1,h3,fun f hf=>List.all_eq_true.1 h4 f (by simpa using hf)⟩
 | _=>rw [hd] at h; exact h.elim
theorem slice_ok {t:Nat} {ti:TI} (hti:ti.ok P t) {K:Nat→Prop} (h:sliceTK ti.desc K):∃ e,K e∧P.underlying t = some (.slice e):=by
 obtain ⟨de,h1,h2⟩:=hti.desc
 cases hd:ti.desc with
 | slice e=>rw [hd] at h h2; exact ⟨e,h,(show de = .slice e from h2) ▸ h1⟩
 | _=>rw [hd] at h; exact h.elim
theorem str_ok {t:Nat} {ti:TI} (hti:ti.ok P t) (h:isStrT ti.desc = true):P.underlying t = some .string:=by
 obtain ⟨de,h1,h2⟩:=hti.desc
 cases hd:ti.desc with
 | str=>rw [hd] at h2; exact (show de = .string from h2) ▸ h1
 | _=>rw [hd] at h; cases h
theorem bool_ok {t:Nat} {ti:TI} (hti:ti.ok P t) (h:isBoolT ti.desc = true):P.underlying t = some .bool:=by
 obtain ⟨de,h1,h2⟩:=hti.desc
 cases hd:ti.desc with
 | bool=>rw [hd] at h2; exact (show de = .bool from h2) ▸ h1
 | _=>rw [hd] at h; cases h
theorem agg_ok {t:Nat} {ti:TI} (hti:ti.ok P t) (w:World):(isAgg t).run P w = .ok (isStruct ti.desc) w:=by
 obtain ⟨de,h1,h2⟩:=hti.desc
 cases hd:ti.desc with
 | struct fl=>rw [hd] at h2; obtain ⟨fs,rfl,_⟩:=h2; simp [isAgg,run_underlying h1,isStruct]
 | slice e=>rw [hd] at h2; obtain rfl:=(show de = .slice e from h2); simp [isAgg,run_underlying h1,isStruct]
 | int k=>rw [hd] at h2; obtain rfl:=(show de = .int k from h2); simp [isAgg,run_underlying h1,isStruct]
 | str=>rw [hd] at h2; obtain rfl:=(show de = .string from h2); simp [isAgg,run_underlying h1,isStruct]
 | bool=>rw [hd] at h2; obtain rfl:=(show de = .bool from h2); simp [isAgg,run_underlying h1,isStruct]
 | arr n e=>rw [hd] at h2; obtain rfl:=(show de = .array n e from h2); simp [isAgg,run_underlying h1,isStruct]
 | mp k e=>rw [hd] at h2; obtain rfl:=(show de = .map k e from h2); simp [isAgg,run_underlying h1,isStruct]
 | ifc=>rw [hd] at h2; obtain ⟨ms,rfl⟩:=(show ∃ ms,de = .interface ms from h2); simp [isAgg,run_underlying h1,isStruct]
 | other =>
  rw [hd] at h2
  have h2:=(show (∀ fs,de≠.struct fs)∧(∀ n e,de≠.array n e)∧∀ ms,de≠.interface ms from h2)
  cases de<;>first | exact absurd rfl (h2.1 _) | exact absurd rfl (h2.2.1 _ _) | simp [isAgg,run_underlying h1,isStruct]

theorem fieldAt_run {t f : Nat} {fs : Array Field} (hu : P.underlying t = some (.struct fs)) {fl : List (Nat × Nat)} (h3 : fs.toList.map (fun f => (f.offset, P.cellsOf f.type)) = fl)
  (h4:∀ f ∈ fs,fieldOk P f = true) {d:Nat × Nat} (hf:fl[f]? = some d) (g o:Nat) (w:World) :
  (Instr.fieldAt t (.pointer (some ⟨g,o,none⟩)) f).run P w = .ok (.pointer (some ⟨g,o + d.1,none⟩)) w:=by
 obtain ⟨fd,h5,h6,h7,h8⟩:=fl_at h3 hf
 obtain ⟨h9,⟨i,hi⟩,_⟩:=fieldOk_spec (h4 fd h6)
 have hsz:(sizeOf fd.type).run P w = .ok (P.cellsOf fd.type) w:=by simp [sizeOf,typeInfo,hi,Program.cellsOf]
 have h10:P.cellsOf fd.type≠0:=h9
 simp [Instr.fieldAt,run_underlying hu,h5,Instr.sureAddr,fieldPlace,hsz,h10,add_none,h7]

theorem int_ok {v:AV} {K:Int→Prop} (h:intK v K) {u:Value} (hr:Rel β (Own X s β) w v u):∃ k n,u = .int k n∧K n:=by
 cases v with
 | i k n=>exact ⟨k,n,hr.inv_i,h⟩
 | _=>exact h.elim
theorem bound_ok (hI : InvB W0 F X N s β a w) {x : Option Operand} {d : Int} {K : Int → Prop} (h : boundK s x d K) :
  (x = none∧K d)∨∃ y k n,x = some y∧a.eval y = .int k n∧K n:=by
 cases x with
 | none=>exact .inl ⟨rfl,h⟩
 | some y =>
  have h:evK s y fun v=>intK v K:=h
  rw [evK_eq] at h
  obtain ⟨k,n,h1,h2⟩:=int_ok h (ev_rel hI y).1
  exact .inr ⟨y,k,n,rfl,h1,h2⟩

theorem pick_ok (hI:InvB W0 F X N s β a w) {o:Oper} {c x y:Operand} (ho:o.op = .pick c x y) {K:AV→Prop} (h:pickK (ev s c) (ev s x) (ev s y) K):ValOK P X s β a w o K:=by
 have hc:=(ev_rel hI c).1
 have hx:=ev_rel hI x
 have hy:=ev_rel hI y
 cases hcv:ev s c with
 | b t =>
  rw [hcv] at h hc
  have hc':=hc.inv_b
  have hrun:∀ w':World,(execOp a.eval o).run P w' = .ok (.value (if t then a.eval x else a.eval y)) w':=by
   intro w'; simp [execOp,ho,hc',asBool]
  have hsplit:(bif t then K (ev s x) else K (ev s y))→ValOK P X s β a w o K:=by
   intro h
   cases t with
   | true=>exact ⟨_,_,h,hx.1,hx.2,fun w'=>by rw [hrun]; rfl⟩
   | false=>exact ⟨_,_,h,hy.1,hy.2,fun w'=>by rw [hrun]; rfl⟩
  cases hxv:ev s x with
  | b p =>
   cases hyv:ev s y with
   | b q =>
    rw [hxv,hyv] at h
    rw [hxv] at hx; rw [hyv] at hy
    refine .im (show K (.b (bif t then p else q)) from h) (.b _) fun w'=>?_
    rw [hrun,hx.1.inv_b,hy.1.inv_b]
    cases t<;>rfl
   | _=>rw [hxv,hyv] at h hsplit; exact hsplit h
  | _=>rw [hxv] at h hsplit; exact hsplit h
 | _=>rw [hcv] at h; exact h.elim

theorem run_bool_eq {t : TypeId} (hu : P.underlying t = some .bool) (p q : Bool) (w : World) (x y : Operand) :
  (do eqGuard .eql t x y (.bool p) (.bool q); binOp .eql t (.bool p) (.bool q):Sem Value).run P w = .ok (.bool (p == q)) w ∧
  (do eqGuard .neq t x y (.bool p) (.bool q); binOp .neq t (.bool p) (.bool q):Sem Value).run P w = .ok (.bool (!(p == q))) w:=by
 have h:∀ d:Nat,(Op.equalIn (d + 1) t (.bool p) (.bool q)).run P w = .ok (p == q) w:=fun d=>by simp [Op.equalIn,run_underlying hu]
 refine ⟨?_,?_⟩
 ·simp only [eqGuard,binOp]
  simp [Op.equal,Op.maxDepth,h 9999]
 ·simp only [eqGuard,binOp]
  simp [Op.equal,Op.maxDepth,h 9999]

theorem bin_ok (hΓ:Γ.ok P) (hI:InvB W0 F X N s β a w) {o:Oper} {op:BinOp} {t ty:TypeId} {x y:Operand} (ho:o.op = .binOp op t x y ty) {K:AV→Prop} (h:binTK Γ op t (ev s x) (ev s y) K):ValOK P X s β a w o K:=by
 have hx:=(ev_rel hI x).1
 have hy:=(ev_rel hI y).1
 have hgen:binK op (ev s x) (ev s y) K→ValOK P X s β a w o K:=by
  intro h
  obtain ⟨r,z,h1,h2,h3⟩:=bin_run op h hx hy t x y (P:=P)
  refine .im h1 h2 fun w'=>?_
  have h3:=h3 w'
  simp only [execOp,ho]
  simp only [Sem.run_bind] at h3 ⊢
  rw [h3]
  rfl
 cases hxv:ev s x with
 | b p =>
  cases hyv:ev s y with
  | b q =>
   rw [hxv,hyv] at h
   rw [hxv] at hx; rw [hyv] at hy
   obtain ⟨ti,hti,h⟩:=tiK_ok hΓ (show tiK Γ t fun ti=>chkK (isBoolT ti.desc) (boolBinK op p q K) from h)
   rw [chkK_iff] at h
   have hu:=bool_ok hti h.1
   have h:=h.2
   cases op<;>simp only [boolBinK] at h
   ·refine .im h (.b _) fun w'=>?_
    have h3:=(run_bool_eq hu p q w' x y).1
    simp only [execOp,ho,hx.inv_b,hy.inv_b]
    simp only [Sem.run_bind] at h3 ⊢
    rw [h3]
    rfl
   ·refine .im h (.b _) fun w'=>?_
    have h3:=(run_bool_eq hu p q w' x y).2
    simp only [execOp,ho,hx.inv_b,hy.inv_b]
    simp only [Sem.run_bind] at h3 ⊢
    rw [h3]
    rfl
  | _=>rw [hxv,hyv] at h hgen; exact hgen h
 | agg cs =>
  cases hyv:ev s y with
  | agg ds =>
   rw [hxv,hyv] at h
   rw [hxv] at hx; rw [hyv] at hy
   obtain ⟨ti,hti,h⟩:=tiK_ok hΓ (show tiK Γ t fun ti=>structFK ti.desc fun fl=>chkK (!ti.eqs.isEmpty) (aggEqK ti.eqs fl cs ds fun b=>aggBinK op b K) from h)
   have hd:=hti.desc
   cases hde:ti.desc with
   | struct fl =>
    rw [hde] at h hd
    obtain ⟨he,h⟩:=(chkK_iff _ _).1 (show chkK (!ti.eqs.isEmpty) (aggEqK ti.eqs fl cs ds fun b=>aggBinK op b K) from h)
    obtain ⟨us,hu,hxu,_⟩:=hx.inv_agg
    obtain ⟨vs,hv,hyv,_⟩:=hy.inv_agg
    obtain ⟨hc,h⟩:=aggEq_im hxu hyv ti.eqs fl h
    have hne:ti.eqs≠[]:=fun e=>by rw [e] at he; cases he
    have hfl:∀ fs:Array Field,P.underlying t = some (.struct fs)→fs.toList.map (fun f=>(f.offset,P.cellsOf f.type)) = fl:=by
     intro fs hfs
     obtain ⟨de,h1,fs',rfl,h3,_⟩:=hd
     rw [hfs] at h1
     injection h1 with h1; injection h1 with h1
     subst h1
     exact h3
    cases op<;>first | exact (show False from h).elim | skip
    ·refine .im (show K (.b (cellsEq ti.eqs (fl.map (·.1)) us vs)) from h) (.b _) fun w'=>?_
     have h3:=(bin_struct_run hne hti.eqs hfl hc x y w').1
     simp only [execOp,ho,hu,hv]
     simp only [Sem.run_bind] at h3 ⊢
     rw [h3]
     rfl
    ·refine .im (show K (.b (!(cellsEq ti.eqs (fl.map (·.1)) us vs))) from h) (.b _) fun w'=>?_
     have h3:=(bin_struct_run hne hti.eqs hfl hc x y w').2
     simp only [execOp,ho,hu,hv]
     simp only [Sem.run_bind] at h3 ⊢
     rw [h3]
     rfl
   | _=>rw [hde] at h; exact h.elim
  | _=>rw [hxv,hyv] at h hgen; exact hgen h
 | _=>rw [hxv] at h hgen; exact hgen h

theorem conv_ok {o : Oper} {src dst : TypeId} {x : Operand} (ho : o.op = .convert src dst x) {ti : TI} (hti : ti.ok P dst) {v : AV} (hr : Rel β (Own X s β) w v (a.eval x)) {K : AV → Prop} (h : convK ti.desc v K)
  (hsrc:∃ d,P.underlying src = some d):ValOK P X s β a w o K:=by
 obtain ⟨de,h1,h2⟩:=hti.desc
 obtain ⟨sd,hsd⟩:=hsrc
 cases hd:ti.desc with
 | int k =>
  rw [hd] at h h2
  obtain rfl:=(show de = .int k from h2)
  cases v with
  | i k' n =>
   refine .im (show K (.i k (k.wrap n)) from h) (.i k _) fun w'=>?_
   cases sd<;>simp [execOp,ho,hr.inv_i,convert,run_underlying h1,run_underlying hsd,Conv.intToInt]
  | _=>exact h.elim
 | str =>
  rw [hd] at h h2
  obtain rfl:=(show de = .string from h2)
  cases v with
  | s l =>
   have hl:=hr.inv_s
   refine .im (show K (.s l) from h) (.s l hl.2) fun w'=>?_
   cases sd<;>simp [execOp,ho,hl.1,convert,run_underlying h1,run_underlying hsd]
  | i k' n =>
   have hlen:(Utf8.encode n).data.toList.length≤maxLen:=by
    refine Nat.le_trans (m:=4) ?_ (by decide)
    unfold Utf8.encode
    simp only
    repeat' split
    all_goals exact Nat.le_of_ble_eq_true rfl
   refine .im (show K (.s (Utf8.encode n).data.toList) from h) (.s _ hlen) fun w'=>?_
   cases sd<;>simp [execOp,ho,hr.inv_i,convert,run_underlying h1,run_underlying hsd,Conv.intToString]
  | _=>exact h.elim
 | _=>rw [hd] at h; exact h.elim
end
end Go.SX
end
section
namespace Go.SX
variable [Globs]
section
variable {P:Program} {N:Nat} {Γ:Ctx} {W0:World} {F:Fr} {X:Nat→Prop} {s:St} {β:Nat→Option Nat} {a:Act} {w:World}

theorem faddr_ok {o : Oper} {t f : Nat} {x : Operand} (ho : o.op = .fieldAddr t x f) {fs : Array Field} (hu : P.underlying t = some (.struct fs)) {fl : List (Nat × Nat)}
  (h3:fs.toList.map (fun f=>(f.offset,P.cellsOf f.type)) = fl) (h4:∀ f ∈ fs,fieldOk P f = true) {d:Nat × Nat} (hf:fl[f]? = some d)
  {v:AV} (hr:Rel β (Own X s β) w v (a.eval x)) (hids:∀ n ∈ ids v,Nm s n) {K:AV→Prop} (h:faddrK d.1 v K):ValOK P X s β a w o K:=by
 cases v with
 | pt n off =>
  obtain ⟨g,h1,h2⟩:=hr
  exact ⟨.pt n (off + d.1),.pointer (some ⟨g,off + d.1,none⟩),h,⟨g,h1,rfl⟩,hids,fun w'=>by simp [execOp,ho,h2,fieldAt_run hu h3 h4 hf]⟩
 | rp cs =>
  obtain ⟨g,off,h1,h2⟩:=Im.inv_rp hr
  have h:forceL (cs.drop d.1) (fun cs=>K (.rp cs)):=h
  rw [forceL_eq] at h
  refine ⟨.rp (cs.drop d.1),.pointer (some ⟨g,off + d.1,none⟩),h,Im.mk_rp (g:=g) (o:=off + d.1) fun j av hj=>?_,hids,fun w'=>by simp [execOp,ho,h1,fieldAt_run hu h3 h4 hf]⟩
  rw [List.getElem?_drop] at hj
  obtain ⟨h5,u,h6,h7⟩:=h2 _ _ hj
  exact ⟨h5,u,by rw [Nat.add_assoc]; exact h6,h7⟩
 | vp id τ l n off =>
  obtain ⟨h1,⟨g,h2,h5⟩,h6⟩:=hr
  refine ⟨.vp id τ l n (off + d.1),.pointer (some ⟨g,n * esz τ + (off + d.1),none⟩),h,⟨h1,⟨g,h2,rfl⟩,h6⟩,hids,fun w'=>?_⟩
  simp [execOp,ho,h5,fieldAt_run hu h3 h4 hf,Nat.add_assoc]
 | _=>exact h.elim

theorem field_ok {o : Oper} {t f : Nat} {x : Operand} (ho : o.op = .field t x f) {fs : Array Field} (hu : P.underlying t = some (.struct fs)) {fl : List (Nat × Nat)}
  (h3:fs.toList.map (fun f=>(f.offset,P.cellsOf f.type)) = fl) {d:Nat × Nat} (hf:fl[f]? = some d) (h4:∀ f ∈ fs,fieldOk P f = true)
  {v:AV} (hr:Rel β (Own X s β) w v (a.eval x)) {K:AV→Prop} (h:fieldK d.1 d.2 v K):ValOK P X s β a w o K:=by
 cases v with
 | agg cs =>
  obtain ⟨vs,h1,h2,_⟩:=hr.inv_agg
  have h:takeK d.2 (cs.drop d.1) (fun l=>match l with | [v]=>K v | _=>False):=h
  rw [takeK_iff] at h
  obtain ⟨fd,h5,h6,h7,h8⟩:=fl_at h3 hf
  cases hl:(cs.drop d.1).take d.2 with
  | nil=>rw [hl] at h; exact h.2.elim
  | cons c r =>
   cases r with
   | cons c' r=>rw [hl] at h; exact h.2.elim
   | nil =>
    rw [hl] at h
    have hd2:d.2 = 1:=by
     have:=congrArg List.length hl
     simp only [List.length_take,List.length_cons,List.length_nil] at this
     have:=h.1
     omega
    have hc:cs[d.1]? = some c:=by
     have h9:((cs.drop d.1).take d.2)[0]? = some c:=by rw [hl]; rfl
     rw [hd2] at h9
     simpa [List.getElem?_take,List.getElem?_drop] using h9
    have hlt:d.1 < cs.length:=(List.getElem?_eq_some_iff.1 hc).1
    have hv:vs[d.1]? = some (vs[d.1]'(by rw [← h2.1]; exact hlt)):=List.getElem?_eq_getElem _
    refine .im h.2 (h2.2 _ _ _ hc hv) fun w'=>?_
    have hp:=(fieldOk_spec (h4 fd h6)).2.2 (h8.trans hd2) w'
    simp [execOp,ho,h1,Instr.field,run_underlying hu,h5,asAgg,part,hp,h7,hv]
 | _=>exact h.elim

theorem extract_ok {o:Oper} {i:Nat} {x:Operand} (ho:o.op = .extract x i) {v:AV} (hr:Rel β (Own X s β) w v (a.eval x)) (hids:∀ n ∈ ids v,Nm s n) {K:AV→Prop} (h:extractK i v K):ValOK P X s β a w o K:=by
 cases v with
 | tup cs =>
  obtain ⟨vs,h1,h2⟩:=hr.inv_tup
  obtain ⟨c,h3,h4⟩:=(nthK_iff cs i K).1 h
  have hlt:i < cs.length:=(List.getElem?_eq_some_iff.1 h3).1
  have hv:vs[i]? = some (vs[i]'(by rw [← h2.1]; exact hlt)):=List.getElem?_eq_getElem _
  have hr0:=h2.2 _ _ _ h3 hv
  exact ⟨c,_,h4,Rel.rel0 hr0,fun n hn=>hids n (List.mem_flatMap.2 ⟨c,List.mem_of_getElem? h3,hr0.ids hn⟩),fun w'=>by simp [execOp,ho,h1,Instr.extract,hv]⟩
 | ag k cs =>
  cases k with
  | zero=>exact h.elim
  | succ k =>
   obtain ⟨vs,h1,h2,h3⟩:=id hr
   cases i with
   | zero =>
    obtain ⟨h4,h5⟩:=(takeK_iff (k + 1) cs _).1 (show takeK (k + 1) cs (fun l=>K (.ag 0 l)) from h)
    refine ⟨_,.agg (vs.take (k + 1)).toArray,h5,⟨vs.take (k + 1),rfl,⟨by rw [List.length_take,List.length_take,h2.1],fun j c u hc hu=>?_⟩,fun u hu=>h3 u (List.mem_of_mem_take hu)⟩,fun n hn=>hids n ?_,fun w'=>by simp [execOp,ho,h1,Instr.extract,shape]⟩
    ·rw [List.getElem?_take] at hc hu
     split at hc
     ·rename_i hj
      rw [if_pos hj] at hu
      exact h2.2 j c u hc hu
     ·cases hc
    ·obtain ⟨c,hc,hcn⟩:=List.mem_flatMap.1 (show n ∈ (cs.take (k + 1)).flatMap ids0 from hn)
     exact List.mem_flatMap.2 ⟨c,List.mem_of_mem_take hc,hcn⟩
   | succ i =>
    obtain ⟨c,h4,h5⟩:=(nthK_iff cs (k + 1 + i) K).1 h
    have hlt:k + 1 + i < cs.length:=(List.getElem?_eq_some_iff.1 h4).1
    have hv:vs[k + 1 + i]? = some (vs[k + 1 + i]'(by rw [← h2.1]; exact hlt)):=List.getElem?_eq_getElem _
    have hr0:=h2.2 _ _ _ h4 hv
    refine ⟨c,_,h5,Rel.rel0 hr0,fun n hn=>hids n (List.mem_flatMap.2 ⟨c,List.mem_of_getElem? h4,hr0.ids hn⟩),fun w'=>?_⟩
    have:(Value.agg (vs.take (k + 1)).toArray::vs.drop (k + 1))[i + 1]? = some (vs[k + 1 + i]'(by rw [← h2.1]; exact hlt)):=by
     rw [List.getElem?_cons_succ,List.getElem?_drop]; exact hv
    simp [execOp,ho,h1,Instr.extract,shape,this]
 | _=>exact h.elim

theorem VsAt.inv {O : Nat → Prop} {id : Nat} {τ : Ty} {l : List (den τ)} {k : Nat} {v : Value} (h : VsAt β O w id τ l k v) :
  k≤l.length∧l.length≤maxLen∧∃ ad c,v = .slice ad (l.length - k) c∧l.length - k≤c∧c≤maxLen:=by
 obtain ⟨h0,v',h1,h2⟩:=h
 rcases h1 with ⟨rfl,rfl,_⟩ | ⟨g,c,cur,e,h3,rfl,h5,h6,h7,h8,h9⟩
 ·refine ⟨h0,Nat.zero_le _,?_⟩
  rcases h2 with ⟨rfl,rfl⟩ | ⟨g,n,c,ad,h3,_⟩
  ·exact ⟨none,0,rfl,Nat.le_refl _,Nat.zero_le _⟩
  ·cases h3
 ·refine ⟨h0,by omega,?_⟩
  rcases h2 with ⟨rfl,rfl⟩ | ⟨g',n,c',ad,h3,h4,_⟩
  ·exact ⟨_,c,rfl,by omega,h7⟩
  ·cases h3; exact ⟨_,c - k,h4,by omega,by omega⟩
theorem elem_sz {e:Nat} {te:TI} (hte:te.ok P e) {τ:Ty} (hsz:Nat.beq te.cells (esz τ) = true) (w:World):(sizeOf e).run P w = .ok (esz τ) w:=by
 rw [hte.sizeOf,Nat.eq_of_beq_eq_true hsz]

theorem iaddr_ok {o : Oper} {t e : Nat} {x i : Operand} (ho : o.op = .indexAddr t x i) (hu : P.underlying t = some (.slice e)) {te : TI} (hte : te.ok P e) {k : IntKind} {n : Int} (hi : a.eval i = .int k n)
  {v:AV} (hr:Rel β (Own X s β) w v (a.eval x)) (hids:∀ n ∈ ids v,Nm s n) {K:AV→Prop} (h:iaddrK n te.cells v K):ValOK P X s β a w o K:=by
 cases v with
 | rd τ l =>
  have h:=(chkK_iff _ _).1 (show chkK (Nat.beq te.cells (esz τ)) ((0≤n∧n < (l.length:Int))∧forceL (enc τ (l.getD n.toNat (dflt τ))) fun cs=>K (.rp cs)) from h)
  obtain ⟨hsz,⟨h0,h1⟩,h2⟩:=h
  rw [forceL_eq] at h2
  generalize hev:a.eval x = xv at hr
  cases (show Im _ _ _ _ from hr) with
  | rd0 _ ad c hc=>simp at h1; omega
  | rd _ _ g off c u hg hc hm hne hcell him =>
   have hn:n.toNat < l.length:=by omega
   have hl:l[n.toNat]? = some (l.getD n.toNat (dflt τ)):=by rw [List.getD_eq_getElem?_getD,List.getElem?_eq_getElem hn]; rfl
   refine ⟨_,.pointer (some ⟨g,off + n.toNat * esz τ,none⟩),h2,Im.mk_rp (g:=g) (o:=off + n.toNat * esz τ) fun j av hj=>⟨hg,u n.toNat j,?_,him _ _ _ _ hl hj,plain_one (him _ _ _ _ hl hj) (enc_plain τ _ _ (List.mem_of_getElem? hj))⟩,hids,fun w'=>?_⟩
   ·rw [Nat.add_assoc]; exact hcell _ _ _ _ hl hj
   ·simp [execOp,ho,hev,hi,Instr.indexAt,asIntOf,run_underlying hu,h0,h1,elem_sz hte hsz,add_none]
 | vec id τ l =>
  have h:=(chkK_iff _ _).1 (show chkK (Nat.beq te.cells (esz τ)) ((0≤n∧n < (l.length:Int))∧K (.vp id τ l n.toNat 0)) from h)
  obtain ⟨hsz,⟨h0,h1⟩,h2⟩:=h
  have hr':=hr
  rcases hr with ⟨rfl,_,_⟩ | ⟨g,c,cur,e',h3,h4,h5,h6,h7,h8,h9⟩
  ·simp at h1; omega
  ·refine ⟨_,.pointer (some ⟨g,n.toNat * esz τ + 0,none⟩),h2,⟨by omega,⟨g,h3,rfl⟩,a.eval x,hr'⟩,hids,fun w'=>?_⟩
   simp [execOp,ho,h4,hi,Instr.indexAt,asIntOf,run_underlying hu,h0,h1,elem_sz hte hsz,add_none]
 | vs id τ l k =>
  have h:=(chkK_iff _ _).1 (show chkK (Nat.beq te.cells (esz τ)) ((0≤n∧n < ((l.length - k:Nat):Int))∧K (.vp id τ l (k + n.toNat) 0)) from h)
  obtain ⟨hsz,⟨h0,h1⟩,h2⟩:=h
  obtain ⟨hk,v',hv',hsuf⟩:=hr
  have hv:=hv'
  rcases hv with ⟨rfl,_,_⟩ | ⟨g,c,cur,e',h3,h4,h5,h6,h7,h8,h9⟩
  ·simp at h1; omega
  ·have hev : a.eval x = .slice (some ⟨g, k * esz τ, none⟩) (l.length - k) (c - k) := by
    rcases hsuf with ⟨rfl,hh⟩ | ⟨g',n',c',ad,h10,h11,h12⟩
    ·rw [hh,h4]; simp
    ·rw [h4] at h10; cases h10; rw [h11,h12 (by omega)]
   refine ⟨_,.pointer (some ⟨g,(k + n.toNat) * esz τ + 0,none⟩),h2,⟨by omega,⟨g,h3,rfl⟩,v',hv'⟩,hids,fun w'=>?_⟩
   have h1':n < (l.length:Int) - k:=by omega
   simp [execOp,ho,hev,hi,Instr.indexAt,asIntOf,run_underlying hu,h0,h1,elem_sz hte hsz,add_none,Nat.add_mul]
 | ob id id2 ob =>
  cases ob with
  | vw τ l x1 y1 =>
   have h:=(chkK_iff _ _).1 (show chkK (Nat.beq te.cells (esz τ)) ((0≤n∧n < ((y1 - x1:Nat):Int))∧K (.vp id τ l (x1 + n.toNat) 0)) from h)
   obtain ⟨hsz,⟨h0,h1⟩,h2⟩:=h
   obtain ⟨g,c,h3,_,h4,h5,hev,h6⟩:=(show ObAt β (Own X s β) w id id2 (.vw τ l x1 y1) (a.eval x) from hr)
   refine ⟨_,.pointer (some ⟨g,(x1 + n.toNat) * esz τ + 0,none⟩),h2,⟨by omega,⟨g,h3,rfl⟩,_,h6⟩,fun m hm=>hids m (by
    have:m = id:=by simpa [ids,ids0] using hm
    subst this; simp [ids,ids0]),fun w'=>?_⟩
   have h1':n < (y1:Int) - x1:=by omega
   simp [execOp,ho,hev,hi,Instr.indexAt,asIntOf,run_underlying hu,h0,h1,elem_sz hte hsz,add_none,Nat.add_mul]
  | gr L i row =>
   have h:=(chkK_iff _ _).1 (show chkK (Nat.beq te.cells 1) ((0≤n∧n < (L.length:Int))∧K (.ob id id2 (.gp L i row n.toNat))) from h)
   obtain ⟨hsz,⟨h0,h1⟩,h2⟩:=h
   have hg:=(show GrAt β (Own X s β) w id id2 L i row (a.eval x) from hr)
   have hg1:=hg
   obtain ⟨g,c,cur,e1,h3,h4,_⟩:=hg1
   refine ⟨_,.pointer (some ⟨g,n.toNat,none⟩),h2,⟨by omega,⟨g,h3,rfl⟩,_,hg⟩,hids,fun w'=>?_⟩
   have hz:(sizeOf e).run P w' = .ok 1 w':=by rw [hte.sizeOf,Nat.eq_of_beq_eq_true hsz]
   simp [execOp,ho,h4,hi,Instr.indexAt,asIntOf,run_underlying hu,h0,h1,hz,add_none]
  | _=>exact h.elim
 | _=>exact h.elim

theorem arrAddr_ok {o : Oper} {t e len : Nat} {x i : Operand} (ho : o.op = .indexAddr t x i) (hu : P.underlying t = some (.array len e)) {te : TI} (hte : te.ok P e) {k : IntKind} {n : Int} (hi : a.eval i = .int k n)
  {v:AV} (hr:Rel β (Own X s β) w v (a.eval x)) (hids:∀ n ∈ ids v,Nm s n) {K:AV→Prop} (h:arrAddrK n len te.cells v K):ValOK P X s β a w o K:=by
 cases v with
 | pt m off =>
  obtain ⟨⟨h0,h1⟩,h2⟩:=(show (0≤n∧n < (len:Int))∧K (.pt m (off + n.toNat * te.cells)) from h)
  obtain ⟨g,h3,h4⟩:=hr
  refine ⟨_,.pointer (some ⟨g,off + n.toNat * te.cells,none⟩),h2,⟨g,h3,rfl⟩,hids,fun w'=>?_⟩
  simp [execOp,ho,h4,hi,Instr.indexAt,asIntOf,run_underlying hu,h0,h1,Instr.sureAddr,hte.sizeOf,add_none]
 | vp id τ l i off =>
  obtain ⟨hi0,h⟩:=(chkK_iff _ _).1 (show chkK (Nat.beq i 0) (chkK (Nat.beq off 0) (chkK (Nat.beq te.cells (esz τ)) ((0≤n∧n < (len:Int)∧n < (l.length:Int))∧K (.vp id τ l n.toNat 0)))) from h)
  obtain ⟨ho0,h⟩:=(chkK_iff _ _).1 h
  obtain ⟨hc0,⟨h0,h1,h2⟩,hK⟩:=(chkK_iff _ _).1 h
  obtain rfl:=Nat.eq_of_beq_eq_true hi0
  obtain rfl:=Nat.eq_of_beq_eq_true ho0
  have hc0:=Nat.eq_of_beq_eq_true hc0
  obtain ⟨hl0,⟨g,hg,hv⟩,v',hva⟩:=(show (0 < l.length∧(∃ g,β id = some g∧a.eval x = .pointer (some ⟨g,0 * esz τ + 0,none⟩))∧∃ v',VecAt β (Own X s β) w id τ l v') from hr)
  refine ⟨_,.pointer (some ⟨g,n.toNat * esz τ + 0,none⟩),hK,⟨by omega,⟨g,hg,rfl⟩,v',hva⟩,hids,fun w'=>?_⟩
  simp [execOp,ho,hv,hi,Instr.indexAt,asIntOf,run_underlying hu,h0,h1,Instr.sureAddr,hte.sizeOf,add_none,hc0]
 | _=>exact h.elim
theorem arrIdx_ok {o : Oper} {t e len : Nat} {x i : Operand} (ho : o.op = .index t x i) (hu : P.underlying t = some (.array len e)) {te : TI} (hte : te.ok P e) {k : IntKind} {n : Int} (hi : a.eval i = .int k n)
  {v:AV} (hr:Rel β (Own X s β) w v (a.eval x)) {K:AV→Prop} (h:arrIdxK n len te.cells (isStruct te.desc) v K):ValOK P X s β a w o K:=by
 cases v with
 | agg cs =>
  obtain ⟨hc,h⟩:=(chkK_iff _ _).1 (show chkK (Nat.beq te.cells 1) (chkK (!(isStruct te.desc)) ((0≤n∧n < (len:Int))∧nthK cs n.toNat K)) from h)
  obtain ⟨hs,⟨h0,h1⟩,h⟩:=(chkK_iff _ _).1 h
  obtain ⟨c,hc1,hK⟩:=(nthK_iff _ _ _).1 h
  have hc:=Nat.eq_of_beq_eq_true hc
  have hs:isStruct te.desc = false:=by simpa using hs
  generalize hev:a.eval x = xv at hr
  cases (show Im _ _ _ _ from hr) with
  | agg _ us hl ho1 him =>
   have hlt:n.toNat < us.length:=by rw [← hl]; exact (List.getElem?_eq_some_iff.1 hc1).1
   have hu1:us[n.toNat]? = some (us[n.toNat]'hlt):=List.getElem?_eq_getElem hlt
   refine .im hK (him n.toNat c _ hc1 hu1) fun w'=>?_
   have hag:=agg_ok hte w'
   rw [hs] at hag
   simp [execOp,ho,hev,hi,Instr.index,asIntOf,run_underlying hu,h0,h1,hte.sizeOf,hc,part,hag,hu1]
 | _=>exact h.elim
theorem strIndex_ok {o : Oper} {t : Nat} {x i : Operand} (ho : o.op = .index t x i) (hu : P.underlying t = some .string) {k : IntKind} {n : Int} (hi : a.eval i = .int k n)
  {v:AV} (hr:Rel β (Own X s β) w v (a.eval x)) {K:AV→Prop} (h:strIndexK n v K):ValOK P X s β a w o K:=by
 cases v with
 | s l =>
  obtain ⟨⟨h0,h1⟩,h2⟩:=(show (0≤n∧n < (l.length:Int))∧K (.i .u8 ((l.getD n.toNat 0).toNat:Int)) from h)
  obtain ⟨h3,h4⟩:=hr.inv_s
  have hn:n.toNat < l.length:=by omega
  refine .im h2 (.i _ _) fun w'=>?_
  have hg:(ByteArray.mk l.toArray)[n.toNat]? = some (l.getD n.toNat 0):=by
   have hs:n.toNat < (ByteArray.mk l.toArray).size:=by simpa [ByteArray.size] using hn
   rw [List.getD_eq_getElem?_getD,List.getElem?_eq_getElem hn,getElem?_pos (ByteArray.mk l.toArray) n.toNat hs]
   rfl
  simp [execOp,ho,h3,hi,Instr.index,asIntOf,run_underlying hu,h0,hg]
 | _=>exact h.elim

theorem nilChk_ok {o:Oper} {x:Operand} (ho:o.op = .nilCheck x) {v:AV} (hr:Rel β (Own X s β) w v (a.eval x)) (hids:∀ n ∈ ids v,Nm s n) {K:AV→Prop} (h:nilChkK v K):ValOK P X s β a w o K:=by
 have key:∀ ad,a.eval x = .pointer (some ad)→∀ w':World,(execOp a.eval o).run P w' = .ok (.value (a.eval x)) w':=fun ad e w'=>by simp [execOp,ho,e]
 cases v with
 | pt n off=>exact ⟨_,_,h,hr,hids,by obtain ⟨g,_,h2⟩:=hr; exact key _ h2⟩
 | rp cs=>exact ⟨_,_,h,hr,hids,by obtain ⟨g,off,h2,_⟩:=Im.inv_rp hr; exact key _ h2⟩
 | vp id τ l n off=>exact ⟨_,_,h,hr,hids,by obtain ⟨_,⟨g,_,h2⟩,_⟩:=hr; exact key _ h2⟩
 | _=>exact h.elim

theorem fn_rel0 {l:List Operand} (hI:InvB W0 F X N s β a w) (hn:∀ x ∈ l,noFn [ev s x] = true):All2 (Rel0 β (Own X s β) w) (evs s l) (l.map a.eval)∧∀ n ∈ (evs s l).flatMap ids0,Nm s n:=by
 have he:=evs_rel hI l
 refine ⟨⟨he.1.1,fun j c v hc hv=>?_⟩,fun n hn'=>?_⟩
 ·have hr:=he.1.2 j c v hc hv
  have hne:noFn [c] = true:=by
   have hm:c ∈ evs s l:=List.mem_of_getElem? hc
   have hex:∀ l:List Operand,(∀ x ∈ l,noFn [ev s x] = true)→c ∈ evs s l→noFn [c] = true:=by
    intro l
    induction l with
    | nil=>intro _ hm; simp [evs] at hm
    | cons x r ih =>
     intro hl hm
     rcases List.mem_cons.1 hm with h1 | h1
     ·exact h1 ▸ hl x (List.mem_cons_self ..)
     ·exact ih (fun y hy=>hl y (List.mem_cons_of_mem _ hy)) h1
   exact hex _ hn hm
  cases c<;>first | exact hr | cases hne
 ·simp only [List.mem_flatMap] at hn'
  obtain ⟨c,hc,hcn⟩:=hn'
  refine he.2 c hc n ?_
  cases c<;>first | exact hcn | simp [ids0] at hcn
theorem fnVal_ok (hI : InvB W0 F X N s β a w) {o : Oper} {f : FuncId} {captured : Array Operand} (ho : o.op = .makeFunc (.func f) #[] captured) {K : AV → Prop} (hn : ∀ x ∈ captured.toList, noFn [ev s x] = true)
  (hp:headNp (evs s captured.toList) = false) (h:K (.fn f (evs s captured.toList))):ValOK P X s β a w o K:=by
 have he:=fn_rel0 hI hn
 have e:captured.map a.eval = (captured.toList.map a.eval).toArray:=by apply Array.ext'; simp
 refine ⟨_,.func (.func f) #[] (captured.toList.map a.eval).toArray,h,⟨captured.toList.map a.eval,by unfold fnV; rw [hp],he.1⟩,he.2,fun w'=>by rw [← e]; simp [execOp,ho,Instr.makeFunc]⟩
theorem bfVal_ok (hI : InvB W0 F X N s β a w) {o : Oper} {f : FuncId} {first : Array Operand} (ho : o.op = .makeFunc (.func f) first #[]) {K : AV → Prop} (hn : ∀ x ∈ first.toList, noFn [ev s x] = true)
  (h:K (.fn f (.np::evs s first.toList))):ValOK P X s β a w o K:=by
 have he:=fn_rel0 hI hn
 have e:first.map a.eval = (first.toList.map a.eval).toArray:=by apply Array.ext'; simp
 refine ⟨_,.func (.func f) (first.toList.map a.eval).toArray #[],h,⟨.pointer none::first.toList.map a.eval,rfl,⟨by rw [List.length_cons,List.length_cons,he.1.1],fun j c v hc hv=>?_⟩⟩,he.2,fun w'=>by rw [← e]; simp [execOp,ho,Instr.makeFunc]⟩
 cases j with
 | zero=>cases hc; cases hv; exact Im.np
 | succ j=>exact he.1.2 j c v hc hv

theorem len_ok {o : Oper} {args : Array Operand} {ts : Array TypeId} (ho : o.op = .call { callee := .builtin .len, args := args, argTypes := ts }) (hI : InvB W0 F X N s β a w) {t : Nat} (ht : ts.toList[0]? = some t) {ti : TI} (hti : ti.ok P t)
  {K:AV→Prop} (h:lenVK ti.desc (evs s args.toList) K):ValOK P X s β a w o K:=by
 obtain ⟨de,h1,h2⟩:=hti.desc
 have he:=(evs_rel hI args.toList).1
 have ht':ts[0]? = some t:=by simpa using ht
 cases hl:evs s args.toList with
 | nil=>rw [hl] at h; cases hd:ti.desc<;>rw [hd] at h<;>exact h.elim
 | cons c r =>
  cases r with
  | cons c' r=>rw [hl] at h; cases hd:ti.desc<;>rw [hd] at h<;>cases c<;>first | exact h.elim | (rename_i o; cases o<;>exact h.elim)
  | nil =>
   rw [hl] at h he
   obtain ⟨x,hx⟩:∃ x,args.toList = [x]:=by
    have hlen:=he.1
    simp only [List.length_map,List.length_cons,List.length_nil] at hlen
    cases ha:args.toList with
    | nil=>rw [ha] at hlen; simp at hlen
    | cons x r=>cases r with
     | nil=>exact ⟨x,rfl⟩
     | cons y r=>rw [ha] at hlen; simp at hlen
   have hargs:args = #[x]:=by rw [← Array.toArray_toList (xs:=args),hx]
   rw [hx] at he
   have hr:Rel β (Own X s β) w c (a.eval x):=he.head
   have hrun:∀ v,∀ w':World,(Builtin.len_ ts o.type #[a.eval x]).run P w' = .ok v w'→(execOp a.eval o).run P w' = .ok (.value v) w':=by
    intro v w' hv
    simp [execOp,ho,hargs,resolve,invoke,builtin,hv]
   cases hd:ti.desc with
   | slice e =>
    rw [hd] at h h2
    obtain rfl:=(show de = .slice e from h2)
    have hs:∀ ad n cc,a.eval x = .slice ad n cc→∀ w':World,(execOp a.eval o).run P w' = .ok (.value (.int .i64 n)) w':=fun ad n cc e w'=>hrun _ w' (by simp [Builtin.len_,ht',run_underlying h1,e,goInt])
    cases c with
    | nl=>exact .im (show K (.i .i64 0) from h) (.i _ _) (hs _ _ _ hr.inv_nl)
    | rd τ l =>
     obtain ⟨ad,cc,h3,h4,h5⟩:=hr.inv_rd
     exact .im ((show l.length≤maxLen→K (.i .i64 (l.length:Int)) from h) (Nat.le_trans h4 h5)) (.i _ _) (hs _ _ _ h3)
    | vec id τ l =>
     rcases hr with ⟨rfl,h3,_⟩ | ⟨g,cc,cur,e',h3,h4,h5,h6,h7,_⟩
     ·exact .im ((show ([]:List (den τ)).length≤maxLen→K (.i .i64 (([]:List (den τ)).length:Int)) from h) (Nat.zero_le _)) (.i _ _) (hs _ _ _ h3)
     ·exact .im ((show l.length≤maxLen→K (.i .i64 (l.length:Int)) from h) (Nat.le_trans h6 h7)) (.i _ _) (hs _ _ _ h4)
    | vs id τ l k =>
     obtain ⟨h3,h4,ad,cc,h5,_⟩:=VsAt.inv hr
     exact .im ((show k≤l.length→l.length≤maxLen→K (.i .i64 ((l.length - k:Nat):Int)) from h) h3 h4) (.i _ _) (hs _ _ _ h5)
    | ob id id2 ob =>
     cases ob with
     | vw τ l x1 y1 =>
      obtain ⟨g,cc,_,_,h3,h4,h5,h6⟩:=(show ObAt β (Own X s β) w id id2 (.vw τ l x1 y1) (a.eval x) from hr)
      have hl:l.length≤maxLen:=by
       rcases h6 with ⟨q,_⟩ | ⟨_,_,_,_,_,q,_,q1,q2,_⟩
       ·subst q; exact Nat.zero_le _
       ·exact Nat.le_trans q1 q2
      exact .im ((show (x1 < y1∧y1≤l.length∧l.length≤maxLen)→K (.i .i64 ((y1 - x1:Nat):Int)) from h) ⟨h3,h4,hl⟩) (.i _ _) (hs _ _ _ h5)
     | _=>exact h.elim
    | _=>exact h.elim
   | str =>
    rw [hd] at h h2
    obtain rfl:=(show de = .string from h2)
    cases c with
    | s l =>
     obtain ⟨h3,h4⟩:=hr.inv_s
     refine .im ((show l.length≤maxLen→K (.i .i64 (l.length:Int)) from h) h4) (.i _ _) fun w'=>(hrun _ w' ?_)
     have hsz:(ByteArray.mk l.toArray).size = l.length:=by simp [ByteArray.size]
     simp [Builtin.len_,ht',run_underlying h1,h3,goInt,hsz]
    | _=>exact h.elim
   | _=>rw [hd] at h; cases c<;>exact h.elim

theorem two_args {args : Array Operand} {c d : AV} (hI : InvB W0 F X N s β a w) (hl : evs s args.toList = [c, d]) :
  ∃ x y,args = #[x,y]∧Rel β (Own X s β) w c (a.eval x)∧Rel β (Own X s β) w d (a.eval y)∧(∀ n ∈ ids c,Nm s n)∧(∀ n ∈ ids d,Nm s n)∧c = ev s x∧d = ev s y:=by
 have he:=evs_rel hI args.toList
 cases ha:args.toList with
 | nil=>rw [ha] at hl; simp [evs] at hl
 | cons x r =>
  cases r with
  | nil=>rw [ha] at hl; simp [evs] at hl
  | cons y r =>
   cases r with
   | cons z r=>rw [ha] at hl; simp [evs] at hl
   | nil =>
    rw [hl,ha] at he
    rw [ha] at hl
    simp only [evs,List.cons.injEq] at hl
    exact ⟨x,y,by rw [← Array.toArray_toList (xs:=args),ha],he.1.head,he.1.tail.head,he.2 c (by simp),he.2 d (by simp),hl.1.symm,hl.2.1.symm⟩

theorem minmax_ok {o : Oper} {b : Builtin} {args : Array Operand} {ts : Array TypeId} (ho : o.op = .call { callee := .builtin b, args := args, argTypes := ts }) (hI : InvB W0 F X N s β a w)
  {K:AV→Prop} (h:(b = .min∧minK (evs s args.toList) K)∨(b = .max∧maxK (evs s args.toList) K)):ValOK P X s β a w o K:=by
 have key:∀ k x y,evs s args.toList = [.i k x,.i k y]→∃ p q,args = #[p,q]∧a.eval p = .int k x∧a.eval q = .int k y:=by
  intro k x y hl
  obtain ⟨p,q,h1,h2,h3,_⟩:=two_args hI hl
  exact ⟨p,q,h1,h2.inv_i,h3.inv_i⟩
 have shp:∀ (L:List AV),(∃ k x k' y,L = [.i k x,.i k' y])∨(∃ k x k' y k2 z,L = [.i k x,.i k' y,.i k2 z])∨(minK L K = False∧maxK L K = False):=by
  intro L
  rcases L with _ | ⟨c,_ | ⟨d,_ | ⟨e,_ | ⟨f,r⟩⟩⟩⟩
  ·exact .inr (.inr ⟨rfl,rfl⟩)
  ·exact .inr (.inr (by cases c<;>exact ⟨rfl,rfl⟩))
  ·cases c with
   | i k x=>cases d with
    | i k' y=>exact .inl ⟨k,x,k',y,rfl⟩
    | _=>exact .inr (.inr ⟨rfl,rfl⟩)
   | _=>exact .inr (.inr ⟨rfl,rfl⟩)
  ·cases c with
   | i k x=>cases d with
    | i k' y=>cases e with
     | i k2 z=>exact .inr (.inl ⟨k,x,k',y,k2,z,rfl⟩)
     | _=>exact .inr (.inr ⟨rfl,rfl⟩)
    | _=>exact .inr (.inr ⟨rfl,rfl⟩)
   | _=>exact .inr (.inr ⟨rfl,rfl⟩)
  ·exact .inr (.inr (by cases c<;>cases d<;>cases e<;>exact ⟨rfl,rfl⟩))
 rcases shp (evs s args.toList) with ⟨k,x,k',y,hl⟩ | ⟨k,x,k',y,k2,z,hl⟩ | ⟨h1,h2⟩
 ·rcases h with ⟨rfl,h⟩ | ⟨rfl,h⟩
  ·rw [hl] at h
   obtain ⟨hk,hK⟩:=(chkK_iff _ _).1 (show chkK (decide (k = k')) (K (.i k (if y < x then y else x))) from h)
   obtain rfl:=of_decide_eq_true hk
   obtain ⟨p,q,h1,h2,h3⟩:=key k x y hl
   exact .im hK (.i _ _) (fun w'=>by simp [execOp,ho,h1,h2,h3,resolve,invoke,builtin,Builtin.min_,Builtin.min2])
  ·rw [hl] at h
   obtain ⟨hk,hK⟩:=(chkK_iff _ _).1 (show chkK (decide (k = k')) (K (.i k (if x < y then y else x))) from h)
   obtain rfl:=of_decide_eq_true hk
   obtain ⟨p,q,h1,h2,h3⟩:=key k x y hl
   exact .im hK (.i _ _) (fun w'=>by simp [execOp,ho,h1,h2,h3,resolve,invoke,builtin,Builtin.max_,Builtin.max2])
 ·rcases h with ⟨rfl,h⟩ | ⟨_,h⟩
  ·rw [hl] at h
   obtain ⟨hk,h⟩:=(chkK_iff _ _).1 (show chkK (decide (k = k')) (chkK (decide (k = k2)) (K (.i k (if z < (if y < x then y else x) then z else if y < x then y else x)))) from h)
   obtain ⟨hk2,hK⟩:=(chkK_iff _ _).1 h
   obtain rfl:=of_decide_eq_true hk
   obtain rfl:=of_decide_eq_true hk2
   have he:=evs_rel hI args.toList
   rw [hl] at he
   obtain ⟨p,q,r,ha⟩:∃ p q r,args.toList = [p,q,r]:=by
    have hlen:=he.1.1
    simp only [List.length_map,List.length_cons,List.length_nil] at hlen
    match hh:args.toList,hlen with
    | [p,q,r],_=>exact ⟨p,q,r,rfl⟩
   rw [ha] at he
   have e1:=he.1.head.inv_i
   have e2:=he.1.tail.head.inv_i
   have e3:=he.1.tail.tail.head.inv_i
   have harr:args = #[p,q,r]:=by rw [← Array.toArray_toList (xs:=args),ha]
   refine .im hK (.i _ _) (fun w'=>?_)
   by_cases h1:y < x
   ·by_cases h2:z < y<;>simp [execOp,ho,harr,e1,e2,e3,resolve,invoke,builtin,Builtin.min_,Builtin.min2,h1,h2]
   ·by_cases h2:z < x<;>simp [execOp,ho,harr,e1,e2,e3,resolve,invoke,builtin,Builtin.min_,Builtin.min2,h1,h2]
  ·rw [hl] at h; exact h.elim
 ·rcases h with ⟨_,h⟩ | ⟨_,h⟩
  ·rw [h1] at h; exact h.elim
  ·rw [h2] at h; exact h.elim

theorem extract_mk (l:Str) (lo hi:Nat):(ByteArray.mk l.toArray).extract lo hi = ByteArray.mk ((l.take hi).drop lo).toArray:=by
 apply ByteArray.ext
 simp [List.drop_take]

theorem bound_run (hI : InvB W0 F X N s β a w) {x : Option Operand} {d : Int} {K : Int → Prop} (h : boundK s x d K) :
  ∃ n,K n∧((x = none∧n = d)∨∃ y k,x = some y∧a.eval y = .int k n):=by
 rcases bound_ok hI h with ⟨h1,h2⟩ | ⟨y,k,n,h1,h2,h3⟩
 ·exact ⟨d,h2,.inl ⟨h1,rfl⟩⟩
 ·exact ⟨n,h3,.inr ⟨y,k,h1,h2⟩⟩

theorem bounds_run {x y : Option Operand} {lo hi : Int} {a : Act} (isSlice : Bool) (len cap : Nat) (hlo : (x = none ∧ lo = 0) ∨ ∃ y' k, x = some y' ∧ a.eval y' = .int k lo)
  (hhi:(y = none∧hi = (len:Int))∨∃ y' k,y = some y'∧a.eval y' = .int k hi) (h0:0≤lo) (h1:lo≤hi) (h2:hi≤(len:Int)) (hc:len≤cap) :
  (Instr.sliceBounds isSlice len cap (x.map a.eval) (y.map a.eval) none).run P w = .ok (lo.toNat,hi.toNat,cap) w:=by
 have hb:∀ (k:IntKind) (n:Int) (m:Nat) (code:BoundsCode),0≤n→n≤(m:Int)→(Instr.sliceBound (.int k n) m code).run P w = .ok n.toNat w:=by
  intro k n m code h3 h4
  simp [Instr.sliceBound,asIntOf,h3,h4]
 have hlo':∀ m:Nat,hi.toNat = m→((match x.map a.eval with | some v=>Instr.sliceBound v m (if (none:Option Value).isSome then .slice3C else .sliceB) | none=>pure 0:Sem Nat)).run P w = .ok lo.toNat w:=by
  intro m hm
  rcases hlo with ⟨rfl,rfl⟩ | ⟨y',k,rfl,e⟩
  ·rfl
  ·simp only [Option.map_some,e]
   exact hb _ _ _ _ h0 (by omega)
 rcases hhi with ⟨rfl,rfl⟩ | ⟨y',k,rfl,e⟩
 ·rcases hlo with ⟨rfl,rfl⟩ | ⟨y',k,rfl,e⟩
  ·simp [Instr.sliceBounds]
  ·have:=hb k lo len .sliceB h0 (by omega)
   simp [Instr.sliceBounds,e,this]
 ·have h3:=hb k hi cap (if isSlice then .sliceAcap else .sliceAlen) (by omega) (by omega)
  rcases hlo with ⟨rfl,rfl⟩ | ⟨y'',k',rfl,e'⟩
  ·simp [Instr.sliceBounds,e,h3]
  ·have h4:=hb k' lo hi.toNat .sliceB h0 (by omega)
   simp [Instr.sliceBounds,e,e',h3,h4]

theorem strSlice_ok (hI : InvB W0 F X N s β a w) {o : Oper} {t : Nat} {x : Operand} {lo hi : Option Operand} (ho : o.op = .slice t x lo hi none) (hu : P.underlying t = some .string)
  {v:AV} (hr:Rel β (Own X s β) w v (a.eval x)) {K:AV→Prop} (h:strSliceK s lo hi v K):ValOK P X s β a w o K:=by
 cases v with
 | s l =>
  obtain ⟨h3,h4⟩:=hr.inv_s
  obtain ⟨m,h,hm⟩:=bound_run hI (show boundK s lo 0 fun lo=>boundK s hi (l.length:Int) fun hi=>(0≤lo∧lo≤hi∧hi≤(l.length:Int))∧K (.s ((l.take hi.toNat).drop lo.toNat)) from h)
  obtain ⟨n,⟨⟨p0,p1,p2⟩,hK⟩,hn⟩:=bound_run hI h
  have hsz:(ByteArray.mk l.toArray).size = l.length:=by simp [ByteArray.size]
  refine .im hK (.s _ (by simp; omega)) fun w'=>?_
  have hb:=bounds_run (P:=P) (w:=w') (a:=a) false l.length l.length hm hn p0 p1 p2 (Nat.le_refl _)
  simp [execOp,ho,h3,Instr.sliceAt,run_underlying hu,Instr.slice,hsz,hb,extract_mk]
 | _=>exact h.elim

theorem suf_mk {O : Nat → Prop} {id : Nat} {τ : Ty} {l : List (den τ)} {k m : Nat} {ad : Option Addr} {n c : Nat} (h : VsAt β O w id τ l k (.slice ad n c)) (hm : m ≤ l.length - k) :
  VsAt β O w id τ l (k + m) (.slice (if c = m then ad else ad.map (·.add (m * esz τ))) (n - m) (c - m)):=by
 obtain ⟨h0,v',h1,h2⟩:=h
 refine ⟨by omega,v',h1,?_⟩
 rcases h2 with ⟨rfl,rfl⟩ | ⟨g,n',c',ad',rfl,h4,h5⟩
 ·rcases h1 with ⟨rfl,h3,_⟩ | ⟨g,c',cur,e,h3,h4,h5,h6,h7,h8,h9⟩
  ·cases h3
   have:m = 0:=by simp at hm; exact hm
   subst this
   exact .inl ⟨rfl,by simp⟩
  ·cases h4
   by_cases hc:c = m
   ·rw [if_pos hc]; subst hc
    exact .inr ⟨g,_,_,⟨g,0,none⟩,rfl,by rw [Nat.zero_add],fun h=>by omega⟩
   ·rw [if_neg hc]
    exact .inr ⟨g,_,_,(⟨g,0,none⟩:Addr).add (m * esz τ),rfl,by rw [Nat.zero_add]; rfl,fun h=>by simp [add_none]⟩
 ·cases h4
  by_cases hc:c' - k = m
  ·rw [if_pos hc]
   exact .inr ⟨g,_,_,ad',rfl,by simp only [Nat.sub_sub],fun h=>by omega⟩
  ·rw [if_neg hc]
   refine .inr ⟨g,_,_,ad'.add (m * esz τ),rfl,by simp only [Nat.sub_sub]; rfl,fun h=>?_⟩
   rw [h5 (by omega),add_none,Nat.add_mul]
theorem rdSlice_ok (hI : InvB W0 F X N s β a w) {o : Oper} {t e : Nat} {x : Operand} {lo hi : Option Operand} (ho : o.op = .slice t x lo hi none) (hu : P.underlying t = some (.slice e)) {te : TI} (hte : te.ok P e)
  {v:AV} (hr:Rel β (Own X s β) w v (a.eval x)) (hids:∀ n ∈ ids v,Nm s n) {K:AV→Prop} (h:rdSliceK s te.cells lo hi v K):ValOK P X s β a w o K:=by
 cases v with
 | rd τ l =>
  obtain ⟨hsz,h⟩:=(chkK_iff _ _).1 (show chkK (Nat.beq te.cells (esz τ)) (boundK s lo 0 fun lo=>boundK s hi (l.length:Int) fun hi=>(0≤lo∧lo≤hi∧hi≤(l.length:Int))∧K (.rd τ ((l.take hi.toNat).drop lo.toNat))) from h)
  obtain ⟨m,h,hm⟩:=bound_run hI h
  obtain ⟨n,⟨⟨p0,p1,p2⟩,hK⟩,hn⟩:=bound_run hI h
  obtain ⟨ad,c,h3,h4,h5⟩:=hr.inv_rd
  have hrun:∀ w':World,(execOp a.eval o).run P w' = .ok (.value (.slice (if c = m.toNat then ad else ad.map (·.add (m.toNat * esz τ))) (n.toNat - m.toNat) (c - m.toNat))) w':=by
   intro w'
   have hb:=bounds_run (P:=P) (w:=w') (a:=a) true l.length c hm hn p0 p1 p2 h4
   simp [execOp,ho,h3,Instr.sliceAt,run_underlying hu,Instr.slice,hb,elem_sz hte hsz]
  have hlen:((l.take n.toNat).drop m.toNat).length = n.toNat - m.toNat:=by simp; omega
  refine .im hK ?_ hrun
  cases hl:(l.take n.toNat).drop m.toNat with
  | nil =>
   rw [hl] at hlen
   rw [← hlen]
   exact .rd0 τ _ _ (by omega)
  | cons y r =>
   rw [← hl,← hlen]
   have hpos:0 < n.toNat - m.toNat:=by rw [← hlen,hl]; simp
   generalize hev:a.eval x = xv at hr
   rw [hev] at h3
   subst h3
   cases (show Im _ _ _ _ from hr) with
   | rd0 _ ad c hc=>simp at p2; omega
   | rd _ _ g off c u hg hc hmx hne hcell him =>
    rw [if_neg (by omega)]
    simp only [Option.map_some,add_none]
    refine .rd τ _ g _ _ (fun i j=>u (m.toNat + i) j) hg (by omega) (by omega) (by rw [hl]; simp) (fun i z j av hz hav=>?_) (fun i z j av hz hav=>?_)
    ·rw [List.getElem?_drop,List.getElem?_take] at hz
     split at hz
     ·have:=hcell _ _ j av hz hav
      rw [Nat.add_mul] at this
      rw [← this]
      congr 2
      omega
     ·cases hz
    ·rw [List.getElem?_drop,List.getElem?_take] at hz
     split at hz
     ·exact him _ _ j av hz hav
     ·cases hz
 | vec id τ l =>
  have hr0:=hr
  have hr:VsAt β (Own X s β) w id τ l 0 (a.eval x):=⟨Nat.zero_le _,_,hr,.inl ⟨rfl,rfl⟩⟩
  cases hi with
  | some y =>
   obtain ⟨hsz,h⟩:=(chkK_iff _ _).1 (show chkK (Nat.beq te.cells (esz τ)) (boundK s lo 0 fun lo=>boundK s (some y) 0 fun hi=>(0≤lo∧lo < hi∧hi≤(l.length:Int))∧K (.ob id id (.vw τ l lo.toNat hi.toNat))) from h)
   obtain ⟨m,h,hm⟩:=bound_run hI h
   obtain ⟨n,⟨⟨p0,p1,p2⟩,hK⟩,hn⟩:=bound_run hI h
   rcases hr0 with ⟨q,_⟩ | ⟨g,c,cur,e,q1,q2,q3,q4,q5⟩
   ·subst q; simp at p2; omega
   ·refine ⟨_,.slice (some ⟨g,m.toNat * esz τ,none⟩) (n.toNat - m.toNat) (c - m.toNat),hK,⟨g,c,q1,q1,by omega,by omega,rfl,.inr ⟨g,c,cur,e,q1,rfl,q3,q4,q5⟩⟩,fun k hk=>hids k (by simpa [ids,ids0] using hk),fun w'=>?_⟩
    have hb:=bounds_run (P:=P) (w:=w') (a:=a) (y:=some y) true l.length c hm (.inr (hn.resolve_left fun h=>nomatch h.1)) p0 (by omega) p2 q4
    simp only [Option.map_some] at hb
    have hne:c≠m.toNat:=by omega
    simp [execOp,ho,q2,Instr.sliceAt,run_underlying hu,Instr.slice,hb,elem_sz hte hsz,hne,add_none]
  | none =>
   obtain ⟨hsz,h⟩:=(chkK_iff _ _).1 (show chkK (Nat.beq te.cells (esz τ)) (boundK s lo 0 fun lo=>(0≤lo∧lo≤(l.length:Int))∧K (.vs id τ l lo.toNat)) from h)
   obtain ⟨m,⟨⟨p0,p1⟩,hK⟩,hm⟩:=bound_run hI h
   obtain ⟨n,hn',hn⟩:=bound_run hI (show boundK s none (l.length:Int) (fun n=>n = (l.length:Int)) from rfl)
   subst hn'
   obtain ⟨_,h4,ad,c,h5,h6,h7⟩:=VsAt.inv hr
   rw [Nat.sub_zero] at h5 h6
   rw [h5] at hr
   have h8:=suf_mk hr (m:=m.toNat) (by omega)
   rw [Nat.zero_add] at h8
   refine ⟨_,_,hK,h8,hids,fun w'=>?_⟩
   have hb:=bounds_run (P:=P) (w:=w') (a:=a) true l.length c hm hn p0 p1 (Int.le_refl _) h6
   simp only [Int.toNat_natCast,Option.map_none] at hb
   simp [execOp,ho,h5,Instr.sliceAt,run_underlying hu,Instr.slice,hb,elem_sz hte hsz]
 | vs id τ l k =>
  cases hi with
  | some _=>exact ((chkK_iff _ _).1 (show chkK (Nat.beq te.cells (esz τ)) False from h)).2.elim
  | none =>
   obtain ⟨hsz,h⟩:=(chkK_iff _ _).1 (show chkK (Nat.beq te.cells (esz τ)) (boundK s lo 0 fun lo=>(0≤lo∧lo≤((l.length - k:Nat):Int))∧K (.vs id τ l (k + lo.toNat))) from h)
   obtain ⟨m,⟨⟨p0,p1⟩,hK⟩,hm⟩:=bound_run hI h
   obtain ⟨n,hn',hn⟩:=bound_run hI (show boundK s none ((l.length - k:Nat):Int) (fun n=>n = ((l.length - k:Nat):Int)) from rfl)
   subst hn'
   obtain ⟨_,h4,ad,c,h5,h6,h7⟩:=VsAt.inv hr
   rw [h5] at hr
   have h8:=suf_mk hr (m:=m.toNat) (by omega)
   refine ⟨_,_,hK,h8,hids,fun w'=>?_⟩
   have hb:=bounds_run (P:=P) (w:=w') (a:=a) true (l.length - k) c hm hn p0 p1 (Int.le_refl _) h6
   simp only [Int.toNat_natCast,Option.map_none] at hb
   simp [execOp,ho,h5,Instr.sliceAt,run_underlying hu,Instr.slice,hb,elem_sz hte hsz]
 | _=>exact h.elim
end
end Go.SX
end
section
namespace Go.SX
variable [Globs]
section
variable {P:Program} {N:Nat} {Γ:Ctx} {W0:World} {F:Fr} {X:Nat→Prop} {s:St} {β:Nat→Option Nat} {a:Act} {w:World}

theorem loadFrom_run (P : Program) (w : World) (g o : Nat) (us : List Value) : ∀ (i : Nat) (acc : Array Value), (∀ j u, us[j]? = some u → w.cell? ⟨g, o + (i + j), none⟩ = some u) →
  (loadCellsFrom ⟨g,o,none⟩ i us.length acc).run P w = .ok (acc++us.toArray) w:=by
 induction us with
 | nil=>intro i acc _; simp [loadCellsFrom]
 | cons u r ih =>
  intro i acc h
  have h0:w.cell? ⟨g,o + i,none⟩ = some u:=by simpa using h 0 u rfl
  have:=ih (i + 1) (acc.push u) (fun j v hv=>by have:=h (j + 1) v (by simpa using hv); rw [← this]; congr 2; omega)
  simp only [List.length_cons,loadCellsFrom,add_none,Sem.run_bind,run_load,h0,Result.andThen_ok,this]
  simp
theorem loadCells_run (P : Program) (w : World) (g o : Nat) (us : List Value) (h : ∀ j u, us[j]? = some u → w.cell? ⟨g, o + j, none⟩ = some u) :
  (loadCells ⟨g,o,none⟩ us.length).run P w = .ok us.toArray w:=by
 have:=loadFrom_run P w g o us 0 #[] (by simpa using h)
 simpa [loadCells] using this
theorem loadVar_run {t : Nat} {ti : TI} (hti : ti.ok P t) (g o : Nat) (us : List Value) (hl : us.length = ti.cells) (h : ∀ j u, us[j]? = some u → w.cell? ⟨g, o + j, none⟩ = some u) :
  (isStruct ti.desc = true→(loadVar t ⟨g,o,none⟩).run P w = .ok (.agg us.toArray) w)∧(isStruct ti.desc = false→∀ u,us[0]? = some u→(loadVar t ⟨g,o,none⟩).run P w = .ok u w):=by
 refine ⟨fun hs=>?_,fun hs u hu=>?_⟩
 ·have h1:=agg_ok hti w
  have h2:=loadCells_run P w g o us h
  rw [hl] at h2
  simp [loadVar,h1,hs,hti.sizeOf w,h2]
 ·have h1:=agg_ok hti w
  have h2:w.cell? ⟨g,o,none⟩ = some u:=by simpa using h 0 u hu
  simp [loadVar,h1,hs,h2]

theorem plainC_im {O:Nat→Prop} {cs:List AV} {us:List Value} (h:All2 (Rel β O w) cs us):All2 (Im O w) (plainC cs) us:=by
 induction cs generalizing us with
 | nil=>have:=h.nil_inv; subst this; exact All2.nil _
 | cons c r ih =>
  obtain ⟨u,us',rfl,h1,h2⟩:=h.cons_inv
  cases c<;>exact All2.cons (by first | exact h1 | exact .x _) (ih h2)

def loadVK (Γ:Ctx) (s:St) (t:TypeId):AV→(AV→Prop)→Prop
 | .pt n o,K=>lookBK s.boxes n fun cs=>tiK Γ t fun ti=>takeK ti.cells (cs.drop o) fun l=>packK (isStruct ti.desc) l K
 | .rp cs,K=>tiK Γ t fun ti=>takeK ti.cells cs fun l=>packK (isStruct ti.desc) l K
 | .vp _ τ l n o,K=>tiK Γ t fun ti=>takeK ti.cells ((enc τ (l.getD n (dflt τ))).drop o) fun l=>packK (isStruct ti.desc) l K
 | .ob _ i2 (.gp L i row n),K=>tiK Γ t fun ti=>chkK (!isStruct ti.desc) (chkK (Nat.beq ti.cells 1) ((n = i∧K (.vec i2 .int row))∨(n≠i∧K (.rd .int (L.getD n [])))))
 | _,_=>False

theorem noFn0_mem {l:List AV} (h:noFn0 l = true) {c:AV} (hc:c ∈ l):noFn0 [c] = true:=by
 induction l with
 | nil=>cases hc
 | cons z r ih =>
  rcases List.mem_cons.1 hc with rfl | hc
  ·cases c<;>first | rfl | (simp [noFn0] at h)
  ·exact ih (by cases z<;>first | exact h | (simp [noFn0] at h)) hc
theorem rel0_of {β:Nat→Option Nat} {O:Nat→Prop} {w:World} {c:AV} {u:Value} (h:Rel β O w c u) (hc:noFn0 [c] = true):Rel0 β O w c u:=by
 cases c<;>first | exact h | (simp [noFn0] at hc)
theorem ids0_ids {c:AV} {n:Nat} (hc:noFn0 [c] = true) (h:n ∈ ids0 c):n ∈ ids c:=by
 cases c<;>first | exact h | (simp [noFn0] at hc)
theorem pack_ok {o : Oper} {t : Nat} {x : Operand} (ho : o.op = .load t x) {ti : TI} (hti : ti.ok P t) {g off : Nat} (hx : a.eval x = .pointer (some ⟨g, off, none⟩)) {cs : List AV} {us : List Value}
  (hl:cs.length = ti.cells) (hr:All2 (RelC β (Own X s β) w) cs us) (hids:∀ c ∈ cs,∀ n ∈ ids c,Nm s n) (hc:∀ (j:Nat) u,us[j]? = some u→w.cell? ⟨g,off + j,none⟩ = some u)
  {K:AV→Prop} (h:packK (isStruct ti.desc) cs K):LoadOK P X s β a w o K:=by
 have h2:=loadVar_run (w:=w) hti g off us (by rw [← hr.1,hl]) hc
 cases hs:isStruct ti.desc with
 | true =>
  rw [hs] at h
  have h:match anyVec cs with
   | true=>chkK (noFn0 cs) (K (.ag 0 cs))
   | false=>plainCK cs fun l=>K (.agg l):=h
  have hone:∀ u ∈ us,u.oneCell' = true:=fun u hu=>by
   obtain ⟨j,hj,rfl⟩:=List.getElem_of_mem hu
   have hj':j < cs.length:=by rw [hr.1]; exact hj
   exact (hr.2 j _ _ (List.getElem?_eq_getElem hj') (List.getElem?_eq_getElem hj)).2
  cases ha:anyVec cs with
  | true =>
   rw [ha] at h
   obtain ⟨hf,h⟩:=(chkK_iff _ _).1 h
   have hr0:All2 (Rel0 β (Own X s β) w) cs us:=hr.mono fun j c u hc h9=>rel0_of h9.1 (noFn0_mem hf (List.mem_of_getElem? hc))
   refine ⟨_,.agg us.toArray,h,⟨us,rfl,hr0,hone⟩,fun n hn=>?_,by simp [execOp,ho,hx,Instr.loadAt,Instr.sureAddr,h2.1 hs]⟩
   obtain ⟨c,hc,hcn⟩:=List.mem_flatMap.1 (show n ∈ cs.flatMap ids0 from hn)
   exact hids _ hc n (ids0_ids (noFn0_mem hf hc) hcn)
  | false =>
  rw [ha] at h
  have h:plainCK cs (fun l=>K (.agg l)):=h
  rw [plainCK_eq] at h
  have him:=plainC_im (hr.mono fun _ _ _ _ h=>h.1)
  exact .im h (.agg _ us him.1 (fun u hu=>by
   obtain ⟨j,hj,rfl⟩:=List.getElem_of_mem hu
   have hj':j < cs.length:=by rw [hr.1]; exact hj
   exact (hr.2 j _ _ (List.getElem?_eq_getElem hj') (List.getElem?_eq_getElem hj)).2) him.2) (by simp [execOp,ho,hx,Instr.loadAt,Instr.sureAddr,h2.1 hs])
 | false =>
  rw [hs] at h
  cases cs with
  | nil=>exact h.elim
  | cons c r =>
   cases r with
   | cons _ _=>exact h.elim
   | nil =>
    obtain ⟨u,us',rfl,h1,h3⟩:=hr.cons_inv
    exact ⟨c,u,h,h1.1,hids c (by simp),by simp [execOp,ho,hx,Instr.loadAt,Instr.sureAddr,h2.2 hs u rfl]⟩

theorem All2.drop_take {R:AV→Value→Prop} {cs:List AV} {us:List Value} (h:All2 R cs us) (o n:Nat):All2 R ((cs.drop o).take n) ((us.drop o).take n):=by
 refine ⟨by simp [h.1],fun j c u hc hu=>?_⟩
 rw [List.getElem?_take,List.getElem?_drop] at hc hu
 split at hc
 ·rename_i hj; rw [if_pos hj] at hu; exact h.2 _ _ _ hc hu
 ·cases hc

theorem cells_all2 {R : AV → Value → Prop} {cs : List AV} {f : Nat → Option Value} (h : ∀ (j : Nat) c, cs[j]? = some c → ∃ u, f j = some u ∧ R c u) :
  ∃ us:List Value,All2 R cs us∧∀ (j:Nat) u,us[j]? = some u→f j = some u:=by
 induction cs generalizing f with
 | nil=>exact ⟨[],All2.nil _,by simp⟩
 | cons c r ih =>
  obtain ⟨u,h1,h2⟩:=h 0 c rfl
  obtain ⟨us,h3,h4⟩:=ih (f:=fun j=>f (j + 1)) (fun j c hc=>h (j + 1) c (by simpa using hc))
  refine ⟨u::us,All2.cons h2 h3,fun j v hv=>?_⟩
  cases j with
  | zero=>simp at hv; subst hv; exact h1
  | succ j=>exact h4 j v (by simpa using hv)

theorem load_ok (hΓ:Γ.ok P) (hI:InvB W0 F X N s β a w) {o:Oper} {t:Nat} {x:Operand} (ho:o.op = .load t x) {v:AV} (hr:Rel β (Own X s β) w v (a.eval x)) (hids:∀ n ∈ ids v,Nm s n) {K:AV→Prop} (h:loadVK Γ s t v K):LoadOK P X s β a w o K:=by
 cases v with
 | pt n off =>
  obtain ⟨cs,h1,h⟩:=(lookBK_iff _ _ _).1 (show lookBK s.boxes n fun cs=>tiK Γ t fun ti=>takeK ti.cells (cs.drop off) fun l=>packK (isStruct ti.desc) l K from h)
  obtain ⟨ti,hti,h⟩:=tiK_ok hΓ h
  rw [takeK_iff] at h
  obtain ⟨g,us,e,h2,h3,h4⟩:=hI.boxes n cs h1
  obtain ⟨g',h5,h6⟩:=hr
  rw [h2] at h5; injection h5 with h5; subst h5
  refine pack_ok ho hti h6 (cs:=(cs.drop off).take ti.cells) (us:=(us.toList.drop off).take ti.cells) (by rw [List.length_take]; omega) (h4.drop_take _ _)
   (fun c hc n' hn'=>.inr (.inr ⟨n,cs,h1,c,List.mem_of_mem_drop (List.mem_of_mem_take hc),hn'⟩)) (fun j u hu=>?_) h.2
  rw [List.getElem?_take,List.getElem?_drop] at hu
  split at hu
  ·rw [cell_of_row w g _ us e (0,0) h3]; simpa using hu
  ·cases hu
 | rp cs =>
  obtain ⟨ti,hti,h⟩:=tiK_ok hΓ (show tiK Γ t fun ti=>takeK ti.cells cs fun l=>packK (isStruct ti.desc) l K from h)
  rw [takeK_iff] at h
  obtain ⟨g,off,h1,h2⟩:=Im.inv_rp hr
  obtain ⟨us,h3,h4⟩:=cells_all2 (R:=Im (Own X s β) w) (cs:=cs) (f:=fun j=>w.cell? ⟨g,off + j,none⟩) (fun j c hc=>(h2 j c hc).2.imp fun _ hu=>⟨hu.1,hu.2.1⟩)
  refine pack_ok ho hti h1 (cs:=cs.take ti.cells) (us:=us.take ti.cells) (by rw [List.length_take]; omega) ?_ (fun c hc n' hn'=>?_) (fun j u hu=>?_) h.2
  ·have h5 : All2 (RelC β (Own X s β) w) cs us := ⟨h3.1, fun j c u hc hu => by
    obtain ⟨_,u',hu',him,hone⟩:=h2 j c hc
    have:=h4 j u hu
    rw [hu'] at this; injection this with this; subst this
    exact ⟨Rel.im him,hone⟩⟩
   have:=h5.drop_take 0 ti.cells
   simpa using this
  ·exfalso
   have hc':=List.mem_of_mem_take hc
   obtain ⟨j,hj,rfl⟩:=List.getElem_of_mem hc'
   obtain ⟨_,u,_,him,_⟩:=h2 j _ (List.getElem?_eq_getElem hj)
   rw [him.ids_nil] at hn'
   cases hn'
  ·rw [List.getElem?_take] at hu
   split at hu
   ·exact h4 j u hu
   ·cases hu
 | ob i1 i2 ob =>
  cases ob with
  | gp L i row n =>
   obtain ⟨ti,hti,h⟩:=tiK_ok hΓ (show tiK Γ t fun ti=>chkK (!isStruct ti.desc) (chkK (Nat.beq ti.cells 1) ((n = i∧K (.vec i2 .int row))∨(n≠i∧K (.rd .int (L.getD n []))))) from h)
   obtain ⟨hs,h⟩:=(chkK_iff _ _).1 h
   obtain ⟨hc,h⟩:=(chkK_iff _ _).1 h
   have hs:isStruct ti.desc = false:=by simpa using hs
   obtain ⟨hn,⟨g,hg,hx⟩,v',hgr⟩:=hr
   obtain ⟨g',c,cur,e,h1,h2,h3,h4,h5,h6,h7,h8⟩:=hgr
   rw [hg] at h1; injection h1 with h1; subst h1
   have hcell:∀ (j:Nat) u,cur[n]? = some u→[u][j]? = some u→w.cell? ⟨g,n + j,none⟩ = some u:=fun j u hu hj=>by
    cases j with
    | zero=>rw [Nat.add_zero,cell_of_row w g _ cur e (0,0) h3]; exact hu
    | succ j=>simp at hj
   have hcell':∀ u,cur[n]? = some u→∀ (j:Nat) u',[u][j]? = some u'→w.cell? ⟨g,n + j,none⟩ = some u':=fun u hu j u' hj=>by
    cases j with
    | zero => have : u = u' := by simpa using hj
              subst this; exact hcell 0 u hu rfl
    | succ j=>simp at hj
   rcases h with ⟨hni,hK⟩ | ⟨hne,hK⟩
   ·subst hni
    obtain ⟨u,hu,hv⟩:=h8 hn
    have hone:u.oneCell' = true:=by
     rcases id hv with ⟨_,rfl,_⟩ | ⟨_,_,_,_,_,rfl,_⟩<;>rfl
    have h9:=loadVar_run (w:=w) hti g n [u] (by simpa using (Nat.eq_of_beq_eq_true hc).symm) (hcell' u hu)
    exact ⟨_,u,hK,hv,fun m hm=>hids m (by
     have:m = i2:=by simpa [ids,ids0] using hm
     subst this; simp [ids,ids0]),by simp [execOp,ho,hx,Instr.loadAt,Instr.sureAddr,h9.2 hs u rfl]⟩
   ·obtain ⟨u,hu,him⟩:=h7 n _ (List.getElem?_eq_getElem hn) hne
    have hl:L.getD n [] = L[n]:=by rw [List.getD_eq_getElem?_getD,List.getElem?_eq_getElem hn]; rfl
    rw [hl] at hK
    have h9:=loadVar_run (w:=w) hti g n [u] (by simpa using (Nat.eq_of_beq_eq_true hc).symm) (hcell' u hu)
    exact .im hK him (by simp [execOp,ho,hx,Instr.loadAt,Instr.sureAddr,h9.2 hs u rfl])
  | _=>exact h.elim
 | vp id τ l n off =>
  obtain ⟨ti,hti,h⟩:=tiK_ok hΓ (show tiK Γ t fun ti=>takeK ti.cells ((enc τ (l.getD n (dflt τ))).drop off) fun l=>packK (isStruct ti.desc) l K from h)
  rw [takeK_iff] at h
  obtain ⟨hn,⟨g,h1,h2⟩,v',hv⟩:=hr
  rcases hv with ⟨rfl,_,_⟩ | ⟨g',c,cur,e,h3,_,h5,h6,h7,h8,h9⟩
  ·simp at hn
  rw [h3] at h1; injection h1 with h1; subst h1
  have hl:l[n]? = some (l.getD n (dflt τ)):=by rw [List.getD_eq_getElem?_getD,List.getElem?_eq_getElem hn]; rfl
  obtain ⟨us,h10,h11⟩:=cells_all2 (R:=Im (Own X s β) w) (cs:=(enc τ (l.getD n (dflt τ))).drop off) (f:=fun j=>w.cell? ⟨g',n * esz τ + off + j,none⟩) (fun j c hc=>by
   rw [List.getElem?_drop] at hc
   obtain ⟨u,hu,him⟩:=h9 n _ _ c hl hc
   exact ⟨u,by rw [cell_of_row w g' _ cur e (0,0) h5,Nat.add_assoc]; exact hu,him⟩)
  refine pack_ok ho hti h2 (cs:=((enc τ (l.getD n (dflt τ))).drop off).take ti.cells) (us:=us.take ti.cells) (by rw [List.length_take]; omega) ?_ (fun c hc n' hn'=>?_) (fun j u hu=>?_) h.2
  ·have h12 : All2 (RelC β (Own X s β) w) ((enc τ (l.getD n (dflt τ))).drop off) us :=
    h10.mono fun _ _ _ hc h=>⟨Rel.im h,plain_one h (enc_plain τ _ _ (List.mem_of_mem_drop (List.mem_of_getElem? hc)))⟩
   have:=h12.drop_take 0 ti.cells
   simpa using this
  ·exfalso
   have hp:=enc_plain τ _ c (List.mem_of_mem_drop (List.mem_of_mem_take hc))
   cases c<;>first | (cases hp; done) | (simp [ids,ids0] at hn')
  ·rw [List.getElem?_take] at hu
   split at hu
   ·exact h11 j u hu
   ·cases hu
 | _=>exact h.elim

def cellsK:AV→(List AV→Prop)→Prop
 | .agg l,K=>K l
 | .x,_=>False
 | .tup _,_=>False
 | .ag 0 l,K=>K l
 | .ag (_ + 1) _,_=>False
 | v,K=>K [v]
theorem cells_ok {v : AV} {u : Value} (hr : Rel β (Own X s β) w v u) (hids : ∀ n ∈ ids v, Nm s n) {K : List AV → Prop} (h : cellsK v K) :
  ∃ cs,K cs∧All2 (RelC β (Own X s β) w) cs u.cells.toList∧(∀ c ∈ cs,∀ n ∈ ids c,Nm s n)∧∀ x ∈ u.cells.toList,x.oneCell' = true:=by
 have one:K [v]→u.cells = #[u]→u.oneCell' = true→∃ cs,K cs∧All2 (RelC β (Own X s β) w) cs u.cells.toList∧(∀ c ∈ cs,∀ n ∈ ids c,Nm s n)∧∀ x ∈ u.cells.toList,x.oneCell' = true:=by
  intro hK hc h1
  refine ⟨[v],hK,?_,?_,?_⟩
  ·rw [hc]; exact All2.cons ⟨hr,h1⟩ (All2.nil _)
  ·intro c hc' n hn; rw [List.mem_singleton.1 hc'] at hn; exact hids n hn
  ·rw [hc]; intro x hx; simp at hx; subst hx; exact h1
 cases v with
 | agg l =>
  obtain ⟨vs,rfl,h2,h3⟩:=hr.inv_agg
  refine ⟨l,h,?_,fun c hc n hn=>?_,by simpa [Value.cells] using h3⟩
  ·have h4:All2 (RelC β (Own X s β) w) l vs:=⟨h2.1,fun j c u hc hu=>⟨Rel.im (h2.2 j c u hc hu),h3 u (List.mem_of_getElem? hu)⟩⟩
   simpa [Value.cells] using h4
  ·exfalso
   obtain ⟨j,hj,rfl⟩:=List.getElem_of_mem hc
   have hj':j < vs.length:=by rw [← h2.1]; exact hj
   rw [(h2.2 j _ _ (List.getElem?_eq_getElem hj) (List.getElem?_eq_getElem hj')).ids_nil] at hn
   cases hn
 | ag k l =>
  cases k with
  | succ k=>exact h.elim
  | zero =>
  obtain ⟨vs,rfl,h2,h3⟩:=id hr
  simp only [shape] at *
  refine ⟨l,h,?_,fun c hc n hn=>?_,by simpa [Value.cells] using h3⟩
  ·have h4:All2 (RelC β (Own X s β) w) l vs:=⟨h2.1,fun j c u hc hu=>⟨Rel.rel0 (h2.2 j c u hc hu),h3 u (List.mem_of_getElem? hu)⟩⟩
   simpa [Value.cells] using h4
  ·obtain ⟨j,hj,rfl⟩:=List.getElem_of_mem hc
   have hj':j < vs.length:=by rw [← h2.1]; exact hj
   exact hids n (List.mem_flatMap.2 ⟨_,List.getElem_mem hj,(h2.2 j _ _ (List.getElem?_eq_getElem hj) (List.getElem?_eq_getElem hj')).ids hn⟩)
 | vs id τ l k=>obtain ⟨_,_,ad,c,rfl,_⟩:=VsAt.inv hr; exact one h rfl rfl
 | i k n=>obtain rfl:=hr.inv_i; exact one h rfl rfl
 | b t=>obtain rfl:=hr.inv_b; exact one h rfl rfl
 | s l=>obtain ⟨rfl,_⟩:=hr.inv_s; exact one h rfl rfl
 | nl=>obtain rfl:=hr.inv_nl; exact one h rfl rfl
 | rd τ l=>obtain ⟨ad,c,rfl,_⟩:=hr.inv_rd; exact one h rfl rfl
 | pt n off=>obtain ⟨g,_,rfl⟩:=id hr; exact one h rfl rfl
 | vec id τ l =>
  have hr':=hr
  rcases hr' with ⟨_,rfl,_⟩ | ⟨_,_,_,_,_,rfl,_⟩
  ·exact one h rfl rfl
  ·exact one h rfl rfl
 | vp id τ l n off=>have hr':=hr; obtain ⟨_,⟨g,_,rfl⟩,_⟩:=hr'; exact one h rfl rfl
 | rp cs=>obtain ⟨g,off,rfl,_⟩:=Im.inv_rp hr; exact one h rfl rfl
 | fn f caps=>obtain ⟨vs,rfl,_⟩:=id hr; exact one h (fnV_cells _ _ _) (fnV_one _ _ _)
 | np=>have hr':Im _ _ _ _:=hr; cases hr'; exact one h rfl rfl
 | er e=>have hr':Im _ _ _ _:=hr; cases hr'<;>exact one h rfl rfl
 | ob i i2 o =>
  cases o with
  | sb T e l=>have hr':=hr; obtain ⟨b,p,q,_,rfl,_⟩:=hr'; exact one h rfl rfl
  | it t pos=>have hr':=hr; obtain ⟨g,_,rfl,_⟩:=hr'; exact one h rfl rfl
  | mp κ τ es=>have hr':=hr; obtain ⟨g,_,_,_,rfl,_⟩:=hr'; exact one h rfl rfl
  | nw zs=>have hr':=hr; obtain ⟨g,_,_,rfl,_⟩:=hr'; exact one h rfl rfl
  | vw τ l x y=>have hr':=hr; obtain ⟨g,c,_,_,_,_,rfl,_⟩:=hr'; exact one h rfl rfl
  | ln τ l=>have hr':=hr; obtain ⟨_,⟨_,rfl,_⟩ | ⟨g,c,_,_,_,rfl,_⟩⟩:=hr'<;>exact one h rfl rfl
  | gr L k row=>have hr':=hr; obtain ⟨g,c,_,_,_,rfl,_⟩:=hr'; exact one h rfl rfl
  | gp L k row n=>have hr':=hr; obtain ⟨_,⟨g,_,rfl⟩,_⟩:=hr'; exact one h rfl rfl
 | tup _=>exact h.elim
 | x=>exact h.elim

def boxK (N:Nat) (s:St) (d:Nat) (cs:List AV) (K:St→Prop):Prop :=
 chkK (Nat.blt d N) (match s with | ⟨sl0,b0⟩=>setLK b0 d cs fun b=>setLK sl0 d (.pt d 0) fun sl=>K ⟨sl,b⟩)
theorem box_ok (hI : InvB W0 F X N s β a w) {d : Nat} (hfree : ¬ Nm s d) {cs : List AV} {us : Array Value} {e : TypeId} (hr : All2 (RelC β (Own X s β) w) cs us.toList) (hids : ∀ c ∈ cs, ∀ n ∈ ids c, Nm s n)
  {K:St→Prop} (h:boxK N s d cs K):∃ s' β',K s'∧InvB W0 F X N s' β' (a.put (some d) (.pointer (some ⟨w.heap.size,0,none⟩))) (w.alloc (.cells us e)):=by
 obtain ⟨h1,h2⟩:=(chkK_iff _ _).1 h
 have h2:K ((s.setBox d cs).put d (.pt d 0)):=by obtain ⟨sl,b⟩:=s; simp only [setLK_eq] at h2; exact h2
 exact ⟨_,_,h2,hI.box (by rw [Nat.blt_eq] at h1; exact h1) hfree hr hids⟩

theorem newVar_run (t:TypeId) (v:Value) (w:World):(newVar t v).run P w = .ok ⟨w.heap.size,0,none⟩ (w.alloc (.cells v.cells t)):=by
 simp [newVar,newRow,newObj]
 rfl
theorem not_frz (s:St) (d:Nat):¬ Nm (s.frz d) d:=fun h=>(Nm.of_frz h).2 rfl

def allocK (Γ:Ctx) (N:Nat) (s:St) (t:TypeId) (dst:Option Nat) (K:St→Prop):Prop :=
 match dst with
 | some d=>stFrzK d s fun s=>tiK Γ t fun ti=>ofValsK ti.zero fun cs=>boxK N s d cs K
 | none=>False
def boxOpK (N:Nat) (s:St) (x:Operand) (dst:Option Nat) (K:St→Prop):Prop :=
 match dst with
 | some d=>stFrzK d s fun s=>evK s x fun v=>cellsK v fun cs=>boxK N s d cs K
 | none=>False

theorem ofVals_all2 (O:Nat→Prop) (l:List Value) (h1:∀ v ∈ l,v.oneCell' = true):All2 (RelC β O w) (ofVals l) l:=by
 induction l with
 | nil=>exact All2.nil _
 | cons v r ih=>exact All2.cons ⟨Rel.im (ofVal_im _ _ _),h1 v (List.mem_cons_self ..)⟩ (ih fun u hu=>h1 u (List.mem_cons_of_mem _ hu))
theorem ofVals_ids (l:List Value):∀ c ∈ ofVals l,ids c = []:=by
 induction l with
 | nil=>intro c hc; cases hc
 | cons v r ih =>
  intro c hc
  rcases List.mem_cons.1 hc with rfl | hc
  ·exact (ofVal_im (fun _=>False) default v).ids_nil
  ·exact ih c hc

theorem alloc_ok (hΓ : Γ.ok P) (hone : ∀ p ∈ Γ, ∀ v ∈ p.2.zero, v.oneCell' = true) (hI : InvB W0 F X N s β a w) {o : Oper} {t : TypeId} (ho : o.op = .alloc t) {K : St → Prop} (h : allocK Γ N s t o.dst K)
  {next:Act→World→Prop} {Q:Exit→Act→World→Prop} (hn:∀ s' a' w',K s'→Inv W0 F X N s' a' w'→next a' w'):o.wp P a w next Q:=by
 cases hd:o.dst with
 | none=>rw [hd] at h; exact h.elim
 | some d =>
  rw [hd] at h
  have h:stFrzK d s fun s=>tiK Γ t fun ti=>ofValsK ti.zero fun cs=>boxK N s d cs K:=h
  rw [stFrzK_eq] at h
  obtain ⟨ti,hmem,h2⟩:=tiK_mem h
  have hti:=hΓ _ hmem
  have h1:=hone _ hmem
  rw [ofValsK_eq] at h2
  obtain ⟨z,hz,hzc⟩:=hti.zeroValue w
  have hr:All2 (RelC β (Own X (s.frz d) β) w) (ofVals ti.zero) z.cells.toList:=by
   rw [hzc]; exact ofVals_all2 _ _ h1
  obtain ⟨s',β',hK,hI'⟩:=box_ok (e:=t) (hI.frz d) (not_frz s d) hr (fun c hc n hn=>by rw [ofVals_ids _ c hc] at hn; cases hn) h2
  refine wp_val (u:=.pointer (some ⟨w.heap.size,0,none⟩)) (w':=w.alloc (.cells z.cells t)) ?_ (by rw [hd]; exact hn _ _ _ hK ⟨_,hI'⟩)
  simp [execOp,ho,Instr.alloc,hz,newVar_run]

theorem boxOp_ok (hI : InvB W0 F X N s β a w) {o : Oper} {t : TypeId} {x : Operand} (ho : o.op = .box t x) {K : St → Prop} (h : boxOpK N s x o.dst K)
  {next:Act→World→Prop} {Q:Exit→Act→World→Prop} (hn:∀ s' a' w',K s'→Inv W0 F X N s' a' w'→next a' w'):o.wp P a w next Q:=by
 cases hd:o.dst with
 | none=>rw [hd] at h; exact h.elim
 | some d =>
  rw [hd] at h
  have h:stFrzK d s fun s=>evK s x fun v=>cellsK v fun cs=>boxK N s d cs K:=h
  rw [stFrzK_eq,evK_eq] at h
  have hI1:=hI.frz d
  obtain ⟨cs,h1,h2,h3,_⟩:=cells_ok (ev_rel hI1 x).1 (ev_rel hI1 x).2 h
  obtain ⟨s',β',hK,hI'⟩:=box_ok (e:=t) hI1 (not_frz s d) h2 h3 h1
  refine wp_val (u:=.pointer (some ⟨w.heap.size,0,none⟩)) (w':=w.alloc (.cells (a.eval x).cells t)) ?_ (by rw [hd]; exact hn _ _ _ hK ⟨_,hI'⟩)
  simp [execOp,ho,Instr.box,newVar_run]

def storeBoxK (s:St) (n o:Nat) (cells:Nat) (v:AV) (K:St→Prop):Prop :=
 lookBK s.boxes n fun cs0=>cellsK v fun cs=>chkK (Nat.beq cs.length cells) (chkK (noVs n s.slots) (chkK (noVb n s.boxes) (chkK (noV n cs)
  (spliceK cs0 o cs fun cs'=>match s with | ⟨sl,b0⟩=>setLK b0 n cs' fun b=>K ⟨sl,b⟩))))
theorem noV_spec {n:Nat} {l:List AV} (h:noV n l = true):∀ c ∈ l,n ∉ vids c:=by
 induction l with
 | nil=>intro c hc; cases hc
 | cons v r ih =>
  simp only [noV] at h
  cases hin:inL n (vids v) with
  | true=>rw [hin] at h; cases h
  | false =>
   rw [hin] at h
   intro c hc
   rcases List.mem_cons.1 hc with rfl | hc
   ·rw [← Bool.not_eq_true,inL_iff] at hin; exact hin
   ·exact ih h c hc
theorem noVs_spec {n:Nat} {l:List (Nat × AV)} (h:noVs n l = true):∀ m,n ∉ vids (look l m):=by
 induction l with
 | nil=>intro m hm; simp [look,vids,vids0] at hm
 | cons p r ih =>
  obtain ⟨k,v⟩:=p
  simp only [noVs] at h
  cases hin:inL n (vids v) with
  | true=>rw [hin] at h; cases h
  | false =>
   rw [hin] at h
   intro m
   simp only [look]
   cases Nat.beq k m with
   | true=>rw [← Bool.not_eq_true,inL_iff] at hin; exact hin
   | false=>exact ih h m
theorem noVb_spec {n:Nat} {l:List (Nat × List AV)} (h:noVb n l = true):∀ b cs,lookB l b = some cs→∀ c ∈ cs,n ∉ vids c:=by
 induction l with
 | nil=>intro b cs hb; cases hb
 | cons p r ih =>
  obtain ⟨k,v⟩:=p
  simp only [noVb] at h
  cases hv:noV n v with
  | false=>rw [hv] at h; cases h
  | true =>
   rw [hv] at h
   intro b cs hb
   simp only [lookB] at hb
   cases hk:Nat.beq k b with
   | true=>rw [hk] at hb; injection hb with hb; subst hb; exact noV_spec hv
   | false=>rw [hk] at hb; exact ih h b cs hb

theorem storeVar_run {t : Nat} {ti : TI} (hti : ti.ok P t) {g off : Nat} {v : Value} {us : Array Value} {e : TypeId} (hh : w.heap[g]? = some (.cells us e (0, 0))) (hsz : v.cells.size = ti.cells) (hle : off + v.cells.size ≤ us.size)
  (h1:∀ x ∈ v.cells.toList,x.oneCell' = true) :
  (storeVar t ⟨g,off,none⟩ v).run P w = .ok () (w.setRow g (us.toList.take off++v.cells.toList++us.toList.drop (off + v.cells.size)).toArray):=by
 have:=run_storeCells_at P g off e v.cells.toList 0 us w hh (by simpa using hle) h1
 simp only [Nat.add_zero,Array.length_toList] at this
 simp [storeVar,hti.sizeOf w,hsz,this]

theorem All2.splice {R : AV → Value → Prop} {cs0 cs : List AV} {us0 us : List Value} (h0 : All2 R cs0 us0) (h : All2 R cs us) (o : Nat) (_hle : o + cs.length ≤ cs0.length) :
  All2 R (cs0.take o++cs++cs0.drop (o + cs.length)) (us0.take o++us++us0.drop (o + us.length)):=by
 have happ:∀ {a c:List AV} {b d:List Value},All2 R a b→All2 R c d→All2 R (a++c) (b++d):=by
  intro a c b d hab hcd
  refine ⟨by simp [hab.1,hcd.1],fun j z y hx hy=>?_⟩
  by_cases hj:j < a.length
  ·rw [List.getElem?_append_left hj] at hx
   rw [List.getElem?_append_left (by rw [← hab.1]; exact hj)] at hy
   exact hab.2 j z y hx hy
  ·rw [List.getElem?_append_right (by omega)] at hx
   rw [List.getElem?_append_right (by rw [← hab.1]; omega),← hab.1] at hy
   exact hcd.2 _ z y hx hy
 have htake:All2 R (cs0.take o) (us0.take o):=by
  have:=h0.drop_take 0 o
  simpa using this
 have hdrop:All2 R (cs0.drop (o + cs.length)) (us0.drop (o + us.length)):=by
  rw [← h.1]
  refine ⟨by simp [h0.1],fun j z y hx hy=>?_⟩
  rw [List.getElem?_drop] at hx hy
  exact h0.2 _ z y hx hy
 exact happ (happ htake h) hdrop

theorem storeBox_ok (hI : InvB W0 F X N s β a w) {o : Oper} {t : TypeId} {x y : Operand} (ho : o.op = .store t x y) {ti : TI} (hti : ti.ok P t) {n off : Nat} (hx : Rel β (Own X s β) w (.pt n off) (a.eval x)) {v : AV}
  (hy:Rel β (Own X s β) w v (a.eval y)) (hids:∀ n ∈ ids v,Nm s n) {K:St→Prop} (h:storeBoxK s n off ti.cells v K) :
  ∃ s' w',K s'∧InvB W0 F X N s' β a w'∧(execOp a.eval o).run P w = .ok .skip w':=by
 obtain ⟨cs0,h0,h⟩:=(lookBK_iff _ _ _).1 h
 obtain ⟨cs,h,h1,h2,h3⟩:=cells_ok hy hids h
 simp only [chkK_iff] at h
 obtain ⟨hc,hs1,hs2,hs3,h⟩:=h
 obtain ⟨hle,h⟩:=spliceK_iff _ _ _ _ h
 have h:K (s.setBox n (cs0.take off++cs++cs0.drop (off + cs.length))):=by obtain ⟨sl,b⟩:=s; simp only [setLK_eq] at h; exact h
 obtain ⟨g,us,e,h4,h5,h6⟩:=hI.boxes n cs0 h0
 obtain ⟨g',h7,h8⟩:=hx
 rw [h4] at h7; injection h7 with h7; subst h7
 have hlen:cs.length = (a.eval y).cells.size:=by rw [h1.1]; simp
 have hlen0:cs0.length = us.size:=by rw [h6.1]; simp
 have hrun:=storeVar_run (w:=w) hti h5 (off:=off) (v:=a.eval y) (by rw [← hlen]; exact Nat.eq_of_beq_eq_true hc) (by rw [← hlen,← hlen0]; exact hle) h3
 refine ⟨_,_,h,hI.storeBox (us:=(us.toList.take off++(a.eval y).cells.toList++us.toList.drop (off + (a.eval y).cells.size)).toArray) h0 h4 h5 ⟨noVs_spec hs1,noVb_spec hs2⟩ ?_ ?_ ?_,by simp [execOp,ho,h8,Instr.storeAt,Instr.sureAddr,hrun]⟩
 ·have:=All2.splice h6 h1 off hle
  simpa using this
 ·intro c hc' k hk
  rcases List.mem_append.1 hc' with hc' | hc'
  ·rcases List.mem_append.1 hc' with hc' | hc'
   ·exact .inr (.inr ⟨n,cs0,h0,c,List.mem_of_mem_take hc',hk⟩)
   ·exact h2 c hc' k hk
  ·exact .inr (.inr ⟨n,cs0,h0,c,List.mem_of_mem_drop hc',hk⟩)
 ·intro c hc'
  rcases List.mem_append.1 hc' with hc' | hc'
  ·rcases List.mem_append.1 hc' with hc' | hc'
   ·exact noVb_spec hs2 n cs0 h0 c (List.mem_of_mem_take hc')
   ·exact noV_spec hs3 c hc'
  ·exact noVb_spec hs2 n cs0 h0 c (List.mem_of_mem_drop hc')
end
end Go.SX
end
section
namespace Go.SX
variable [Globs]
section
variable {P:Program} {N:Nat} {Γ:Ctx} {W0:World} {F:Fr} {X:Nat→Prop} {s:St} {β:Nat→Option Nat} {a:Act} {w:World}

def flat (τ:Ty) (l:List (den τ)):List AV:=l.flatMap (enc τ)
theorem flat_length (τ:Ty) (l:List (den τ)):(flat τ l).length = l.length * esz τ:=by
 induction l with
 | nil=>simp [flat]
 | cons x r ih=>simp only [flat,List.flatMap_cons,List.length_append,enc_length] at ih ⊢; rw [ih,List.length_cons,Nat.succ_mul]; omega
theorem flat_at {τ:Ty} {l:List (den τ)} {i:Nat} {x:den τ} (h:l[i]? = some x) {j:Nat} (hj:j < esz τ):(flat τ l)[i * esz τ + j]? = (enc τ x)[j]?:=by
 induction l generalizing i with
 | nil=>simp at h
 | cons y r ih =>
  cases i with
  | zero =>
   simp at h; subst h
   simp only [flat,List.flatMap_cons,Nat.zero_mul,Nat.zero_add]
   rw [List.getElem?_append_left (by rw [enc_length]; exact hj)]
  | succ i =>
   simp at h
   have:=ih h
   simp only [flat,List.flatMap_cons] at this ⊢
   rw [List.getElem?_append_right (by rw [enc_length,Nat.succ_mul]; omega),enc_length,Nat.succ_mul]
   rw [← this]
   congr 1
   omega
theorem flat_of {τ:Ty} {l:List (den τ)} {k:Nat} {av:AV} (h:(flat τ l)[k]? = some av):∃ i j x,k = i * esz τ + j∧l[i]? = some x∧(enc τ x)[j]? = some av:=by
 have hp:=esz_pos τ
 have hk:k < l.length * esz τ:=by rw [← flat_length]; exact (List.getElem?_eq_some_iff.1 h).1
 have hi:k / esz τ < l.length:=by rw [Nat.div_lt_iff_lt_mul hp]; exact hk
 have hmod:k % esz τ < esz τ:=Nat.mod_lt _ hp
 have hkk:k = (k / esz τ) * esz τ + k % esz τ:=by rw [Nat.mul_comm]; exact (Nat.div_add_mod k (esz τ)).symm
 refine ⟨k / esz τ,k % esz τ,l[k / esz τ],hkk,List.getElem?_eq_getElem hi,?_⟩
 rw [← flat_at (List.getElem?_eq_getElem hi) hmod,← hkk]
 exact h
theorem flat_plain {τ:Ty} {l:List (den τ)} {av:AV} (h:av ∈ flat τ l):av.plain = true:=by
 obtain ⟨x,_,hx⟩:=List.mem_flatMap.1 h
 exact enc_plain τ x av hx

def SrcOK (P:Program) (O:Nat→Prop) (w:World) (τ:Ty) (l:List (den τ)) (v:Value):Prop :=
 ∃ A c us,v = .slice A l.length c∧All2 (Im O w) (flat τ l) us∧(∀ u ∈ us,u.oneCell' = true) ∧
  ∀ w':World,w'.heap = w.heap→(Builtin.firstCells (esz τ) l.length v).run P w' = .ok us.toArray w'
theorem src_cells {O : Nat → Prop} {τ : Ty} {l : List (den τ)} {v : Value} (h : Im O w (.rd τ l) v) :
  SrcOK P O w τ l v:=by
 cases h with
 | rd0 _ A c hc=>exact ⟨A,c,[],rfl,All2.nil _,by simp,fun w' _=>by cases A<;>simp [Builtin.firstCells,loadCells,loadCellsFrom]⟩
 | rd _ _ g o c u hg hlc hm hne hcell him =>
  obtain ⟨us,h1,h2⟩:=cells_all2 (R:=Im O w) (cs:=flat τ l) (f:=fun j=>w.cell? ⟨g,o + j,none⟩) (fun k av hk=>by
   obtain ⟨i,j,x,rfl,hx,hj⟩:=flat_of hk
   exact ⟨_,hcell i x j av hx hj,him i x j av hx hj⟩)
  have hlen:us.length = l.length * esz τ:=by rw [← h1.1,flat_length]
  refine ⟨_,c,us,rfl,h1,fun x hx=>?_,fun w' hw=>?_⟩
  ·obtain ⟨j,hj,rfl⟩:=List.getElem_of_mem hx
   have hj':j < (flat τ l).length:=by rw [h1.1]; exact hj
   exact plain_one (h1.2 j _ _ (List.getElem?_eq_getElem hj') (List.getElem?_eq_getElem hj)) (flat_plain (List.getElem_mem hj'))
  ·have:=loadCells_run P w' g o us (fun j x hx=>by rw [show w'.cell? ⟨g,o + j,none⟩ = w.cell? ⟨g,o + j,none⟩ from by simp only [World.cell?,hw]]; exact h2 j x hx)
   rw [hlen] at this
   simp only [Builtin.firstCells]
   exact this

theorem vec_of {β : Nat → Option Nat} {O : Nat → Prop} {w : World} {d g c : Nat} {τ : Ty} {l : List (den τ)} {cur : Array Value} {e : TypeId} {us : List Value} (hβ : β d = some g) (hh : w.heap[g]? = some (.cells cur e (0, 0)))
  (hlc:l.length≤c) (hcm:c≤maxLen) (hsz:cur.size = c * esz τ) (hus:All2 (Im O w) (flat τ l) us) (hpre:∀ (j:Nat) u,us[j]? = some u→cur[j]? = some u):VecAt β O w d τ l (.slice (some ⟨g,0,none⟩) l.length c):=by
 refine .inr ⟨g,c,cur,e,hβ,rfl,hh,hlc,hcm,hsz,fun i x j av hx hav=>?_⟩
 have hj:j < esz τ:=by rw [← enc_length τ x]; exact (List.getElem?_eq_some_iff.1 hav).1
 have hf:(flat τ l)[i * esz τ + j]? = some av:=by rw [flat_at hx hj]; exact hav
 have hlt:i * esz τ + j < us.length:=by rw [← hus.1]; exact (List.getElem?_eq_some_iff.1 hf).1
 exact ⟨us[i * esz τ + j],hpre _ _ (List.getElem?_eq_getElem hlt),hus.2 _ _ _ hf (List.getElem?_eq_getElem hlt)⟩
theorem vec_cells {O : Nat → Prop} {w : World} {c : Nat} {τ : Ty} {l : List (den τ)} {cur : Array Value} (hsz : cur.size = c * esz τ) (hlc : l.length ≤ c)
  (h:∀ (i:Nat) x (j:Nat) av,l[i]? = some x→(enc τ x)[j]? = some av→∃ u,cur[i * esz τ + j]? = some u∧Im O w av u) :
  All2 (Im O w) (flat τ l) (cur.toList.take (l.length * esz τ)):=by
 have hle:l.length * esz τ≤cur.size:=by rw [hsz]; exact Nat.mul_le_mul_right _ hlc
 have hcl:cur.toList.length = cur.size:=Array.length_toList
 refine ⟨by rw [flat_length,List.length_take,hcl]; omega,fun k av u hk hu=>?_⟩
 obtain ⟨i,j,x,rfl,hx,hj⟩:=flat_of hk
 obtain ⟨u',hu',him⟩:=h i x j av hx hj
 rw [List.getElem?_take] at hu
 split at hu
 ·rw [Array.getElem?_toList,hu'] at hu
  injection hu with hu
  subst hu
  exact him
 ·cases hu

theorem vec_src {β:Nat→Option Nat} {O:Nat→Prop} {w:World} {id:Nat} {τ:Ty} {l:List (den τ)} {v:Value} (h:VecAt β O w id τ l v):SrcOK P O w τ l v:=by
 rcases h with ⟨rfl,rfl,_⟩ | ⟨g,c,cur,e',p1,rfl,p3,p4,p5,p6,p7⟩
 ·exact ⟨none,0,[],rfl,All2.nil _,by simp,fun w' _=>by simp [Builtin.firstCells]⟩
 ·have hc:=vec_cells p6 p4 p7
  have hlen:(cur.toList.take (l.length * esz τ)).length = l.length * esz τ:=by rw [← hc.1,flat_length]
  refine ⟨_,c,_,rfl,hc,fun x hx=>?_,fun w' hw=>?_⟩
  ·obtain ⟨j,hj,rfl⟩:=List.getElem_of_mem hx
   have hj':j < (flat τ l).length:=by rw [hc.1]; exact hj
   exact plain_one (hc.2 j _ _ (List.getElem?_eq_getElem hj') (List.getElem?_eq_getElem hj)) (flat_plain (List.getElem_mem hj'))
  ·have := loadCells_run P w' g 0 (cur.toList.take (l.length * esz τ)) (fun j x hx => by
    rw [cell_of_row w' g _ cur e' (0,0) (by rw [hw]; exact p3),Nat.zero_add]
    rw [List.getElem?_take] at hx
    split at hx
    ·simpa using hx
    ·cases hx)
   rw [hlen] at this
   simp only [Builtin.firstCells]
   exact this

theorem All2.append {α γ:Type} {R:α→γ→Prop} {a c:List α} {b d:List γ} (hab:All2 R a b) (hcd:All2 R c d):All2 R (a++c) (b++d):=by
 refine ⟨by simp [hab.1,hcd.1],fun j x y hx hy=>?_⟩
 by_cases hj:j < a.length
 ·rw [List.getElem?_append_left hj] at hx
  rw [List.getElem?_append_left (by rw [← hab.1]; exact hj)] at hy
  exact hab.2 j x y hx hy
 ·rw [List.getElem?_append_right (by omega)] at hx
  rw [List.getElem?_append_right (by rw [← hab.1]; omega),← hab.1] at hy
  exact hcd.2 _ x y hx hy
theorem flat_append (τ:Ty) (l m:List (den τ)):flat τ (l++m) = flat τ l++flat τ m:=by simp [flat]

theorem run_append_gen {t e t' e' : TypeId} {te : TI} (ht : P.underlying t = some (.slice e)) (ht' : P.underlying t' = some (.slice e')) (hte : te.ok P e) {τ : Ty} (hsz : te.cells = esz τ) (ty : TypeId) {A A2 : Option Addr} {n cap m c : Nat} {olds news : List Value}
  (hold:∀ w':World,w'.heap = w.heap→(Builtin.firstCells (esz τ) n (.slice A n cap)).run P w' = .ok olds.toArray w') (hnew:∀ w':World,w'.heap = w.heap→(Builtin.firstCells (esz τ) m (.slice A2 m c)).run P w' = .ok news.toArray w')
  (hbytes:(n + m) * te.bytes≤140737488355328) (h63:n + m≤maxLen) :
  (n + m≤cap→∀ w',(match A with | some a=>storeCells (a.add (n * esz τ)) news | none=>pure ():Sem Unit).run P w = .ok () w'→(Builtin.append_ #[t,t'] ty #[.slice A n cap,.slice A2 m c]).run P w = .ok (.slice A (n + m) cap) w') ∧
  (cap < n + m→∃ z:Value,z.cells = te.zero.toArray∧(Builtin.append_ #[t,t'] ty #[.slice A n cap,.slice A2 m c]).run P w =
   .ok (.slice (some ⟨w.heap.size,0,none⟩) (n + m) (grownCap w (n + m) cap e)) (w.drew.alloc (.cells (olds.toArray++news.toArray++Builtin.zeroCells z.cells (grownCap w (n + m) cap e - (n + m))) e))):=by
 obtain ⟨i,z,hi,h1,h2,h3,h4⟩:=hte.info
 refine ⟨fun hroom w' hst=>?_,fun hgrow=>⟨z,h4,?_⟩⟩
 ·have hn:=hnew w rfl
  cases A with
  | none =>
   obtain rfl:w' = w:=by simpa using hst.symm
   simp [Builtin.append_,run_underlying ht,run_underlying ht',sizeOf,typeInfo,hi,Builtin.lenOf,hroom,h1,hsz,hn]
  | some ad =>
   simp [Builtin.append_,run_underlying ht,run_underlying ht',sizeOf,typeInfo,hi,Builtin.lenOf,hroom,h1,hsz,hn]
   simp at hst
   rw [hst]
   rfl
 ·have hn:¬ (n + m≤cap):=by omega
  have h63':¬ (9223372036854775807 < ((n:Int) + (m:Int))):=by unfold maxLen at h63; omega
  have h48':¬ (281474976710656 < Builtin.nextslicecap (n + m) cap * i.bytes):=by
   have:=growslice_fits hgrow hbytes
   rw [h2]
   omega
  have hf:=hnew w.drew rfl
  have hfo:=hold w.drew rfl
  simp [Builtin.append_,run_underlying ht,run_underlying ht',sizeOf,typeInfo,zeroValue,hi,h3,Builtin.lenOf,hn,h63',h48',Question.forced,h1,hsz,hf,hfo,newRow,grownCap]
  rw [show (olds++news).toArray = olds.toArray++news.toArray from by simp,Array.append_assoc]

theorem append_vec (hI : InvB W0 F X N s β a w) {t e t' e0 : TypeId} {te : TI} (ht : P.underlying t = some (.slice e)) (ht' : P.underlying t' = some (.slice e0)) (hte : te.ok P e) {τ : Ty} (hsz : te.cells = esz τ) (hz1 : te.zero.length = te.cells) (ty : TypeId)
  {id1 d:Nat} (hd:d < N) (hfree:Nm s d→d = id1) {l1 l2:List (den τ)} {u1 u2:Value}
  (h1:(l1 = []∧u1 = .slice none 0 0)∨(Nm s id1∧VecAt β (Own X s β) w id1 τ l1 u1)) (h2:SrcOK P (Own X s β) w τ l2 u2)
  (hbytes:(l1.length + l2.length) * te.bytes≤140737488355328) (h63:l1.length + l2.length≤maxLen) :
  ∃ u w' β',(Builtin.append_ #[t,t'] ty #[u1,u2]).run P w = .ok u w'∧InvB W0 F X N ((s.kill id1).put d (.vec d τ (l1++l2))) β' (a.put (some d) u) w' ∧
   ((∃ A c,u1 = .slice A l1.length c∧u = .slice A (l1++l2).length c)∨(¬ Nm s d→InvB W0 F X N ((s.kill d).put d (.vec d τ (l1++l2))) β' (a.put (some d) u) w')):=by
 obtain ⟨A2,c2,news,rfl,hn1,hn2,hn3⟩:=h2
 have hesz:0 < esz τ:=esz_pos τ
 -- the old slice
 have hold : ∃ A cap olds, u1 = .slice A l1.length cap ∧ All2 (Im (Own X s β) w) (flat τ l1) olds ∧ l1.length ≤ cap ∧
   (∀ w':World,w'.heap = w.heap→(Builtin.firstCells (esz τ) l1.length u1).run P w' = .ok olds.toArray w') ∧
   ((A = none∧cap = 0)∨∃ g cur e',A = some ⟨g,0,none⟩∧Nm s id1∧β id1 = some g∧w.heap[g]? = some (.cells cur e' (0,0))∧cap≤maxLen∧cur.size = cap * esz τ∧olds = cur.toList.take (l1.length * esz τ)):=by
  rcases h1 with ⟨rfl,rfl⟩ | ⟨hid,hv⟩
  ·exact ⟨none,0,[],rfl,All2.nil _,Nat.le_refl _,fun w' _=>by simp [Builtin.firstCells],.inl ⟨rfl,rfl⟩⟩
  ·rcases hv with ⟨rfl,rfl,_⟩ | ⟨g,c,cur,e',p1,rfl,p3,p4,p5,p6,p7⟩
   ·exact ⟨none,0,[],rfl,All2.nil _,Nat.le_refl _,fun w' _=>by simp [Builtin.firstCells],.inl ⟨rfl,rfl⟩⟩
   ·have hc:=vec_cells p6 p4 p7
    have hlen:(cur.toList.take (l1.length * esz τ)).length = l1.length * esz τ:=by rw [← hc.1,flat_length]
    refine ⟨_,c,_,rfl,hc,p4,fun w' hw=>?_,.inr ⟨g,cur,e',rfl,hid,p1,p3,p5,p6,rfl⟩⟩
    have:=loadCells_run P w' g 0 (cur.toList.take (l1.length * esz τ)) (fun j x hx=>by
     rw [cell_of_row w' g _ cur e' (0,0) (by rw [hw]; exact p3),Nat.zero_add]
     rw [List.getElem?_take] at hx
     split at hx
     ·simpa using hx
     ·cases hx)
    rw [hlen] at this
    simp only [Builtin.firstCells]
    exact this
 obtain ⟨A,cap,olds,rfl,ho1,ho2,ho3,ho4⟩:=hold
 have hnl:news.length = l2.length * esz τ:=by rw [← hn1.1,flat_length]
 have hol:olds.length = l1.length * esz τ:=by rw [← ho1.1,flat_length]
 have hgen:=run_append_gen (w:=w) ht ht' hte hsz ty ho3 hn3 hbytes h63
 have hall:All2 (Im (Own X s β) w) (flat τ (l1++l2)) (olds++news):=by rw [flat_append]; exact ho1.append hn1
 by_cases hroom:l1.length + l2.length≤cap
 ·rcases ho4 with ⟨rfl,rfl⟩ | ⟨g,cur,e',rfl,hid,hb,hh,hcm,hcs,hcur⟩
  ·-- nil and nothing
   have e1:l1 = []:=List.eq_nil_of_length_eq_zero (by omega)
   have e2:l2 = []:=List.eq_nil_of_length_eq_zero (by omega)
   subst e1 e2
   refine ⟨_,w,setβ β d none,hgen.1 hroom w rfl,?_,.inl ⟨_,_,rfl,rfl⟩⟩
   exact hI.newVec (Ow:=fun _=>False) hd hfree (Stp.refl _ _) (fun _ h=>h.elim) (fun g hg=>by cases hg) (fun O' _=>.inl ⟨rfl,rfl,by simp [setβ]⟩)
  ·-- in place
   have hfit:l1.length * esz τ + 0 + news.length≤cur.size:=by rw [hnl,hcs,Nat.add_zero,← Nat.add_mul]; exact Nat.mul_le_mul_right _ hroom
   have hst:=run_storeCells_at P g (l1.length * esz τ) e' news 0 cur w hh hfit hn2
   simp only [Nat.add_zero] at hst
   have hrun:=hgen.1 hroom _ (by simp only [add_none,Nat.zero_add]; exact hst)
   refine ⟨_,_,setβ β d (some g),hrun,?_,.inl ⟨_,_,rfl,by rw [List.length_append]⟩⟩
   have hcl:cur.toList.length = cur.size:=Array.length_toList
   refine hI.newVec (Ow:=fun k=>k = g) hd hfree (Stp.setRow w g _) (fun k hk=>⟨hid,by rw [hk]; exact hb⟩) (fun g' hg'=>?_) (fun O' hO'=>?_)
   ·injection hg' with hg'; subst hg'
    exact ⟨by have:=(hI.own id1 g hid hb).1; simpa [World.setRow] using this,.inl ⟨hid,hb⟩⟩
   ·have hstp:=Stp.setRow w g (cur.toList.take (l1.length * esz τ)++news++cur.toList.drop (l1.length * esz τ + news.length)).toArray
    have hall':All2 (Im O' (w.setRow g (cur.toList.take (l1.length * esz τ)++news++cur.toList.drop (l1.length * esz τ + news.length)).toArray)) (flat τ (l1++l2)) (olds++news) :=
     hall.mono fun _ _ _ _ him=>him.step hstp (fun k hk e=>.inr ⟨id1,hid,by rw [e]; exact hb⟩) hO'
    rw [show l1.length + l2.length = (l1++l2).length from by simp]
    refine vec_of (by simp [setβ]) (setRow_heap w g cur _ e' _ hh) (by simpa using hroom) hcm ?_ hall' (fun j x hx=>?_)
    ·simp only [List.size_toArray,List.length_append,List.length_take,List.length_drop,hcl]
     rw [← hcs]
     omega
    ·rw [← hcur]
     rw [List.getElem?_toArray,List.getElem?_append_left (by have:=(List.getElem?_eq_some_iff.1 hx).1; exact this)]
     exact hx
 ·-- a new array
  obtain ⟨z,hz,hrun⟩:=hgen.2 (by omega)
  have hzl:z.cells.size = esz τ:=by rw [hz]; simp [hz1,hsz]
  have hge:=grownCap_ge w (l1.length + l2.length) cap e
  have hcm:=grownCap_le_maxLen w (l1.length + l2.length) cap e h63
  have hstp:Stp (fun _=>False) w (w.drew.alloc (.cells (olds.toArray++news.toArray++Builtin.zeroCells z.cells (grownCap w (l1.length + l2.length) cap e - (l1.length + l2.length))) e)) :=
   (Stp.drew w).trans (Stp.alloc w.drew _) (fun _ _ h=>h)
  suffices hvn:∀ O':Nat→Prop,(∀ k,k < w.heap.size→O' k→Own X s β k)→VecAt (setβ β d (some w.heap.size)) O' (w.drew.alloc (.cells (olds.toArray++news.toArray++Builtin.zeroCells z.cells (grownCap w (l1.length + l2.length) cap e - (l1.length + l2.length))) e)) d τ (l1++l2) (.slice (some ⟨w.heap.size,0,none⟩) (l1.length + l2.length) (grownCap w (l1.length + l2.length) cap e)) from
   ⟨_,_,setβ β d (some w.heap.size),hrun,hI.newVec (Ow:=fun _=>False) hd hfree hstp (fun _ h=>h.elim) (fun g' hg'=>by injection hg' with hg'; subst hg'; exact ⟨by simp,.inr (Nat.le_refl _)⟩) hvn,
    .inr fun hnd=>hI.newVec (Ow:=fun _=>False) hd (fun h=>absurd h hnd) hstp (fun _ h=>h.elim) (fun g' hg'=>by injection hg' with hg'; subst hg'; exact ⟨by simp,.inr (Nat.le_refl _)⟩) hvn⟩
  intro O' hO'
  ·rw [show l1.length + l2.length = (l1++l2).length from by simp] at hge hcm ⊢
   have hall':=hall.mono (R':=Im O' (w.drew.alloc (.cells (olds.toArray++news.toArray++Builtin.zeroCells z.cells (grownCap w (l1++l2).length cap e - (l1++l2).length)) e))) fun _ _ _ _ him =>
    him.step (Ow:=fun _=>False) ((Stp.drew w).trans (Stp.alloc w.drew _) (fun _ _ h=>h)) (fun k _ h=>h.elim) hO'
   refine vec_of (by simp [setβ]) (heap_alloc_new w.drew _) hge hcm ?_ hall' (fun j x hx=>?_)
   ·simp only [Array.size_append,List.size_toArray,size_zeroCells,hzl,hol,hnl]
    rw [← Nat.add_mul,← Nat.add_mul]
    congr 1
    simp only [List.length_append] at hge ⊢
    omega
   ·have hj:j < (olds++news).length:=(List.getElem?_eq_some_iff.1 hx).1
    rw [Array.getElem?_append_left (by simpa using hj)]
    simpa using hx

theorem VecAt.pre {β:Nat→Option Nat} {O:Nat→Prop} {w:World} {id c:Nat} {τ:Ty} {l m:List (den τ)} {A:Option Addr} (h:VecAt β O w id τ (l++m) (.slice A (l++m).length c)):VecAt β O w id τ l (.slice A l.length c):=by
 rcases h with ⟨h1,h2,h3⟩ | ⟨g,c',cur,e,h1,h2,h3,h4,h5,h6,h7⟩
 ·obtain ⟨rfl,rfl⟩:=List.append_eq_nil_iff.1 h1
  exact .inl ⟨rfl,h2,h3⟩
 ·injection h2 with e1 _ e3
  subst e1 e3
  refine .inr ⟨g,c,cur,e,h1,rfl,h3,by rw [List.length_append] at h4; omega,h5,h6,fun i x j av hx hav=>h7 i x j av ?_ hav⟩
  rw [List.getElem?_append_left (List.getElem?_eq_some_iff.1 hx).1]
  exact hx
theorem put_same {d:Nat} {u:Value} (h:a.tmps.getD d undef = u) (hd:d < a.tmps.size):a.put (some d) u = a:=by
 subst h
 simp only [Act.put]
 congr 1
 apply Array.ext_getElem?
 intro i
 rw [Array.getElem?_setIfInBounds]
 split
 ·rename_i e; subst e; rw [Array.getElem?_eq_getElem hd]; simp
 ·rfl
theorem append_ln (hI : InvB W0 F X N s β a w) {t e t' e0 : TypeId} {te : TI} (ht : P.underlying t = some (.slice e)) (ht' : P.underlying t' = some (.slice e0)) (hte : te.ok P e) {τ : Ty} (hsz : te.cells = esz τ) (hz1 : te.zero.length = te.cells) (ty : TypeId)
  {id d q:Nat} (hd:d < N) (hq:q < N) (hne:d≠q) (hfree:¬ Nm s d) {l1 l2:List (den τ)} {u2:Value} (hp:look s.slots q = .ob id id (.ln τ l1)) (h2:SrcOK P (Own X s β) w τ l2 u2)
  (hbytes:(l1.length + l2.length) * te.bytes≤140737488355328) (h63:l1.length + l2.length≤maxLen) :
  ∃ u w' β',(Builtin.append_ #[t,t'] ty #[a.tmps.getD q undef,u2]).run P w = .ok u w'∧(InvB W0 F X N (((s.kill d).put d (.vec d τ (l1++l2))).put d (.ob d d (.ln τ (l1++l2)))) β' (a.put (some d) u) w' ∨
   InvB W0 F X N ((((s.kill id).put d (.vec d τ (l1++l2))).put d (.ob d d (.ln τ (l1++l2)))).put q (.ob d d (.ln τ l1))) β' (a.put (some d) u) w'):=by
 have hid:Nm s id:=.inr (.inl ⟨q,by rw [hp]; simp [ids,ids0]⟩)
 have hv:=hI.slots q
 rw [hp] at hv
 obtain ⟨u,w',β',h1,h3,h4⟩:=append_vec hI ht ht' hte hsz hz1 ty hd (fun h=>absurd h hfree) (.inr ⟨hid,(show β id = β id∧VecAt β (Own X s β) w id τ l1 _ from hv).2⟩) h2 hbytes h63
 refine ⟨u,w',β',h1,?_⟩
 have hd':(a.put (some d) u).tmps.getD d undef = u:=by rw [getD_put a d u (by rw [hI.size]; exact hd),if_pos rfl]
 have hln:∀ s1:St,InvB W0 F X N (s1.put d (.vec d τ (l1++l2))) β' (a.put (some d) u) w'→InvB W0 F X N ((s1.put d (.vec d τ (l1++l2))).put d (.ob d d (.ln τ (l1++l2)))) β' (a.put (some d) u) w':=fun s1 h3=>by
  have hr:=h3.slots d
  rw [hd',show look (s1.put d (.vec d τ (l1++l2))).slots d = .vec d τ (l1++l2) by simp [St.put,look_setL]] at hr
  have h5:=h3.put (v:=.ob d d (.ln τ (l1++l2))) hd (show Rel β' _ w' (.ob d d (.ln τ (l1++l2))) u from ⟨rfl,hr⟩) (fun n hn=>.inr (.inl ⟨d,by
   have:n = d:=by simpa [ids,ids0] using hn
   subst this
   simp [St.put,look_setL,ids,ids0]⟩))
  rw [put_same hd' (by rw [h3.size]; exact hd)] at h5
  exact h5
 rcases h4 with ⟨A,c,e1,e2⟩ | h4
 ·right
  have h3:=hln _ h3
  have hq':(a.put (some d) u).tmps.getD q undef = .slice A l1.length c:=by rw [getD_put a d u (by rw [hI.size]; exact hd),if_neg hne]; exact e1
  have hr:=h3.slots d
  rw [hd',e2,show look (((s.kill id).put d (.vec d τ (l1++l2))).put d (.ob d d (.ln τ (l1++l2)))).slots d = .ob d d (.ln τ (l1++l2)) by simp [St.put,look_setL]] at hr
  have h5:=h3.put (v:=.ob d d (.ln τ l1)) hq (show Rel β' _ w' (.ob d d (.ln τ l1)) (.slice A l1.length c) from ⟨rfl,VecAt.pre (show β' d = β' d∧VecAt β' _ w' d τ (l1++l2) _ from hr).2⟩) (fun n hn=>.inr (.inl ⟨d,by
   have:n = d:=by simpa [ids,ids0] using hn
   subst this
   simp [St.put,look_setL,ids,ids0]⟩))
  rw [put_same hq' (by rw [h3.size]; exact hq)] at h5
  exact h5
 ·exact .inl (hln _ (h4 hfree))

theorem vec_tail {O : Nat → Prop} {w : World} {g k : Nat} {τ : Ty} {l : List (den τ)} {cur : Array Value} {e' : TypeId} (hh : w.heap[g]? = some (.cells cur e' (0, 0))) (hk : k ≤ l.length)
  (hus:All2 (Im O w) (flat τ l) (cur.toList.take (l.length * esz τ))) :
  All2 (Im O w) (flat τ (l.drop k)) ((cur.toList.take (l.length * esz τ)).drop (k * esz τ)) ∧
   ∀ w':World,w'.heap = w.heap→(loadCells ⟨g,k * esz τ,none⟩ ((l.length - k) * esz τ)).run P w' = .ok ((cur.toList.take (l.length * esz τ)).drop (k * esz τ)).toArray w':=by
 have hfl:(flat τ (l.take k)).length = k * esz τ:=by rw [flat_length,List.length_take,Nat.min_eq_left hk]
 have hsplit:flat τ l = flat τ (l.take k)++flat τ (l.drop k):=by rw [← flat_append,List.take_append_drop]
 have hlen:(cur.toList.take (l.length * esz τ)).length = l.length * esz τ:=by rw [← hus.1,flat_length]
 refine ⟨⟨by rw [List.length_drop,hlen,flat_length,List.length_drop,Nat.sub_mul],fun j av u hav hu=>?_⟩,fun w' hw=>?_⟩
 ·rw [List.getElem?_drop] at hu
  refine hus.2 (k * esz τ + j) av u ?_ hu
  rw [hsplit,List.getElem?_append_right (by omega),hfl,Nat.add_sub_cancel_left]
  exact hav
 ·have := loadCells_run P w' g (k * esz τ) ((cur.toList.take (l.length * esz τ)).drop (k * esz τ)) (fun j x hx => by
   rw [cell_of_row w' g _ cur e' (0,0) (by rw [hw]; exact hh)]
   rw [List.getElem?_drop,List.getElem?_take] at hx
   split at hx
   ·simpa using hx
   ·cases hx)
  rw [List.length_drop,hlen,← Nat.sub_mul] at this
  exact this

theorem append_suf (hI : InvB W0 F X N s β a w) {t e t' e0 : TypeId} {te : TI} (ht : P.underlying t = some (.slice e)) (ht' : P.underlying t' = some (.slice e0)) (hte : te.ok P e) {τ : Ty} (hsz : te.cells = esz τ) (hz1 : te.zero.length = te.cells) (ty : TypeId)
  {id1 d:Nat} (hd:d < N) (hfree:Nm s d→d = id1) {l1 l2:List (den τ)} {k:Nat} {u1 u2:Value}
  (hid:Nm s id1) (h1:VsAt β (Own X s β) w id1 τ l1 k u1) (h2:Im (Own X s β) w (.rd τ l2) u2)
  (hbytes:(l1.length - k + l2.length) * te.bytes≤140737488355328) (h63:l1.length - k + l2.length≤maxLen) :
  ∃ u w' β' pre,pre.length≤k∧(Builtin.append_ #[t,t'] ty #[u1,u2]).run P w = .ok u w'∧InvB W0 F X N ((s.kill id1).put d (.vs d τ (pre++(l1.drop k++l2)) pre.length)) β' (a.put (some d) u) w':=by
 obtain ⟨A2,c2,news,rfl,hn1,hn2,hn3⟩:=src_cells h2
 have hesz:0 < esz τ:=esz_pos τ
 obtain ⟨hk,v',hv,hsuf⟩:=h1
 have hnl:news.length = l2.length * esz τ:=by rw [← hn1.1,flat_length]
 -- the old slice
 have hold : ∃ A cap olds, u1 = .slice A (l1.length - k) cap ∧ All2 (Im (Own X s β) w) (flat τ (l1.drop k)) olds ∧ l1.length - k ≤ cap ∧
   (∀ w':World,w'.heap = w.heap→(Builtin.firstCells (esz τ) (l1.length - k) u1).run P w' = .ok olds.toArray w') ∧
   (cap = 0∨∃ g c cur e',0 < cap∧cap = c - k∧A = some ⟨g,k * esz τ,none⟩∧β id1 = some g∧w.heap[g]? = some (.cells cur e' (0,0))∧l1.length≤c∧c≤maxLen∧cur.size = c * esz τ∧All2 (Im (Own X s β) w) (flat τ l1) (cur.toList.take (l1.length * esz τ))):=by
  rcases hv with ⟨rfl,rfl,_⟩ | ⟨g,c,cur,e',p1,rfl,p3,p4,p5,p6,p7⟩
  ·rcases hsuf with ⟨rfl,rfl⟩ | ⟨g,n,c,ad,h3,_⟩
   ·exact ⟨none,0,[],rfl,All2.nil _,Nat.le_refl _,fun w' _=>by simp [Builtin.firstCells],.inl rfl⟩
   ·cases h3
  ·have hc:=vec_cells p6 p4 p7
   obtain ⟨ht1,ht2⟩:=vec_tail (P:=P) p3 hk hc
   rcases hsuf with ⟨rfl,rfl⟩ | ⟨g',n,c',ad,h3,rfl,h5⟩
   ·refine ⟨_,c,_,rfl,ht1,by omega,fun w' hw=>?_,?_⟩
    ·have:=ht2 w' hw
     simp only [Builtin.firstCells,Nat.zero_mul,Nat.sub_zero] at this ⊢
     exact this
    ·by_cases hc0:c = 0
     ·exact .inl hc0
     ·exact .inr ⟨g,c,cur,e',by omega,rfl,by rw [Nat.zero_mul],p1,p3,p4,p5,p6,hc⟩
   ·cases h3
    by_cases hkc:k < c
    ·have had:=h5 hkc
     subst had
     refine ⟨_,c - k,_,rfl,ht1,by omega,fun w' hw=>?_,.inr ⟨g,c,cur,e',by omega,rfl,rfl,p1,p3,p4,p5,p6,hc⟩⟩
     have:=ht2 w' hw
     simp only [Builtin.firstCells]
     exact this
    ·refine ⟨_,c - k,_,rfl,ht1,by omega,fun w' hw=>?_,.inl (by omega)⟩
     have hz:l1.length - k = 0:=by omega
     have hz2:(List.drop (k * esz τ) (List.take (l1.length * esz τ) cur.toList)) = []:=by
      refine List.drop_eq_nil_of_le ?_
      rw [List.length_take]
      exact Nat.le_trans (Nat.min_le_left _ _) (Nat.mul_le_mul_right _ (by omega))
     rw [hz,hz2]
     simp [Builtin.firstCells,loadCells,loadCellsFrom]
 obtain ⟨A,cap,olds,rfl,ho1,ho2,ho3,ho4⟩:=hold
 have hol:olds.length = (l1.length - k) * esz τ:=by rw [← ho1.1,flat_length,List.length_drop]
 have hgen:=run_append_gen (w:=w) ht ht' hte hsz ty ho3 hn3 hbytes h63
 by_cases hroom:l1.length - k + l2.length≤cap
 ·by_cases he:l2 = []
  ·-- nothing
   subst he
   have hn0:news = []:=List.eq_nil_of_length_eq_zero (by simpa using hnl)
   subst hn0
   refine ⟨_,w,setβ β d (β id1),l1.take k,by rw [List.length_take]; omega,hgen.1 hroom w (by cases A<;>simp [storeCells]),?_⟩
   refine hI.newAv (Ow:=fun _=>False) hd hfree (Stp.refl _ _) (fun _ h=>h.elim) (fun g hg=>⟨(hI.own id1 g hid hg).1,.inl ⟨hid,hg⟩⟩) (by simp [ids,ids0]) (fun O' hO'=>?_)
   rw [List.append_nil,List.take_append_drop,List.length_take,Nat.min_eq_left hk]
   refine ⟨hk,v',?_,hsuf⟩
   rcases hv with ⟨p1,p2,p3⟩ | ⟨g,c,cur,e',p1,p2,p3,p4,p5,p6,p7⟩
   ·exact .inl ⟨p1,p2,by simp [setβ,p3]⟩
   ·refine .inr ⟨g,c,cur,e',by simp [setβ,p1],p2,p3,p4,p5,p6,fun i x j av hx hav=>?_⟩
    obtain ⟨u,hu,him⟩:=p7 i x j av hx hav
    exact ⟨u,hu,him.step (Ow:=fun _=>False) (Stp.refl _ _) (fun _ _ h=>h.elim) hO'⟩
  ·have hl2:0 < l2.length:=List.length_pos_iff.2 he
   rcases ho4 with h0 | ⟨g,c,cur,e',hcap,rfl,rfl,hb,hh,hlc,hcm,hcs,hcur⟩
   ·omega
   ·-- in place
    have hcl:cur.toList.length = cur.size:=Array.length_toList
    have hfit:l1.length * esz τ + 0 + news.length≤cur.size:=by rw [hnl,hcs,Nat.add_zero,← Nat.add_mul]; exact Nat.mul_le_mul_right _ (by omega)
    have hst:=run_storeCells_at P g (l1.length * esz τ) e' news 0 cur w hh hfit hn2
    simp only [Nat.add_zero] at hst
    have hadr:k * esz τ + (l1.length - k) * esz τ = l1.length * esz τ:=by rw [← Nat.add_mul]; congr 1; omega
    have hrun:=hgen.1 hroom _ (by simp only [add_none,hadr]; exact hst)
    refine ⟨_,_,setβ β d (some g),l1.take k,by rw [List.length_take]; omega,hrun,?_⟩
    refine hI.newAv (Ow:=fun k=>k = g) hd hfree (Stp.setRow w g _) (fun k hk=>⟨hid,by rw [hk]; exact hb⟩) (fun g' hg'=>?_) (by simp [ids,ids0]) (fun O' hO'=>?_)
    ·injection hg' with hg'; subst hg'
     exact ⟨by have:=(hI.own id1 g hid hb).1; simpa [World.setRow] using this,.inl ⟨hid,hb⟩⟩
    ·have hstp:=Stp.setRow w g (cur.toList.take (l1.length * esz τ)++news++cur.toList.drop (l1.length * esz τ + news.length)).toArray
     have hall:All2 (Im (Own X s β) w) (flat τ (l1++l2)) (cur.toList.take (l1.length * esz τ)++news):=by rw [flat_append]; exact hcur.append hn1
     have hall':All2 (Im O' (w.setRow g (cur.toList.take (l1.length * esz τ)++news++cur.toList.drop (l1.length * esz τ + news.length)).toArray)) (flat τ (l1++l2)) (cur.toList.take (l1.length * esz τ)++news) :=
      hall.mono fun _ _ _ _ him=>him.step hstp (fun k hk e=>.inr ⟨id1,hid,by rw [e]; exact hb⟩) hO'
     rw [← List.append_assoc,List.take_append_drop,List.length_take,Nat.min_eq_left hk]
     refine ⟨by simp only [List.length_append]; omega,.slice (some ⟨g,0,none⟩) (l1++l2).length c,?_,.inr ⟨g,_,c,_,rfl,?_,fun _=>rfl⟩⟩
     ·refine vec_of (by simp [setβ]) (setRow_heap w g cur _ e' _ hh) (by simp only [List.length_append]; omega) hcm ?_ hall' (fun j x hx=>?_)
      ·simp only [List.size_toArray,List.length_append,List.length_take,List.length_drop,hcl]
       rw [← hcs]
       omega
      ·rw [List.getElem?_toArray,List.getElem?_append_left (by have:=(List.getElem?_eq_some_iff.1 hx).1; exact this)]
       exact hx
     ·simp only [List.length_append]
      congr 1
      omega
 ·-- a new array
  obtain ⟨z,hz,hrun⟩:=hgen.2 (by omega)
  have hzl:z.cells.size = esz τ:=by rw [hz]; simp [hz1,hsz]
  have hge:=grownCap_ge w (l1.length - k + l2.length) cap e
  have hcm:=grownCap_le_maxLen w (l1.length - k + l2.length) cap e h63
  refine ⟨_,_,setβ β d (some w.heap.size),[],Nat.zero_le _,hrun,?_⟩
  have hstp:Stp (fun _=>False) w (w.drew.alloc (.cells (olds.toArray++news.toArray++Builtin.zeroCells z.cells (grownCap w (l1.length - k + l2.length) cap e - (l1.length - k + l2.length))) e)) :=
   (Stp.drew w).trans (Stp.alloc w.drew _) (fun _ _ h=>h)
  have hall:All2 (Im (Own X s β) w) (flat τ (l1.drop k++l2)) (olds++news):=by rw [flat_append]; exact ho1.append hn1
  refine hI.newAv (Ow:=fun _=>False) hd hfree hstp (fun _ h=>h.elim) (fun g' hg'=>?_) (by simp [ids,ids0]) (fun O' hO'=>?_)
  ·injection hg' with hg'; subst hg'
   exact ⟨by simp,.inr (Nat.le_refl _)⟩
  ·rw [List.nil_append,List.length_nil]
   refine ⟨Nat.zero_le _,_,?_,.inl ⟨rfl,rfl⟩⟩
   rw [show l1.length - k + l2.length = (l1.drop k++l2).length from by simp] at hge hcm ⊢
   have hall':=hall.mono (R':=Im O' (w.drew.alloc (.cells (olds.toArray++news.toArray++Builtin.zeroCells z.cells (grownCap w (l1.drop k++l2).length cap e - (l1.drop k++l2).length)) e))) fun _ _ _ _ him =>
    him.step (Ow:=fun _=>False) ((Stp.drew w).trans (Stp.alloc w.drew _) (fun _ _ h=>h)) (fun k _ h=>h.elim) hO'
   refine vec_of (by simp [setβ]) (heap_alloc_new w.drew _) hge hcm ?_ hall' (fun j x hx=>?_)
   ·simp only [Array.size_append,List.size_toArray,size_zeroCells,hzl,hol,hnl]
    rw [← Nat.add_mul,← Nat.add_mul]
    congr 1
    simp only [List.length_append,List.length_drop] at hge ⊢
    omega
   ·have hj:j < (olds++news).length:=(List.getElem?_eq_some_iff.1 hx).1
    rw [Array.getElem?_append_left (by simpa using hj)]
    simpa using hx
end
end Go.SX
end
section
namespace Go.SX
variable [Globs]
section
variable {P:Program} {N:Nat} {Γ:Ctx} {W0:World} {F:Fr} {X:Nat→Prop} {s:St} {β:Nat→Option Nat} {a:Act} {w:World}

theorem fold_splice (v : List Value) : ∀ (k off : Nat) (cs : Array Value), off + k + v.length ≤ cs.size →
  (v.zipIdx k).foldl (fun (cs:Array Value) (x:Value × Nat)=>cs.setIfInBounds (off + x.2) x.1) cs = (cs.toList.take (off + k)++v++cs.toList.drop (off + k + v.length)).toArray:=by
 induction v with
 | nil=>intro k off cs h; simp
 | cons x r ih =>
  intro k off cs h
  simp only [List.length_cons] at h
  simp only [List.zipIdx_cons,List.foldl_cons]
  rw [ih (k + 1) off _ (by simp; omega)]
  apply Array.ext'
  simp only [Array.toList_setIfInBounds]
  apply List.ext_getElem?
  intro j
  have hl:(cs.toList.take (off + k)).length = off + k:=by simp; omega
  have hl2:((cs.toList.set (off + k) x).take (off + (k + 1))).length = off + k + 1:=by simp; omega
  by_cases h1:j < off + k
  ·rw [List.append_assoc,List.append_assoc,List.getElem?_append_left (by omega),List.getElem?_append_left (by omega)]
   rw [List.getElem?_take,List.getElem?_take,if_pos (by omega),if_pos h1,List.getElem?_set_ne (by omega)]
  ·by_cases h2:j = off + k
   ·subst h2
    rw [List.append_assoc,List.append_assoc,List.getElem?_append_left (by omega),List.getElem?_append_right (l₁:=cs.toList.take (off + k)) (by omega),hl,Nat.sub_self]
    rw [List.getElem?_take,if_pos (by omega),List.getElem?_set_self (by simp; omega)]
    rfl
   ·rw [List.append_assoc,List.append_assoc,List.getElem?_append_right (l₁:=(cs.toList.set (off + k) x).take (off + (k + 1))) (by omega),hl2,List.getElem?_append_right (l₁:=cs.toList.take (off + k)) (by omega),hl]
    have e1:j - (off + k + 1) + 1 = j - (off + k):=by omega
    rw [← e1]
    simp only [List.cons_append,List.getElem?_cons_succ]
    by_cases h3:j - (off + k + 1) < r.length
    ·rw [List.getElem?_append_left h3,List.getElem?_append_left h3]
    ·rw [List.getElem?_append_right (by omega),List.getElem?_append_right (by omega),List.getElem?_drop,List.getElem?_drop,List.getElem?_set_ne (by omega)]
     congr 1
     simp only [List.length_cons]
     omega
theorem fold_splice' (v cs : Array Value) (off : Nat) (h : off + v.size ≤ cs.size) :
  v.zipIdx.foldl (fun (cs:Array Value) (x:Value × Nat)=>cs.setIfInBounds (off + x.2) x.1) cs = (cs.toList.take off++v.toList++cs.toList.drop (off + v.size)).toArray:=by
 have:=fold_splice v.toList 0 off cs (by simpa using h)
 rw [← Array.foldl_toList,Array.toList_zipIdx]
 simpa using this

def fillK (plK:Nat→(Nat × Nat→Prop)→Prop):List AV→List (Nat × AV)→(List AV→Prop)→Prop
 | cells,[],K=>K cells
 | cells,(i,v)::r,K=>plK i fun d=>cellsK v fun cs=>chkK (Nat.beq cs.length d.2) (spliceK cells d.1 cs fun cells=>fillK plK cells r K)
def partsK (s:St):List (Nat × Operand)→(List (Nat × AV)→Prop)→Prop
 | [],K=>K []
 | (i,x)::r,K=>evK s x fun v=>partsK s r fun l=>K ((i,v)::l)
def parts (s:St):List (Nat × Operand)→List (Nat × AV)
 | []=>[]
 | (i,x)::r=>(i,ev s x)::parts s r
theorem partsK_eq (s:St) (l:List (Nat × Operand)):∀ K,partsK s l K = K (parts s l):=by
 induction l with
 | nil=>intro K; rfl
 | cons p r ih=>intro K; obtain ⟨i,x⟩:=p; simp only [partsK,parts,evK_eq,ih]
def opVecs (s:St):List (Nat × Operand)→List Nat
 | []=>[]
 | (_,x)::r=>match ev s x with
  | .vec id _ _=>id::opVecs s r
  | .vs id _ _ _=>id::opVecs s r
  | _=>opVecs s r
def opVecsK (s:St):List (Nat × Operand)→(List Nat→Prop)→Prop
 | [],K=>K []
 | (_,x)::r,K=>evK s x fun v=>match v with
  | .vec id _ _=>opVecsK s r fun l=>K (id::l)
  | .vs id _ _ _=>opVecsK s r fun l=>K (id::l)
  | _=>opVecsK s r K
theorem opVecsK_eq (s:St) (l:List (Nat × Operand)):∀ K,opVecsK s l K = K (opVecs s l):=by
 induction l with
 | nil=>intro K; rfl
 | cons p r ih =>
  intro K
  obtain ⟨i,x⟩:=p
  have h1:opVecsK s ((i,x)::r) K = (match ev s x with
   | .vec id _ _=>opVecsK s r fun l=>K (id::l)
   | .vs id _ _ _=>opVecsK s r fun l=>K (id::l)
   | _=>opVecsK s r K):=by
   show evK s x _ = _
   rw [evK_eq]
  have h2:opVecs s ((i,x)::r) = (match ev s x with
   | .vec id _ _=>id::opVecs s r
   | .vs id _ _ _=>id::opVecs s r
   | _=>opVecs s r):=rfl
  rw [h1,h2]
  cases ev s x<;>simp [ih]
theorem InvB.frzAll (h:InvB W0 F X N s β a w):∀ l,InvB W0 F X N (frzAll l s) β a w:=by
 intro l
 induction l generalizing s with
 | nil=>exact h
 | cons n r ih=>exact ih (h.frz n)

theorem fill_ok (hI : InvB W0 F X N s β a w) {plK : Nat → (Nat × Nat → Prop) → Prop} {place : Nat → Option (Nat × Nat)} (hpl : ∀ i K, plK i K → ∃ d, place i = some d ∧ K d) (ps : List (Nat × Operand)) :
  ∀ (cells:List AV) (us:Array Value) (K:List AV→Prop),All2 (RelC β (Own X s β) w) cells us.toList→(∀ c ∈ cells,∀ n ∈ ids c,Nm s n)→fillK plK cells (parts s ps) K →
   ∃ cells' us',K cells'∧Instr.fill place us (ps.map fun p=>(p.1,a.eval p.2)) = some us'∧All2 (RelC β (Own X s β) w) cells' us'.toList∧(∀ c ∈ cells',∀ n ∈ ids c,Nm s n)∧us'.size = us.size:=by
 induction ps with
 | nil=>intro cells us K h hids hK; exact ⟨cells,us,hK,rfl,h,hids,rfl⟩
 | cons p r ih =>
  intro cells us K h hids hK
  obtain ⟨i,x⟩:=p
  obtain ⟨d,hd,hK⟩:=hpl i _ (show plK i fun d=>cellsK (ev s x) fun cs=>chkK (Nat.beq cs.length d.2) (spliceK cells d.1 cs fun cells=>fillK plK cells (parts s r) K) from hK)
  obtain ⟨cs,hK,h1,h2,h3⟩:=cells_ok (ev_rel hI x).1 (ev_rel hI x).2 hK
  obtain ⟨hsz,hK⟩:=(chkK_iff _ _).1 hK
  obtain ⟨hle,hK⟩:=spliceK_iff _ _ _ _ hK
  have hlen:cs.length = (a.eval x).cells.size:=by rw [h1.1]; simp
  have hlenc:cells.length = us.size:=by rw [h.1]; simp
  have hd2:(a.eval x).cells.size = d.2:=by rw [← hlen]; exact Nat.eq_of_beq_eq_true hsz
  have hfit:d.1 + (a.eval x).cells.size≤us.size:=by rw [← hlen,← hlenc]; exact hle
  have hnew:All2 (RelC β (Own X s β) w) (cells.take d.1++cs++cells.drop (d.1 + cs.length)) (us.toList.take d.1++(a.eval x).cells.toList++us.toList.drop (d.1 + (a.eval x).cells.size)).toArray.toList:=by
   have:=All2.splice h h1 d.1 hle
   simpa using this
  obtain ⟨cells',us',k1,k2,k3,k4,k5⟩:=ih _ _ K hnew (fun c hc n hn=>by
   rcases List.mem_append.1 hc with hc | hc
   ·rcases List.mem_append.1 hc with hc | hc
    ·exact hids c (List.mem_of_mem_take hc) n hn
    ·exact h2 c hc n hn
   ·exact hids c (List.mem_of_mem_drop hc) n hn) hK
  have hul:us.toList.length = us.size:=Array.length_toList
  refine ⟨cells',us',k1,?_,k3,k4,?_⟩
  ·have hcond : ((a.eval x).cells.size != d.2 || decide (us.size < d.1 + (a.eval x).cells.size)) = false := by
    simp [hd2]; omega
   have hcond':((a.eval x).cells.size != d.2 || decide (d.1 + (a.eval x).cells.size > us.size)) = false:=hcond
   simp only [List.map_cons,Instr.fill,hd]
   rw [if_neg (by
    simp only [ne_eq,Bool.or_eq_true,decide_eq_true_eq,hd2,not_true_eq_false,false_or]
    omega),fold_splice' _ _ _ hfit]
   exact k2
  ·rw [k5]
   simp only [List.size_toArray,List.length_append,List.length_take,List.length_drop,hul,Array.length_toList]
   omega
end
end Go.SX
end
section
namespace Go.SX
variable [Globs]
section
variable {P:Program} {N:Nat} {Γ:Ctx} {W0:World} {F:Fr} {X:Nat→Prop} {s:St} {β:Nat→Option Nat} {a:Act} {w:World}

theorem places_run {fs : List Field} (h : ∀ f ∈ fs, fieldOk P f = true) (w : World) :
  (fs.mapM (fun f=>do pure (f.offset,← sizeOf f.type):Field→Sem (Nat × Nat))).run P w = .ok (fs.map fun f=>(f.offset,P.cellsOf f.type)) w:=by
 induction fs with
 | nil=>rfl
 | cons f r ih =>
  obtain ⟨_,⟨i,hi⟩,_⟩:=fieldOk_spec (h f (List.mem_cons_self ..))
  have h1:(sizeOf f.type).run P w = .ok (P.cellsOf f.type) w:=by simp [sizeOf,typeInfo,hi,Program.cellsOf]
  have h2:=ih fun g hg=>h g (List.mem_cons_of_mem _ hg)
  rw [List.mapM_cons]
  simp only [Sem.run_bind,h1,Result.andThen_ok,Sem.run_pure] at h2 ⊢
  rw [h2]
  rfl

def buildFK (Γ:Ctx) (N:Nat) (s:St) (t:TypeId) (ps:List (Nat × Operand)) (dst:Option Nat) (K:St→Prop):Prop :=
 opVecsK s ps fun ids=>frzAllK ids s fun s=>tiK Γ t fun ti=>structK ti.desc fun fl=>ofValsK ti.zero fun z=>partsK s ps fun l=>fillK (nthK fl) z l fun cs=>plainCK cs fun cs=>stPutK N s dst (.agg cs) K

theorem buildF_ok (hΓ : Γ.ok P) (hone : ∀ p ∈ Γ, ∀ v ∈ p.2.zero, v.oneCell' = true) (hI : InvB W0 F X N s β a w) {o : Oper} {t : TypeId} {ps : Array (Nat × Operand)} (ho : o.op = .build t ps) {K : St → Prop} (h : buildFK Γ N s t ps.toList o.dst K)
  {next:Act→World→Prop} {Q:Exit→Act→World→Prop} (hn:∀ s' a' w',K s'→Inv W0 F X N s' a' w'→next a' w'):o.wp P a w next Q:=by
 unfold buildFK at h
 rw [opVecsK_eq,frzAllK_eq] at h
 have hI1:=hI.frzAll (opVecs s ps.toList)
 obtain ⟨ti,hmem,h⟩:=tiK_mem h
 have hti:=hΓ _ hmem
 obtain ⟨fl,fs,h,hu,h3,h4⟩:=struct_ok hti h
 rw [ofValsK_eq,partsK_eq] at h
 obtain ⟨z,hz,hzc⟩:=hti.zeroValue w
 have hr:All2 (RelC β (Own X (frzAll (opVecs s ps.toList) s) β) w) (ofVals ti.zero) z.cells.toList:=by
  rw [hzc]; exact ofVals_all2 _ _ (hone _ hmem)
 obtain ⟨cs,us,hK,hf,hrel,hids,_⟩:=fill_ok hI1 (place:=fun i=>fl[i]?) (fun i K h=>(nthK_iff fl i K).1 h) ps.toList _ _ _ hr (fun c hc n hn=>by rw [ofVals_ids _ c hc] at hn; cases hn) h
 rw [plainCK_eq] at hK
 have him:=plainC_im (hrel.mono fun _ _ _ _ h=>h.1)
 refine valIm_ok hI1 (Stp.refl _ _) (u:=.agg us) hK hn ?_ ?_
 ·have hpl:=places_run (P:=P) (fs:=fs.toList) (fun f hf=>h4 f (by simpa using hf)) w
  have hps:(ps.map fun (p:Nat × Operand)=>(p.1,a.eval p.2)).toList = ps.toList.map fun p=>(p.1,a.eval p.2):=by simp
  have hz':z.cells = ti.zero.toArray:=hzc
  simp only [execOp,ho,Instr.build,Sem.run_bind,hz,Result.andThen_ok,run_underlying hu,Array.mapM_eq_mapM_toList,Sem.run_map]
  rw [hpl]
  simp only [Result.andThen_ok,hps]
  have hplace:(fun x:Nat=>(List.toArray (fs.toList.map fun f=>(f.offset,P.cellsOf f.type)))[x]?) = fun i=>fl[i]?:=by
   funext i; rw [h3]; simp
  rw [hplace,hf]
  simp
 ·have:us = us.toList.toArray:=by simp
  rw [this]
  refine .agg _ _ him.1 (fun u hu=>?_) him.2
  obtain ⟨j,hj,rfl⟩:=List.getElem_of_mem hu
  have hj':j < cs.length:=by rw [hrel.1]; exact hj
  exact (hrel.2 j _ _ (List.getElem?_eq_getElem hj') (List.getElem?_eq_getElem hj)).2

def buildAK (Γ:Ctx) (N:Nat) (s:St) (t:TypeId) (ps:List (Nat × Operand)) (dst:Option Nat) (K:St→Prop):Prop :=
 tiK Γ t fun ti=>structK ti.desc fun fl=>ofValsK ti.zero fun z=>partsK s ps fun l=>fillK (nthK fl) z l fun cs=>match cs with
  | [.vec id τ l]=>stPutK N s dst (.ag 0 [.vec id τ l]) K
  | _=>False
def buildK (Γ:Ctx) (N:Nat) (s:St) (t:TypeId) (ps:List (Nat × Operand)) (dst:Option Nat) (K:St→Prop):Prop :=
 match ps with
 | [(_,x)]=>evK s x fun v=>match v with
  | .vec _ _ _=>tiK Γ t fun ti=>match Nat.beq ti.cells 1 with
   | true=>buildAK Γ N s t ps dst K
   | false=>buildFK Γ N s t ps dst K
  | _=>buildFK Γ N s t ps dst K
 | _=>buildFK Γ N s t ps dst K
theorem buildK_cases {t:TypeId} {ps:List (Nat × Operand)} {dst:Option Nat} {K:St→Prop} (h:buildK Γ N s t ps dst K):buildFK Γ N s t ps dst K∨buildAK Γ N s t ps dst K:=by
 unfold buildK at h
 split at h
 ·rw [evK_eq] at h
  split at h
  ·obtain ⟨ti,_,h⟩:=tiK_mem h
   split at h
   ·exact .inr h
   ·exact .inl h
  ·exact .inl h
 ·exact .inl h
theorem buildK_of {t:TypeId} {ps:List (Nat × Operand)} {dst:Option Nat} {K:St→Prop} (hn:opVecs s ps = []) (h:buildFK Γ N s t ps dst K):buildK Γ N s t ps dst K:=by
 unfold buildK
 split
 ·rename_i i x
  rw [evK_eq]
  split
  ·rename_i id τ l e
   have:opVecs s [(i,x)] = [id]:=by simp [opVecs,e]
   rw [this] at hn; cases hn
  ·exact h
 ·exact h
theorem build_ok (hΓ : Γ.ok P) (hone : ∀ p ∈ Γ, ∀ v ∈ p.2.zero, v.oneCell' = true) (hI : InvB W0 F X N s β a w) {o : Oper} {t : TypeId} {ps : Array (Nat × Operand)} (ho : o.op = .build t ps) {K : St → Prop} (h : buildK Γ N s t ps.toList o.dst K)
  {next:Act→World→Prop} {Q:Exit→Act→World→Prop} (hn:∀ s' a' w',K s'→Inv W0 F X N s' a' w'→next a' w'):o.wp P a w next Q:=by
 rcases buildK_cases h with h | h
 ·exact buildF_ok hΓ hone hI ho h hn
 unfold buildAK at h
 obtain ⟨ti,hmem,h⟩:=tiK_mem h
 have hti:=hΓ _ hmem
 obtain ⟨fl,fs,h,hu,h3,h4⟩:=struct_ok hti h
 rw [ofValsK_eq,partsK_eq] at h
 obtain ⟨z,hz,hzc⟩:=hti.zeroValue w
 have hr:All2 (RelC β (Own X s β) w) (ofVals ti.zero) z.cells.toList:=by
  rw [hzc]; exact ofVals_all2 _ _ (hone _ hmem)
 obtain ⟨cs,us,hK,hf,hrel,hids,_⟩:=fill_ok hI (place:=fun i=>fl[i]?) (fun i K h=>(nthK_iff fl i K).1 h) ps.toList _ _ _ hr (fun c hc n hn=>by rw [ofVals_ids _ c hc] at hn; cases hn) h
 split at hK
 ·rename_i id τ l
  have hus:us = us.toList.toArray:=by simp
  obtain ⟨s', h1, h2⟩ := put_ok hI (u := .agg us) hK (by rw [hus]; exact ⟨us.toList, by simp [shape], hrel.mono fun j c v hc hv => by
    cases j with
    | zero=>simp at hc; subst hc; exact hv.1
    | succ j=>simp at hc,fun u hu=>by
     obtain ⟨j,hj,rfl⟩:=List.getElem_of_mem hu
     have hj':j < [AV.vec id τ l].length:=by rw [hrel.1]; exact hj
     exact (hrel.2 j _ _ (List.getElem?_eq_getElem hj') (List.getElem?_eq_getElem hj)).2⟩) (fun n hn=>hids (.vec id τ l) (by simp) n (by simpa [ids] using hn))
  refine wp_val ?_ (hn _ _ _ h1 ⟨β,h2⟩)
  have hpl:=places_run (P:=P) (fs:=fs.toList) (fun f hf=>h4 f (by simpa using hf)) w
  have hps:(ps.map fun (p:Nat × Operand)=>(p.1,a.eval p.2)).toList = ps.toList.map fun p=>(p.1,a.eval p.2):=by simp
  have hz':z.cells = ti.zero.toArray:=hzc
  simp only [execOp,ho,Instr.build,Sem.run_bind,hz,Result.andThen_ok,run_underlying hu,Array.mapM_eq_mapM_toList,Sem.run_map]
  rw [hpl]
  simp only [Result.andThen_ok,hps]
  have hplace:(fun x:Nat=>(List.toArray (fs.toList.map fun f=>(f.offset,P.cellsOf f.type)))[x]?) = fun i=>fl[i]?:=by
   funext i; rw [h3]; simp
  rw [hplace,hf]
  simp
 ·exact hK.elim

def decs (τ:Ty):Nat→List AV→Option (List (den τ))
 | 0,_=>some []
 | n + 1,cs=>(dec τ (cs.take (esz τ))).bind fun x=>(decs τ n (cs.drop (esz τ))).bind fun r=>some (x::r)
def optK {α:Type}:Option α→(α→Prop)→Prop
 | some a,K=>K a
 | none,_=>False
theorem optK_iff {α:Type} (x:Option α) (K:α→Prop):optK x K↔∃ a,x = some a∧K a:=by cases x<;>simp [optK]
theorem decs_le {τ:Ty} {n:Nat} {cs:List AV} {l:List (den τ)} (h:decs τ n cs = some l) (hl:cs.length = n * esz τ):AVles cs (flat τ l)∧l.length = n:=by
 induction n generalizing cs l with
 | zero =>
  simp only [decs] at h; injection h with h; subst h
  have:cs = []:=List.eq_nil_of_length_eq_zero (by simpa using hl)
  subst this
  exact ⟨trivial,rfl⟩
 | succ n ih =>
  simp only [decs,Option.bind_eq_some_iff,Option.some.injEq] at h
  obtain ⟨x,hx,r,hr,rfl⟩:=h
  have h1:=dec_le hx
  obtain ⟨h2,h3⟩:=ih hr (by rw [List.length_drop,hl,Nat.succ_mul]; omega)
  refine ⟨?_,by simp [h3]⟩
  have:=AVles.append h1 h2
  rw [List.take_append_drop] at this
  exact this
theorem im_le {O:Nat→Prop} {c e:AV} {u:Value} (h:Im O w c u) (hle:AVle c e):Im O w e u:=by
 rcases hle with rfl | ⟨rfl,σ,rfl⟩
 ·exact h
 ·cases h
  exact .rd0 σ none 0 (Nat.zero_le _)
theorem all_le {O:Nat→Prop} {cs es:List AV} {us:List Value} (h:All2 (Im O w) cs us) (hle:AVles cs es):All2 (Im O w) es us:=by
 induction cs generalizing es us with
 | nil =>
  cases es with
  | nil=>exact h
  | cons _ _=>exact hle.elim
 | cons c r ih =>
  cases es with
  | nil=>exact hle.elim
  | cons e t =>
   obtain ⟨u,us',rfl,h1,h2⟩:=h.cons_inv
   exact All2.cons (im_le h1 hle.1) (ih h2 hle.2)

def xs:Nat→List AV
 | 0=>[]
 | n + 1=>.x::xs n
theorem xs_length (n:Nat):(xs n).length = n:=by induction n with
 | zero=>rfl
 | succ n ih=>simp [xs,ih]
theorem xs_mem {n:Nat}:∀ c ∈ xs n,c = .x:=by
 induction n with
 | zero=>intro c hc; cases hc
 | succ n ih=>intro c hc; rcases List.mem_cons.1 hc with rfl | hc; exact rfl; exact ih c hc

def tyK:Option Ty→(Ty→Prop)→Prop
 | some τ,K=>K τ
 | none,_=>False
theorem tyK_iff (x:Option Ty) (K:Ty→Prop):tyK x K↔∃ τ,x = some τ∧K τ:=by cases x<;>simp [tyK]
def bsliceK (Γ:Ctx) (N:Nat) (s:St) (t:TypeId) (len:Nat) (ps:List (Nat × Operand)) (dst:Option Nat) (K:St→Prop):Prop :=
 opVecsK s ps fun ids=>frzAllK ids s fun s=>optK dst fun d=>stFrzK d s fun s=>tiK Γ t fun ti=>sliceTK ti.desc fun e=>tiK Γ e fun te=>tyK te.ty fun τ =>
  chkK (Nat.beq te.cells (esz τ)) (chkK (Nat.ble (len * te.cells) 16777216) (partsK s ps fun l=>fillK (fun i K=>K (i * te.cells,te.cells)) (xs (len * te.cells)) l fun cs=>plainCK cs fun cs =>
   optK (decs τ len cs) fun l=>stKillK d s fun s=>stPutK N s (some d) (.vec d τ l) K))

theorem bslice_ok (hΓ : Γ.ok P) (hone : ∀ p ∈ Γ, (∀ v ∈ p.2.zero, v.oneCell' = true) ∧ p.2.zero.length = p.2.cells) (hI : InvB W0 F X N s β a w) {o : Oper} {t : TypeId} {len : Nat} {ps : Array (Nat × Operand)} (ho : o.op = .buildSlice t len ps) {K : St → Prop}
  (h:bsliceK Γ N s t len ps.toList o.dst K) {next:Act→World→Prop} {Q:Exit→Act→World→Prop} (hn:∀ s' a' w',K s'→Inv W0 F X N s' a' w'→next a' w'):o.wp P a w next Q:=by
 unfold bsliceK at h
 rw [opVecsK_eq,frzAllK_eq] at h
 obtain ⟨d,hd,h⟩:=(optK_iff _ _).1 h
 rw [stFrzK_eq] at h
 have hI1:=(hI.frzAll (opVecs s ps.toList)).frz d
 have hfree:=not_frz (frzAll (opVecs s ps.toList) s) d
 generalize (frzAll (opVecs s ps.toList) s).frz d = s1 at h hI1 hfree
 obtain ⟨ti,hmt,h⟩:=tiK_mem h
 obtain ⟨e,h,hu⟩:=slice_ok (hΓ _ hmt) h
 obtain ⟨te,hmem,h⟩:=tiK_mem h
 have hte:=hΓ _ hmem
 obtain ⟨τ,_,h⟩:=(tyK_iff _ _).1 h
 obtain ⟨hsz,h⟩:=(chkK_iff _ _).1 h
 obtain ⟨h24,h⟩:=(chkK_iff _ _).1 h
 have hsz:=Nat.eq_of_beq_eq_true hsz
 have h24:=Nat.le_of_ble_eq_true h24
 rw [partsK_eq] at h
 obtain ⟨z,hz,hzc⟩:=hte.zeroValue w
 have hzl:z.cells.size = te.cells:=by rw [hzc]; simp [(hone _ hmem).2]
 -- the zero cells
 have hu0:∀ n:Nat,All2 (RelC β (Own X s1 β) w) (xs n) ((List.range n).map (fun i=>z.cells[i % z.cells.size]!)):=by
  intro n
  refine ⟨by simp [xs_length],fun j c u hc hu=>?_⟩
  have:=xs_mem c (List.mem_of_getElem? hc)
  subst this
  refine ⟨Rel.x,?_⟩
  rw [List.getElem?_map,Option.map_eq_some_iff] at hu
  obtain ⟨k,_,rfl⟩:=hu
  have hpos:0 < z.cells.size:=by rw [hzl,hsz]; exact esz_pos τ
  have hlt:k % z.cells.size < z.cells.size:=Nat.mod_lt _ hpos
  rw [getElem!_pos z.cells _ hlt]
  have hz':∀ u ∈ z.cells,u.oneCell' = true:=by rw [hzc]; intro u hu; exact (hone _ hmem).1 u (by simpa using hu)
  exact hz' _ (Array.getElem_mem hlt)
 obtain ⟨cs,us,hK,hf,hrel,hids,hus⟩:=fill_ok hI1 (us:=((List.range (len * te.cells)).map (fun i=>z.cells[i % z.cells.size]!)).toArray) (place:=fun i=>some (i * te.cells,te.cells)) (fun i K h=>⟨_,rfl,h⟩) ps.toList _ _ (by simpa using hu0 (len * te.cells))
  (fun c hc n hn=>by rw [xs_mem c hc] at hn; cases hn) h
 rw [plainCK_eq] at hK
 have him:=plainC_im (hrel.mono fun _ _ _ _ h=>h.1)
 obtain ⟨l,hl,hK⟩:=(optK_iff _ _).1 hK
 have husl:us.size = len * esz τ:=by rw [hus]; simp [hsz]
 obtain ⟨hle,hlen⟩:=decs_le hl (by rw [him.1]; simp [husl])
 have hall:=all_le him hle
 rw [stKillK_eq] at hK
 cases hdN:Nat.blt d N with
 | false=>rw [stPutK_some,hdN] at hK; exact hK.elim
 | true =>
  rw [stPutK_some,hdN,cond_true] at hK
  rw [Nat.blt_eq] at hdN
  have hlm:len≤maxLen:=by
   have hpos:0 < te.cells:=by rw [hsz]; exact esz_pos τ
   have:len≤len * te.cells:=Nat.le_mul_of_pos_right _ hpos
   unfold maxLen
   omega
  have hI2:=hI1.newVec (Ow:=fun _=>False) (id1:=d) (b:=some w.heap.size) (u:=.slice (some ⟨w.heap.size,0,none⟩) len len) (τ:=τ) (l:=l) hdN (fun _=>rfl) (Stp.alloc w (.cells us e)) (fun _ h=>h.elim)
   (fun g hg=>by injection hg with hg; subst hg; exact ⟨by simp,.inr (Nat.le_refl _)⟩) (fun O' hO'=>by
    have hall':=hall.mono (R':=Im O' (w.alloc (.cells us e))) fun _ _ _ _ him=>him.step (Stp.alloc w _) (fun _ _ h=>h.elim) hO'
    have:=vec_of (d:=d) (β:=setβ β d (some w.heap.size)) (c:=len) (cur:=us) (e:=e) (by simp [setβ]) (heap_alloc_new w _) (by omega) hlm husl hall' (fun j u hu=>by simpa using hu)
    rw [hlen] at this
    exact this)
  refine wp_val (u:=.slice (some ⟨w.heap.size,0,none⟩) len len) (w':=w.alloc (.cells us e)) ?_ (by rw [hd]; exact hn _ _ _ hK ⟨_,hI2⟩)
  have hps:(ps.map fun (p:Nat × Operand)=>(p.1,a.eval p.2)).toList = ps.toList.map fun p=>(p.1,a.eval p.2):=by simp
  have h24':¬ (len * te.cells > 2 ^ 24):=by omega
  simp only [execOp,ho,Instr.buildSlice,Sem.run_bind,run_underlying hu,hte.sizeOf w,Result.andThen_ok,if_neg h24']
  by_cases h0:len * te.cells = 0
  ·have e0:(List.map (fun i=>z.cells[i % z.cells.size]!) (List.range (len * te.cells))).toArray = (Array.range (len * te.cells)).map (fun i=>(#[]:Array Value)[i % (#[]:Array Value).size]!):=by rw [h0]; simp
   rw [e0] at hf
   simp only [h0,if_true,Sem.run_bind,Sem.run_pure,Result.andThen_ok,hps]
   rw [h0] at hf
   rw [hf]
   simp [newRow,newObj]
   rfl
  ·have e0 : (List.map (fun i => z.cells[i % z.cells.size]!) (List.range (len * te.cells))).toArray = (Array.range (len * te.cells)).map (fun i => z.cells[i % z.cells.size]!) := by
    apply Array.ext'; simp
   rw [e0] at hf
   simp only [h0,if_false,Sem.run_bind,hz,Sem.run_pure,Result.andThen_ok,hps]
   rw [hf]
   simp [newRow,newObj]
   rfl
end
end Go.SX
end
