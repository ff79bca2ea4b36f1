/-
  The data of the program's types as plain Lean types, the abstract values of the engine, and how an element lies in cells.
-/
import Derived.WalkKit
import Derived.Lib.DecodeN
namespace Go.SX
abbrev Str := List UInt8
/-- the rune at a place, and its bytes -/
def decAt (l : Str) (p : Nat) : Nat × Nat := Lib.decodeN (l.length - p) (l.getD p 0).toNat (l.getD (p + 1) 0).toNat (l.getD (p + 2) 0).toNat (l.getD (p + 3) 0).toNat
/-- the runes from a place on -/
def runesF (l : Str) : Nat → Nat → List Int
  | 0, _ => []
  | f + 1, i => if i < l.length then ((decAt l i).1 : Int) :: runesF l f (i + (decAt l i).2) else []
def runes (l : Str) : List Int := runesF l l.length 0

structure Part where
  kind : Int
  n : Int
  s : Str
deriving Inhabited, DecidableEq
structure Token where
  kind : Int
  fr : Int
  to : Int
deriving Inhabited, DecidableEq
structure PStep where
  key : Str
  i : Int
deriving Inhabited, DecidableEq
structure Atom where
  pos : Int
  c : Int
deriving Inhabited, DecidableEq
structure Val where
  kind : Int
  n : Int
  f : Int
  s : Str
  l : List Val
  e : List (Str × Val)
deriving Inhabited
structure Node where
  kind : Int
  fr : Int
  to : Int
  kids : List Node
deriving Inhabited
structure VPlace where
  v : Val
  above : Int
deriving Inhabited
structure Move where
  kind : Int
  p : List Str
  key : Str
  to : Str
  v : Val
deriving Inhabited
structure Link where
  fr : Int
  to : Int
  moves : List Move
deriving Inhabited

/-- The element types of slices. -/
inductive Ty where
  | int | i64 | u32 | u64 | u8 | rune | errno | bool | str | ints | part | token | val | ent | node | pstep | psteps | atom | vplace | move | link
deriving DecidableEq

@[reducible] def den : Ty → Type
  | .int | .i64 | .u32 | .u64 | .u8 | .rune | .errno => Int
  | .bool => Bool
  | .str => Str
  | .ints => List Int
  | .part => Part
  | .token => Token
  | .val => Val
  | .ent => Str × Val
  | .node => Node
  | .pstep => PStep
  | .psteps => List PStep
  | .atom => Atom
  | .vplace => VPlace
  | .move => Move
  | .link => Link

@[reducible] def dflt : (τ : Ty) → den τ
  | .int | .i64 | .u32 | .u64 | .u8 | .rune | .errno => (0 : Int)
  | .bool => false
  | .str => ([] : List UInt8)
  | .ints => ([] : List Int)
  | .part => (default : Part)
  | .token => (default : Token)
  | .val => (default : Val)
  | .ent => (([], default) : Str × Val)
  | .node => (default : Node)
  | .pstep => (default : PStep)
  | .psteps => ([] : List PStep)
  | .atom => (default : Atom)
  | .vplace => (default : VPlace)
  | .move => (default : Move)
  | .link => (default : Link)

/-- Objects of the call's own: a strings.Builder (its type, its bytes' type, its bytes), an iterator over a text, a map. -/
inductive Ob where
  | sb (T e : TypeId) (l : Str)
  | it (s : Str) (pos : Nat)
  | mp (κ τ : Ty) (es : List (den κ × den τ))

/-- Abstract values. 'rd': a slice that reads as a list and that nobody writes. 'rp': a pointer to cells that nobody writes. 'pt': a pointer into a variable of the call's own. 'vec': a slice of the call's own. 'vp': a pointer into it. 'vs': such a slice from its k-th on. 'ag': a struct that holds such things. 'ob': an object. 'np': no pointer. 'x': nothing is known. -/
inductive AV where
  | i (k : IntKind) (n : Int)
  | b (x : Bool)
  | s (x : Str)
  | nl
  | rd (τ : Ty) (l : List (den τ))
  | rp (cs : List AV)
  | pt (name off : Nat)
  | vec (id : Nat) (τ : Ty) (l : List (den τ))
  | vp (id : Nat) (τ : Ty) (l : List (den τ)) (n off : Nat)
  | agg (cs : List AV)
  | tup (cs : List AV)
  | fn (f : FuncId) (caps : List AV)
  | vs (id : Nat) (τ : Ty) (l : List (den τ)) (k : Nat)
  | ag (cs : List AV)
  | ob (id id2 : Nat) (o : Ob)
  | np
  | x

def encVal (v : Val) : List AV := [.i .i64 v.kind, .i .i64 v.n, .i .u64 v.f, .s v.s, .rd .val v.l, .rd .ent v.e]
def enc : (τ : Ty) → den τ → List AV
  | .int, n => [.i .i64 n]
  | .i64, n => [.i .i64 n]
  | .u32, n => [.i .u32 n]
  | .u64, n => [.i .u64 n]
  | .u8, n => [.i .u8 n]
  | .rune, n => [.i .i32 n]
  | .errno, n => [.i .i64 n]
  | .bool, x => [.b x]
  | .str, s => [.s s]
  | .ints, l => [.rd .int l]
  | .part, p => [.i .i64 p.kind, .i .i64 p.n, .s p.s]
  | .token, t => [.i .i64 t.kind, .i .i64 t.fr, .i .i64 t.to]
  | .val, v => encVal v
  | .ent, e => .s e.1 :: encVal e.2
  | .node, n => [.i .i64 n.kind, .i .i64 n.fr, .i .i64 n.to, .rd .node n.kids]
  | .pstep, p => [.s p.key, .i .i64 p.i]
  | .psteps, l => [.rd .pstep l]
  | .atom, a => [.i .i64 a.pos, .i .u8 a.c]
  | .vplace, p => encVal p.v ++ [.i .i64 p.above]
  | .move, m => .i .i64 m.kind :: .rd .str m.p :: .s m.key :: .s m.to :: encVal m.v
  | .link, k => [.i .i64 k.fr, .i .i64 k.to, .rd .move k.moves]
def esz : Ty → Nat
  | .int | .i64 | .u32 | .u64 | .u8 | .rune | .errno | .bool | .str | .ints | .psteps => 1
  | .part => 3
  | .token => 3
  | .val => 6
  | .ent => 7
  | .node => 4
  | .pstep => 2
  | .atom => 2
  | .vplace => 7
  | .move => 10
  | .link => 3
theorem enc_length (τ : Ty) (x : den τ) : (enc τ x).length = esz τ := by cases τ <;> rfl
theorem esz_pos (τ : Ty) : 0 < esz τ := by cases τ <;> decide

/-- What lies in a cell of a slice's element: read-only values alone. -/
def AV.plain : AV → Bool
  | .i .. | .b .. | .s .. | .nl | .rd .. => true
  | _ => false
theorem enc_plain (τ : Ty) (x : den τ) : ∀ av ∈ enc τ x, av.plain = true := by
  cases τ <;> simp [enc, encVal, AV.plain]

/-- A slice out of an abstract value: a nil slice is an empty one. -/
def AV.list (τ : Ty) : AV → Option (List (den τ))
  | .nl => some []
  | .rd σ l => if h : σ = τ then some (h ▸ l) else none
  | _ => none
def AV.int (k : IntKind) : AV → Option Int
  | .i k' n => if k' = k then some n else none
  | _ => none
def AV.str : AV → Option Str
  | .s l => some l
  | _ => none
def AV.bool : AV → Option Bool
  | .b t => some t
  | _ => none
def decVal : List AV → Option Val
  | [a, b, c, d, e, f] => (a.int .i64).bind fun k => (b.int .i64).bind fun n => (c.int .u64).bind fun g => d.str.bind fun s => (e.list .val).bind fun l => (f.list .ent).bind fun m => some ⟨k, n, g, s, l, m⟩
  | _ => none
def one {α : Type} (f : AV → Option α) : List AV → Option α
  | [v] => f v
  | _ => none
def dec : (τ : Ty) → List AV → Option (den τ)
  | .int, cs => one (AV.int .i64) cs
  | .i64, cs => one (AV.int .i64) cs
  | .u32, cs => one (AV.int .u32) cs
  | .u64, cs => one (AV.int .u64) cs
  | .u8, cs => one (AV.int .u8) cs
  | .rune, cs => one (AV.int .i32) cs
  | .errno, cs => one (AV.int .i64) cs
  | .bool, cs => one AV.bool cs
  | .str, cs => one AV.str cs
  | .ints, cs => one (AV.list .int) cs
  | .psteps, cs => one (AV.list .pstep) cs
  | .part, cs => match cs with
    | [a, b, c] => (a.int .i64).bind fun k => (b.int .i64).bind fun n => c.str.bind fun s => some ⟨k, n, s⟩
    | _ => none
  | .token, cs => match cs with
    | [a, b, c] => (a.int .i64).bind fun k => (b.int .i64).bind fun f => (c.int .i64).bind fun t => some ⟨k, f, t⟩
    | _ => none
  | .val, cs => decVal cs
  | .ent, cs => match cs with
    | k :: cs => k.str.bind fun k => (decVal cs).bind fun v => some (k, v)
    | _ => none
  | .node, cs => match cs with
    | [a, b, c, d] => (a.int .i64).bind fun k => (b.int .i64).bind fun f => (c.int .i64).bind fun t => (d.list .node).bind fun l => some ⟨k, f, t, l⟩
    | _ => none
  | .pstep, cs => match cs with
    | [a, b] => a.str.bind fun k => (b.int .i64).bind fun n => some ⟨k, n⟩
    | _ => none
  | .atom, cs => match cs with
    | [a, b] => (a.int .i64).bind fun p => (b.int .u8).bind fun c => some ⟨p, c⟩
    | _ => none
  | .vplace, cs => match cs with
    | [a, b, c, d, e, f, g] => (decVal [a, b, c, d, e, f]).bind fun v => (g.int .i64).bind fun n => some ⟨v, n⟩
    | _ => none
  | .move, _ => none
  | .link, cs => match cs with
    | [a, b, c] => (a.int .i64).bind fun f => (b.int .i64).bind fun t => (c.list .move).bind fun l => some ⟨f, t, l⟩
    | _ => none

/-- the same value; a nil slice may stand for an empty one -/
def AVle (c e : AV) : Prop := c = e ∨ (c = .nl ∧ ∃ σ, e = .rd σ [])
def AVles : List AV → List AV → Prop
  | [], [] => True
  | a :: r, b :: t => AVle a b ∧ AVles r t
  | _, _ => False
theorem AV.list_le {τ : Ty} {v : AV} {l : List (den τ)} (h : v.list τ = some l) : AVle v (.rd τ l) := by
  cases v with
  | nl => injection h with h; subst h; exact .inr ⟨rfl, τ, rfl⟩
  | rd σ m =>
    simp only [AV.list] at h
    split at h
    · rename_i e; subst e; injection h with h; subst h; exact .inl rfl
    · cases h
  | _ => cases h
theorem AV.int_le {k : IntKind} {v : AV} {n : Int} (h : v.int k = some n) : AVle v (.i k n) := by
  cases v with
  | i k' m =>
    simp only [AV.int] at h
    split at h
    · rename_i e; subst e; injection h with h; subst h; exact .inl rfl
    · cases h
  | _ => cases h
theorem AV.str_le {v : AV} {l : Str} (h : v.str = some l) : AVle v (.s l) := by
  cases v with
  | s m => injection h with h; subst h; exact .inl rfl
  | _ => cases h
theorem AV.bool_le {v : AV} {t : Bool} (h : v.bool = some t) : AVle v (.b t) := by
  cases v with
  | b m => injection h with h; subst h; exact .inl rfl
  | _ => cases h
theorem decVal_le {cs : List AV} {v : Val} (h : decVal cs = some v) : AVles cs (encVal v) := by
  unfold decVal at h
  split at h
  · simp only [Option.bind_eq_some_iff, Option.some.injEq] at h
    obtain ⟨k, hk, n, hn, g, hg, s, hs, l, hl, m, hm, rfl⟩ := h
    exact ⟨AV.int_le hk, AV.int_le hn, AV.int_le hg, AV.str_le hs, AV.list_le hl, AV.list_le hm, trivial⟩
  · cases h
theorem one_le {α : Type} {f : AV → Option α} {g : α → AV} (hf : ∀ v x, f v = some x → AVle v (g x)) {cs : List AV} {x : α} (h : one f cs = some x) : AVles cs [g x] := by
  unfold one at h
  split at h
  · exact ⟨hf _ _ h, trivial⟩
  · cases h
theorem AVles.append {a b c d : List AV} (h : AVles a b) (k : AVles c d) : AVles (a ++ c) (b ++ d) := by
  induction a generalizing b with
  | nil => cases b with
    | nil => exact k
    | cons _ _ => exact h.elim
  | cons z r ih => cases b with
    | nil => exact h.elim
    | cons y t => exact ⟨h.1, ih h.2⟩
theorem dec_le {τ : Ty} {cs : List AV} {x : den τ} (h : dec τ cs = some x) : AVles cs (enc τ x) := by
  cases τ with
  | int => exact one_le (fun _ _ => AV.int_le) h
  | i64 => exact one_le (fun _ _ => AV.int_le) h
  | u32 => exact one_le (fun _ _ => AV.int_le) h
  | u64 => exact one_le (fun _ _ => AV.int_le) h
  | u8 => exact one_le (fun _ _ => AV.int_le) h
  | rune => exact one_le (fun _ _ => AV.int_le) h
  | errno => exact one_le (fun _ _ => AV.int_le) h
  | bool => exact one_le (fun _ _ => AV.bool_le) h
  | str => exact one_le (fun _ _ => AV.str_le) h
  | ints => exact one_le (fun _ _ => AV.list_le) h
  | psteps => exact one_le (fun _ _ => AV.list_le) h
  | part =>
    simp only [dec] at h
    split at h
    · simp only [Option.bind_eq_some_iff, Option.some.injEq] at h
      obtain ⟨k, hk, n, hn, s, hs, rfl⟩ := h
      exact ⟨AV.int_le hk, AV.int_le hn, AV.str_le hs, trivial⟩
    · cases h
  | token =>
    simp only [dec] at h
    split at h
    · simp only [Option.bind_eq_some_iff, Option.some.injEq] at h
      obtain ⟨k, hk, n, hn, s, hs, rfl⟩ := h
      exact ⟨AV.int_le hk, AV.int_le hn, AV.int_le hs, trivial⟩
    · cases h
  | val => exact decVal_le h
  | ent =>
    simp only [dec] at h
    split at h
    · simp only [Option.bind_eq_some_iff, Option.some.injEq] at h
      obtain ⟨k, hk, v, hv, rfl⟩ := h
      exact ⟨AV.str_le hk, decVal_le hv⟩
    · cases h
  | node =>
    simp only [dec] at h
    split at h
    · simp only [Option.bind_eq_some_iff, Option.some.injEq] at h
      obtain ⟨k, hk, n, hn, s, hs, l, hl, rfl⟩ := h
      exact ⟨AV.int_le hk, AV.int_le hn, AV.int_le hs, AV.list_le hl, trivial⟩
    · cases h
  | pstep =>
    simp only [dec] at h
    split at h
    · simp only [Option.bind_eq_some_iff, Option.some.injEq] at h
      obtain ⟨k, hk, n, hn, rfl⟩ := h
      exact ⟨AV.str_le hk, AV.int_le hn, trivial⟩
    · cases h
  | atom =>
    simp only [dec] at h
    split at h
    · simp only [Option.bind_eq_some_iff, Option.some.injEq] at h
      obtain ⟨k, hk, n, hn, rfl⟩ := h
      exact ⟨AV.int_le hk, AV.int_le hn, trivial⟩
    · cases h
  | vplace =>
    simp only [dec] at h
    split at h
    · simp only [Option.bind_eq_some_iff, Option.some.injEq] at h
      obtain ⟨k, hk, n, hn, rfl⟩ := h
      exact AVles.append (decVal_le hk) (show AVles [_] [_] from ⟨AV.int_le hn, trivial⟩)
    · cases h
  | move => cases h
  | link =>
    simp only [dec] at h
    split at h
    · simp only [Option.bind_eq_some_iff, Option.some.injEq] at h
      obtain ⟨k, hk, n, hn, s, hs, rfl⟩ := h
      exact ⟨AV.int_le hk, AV.int_le hn, AV.list_le hs, trivial⟩
    · cases h
end Go.SX
