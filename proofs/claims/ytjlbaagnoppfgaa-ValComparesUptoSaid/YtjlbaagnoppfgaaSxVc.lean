/-
  The verification conditions: what is to be shown of a function's code, by abstract values. Every function that turns the state hands its result to a continuation, so that the state stays written out.
-/
import Derived.Test.YtjlbaagnoppfgaaSxMem
namespace Go.SX
set_option linter.unusedSectionVars false
variable [Globs]

inductive TD where
  | struct (fl : List (Nat × Nat))
  | slice (e : Nat)
  | int (k : IntKind)
  | str
  | bool
  | arr (n e : Nat)
  | mp (k e : Nat)
  | other
/-- what a field is that can be compared -/
inductive EK where
  | int
  | str
  | bool
deriving DecidableEq
structure TI where
  cells : Nat
  bytes : Nat
  zero : List Value
  desc : TD
  ty : Option Ty
  eqs : List EK := []
  sb : Option Nat := none
abbrev Ctx := List (Nat × TI)
def tiK : Ctx → Nat → (TI → Prop) → Prop
  | [], _, _ => False
  | (m, t) :: r, n, K => bif Nat.beq m n then K t else tiK r n K

/-- the continuation of a call: an equation that gives the direct form -/
def lookK : List (Nat × AV) → Nat → (AV → Prop) → Prop
  | [], _, K => K .x
  | (m, v) :: r, n, K => bif Nat.beq m n then K v else lookK r n K
theorem lookK_eq (l : List (Nat × AV)) (n : Nat) (K : AV → Prop) : lookK l n K = K (look l n) := by
  induction l with
  | nil => rfl
  | cons p r ih => obtain ⟨m, v⟩ := p; simp only [lookK, look]; cases Nat.beq m n <;> simp [ih]
def lookBK : List (Nat × List AV) → Nat → (List AV → Prop) → Prop
  | [], _, _ => False
  | (m, v) :: r, n, K => bif Nat.beq m n then K v else lookBK r n K
theorem lookBK_iff (l : List (Nat × List AV)) (n : Nat) (K : List AV → Prop) : lookBK l n K ↔ ∃ cs, lookB l n = some cs ∧ K cs := by
  induction l with
  | nil => simp [lookBK, lookB]
  | cons p r ih => obtain ⟨m, v⟩ := p; simp only [lookBK, lookB]; cases Nat.beq m n <;> simp [ih]
def setLK {α : Type} : List (Nat × α) → Nat → α → (List (Nat × α) → Prop) → Prop
  | [], n, v, K => K [(n, v)]
  | (m, u) :: r, n, v, K => bif Nat.beq m n then K ((n, v) :: r) else setLK r n v fun r' => K ((m, u) :: r')
theorem setLK_eq {α : Type} (l : List (Nat × α)) (n : Nat) (v : α) : ∀ K, setLK l n v K = K (setL l n v) := by
  induction l with
  | nil => intro K; rfl
  | cons p r ih => intro K; obtain ⟨m, u⟩ := p; simp only [setLK, setL]; cases Nat.beq m n <;> simp [ih]
def delLK {α : Type} : List (Nat × α) → Nat → (List (Nat × α) → Prop) → Prop
  | [], _, K => K []
  | (m, u) :: r, n, K => bif Nat.beq m n then delLK r n K else delLK r n fun r' => K ((m, u) :: r')
theorem delLK_eq {α : Type} (l : List (Nat × α)) (n : Nat) : ∀ K, delLK l n K = K (delL l n) := by
  induction l with
  | nil => intro K; rfl
  | cons p r ih => intro K; obtain ⟨m, u⟩ := p; simp only [delLK, delL]; cases Nat.beq m n <;> simp [ih]
def mapVK (f : AV → (AV → Prop) → Prop) : List (Nat × AV) → (List (Nat × AV) → Prop) → Prop
  | [], K => K []
  | (m, v) :: r, K => f v fun v' => mapVK f r fun r' => K ((m, v') :: r')
theorem mapVK_eq {f : AV → (AV → Prop) → Prop} {g : AV → AV} (h : ∀ v K, f v K = K (g v)) (l : List (Nat × AV)) : ∀ K, mapVK f l K = K (mapV g l) := by
  induction l with
  | nil => intro K; rfl
  | cons p r ih => intro K; obtain ⟨m, v⟩ := p; simp only [mapVK, mapV, h, ih]
def mapCK (f : AV → (AV → Prop) → Prop) : List AV → (List AV → Prop) → Prop
  | [], K => K []
  | v :: r, K => f v fun v' => mapCK f r fun r' => K (v' :: r')
theorem mapCK_eq {f : AV → (AV → Prop) → Prop} {g : AV → AV} (h : ∀ v K, f v K = K (g v)) (l : List AV) : ∀ K, mapCK f l K = K (mapC g l) := by
  induction l with
  | nil => intro K; rfl
  | cons v r ih => intro K; simp only [mapCK, mapC, h, ih]
def mapBK (f : AV → (AV → Prop) → Prop) : List (Nat × List AV) → (List (Nat × List AV) → Prop) → Prop
  | [], K => K []
  | (m, v) :: r, K => mapCK f v fun v' => mapBK f r fun r' => K ((m, v') :: r')
theorem mapBK_eq {f : AV → (AV → Prop) → Prop} {g : AV → AV} (h : ∀ v K, f v K = K (g v)) (l : List (Nat × List AV)) : ∀ K, mapBK f l K = K (mapB g l) := by
  induction l with
  | nil => intro K; rfl
  | cons p r ih => intro K; obtain ⟨m, v⟩ := p; simp only [mapBK, mapB, mapCK_eq h, ih]
def killK (n : Nat) : AV → (AV → Prop) → Prop
  | .pt m o, K => bif Nat.beq m n then K .x else K (.pt m o)
  | .vec m τ l, K => bif Nat.beq m n then K .x else K (.vec m τ l)
  | .vp m τ l i o, K => bif Nat.beq m n then K .x else K (.vp m τ l i o)
  | .fn f caps, K => bif inL n (caps.flatMap ids0) then K .x else K (.fn f caps)
  | .tup cs, K => bif inL n (cs.flatMap ids0) then K .x else K (.tup cs)
  | .vs m τ l k, K => bif Nat.beq m n then K .x else K (.vs m τ l k)
  | .ag cs, K => bif inL n (cs.flatMap ids0) then K .x else K (.ag cs)
  | .ob i i2 o, K => bif inL n [i, i2] then K .x else K (.ob i i2 o)
  | v, K => K v
theorem killK_eq (n : Nat) (v : AV) (K : AV → Prop) : killK n v K = K (kill n v) := by
  cases v with
  | pt m o => simp only [killK, kill, ids, ids0, inL]; cases Nat.beq m n <;> rfl
  | vec m τ l => simp only [killK, kill, ids, ids0, inL]; cases Nat.beq m n <;> rfl
  | vp m τ l i o => simp only [killK, kill, ids, ids0, inL]; cases Nat.beq m n <;> rfl
  | fn f caps => simp only [killK, kill, ids]; cases inL n (List.flatMap ids0 caps) <;> rfl
  | tup caps => simp only [killK, kill, ids]; cases inL n (List.flatMap ids0 caps) <;> rfl
  | vs m τ l k => simp only [killK, kill, ids, ids0, inL]; cases Nat.beq m n <;> rfl
  | ag caps => simp only [killK, kill, ids]; cases inL n (List.flatMap ids0 caps) <;> rfl
  | ob i i2 o => simp only [killK, kill, ids, ids0]; cases inL n [i, i2] <;> rfl
  | _ => rfl
def frzK (n : Nat) : AV → (AV → Prop) → Prop
  | .pt m o, K => bif Nat.beq m n then K .x else K (.pt m o)
  | .vec m τ l, K => bif Nat.beq m n then K (.rd τ l) else K (.vec m τ l)
  | .vp m τ l i o, K => bif Nat.beq m n then K (.rp ((enc τ (l.getD i (dflt τ))).drop o)) else K (.vp m τ l i o)
  | .fn f caps, K => bif inL n (caps.flatMap ids0) then K .x else K (.fn f caps)
  | .tup cs, K => bif inL n (cs.flatMap ids0) then K .x else K (.tup cs)
  | .vs m τ l k, K => bif Nat.beq m n then K (.rd τ (l.drop k)) else K (.vs m τ l k)
  | .ag cs, K => bif inL n (cs.flatMap ids0) then K .x else K (.ag cs)
  | .ob i i2 o, K => bif inL n [i, i2] then K .x else K (.ob i i2 o)
  | v, K => K v
theorem frzK_eq (n : Nat) (v : AV) (K : AV → Prop) : frzK n v K = K (frz n v) := by
  cases v with
  | pt m o => simp only [frzK, frz]; cases Nat.beq m n <;> rfl
  | vec m τ l => simp only [frzK, frz]; cases Nat.beq m n <;> rfl
  | vp m τ l i o => simp only [frzK, frz]; cases Nat.beq m n <;> rfl
  | fn f caps => simp only [frzK, frz]; cases inL n (List.flatMap ids0 caps) <;> rfl
  | tup caps => simp only [frzK, frz]; cases inL n (List.flatMap ids0 caps) <;> rfl
  | vs m τ l k => simp only [frzK, frz]; cases Nat.beq m n <;> rfl
  | ag caps => simp only [frzK, frz]; cases inL n (List.flatMap ids0 caps) <;> rfl
  | ob i i2 o => simp only [frzK, frz]; cases inL n [i, i2] <;> rfl
  | _ => rfl
def stKillK (n : Nat) (s : St) (K : St → Prop) : Prop := mapVK (killK n) s.slots fun sl => mapBK (killK n) s.boxes fun b => delLK b n fun b => K ⟨sl, b⟩
theorem stKillK_eq (n : Nat) (s : St) (K : St → Prop) : stKillK n s K = K (s.kill n) := by
  simp only [stKillK, mapVK_eq (killK_eq n), mapBK_eq (killK_eq n), delLK_eq]; rfl
def stFrzK (n : Nat) (s : St) (K : St → Prop) : Prop := mapVK (frzK n) s.slots fun sl => mapBK (frzK n) s.boxes fun b => delLK b n fun b => K ⟨sl, b⟩
theorem stFrzK_eq (n : Nat) (s : St) (K : St → Prop) : stFrzK n s K = K (s.frz n) := by
  simp only [stFrzK, mapVK_eq (frzK_eq n), mapBK_eq (frzK_eq n), delLK_eq]; rfl
/-- all own slices of a list are given up -/
def frzAll : List Nat → St → St
  | [], s => s
  | n :: r, s => frzAll r (s.frz n)
def frzAllK : List Nat → St → (St → Prop) → Prop
  | [], s, K => K s
  | n :: r, s, K => stFrzK n s fun s' => frzAllK r s' K
theorem frzAllK_eq (l : List Nat) : ∀ (s : St) (K : St → Prop), frzAllK l s K = K (frzAll l s) := by
  induction l with
  | nil => intro s K; rfl
  | cons n r ih => intro s K; simp only [frzAllK, frzAll, stFrzK_eq, ih]
/-- the own slices among values -/
def vecIds : List AV → List Nat
  | [] => []
  | .vec id _ _ :: r => id :: vecIds r
  | .vs id _ _ _ :: r => id :: vecIds r
  | _ :: r => vecIds r

def forceL : List AV → (List AV → Prop) → Prop
  | [], K => K []
  | c :: cs, K => forceL cs fun cs' => K (c :: cs')
theorem forceL_eq (l : List AV) : ∀ K, forceL l K = K l := by
  induction l with
  | nil => intro K; rfl
  | cons c cs ih => intro K; simp only [forceL, ih]
def forceS : Str → (Str → Prop) → Prop
  | [], K => K []
  | c :: cs, K => forceS cs fun cs' => K (c :: cs')
theorem forceS_eq (l : Str) : ∀ K, forceS l K = K l := by
  induction l with
  | nil => intro K; rfl
  | cons c cs ih => intro K; simp only [forceS, ih]

def ofVal : Value → AV
  | .int k n => .i k n
  | .bool b => .b b
  | .string s => bif Nat.ble s.data.toList.length 1000000 then .s s.data.toList else .x
  | .slice none 0 0 => .nl
  | _ => .x
def ofValK : Value → (AV → Prop) → Prop
  | .int k n, K => K (.i k n)
  | .bool b, K => K (.b b)
  | .string s, K => bif Nat.ble s.data.toList.length 1000000 then forceS s.data.toList fun l => K (.s l) else K .x
  | .slice none 0 0, K => K .nl
  | _, K => K .x
theorem ofValK_eq (v : Value) (K : AV → Prop) : ofValK v K = K (ofVal v) := by
  cases v with
  | string s => simp only [ofValK, ofVal, forceS_eq]; cases Nat.ble s.data.toList.length 1000000 <;> rfl
  | slice a l c => cases a <;> cases l <;> cases c <;> rfl
  | _ => rfl
def ofVals : List Value → List AV
  | [] => []
  | v :: r => ofVal v :: ofVals r
def ofValsK : List Value → (List AV → Prop) → Prop
  | [], K => K []
  | v :: r, K => ofValK v fun a => ofValsK r fun l => K (a :: l)
theorem ofValsK_eq (l : List Value) : ∀ K, ofValsK l K = K (ofVals l) := by
  induction l with
  | nil => intro K; rfl
  | cons v r ih => intro K; simp only [ofValsK, ofVals, ofValK_eq, ih]
def ev (s : St) : Operand → AV
  | .tmp t => look s.slots t
  | .const v => ofVal v
  | .func f => .fn f []
  | .global _ => .x
def evK (s : St) : Operand → (AV → Prop) → Prop
  | .tmp t, K => lookK s.slots t K
  | .const v, K => ofValK v K
  | .func f, K => K (.fn f [])
  | .global _, K => K .x
theorem evK_eq (s : St) (x : Operand) (K : AV → Prop) : evK s x K = K (ev s x) := by
  cases x <;> simp [evK, ev, lookK_eq, ofValK_eq]
def evs (s : St) : List Operand → List AV
  | [] => []
  | x :: r => ev s x :: evs s r
def evsK (s : St) : List Operand → (List AV → Prop) → Prop
  | [], K => K []
  | x :: r, K => evK s x fun v => evsK s r fun l => K (v :: l)
theorem evsK_eq (s : St) (l : List Operand) : ∀ K, evsK s l K = K (evs s l) := by
  induction l with
  | nil => intro K; rfl
  | cons x r ih => intro K; simp only [evsK, evs, evK_eq, ih]
def stPutK (N : Nat) (s : St) (d : Option Nat) (v : AV) (K : St → Prop) : Prop :=
  match d with
  | some d => bif Nat.blt d N then (match s with | ⟨sl0, b⟩ => setLK sl0 d v fun sl => K ⟨sl, b⟩) else False
  | none => K s
theorem stPutK_some (N : Nat) (s : St) (d : Nat) (v : AV) (K : St → Prop) : stPutK N s (some d) v K = (bif Nat.blt d N then K (s.put d v) else False) := by
  obtain ⟨sl, b⟩ := s
  simp only [stPutK, setLK_eq]; rfl
theorem stPutK_none (N : Nat) (s : St) (v : AV) (K : St → Prop) : stPutK N s none v K = K s := rfl

/-- a number of a kind -/
def Rng : IntKind → Int → Prop
  | .i8, _ => False
  | .i16, _ => False
  | .i32, n => -2147483648 ≤ n ∧ n ≤ 2147483647
  | .i64, n => -9223372036854775808 ≤ n ∧ n ≤ 9223372036854775807
  | .u8, n => 0 ≤ n ∧ n ≤ 255
  | .u16, n => 0 ≤ n ∧ n ≤ 65535
  | .u32, n => 0 ≤ n ∧ n ≤ 4294967295
  | .u64, n => 0 ≤ n ∧ n ≤ 18446744073709551615
def arithK (k : IntKind) (n : Int) (K : AV → Prop) : Prop :=
  match k.signed with
  | true => Rng k n ∧ K (.i k n)
  | false => K (.i k (k.wrap n))
def intBinK (op : BinOp) (k : IntKind) (a c : Int) (K : AV → Prop) : Prop :=
  match op with
  | .add => arithK k (a + c) K
  | .sub => arithK k (a - c) K
  | .mul => arithK k (a * c) K
  | .quo => c ≠ 0 ∧ Rng k (a.tdiv c) ∧ K (.i k (a.tdiv c))
  | .rem => c ≠ 0 ∧ K (.i k (a.tmod c))
  | .and => K (.i k (bits .and k a c))
  | .or => K (.i k (bits .or k a c))
  | .xor => K (.i k (bits .xor k a c))
  | .andNot => K (.i k (bits .andNot k a c))
  | .eql => K (.b (a == c))
  | .neq => K (.b (a != c))
  | .lss => K (.b (decide (a < c)))
  | .leq => K (.b (decide (a ≤ c)))
  | .gtr => K (.b (decide (c < a)))
  | .geq => K (.b (decide (c ≤ a)))
  | _ => False
def strBinK (op : BinOp) (a c : Str) (K : AV → Prop) : Prop :=
  match op with
  | .add => a.length + c.length ≤ maxLen ∧ K (.s (a ++ c))
  | .eql => K (.b (a == c))
  | .neq => K (.b (!(a == c)))
  | .lss => K (.b (Op.bytesLess a c))
  | .leq => K (.b (Op.bytesLess a c || a == c))
  | .gtr => K (.b (!(Op.bytesLess a c || a == c)))
  | .geq => K (.b (!(Op.bytesLess a c)))
  | _ => False
def binK (op : BinOp) : AV → AV → (AV → Prop) → Prop
  | .i k a, .i k' c, K =>
    match op with
    | .shl => 0 ≤ c ∧ K (.i k (k.wrap (a * 2 ^ (min c.toNat k.bits))))
    | .shr => 0 ≤ c ∧ K (.i k (a.fdiv (2 ^ (min c.toNat k.bits))))
    | _ => bif decide (k = k') then intBinK op k a c K else False
  | .s a, .s c, K => strBinK op a c K
  | _, _, _ => False
def unK (op : UnOp) : AV → (AV → Prop) → Prop
  | .b a, K => match op with
    | .not => K (.b (!a))
    | _ => False
  | .i k a, K => match op with
    | .neg => arithK k (0 - a) K
    | .xor => K (.i k (bits .xor k (if k.signed then -1 else k.max) a))
    | _ => False
  | _, _ => False

def cellsOf : AV → List AV
  | .agg l => l
  | v => [v]
/-- a slice as the list that it reads as -/
def sliceK : AV → ((τ : Ty) → List (den τ) → Prop) → Prop
  | .rd τ l, K => K τ l
  | .vec _ τ l, K => K τ l
  | _, _ => False
/-- how long -/
def lenK : AV → (Nat → Prop) → Prop
  | .rd _ l, K => l.length ≤ maxLen → K l.length
  | .vec _ _ l, K => l.length ≤ maxLen → K l.length
  | .s l, K => l.length ≤ maxLen → K l.length
  | .nl, K => K 0
  | _, _ => False

def nthK {α : Type} : List α → Nat → (α → Prop) → Prop
  | [], _, _ => False
  | a :: _, 0, K => K a
  | _ :: r, n + 1, K => nthK r n K
theorem nthK_iff {α : Type} (l : List α) : ∀ (n : Nat) (K : α → Prop), nthK l n K ↔ ∃ x, l[n]? = some x ∧ K x := by
  induction l with
  | nil => intro n K; simp [nthK]
  | cons a r ih => intro n K; cases n <;> simp [nthK, ih]
def chkK (b : Bool) (K : Prop) : Prop := bif b then K else False
theorem chkK_iff (b : Bool) (K : Prop) : chkK b K ↔ b = true ∧ K := by cases b <;> simp [chkK]

def isStruct : TD → Bool
  | .struct _ => true
  | .arr _ _ => true
  | _ => false
/-- a loaded variable out of its cells: an own slice among several is to be given up first -/
def plainC : List AV → List AV
  | [] => []
  | .pt _ _ :: r => .x :: plainC r
  | .vec _ _ _ :: r => .x :: plainC r
  | .vp _ _ _ _ _ :: r => .x :: plainC r
  | .rp _ :: r => .x :: plainC r
  | .fn _ _ :: r => .x :: plainC r
  | .tup _ :: r => .x :: plainC r
  | .vs _ _ _ _ :: r => .x :: plainC r
  | .ag _ :: r => .x :: plainC r
  | .ob _ _ _ :: r => .x :: plainC r
  | v :: r => v :: plainC r
def plainCK : List AV → (List AV → Prop) → Prop
  | [], K => K []
  | .pt _ _ :: r, K => plainCK r fun l => K (.x :: l)
  | .vec _ _ _ :: r, K => plainCK r fun l => K (.x :: l)
  | .vp _ _ _ _ _ :: r, K => plainCK r fun l => K (.x :: l)
  | .rp _ :: r, K => plainCK r fun l => K (.x :: l)
  | .fn _ _ :: r, K => plainCK r fun l => K (.x :: l)
  | .tup _ :: r, K => plainCK r fun l => K (.x :: l)
  | .vs _ _ _ _ :: r, K => plainCK r fun l => K (.x :: l)
  | .ag _ :: r, K => plainCK r fun l => K (.x :: l)
  | .ob _ _ _ :: r, K => plainCK r fun l => K (.x :: l)
  | v :: r, K => plainCK r fun l => K (v :: l)
theorem plainCK_eq (l : List AV) : ∀ K, plainCK l K = K (plainC l) := by
  induction l with
  | nil => intro K; rfl
  | cons v r ih => intro K; cases v <;> simp [plainCK, plainC, ih]
def takeK {α : Type} : Nat → List α → (List α → Prop) → Prop
  | 0, _, K => K []
  | _ + 1, [], _ => False
  | n + 1, a :: r, K => takeK n r fun l => K (a :: l)
theorem takeK_iff {α : Type} (n : Nat) : ∀ (l : List α) (K : List α → Prop), takeK n l K ↔ n ≤ l.length ∧ K (l.take n) := by
  induction n with
  | zero => intro l K; simp [takeK]
  | succ n ih => intro l K; cases l <;> simp [takeK, ih]
def spliceL {α : Type} : List α → Nat → List α → List α
  | l, 0, v => v ++ l.drop v.length
  | [], _ + 1, v => v
  | a :: r, o + 1, v => a :: spliceL r o v
def spliceK {α : Type} : List α → Nat → List α → (List α → Prop) → Prop
  | l, 0, [], K => K l
  | _ :: r, 0, v :: vs, K => spliceK r 0 vs fun l => K (v :: l)
  | a :: r, o + 1, v, K => spliceK r o v fun l => K (a :: l)
  | _, _, _, _ => False
theorem spliceK_iff {α : Type} (l : List α) : ∀ (o : Nat) (v : List α) (K : List α → Prop), spliceK l o v K → o + v.length ≤ l.length ∧ K (l.take o ++ v ++ l.drop (o + v.length)) := by
  induction l with
  | nil =>
    intro o v K h
    cases o <;> cases v <;> simp [spliceK] at h ⊢
    exact h
  | cons a r ih =>
    intro o v K h
    cases o with
    | zero =>
      cases v with
      | nil => simpa [spliceK] using h
      | cons b vs =>
        simp only [spliceK] at h
        obtain ⟨h1, h2⟩ := ih 0 vs _ h
        refine ⟨by simp at h1 ⊢; omega, by simpa using h2⟩
    | succ o =>
      simp only [spliceK] at h
      obtain ⟨h1, h2⟩ := ih o v _ h
      refine ⟨by simp only [List.length_cons]; omega, ?_⟩
      have : o + 1 + v.length = (o + v.length) + 1 := by omega
      rw [this]
      simpa using h2

/-- whether nobody's own slice is called n -/
def noV (n : Nat) : List AV → Bool
  | [] => true
  | v :: r => bif inL n (vids v) then false else noV n r
def noVs (n : Nat) : List (Nat × AV) → Bool
  | [] => true
  | (_, v) :: r => bif inL n (vids v) then false else noVs n r
def noVb (n : Nat) : List (Nat × List AV) → Bool
  | [] => true
  | (_, l) :: r => bif noV n l then noVb n r else false

/-- the value operations -/
def bytesInts : Str → List Int
  | [] => []
  | c :: r => (c.toNat : Int) :: bytesInts r
def pickK : AV → AV → AV → (AV → Prop) → Prop
  | .b c, .b a, .b b, K => K (.b (bif c then a else b))
  | .b c, a, b, K => bif c then K a else K b
  | _, _, _, _ => False
def boolBinK (op : BinOp) (a b : Bool) (K : AV → Prop) : Prop :=
  match op with
  | .eql => K (.b (a == b))
  | .neq => K (.b (!(a == b)))
  | _ => False
def isBoolT : TD → Bool
  | .bool => true
  | _ => false
def cellEqK : EK → AV → AV → (Bool → Prop) → Prop
  | .int, .i k a, .i k' b, K => chkK (decide (k = k')) (K (decide (a = b)))
  | .str, .s a, .s b, K => K (a == b)
  | .bool, .b a, .b b, K => K (a == b)
  | _, _, _, _ => False
def structFK : TD → (List (Nat × Nat) → Prop) → Prop
  | .struct fl, K => K fl
  | _, _ => False
def aggEqK : List EK → List (Nat × Nat) → List AV → List AV → (Bool → Prop) → Prop
  | [], [], _, _, K => K true
  | k :: ks, (o, _) :: fl, cs, ds, K => nthK cs o fun a => nthK ds o fun b => cellEqK k a b fun x => aggEqK ks fl cs ds fun y => K (x && y)
  | _, _, _, _, _ => False
def aggBinK (op : BinOp) (b : Bool) (K : AV → Prop) : Prop :=
  match op with
  | .eql => K (.b b)
  | .neq => K (.b (!b))
  | _ => False
def binTK (Γ : Ctx) (op : BinOp) (t : TypeId) : AV → AV → (AV → Prop) → Prop
  | .b a, .b b, K => tiK Γ t fun ti => chkK (isBoolT ti.desc) (boolBinK op a b K)
  | .agg cs, .agg ds, K => tiK Γ t fun ti => structFK ti.desc fun fl => chkK (!ti.eqs.isEmpty) (aggEqK ti.eqs fl cs ds fun b => aggBinK op b K)
  | a, b, K => binK op a b K
def convK : TD → AV → (AV → Prop) → Prop
  | .int k, .i _ n, K => K (.i k (k.wrap n))
  | .str, .s l, K => K (.s l)
  | _, _, _ => False
def ofB (n : Int) : UInt8 := UInt8.ofNat n.toNat
def isU8T : TD → Bool
  | .int .u8 => true
  | _ => false
def isStrT : TD → Bool
  | .str => true
  | _ => false
def convSK : TD → Str → (AV → Prop) → Prop
  | .int .u8, l, K => K (.rd .u8 (l.map fun b => (b.toNat : Int)))
  | .int .i32, l, K => l.length ≤ 70368744177664 ∧ K (.rd .rune (runes l))
  | _, _, _ => False
def convAK (Γ : Ctx) : TD → TD → AV → (AV → Prop) → Prop
  | .slice e, .str, .rd .u8 l, K => tiK Γ e fun te => chkK (isU8T te.desc) (K (.s (l.map ofB)))
  | .slice e, .str, .vec _ .u8 l, K => tiK Γ e fun te => chkK (isU8T te.desc) (K (.s (l.map ofB)))
  | sd, .slice e, .s l, K => chkK (isStrT sd) (tiK Γ e fun te => convSK te.desc l K)
  | _, d, a, K => convK d a K
def structK : TD → (List (Nat × Nat) → Prop) → Prop
  | .struct fl, K => K fl
  | _, _ => False
def sliceTK : TD → (Nat → Prop) → Prop
  | .slice e, K => K e
  | _, _ => False
def faddrK (off : Nat) : AV → (AV → Prop) → Prop
  | .pt n o, K => K (.pt n (o + off))
  | .rp cs, K => forceL (cs.drop off) fun cs => K (.rp cs)
  | .vp id τ l n o, K => K (.vp id τ l n (o + off))
  | _, _ => False
/-- one cell by itself, several as one value -/
def packK (str : Bool) (l : List AV) (K : AV → Prop) : Prop :=
  match str with
  | true => plainCK l fun l => K (.agg l)
  | false => match l with
    | [v] => K v
    | _ => False
def fieldK (off sz : Nat) : AV → (AV → Prop) → Prop
  | .agg cs, K => takeK sz (cs.drop off) fun l => match l with
    | [v] => K v
    | _ => False
  | _, _ => False
def extractK (i : Nat) : AV → (AV → Prop) → Prop
  | .tup cs, K => nthK cs i K
  | _, _ => False
def intK : AV → (Int → Prop) → Prop
  | .i _ n, K => K n
  | _, _ => False
def iaddrK (n : Int) (cells : Nat) : AV → (AV → Prop) → Prop
  | .rd τ l, K => chkK (Nat.beq cells (esz τ)) ((0 ≤ n ∧ n < (l.length : Int)) ∧ forceL (enc τ (l.getD n.toNat (dflt τ))) fun cs => K (.rp cs))
  | .vec id τ l, K => chkK (Nat.beq cells (esz τ)) ((0 ≤ n ∧ n < (l.length : Int)) ∧ K (.vp id τ l n.toNat 0))
  | .vs id τ l k, K => chkK (Nat.beq cells (esz τ)) ((0 ≤ n ∧ n < ((l.length - k : Nat) : Int)) ∧ K (.vp id τ l (k + n.toNat) 0))
  | _, _ => False
def strIndexK (n : Int) : AV → (AV → Prop) → Prop
  | .s l, K => (0 ≤ n ∧ n < (l.length : Int)) ∧ K (.i .u8 ((l.getD n.toNat 0).toNat : Int))
  | _, _ => False
/-- an array's element: its place, and itself -/
def arrAddrK (n : Int) (len cells : Nat) : AV → (AV → Prop) → Prop
  | .pt m o, K => (0 ≤ n ∧ n < (len : Int)) ∧ K (.pt m (o + n.toNat * cells))
  | _, _ => False
def arrIdxK (n : Int) (len cells : Nat) (str : Bool) : AV → (AV → Prop) → Prop
  | .agg cs, K => chkK (Nat.beq cells 1) (chkK (!str) ((0 ≤ n ∧ n < (len : Int)) ∧ nthK cs n.toNat K))
  | _, _ => False
def idxAddrK (Γ : Ctx) (n : Int) (a : AV) (K : AV → Prop) : TD → Prop
  | .slice e => tiK Γ e fun te => iaddrK n te.cells a K
  | .arr len e => tiK Γ e fun te => arrAddrK n len te.cells a K
  | _ => False
def idxValK (Γ : Ctx) (n : Int) (a : AV) (K : AV → Prop) : TD → Prop
  | .str => strIndexK n a K
  | .arr len e => tiK Γ e fun te => arrIdxK n len te.cells (isStruct te.desc) a K
  | _ => False
def nilChkK : AV → (AV → Prop) → Prop
  | .pt n o, K => K (.pt n o)
  | .rp cs, K => K (.rp cs)
  | .vp id τ l n o, K => K (.vp id τ l n o)
  | _, _ => False
def fnK : Fn → Nat → (FuncId → Prop) → Prop
  | .func f, 0, K => K f
  | _, _, _ => False
def lenVK : TD → List AV → (AV → Prop) → Prop
  | .slice _, [.nl], K => K (.i .i64 0)
  | .slice _, [.rd _ l], K => l.length ≤ maxLen → K (.i .i64 (l.length : Int))
  | .slice _, [.vec _ _ l], K => l.length ≤ maxLen → K (.i .i64 (l.length : Int))
  | .slice _, [.vs _ _ l k], K => k ≤ l.length → l.length ≤ maxLen → K (.i .i64 ((l.length - k : Nat) : Int))
  | .str, [.s l], K => l.length ≤ maxLen → K (.i .i64 (l.length : Int))
  | _, _, _ => False
def minK : List AV → (AV → Prop) → Prop
  | [.i k a, .i k' b], K => chkK (decide (k = k')) (K (.i k (if b < a then b else a)))
  | _, _ => False
def maxK : List AV → (AV → Prop) → Prop
  | [.i k a, .i k' b], K => chkK (decide (k = k')) (K (.i k (if a < b then b else a)))
  | _, _ => False
def noFn : List AV → Bool
  | [] => true
  | .fn _ _ :: _ => false
  | .tup _ :: _ => false
  | .ag _ :: _ => false
  | _ :: r => noFn r
def boundK (s : St) : Option Operand → Int → (Int → Prop) → Prop
  | none, d, K => K d
  | some x, _, K => evK s x fun v => intK v K
def strSliceK (s : St) (lo hi : Option Operand) : AV → (AV → Prop) → Prop
  | .s l, K => boundK s lo 0 fun lo => boundK s hi (l.length : Int) fun hi => (0 ≤ lo ∧ lo ≤ hi ∧ hi ≤ (l.length : Int)) ∧ K (.s ((l.take hi.toNat).drop lo.toNat))
  | _, _ => False
def rdSliceK (s : St) (cells : Nat) (lo hi : Option Operand) : AV → (AV → Prop) → Prop
  | .rd τ l, K => chkK (Nat.beq cells (esz τ)) (boundK s lo 0 fun lo => boundK s hi (l.length : Int) fun hi => (0 ≤ lo ∧ lo ≤ hi ∧ hi ≤ (l.length : Int)) ∧ K (.rd τ ((l.take hi.toNat).drop lo.toNat)))
  | .vec id τ l, K => chkK (Nat.beq cells (esz τ)) (match hi with
    | none => boundK s lo 0 fun lo => (0 ≤ lo ∧ lo ≤ (l.length : Int)) ∧ K (.vs id τ l lo.toNat)
    | some _ => False)
  | .vs id τ l k, K => chkK (Nat.beq cells (esz τ)) (match hi with
    | none => boundK s lo 0 fun lo => (0 ≤ lo ∧ lo ≤ ((l.length - k : Nat) : Int)) ∧ K (.vs id τ l (k + lo.toNat))
    | some _ => False)
  | _, _ => False
def builtinVK (Γ : Ctx) (s : St) (b : Builtin) (args : List Operand) (ts : List TypeId) (K : AV → Prop) : Prop :=
  match b with
  | .len => evsK s args fun l => nthK ts 0 fun t => tiK Γ t fun ti => lenVK ti.desc l K
  | .min => evsK s args fun l => minK l K
  | .max => evsK s args fun l => maxK l K
  | _ => False
def calleeVK (Γ : Ctx) (s : St) (args : List Operand) (ts : List TypeId) (K : AV → Prop) : Callee → Prop
  | .builtin b => builtinVK Γ s b args ts K
  | _ => False
def valK (Γ : Ctx) (s : St) (op : Op) (K : AV → Prop) : Prop :=
  match op with
  | .move x => evK s x K
  | .assign x => evK s x K
  | .pick c a b => evK s c fun c => evK s a fun a => evK s b fun b => pickK c a b K
  | .binOp op t x y _ => evK s x fun a => evK s y fun b => binTK Γ op t a b K
  | .unOp op _ x => evK s x fun a => unK op a K
  | .convert src dst x => evK s x fun a => tiK Γ src fun _ => tiK Γ dst fun ti => convK ti.desc a K
  | .fieldAddr t x f => evK s x fun p => tiK Γ t fun ti => structK ti.desc fun fl => nthK fl f fun d => match d with | (off, _) => faddrK off p K
  | .field t x f => evK s x fun p => tiK Γ t fun ti => structK ti.desc fun fl => nthK fl f fun d => match d with | (off, sz) => fieldK off sz p K
  | .extract x i => evK s x fun p => extractK i p K
  | .indexAddr t x i => evK s x fun a => evK s i fun n => intK n fun n => tiK Γ t fun ti => idxAddrK Γ n a K ti.desc
  | .index t x i => evK s x fun a => evK s i fun n => intK n fun n => tiK Γ t fun ti => idxValK Γ n a K ti.desc
  | .nilCheck x => evK s x fun p => nilChkK p K
  | .makeFunc fn first captured => fnK fn first.toList.length fun f => evsK s captured.toList fun l => chkK (noFn l) (K (.fn f l))
  | .call c => calleeVK Γ s c.args.toList c.argTypes.toList K c.callee
  | .slice t x lo hi mx => match mx with
    | none => evK s x fun a => tiK Γ t fun ti => match isStrT ti.desc with
      | true => strSliceK s lo hi a K
      | false => sliceTK ti.desc fun e => tiK Γ e fun te => rdSliceK s te.cells lo hi a K
    | some _ => False
  | _ => False
end Go.SX
