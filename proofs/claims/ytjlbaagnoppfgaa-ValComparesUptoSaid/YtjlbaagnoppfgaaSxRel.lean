/-
  How an abstract state reads a world: the relation between abstract and concrete values, the invariant, and what keeps it.
-/
import Derived.Test.YtjlbaagnoppfgaaSxData
namespace Go.SX

def All2 {α β : Type} (R : α → β → Prop) (as : List α) (bs : List β) : Prop :=
  as.length = bs.length ∧ ∀ (j : Nat) a b, as[j]? = some a → bs[j]? = some b → R a b
theorem All2.nil {α β : Type} (R : α → β → Prop) : All2 R [] [] := ⟨rfl, fun _ _ _ h => by simp at h⟩
theorem All2.cons {α β : Type} {R : α → β → Prop} {a : α} {b : β} {as : List α} {bs : List β} (h : R a b) (t : All2 R as bs) : All2 R (a :: as) (b :: bs) := by
  refine ⟨by simp [t.1], fun j x y hx hy => ?_⟩
  cases j with
  | zero => simp at hx hy; subst hx hy; exact h
  | succ j => simp at hx hy; exact t.2 j x y hx hy
theorem All2.head {α β : Type} {R : α → β → Prop} {a : α} {b : β} {as : List α} {bs : List β} (h : All2 R (a :: as) (b :: bs)) : R a b := h.2 0 a b rfl rfl
theorem All2.tail {α β : Type} {R : α → β → Prop} {a : α} {b : β} {as : List α} {bs : List β} (h : All2 R (a :: as) (b :: bs)) : All2 R as bs :=
  ⟨by simpa using h.1, fun j x y hx hy => h.2 (j + 1) x y (by simpa using hx) (by simpa using hy)⟩
theorem All2.mono {α β : Type} {R R' : α → β → Prop} {as : List α} {bs : List β} (h : All2 R as bs) (hr : ∀ (j : Nat) a b, as[j]? = some a → R a b → R' a b) : All2 R' as bs :=
  ⟨h.1, fun j a b ha hb => hr j a b ha (h.2 j a b ha hb)⟩
theorem All2.cons_inv {α β : Type} {R : α → β → Prop} {a : α} {as : List α} {bs : List β} (h : All2 R (a :: as) bs) : ∃ b bs', bs = b :: bs' ∧ R a b ∧ All2 R as bs' := by
  cases bs with
  | nil => simp [All2] at h
  | cons b bs' => exact ⟨b, bs', rfl, h.head, h.tail⟩
theorem All2.nil_inv {α β : Type} {R : α → β → Prop} {bs : List β} (h : All2 R [] bs) : bs = [] := by
  cases bs with
  | nil => rfl
  | cons b bs' => simp [All2] at h

/-- From w to w' nothing that was there has turned but blocks of O. -/
structure Stp (O : Nat → Prop) (w w' : World) : Prop where
  os : w'.os = w.os
  tape : w'.tape = w.tape
  output : w'.output = w.output
  size : w.heap.size ≤ w'.heap.size
  block : ∀ k, k < w.heap.size → ¬ O k → w'.heap[k]? = w.heap[k]?
theorem Stp.refl (O : Nat → Prop) (w : World) : Stp O w w := ⟨rfl, rfl, rfl, Nat.le_refl _, fun _ _ _ => rfl⟩
theorem Stp.trans {O O' : Nat → Prop} {a b c : World} (h : Stp O a b) (k : Stp O' b c) (hO : ∀ k, k < a.heap.size → O' k → O k) : Stp O a c :=
  ⟨k.os.trans h.os, k.tape.trans h.tape, k.output.trans h.output, Nat.le_trans h.size k.size,
   fun i hi ho => (k.block i (Nat.lt_of_lt_of_le hi h.size) (fun h' => ho (hO i hi h'))).trans (h.block i hi ho)⟩
theorem Stp.mono {O O' : Nat → Prop} {a b : World} (h : Stp O a b) (hO : ∀ k, k < a.heap.size → O k → O' k) : Stp O' a b :=
  ⟨h.os, h.tape, h.output, h.size, fun i hi ho => h.block i hi (fun h' => ho (hO i hi h'))⟩
theorem Stp.cell {O : Nat → Prop} {w w' : World} (h : Stp O w w') {g o : Nat} {v : Value} (hO : ¬ O g) (hc : w.cell? ⟨g, o, none⟩ = some v) : w'.cell? ⟨g, o, none⟩ = some v := by
  have hlt : g < w.heap.size := World.block_lt_of_cell? w ⟨g, o, none⟩ hc
  rw [World.cell?_of_block (w := w) (a := ⟨g, o, none⟩) (h.block g hlt hO)]
  exact hc

/-- Read-only values: the abstract one reads the concrete one, and none of its cells lies in a block of O. -/
inductive Im (O : Nat → Prop) (w : World) : AV → Value → Prop where
  | i (k : IntKind) (n : Int) : Im O w (.i k n) (.int k n)
  | b (x : Bool) : Im O w (.b x) (.bool x)
  | s (l : Str) : l.length ≤ maxLen → Im O w (.s l) (.string ⟨l.toArray⟩)
  | nl : Im O w .nl (.slice none 0 0)
  | rd0 (τ : Ty) (a : Option Addr) (c : Nat) : c ≤ maxLen → Im O w (.rd τ []) (.slice a 0 c)
  | rd (τ : Ty) (l : List (den τ)) (g o c : Nat) (u : Nat → Nat → Value) : ¬ O g → l.length ≤ c → c ≤ maxLen → l ≠ [] →
      (∀ (i : Nat) x (j : Nat) av, l[i]? = some x → (enc τ x)[j]? = some av → w.cell? ⟨g, o + (i * esz τ + j), none⟩ = some (u i j)) →
      (∀ (i : Nat) x (j : Nat) av, l[i]? = some x → (enc τ x)[j]? = some av → Im O w av (u i j)) →
      Im O w (.rd τ l) (.slice (some ⟨g, o, none⟩) l.length c)
  | agg (cs : List AV) (vs : List Value) : cs.length = vs.length → (∀ v ∈ vs, v.oneCell' = true) → (∀ (j : Nat) av v, cs[j]? = some av → vs[j]? = some v → Im O w av v) → Im O w (.agg cs) (.agg vs.toArray)
  | tup (cs : List AV) (vs : List Value) : cs.length = vs.length → (∀ (j : Nat) av v, cs[j]? = some av → vs[j]? = some v → Im O w av v) → Im O w (.tup cs) (.tuple vs.toArray)
  | rp (cs : List AV) (g o : Nat) (u : Nat → Value) : (∀ (j : Nat) av, cs[j]? = some av → ¬ O g ∧ w.cell? ⟨g, o + j, none⟩ = some (u j) ∧ (u j).oneCell' = true) →
      (∀ (j : Nat) av, cs[j]? = some av → Im O w av (u j)) → Im O w (.rp cs) (.pointer (some ⟨g, o, none⟩))
  | fn (f : FuncId) (caps : List AV) (vs : List Value) : caps.length = vs.length → (∀ (j : Nat) av v, caps[j]? = some av → vs[j]? = some v → Im O w av v) → Im O w (.fn f caps) (.func (.func f) #[] vs.toArray)
  | np : Im O w .np (.pointer none)
  | x (v : Value) : Im O w .x v

theorem plain_one {O : Nat → Prop} {w : World} {c : AV} {u : Value} (h : Im O w c u) (hp : c.plain = true) : u.oneCell' = true := by
  cases h <;> first | rfl | (cases hp)

theorem Im.step {O O' : Nat → Prop} {w w' : World} {av : AV} {v : Value} (h : Im O w av v) {Ow : Nat → Prop} (hs : Stp Ow w w') (hw : ∀ k, k < w.heap.size → Ow k → O k)
    (hO : ∀ k, k < w.heap.size → O' k → O k) : Im O' w' av v := by
  induction h with
  | i k n => exact .i k n
  | b x => exact .b x
  | s l h => exact .s l h
  | nl => exact .nl
  | rd0 τ a c h => exact .rd0 τ a c h
  | rd τ l g o c u hg hc hm hne hcell _ ih =>
    have hlt : g < w.heap.size := by
      cases l with
      | nil => exact absurd rfl hne
      | cons x l =>
        have h0 : (enc τ x)[0]? = some ((enc τ x)[0]'(by rw [enc_length]; exact esz_pos τ)) := List.getElem?_eq_getElem _
        exact World.block_lt_of_cell? w ⟨g, _, none⟩ (hcell 0 x 0 _ rfl h0)
    exact .rd τ l g o c u (fun h' => hg (hO g hlt h')) hc hm hne (fun i x j av hx hav => hs.cell (fun h' => hg (hw g hlt h')) (hcell i x j av hx hav)) ih
  | agg cs vs hl ho _ ih => exact .agg cs vs hl ho ih
  | tup cs vs hl _ ih => exact .tup cs vs hl ih
  | rp cs g o u hc _ ih =>
    refine .rp cs g o u (fun j av hj => ?_) ih
    obtain ⟨h1, h2, h3⟩ := hc j av hj
    have hlt : g < w.heap.size := World.block_lt_of_cell? w ⟨g, _, none⟩ h2
    exact ⟨fun h' => h1 (hO g hlt h'), hs.cell (fun h' => h1 (hw g hlt h')) h2, h3⟩
  | fn f caps vs hl _ ih => exact .fn f caps vs hl ih
  | np => exact .np
  | x v => exact .x v

def ids0 : AV → List Nat
  | .pt n _ => [n]
  | .vec id _ _ => [id]
  | .vp id _ _ _ _ => [id]
  | .vs id _ _ _ => [id]
  | .ob id id2 _ => [id, id2]
  | _ => []
def ids : AV → List Nat
  | .fn _ caps => caps.flatMap ids0
  | .tup cs => cs.flatMap ids0
  | .ag cs => cs.flatMap ids0
  | av => ids0 av

/-- A slice of the call's own: nil, or it begins at the head of its own block. -/
def VecAt (β : Nat → Option Nat) (O : Nat → Prop) (w : World) (id : Nat) (τ : Ty) (l : List (den τ)) (v : Value) : Prop :=
  (l = [] ∧ v = .slice none 0 0 ∧ β id = none) ∨
  ∃ g c cur e, β id = some g ∧ v = .slice (some ⟨g, 0, none⟩) l.length c ∧ w.heap[g]? = some (.cells cur e (0, 0)) ∧ l.length ≤ c ∧ c ≤ maxLen ∧ cur.size = c * esz τ ∧
    ∀ (i : Nat) x (j : Nat) av, l[i]? = some x → (enc τ x)[j]? = some av → ∃ u, cur[i * esz τ + j]? = some u ∧ Im O w av u

/-- what is behind the first k of a slice -/
def Suf (z k : Nat) (v' v : Value) : Prop :=
  (k = 0 ∧ v = v') ∨ ∃ g n c ad, v' = .slice (some ⟨g, 0, none⟩) n c ∧ v = .slice (some ad) (n - k) (c - k) ∧ (k < c → ad = ⟨g, k * z, none⟩)
def VsAt (β : Nat → Option Nat) (O : Nat → Prop) (w : World) (id : Nat) (τ : Ty) (l : List (den τ)) (k : Nat) (v : Value) : Prop :=
  k ≤ l.length ∧ ∃ v', VecAt β O w id τ l v' ∧ Suf (esz τ) k v' v

/-- bytes as they lie in cells -/
def bcells (l : Str) : List Value := l.map fun b => .int .u8 (b.toNat : Int)
/-- a Builder's buffer -/
def BufAt (β : Nat → Option Nat) (w : World) (id2 : Nat) (e : TypeId) (l : Str) (u : Value) : Prop :=
  (l = [] ∧ u = .slice none 0 0 ∧ β id2 = none) ∨
  ∃ g c cur fz, β id2 = some g ∧ u = .slice (some ⟨g, 0, none⟩) l.length c ∧ w.heap[g]? = some (.cells cur e fz) ∧ fz.2 ≤ l.length ∧ l.length ≤ c ∧ c ≤ maxLen ∧ cur.size = c ∧ cur.toList.take l.length = bcells l ∧ l ≠ []
def ObAt (β : Nat → Option Nat) (O : Nat → Prop) (w : World) (id id2 : Nat) : Ob → Value → Prop
  | .sb T e l, v => ∃ b p u, β id = some b ∧ v = .pointer (some ⟨b, 0, none⟩) ∧ w.heap[b]? = some (.cells #[p, u] T (0, 0)) ∧ (p = .pointer none ∨ p = v) ∧ BufAt β w id2 e l u
  | .it s pos, v => ∃ g, β id = some g ∧ v = .pointer (some ⟨g, 0, none⟩) ∧ w.heap[g]? = some (.stringIter ⟨s.toArray⟩ pos) ∧ s.length ≤ maxLen ∧ pos ≤ s.length
  | .mp κ τ es, v => ∃ g ents clock, β id = some g ∧ v = .map (some g) ∧ w.heap[g]? = some (.map ents clock) ∧ es.length ≤ maxLen ∧
      All2 (fun p (e : MapEntry) => All2 (Im O w) (enc κ p.1) [e.key] ∧ All2 (Im O w) (enc τ p.2) [e.val]) es ents.toList

def Rel0 (β : Nat → Option Nat) (O : Nat → Prop) (w : World) : AV → Value → Prop
  | .pt n o, v => ∃ g, β n = some g ∧ v = .pointer (some ⟨g, o, none⟩)
  | .vec id τ l, v => VecAt β O w id τ l v
  | .vp id τ l n off, v => n < l.length ∧ (∃ g, β id = some g ∧ v = .pointer (some ⟨g, n * esz τ + off, none⟩)) ∧ ∃ v', VecAt β O w id τ l v'
  | .vs id τ l k, v => VsAt β O w id τ l k v
  | .ob id id2 o, v => ObAt β O w id id2 o v
  | av, v => Im O w av v
def Rel (β : Nat → Option Nat) (O : Nat → Prop) (w : World) : AV → Value → Prop
  | .fn f caps, v => ∃ vs : List Value, v = .func (.func f) #[] vs.toArray ∧ All2 (Rel0 β O w) caps vs
  | .tup cs, v => ∃ vs : List Value, v = .tuple vs.toArray ∧ All2 (Rel0 β O w) cs vs
  | .ag cs, v => ∃ vs : List Value, v = .agg vs.toArray ∧ All2 (Rel0 β O w) cs vs ∧ ∀ v ∈ vs, v.oneCell' = true
  | av, v => Rel0 β O w av v

/-- in a cell -/
def RelC (β : Nat → Option Nat) (O : Nat → Prop) (w : World) (c : AV) (u : Value) : Prop := Rel β O w c u ∧ u.oneCell' = true

theorem Rel0.im {β : Nat → Option Nat} {O : Nat → Prop} {w : World} {av : AV} {v : Value} (h : Im O w av v) : Rel0 β O w av v := by
  cases av <;> first | exact h | cases h
theorem Rel.im {β : Nat → Option Nat} {O : Nat → Prop} {w : World} {av : AV} {v : Value} (h : Im O w av v) : Rel β O w av v := by
  cases av with
  | fn f caps =>
    cases h with
    | fn _ _ vs h1 h2 => exact ⟨vs, rfl, h1, fun j c u hc hu => Rel0.im (h2 j c u hc hu)⟩
  | tup cs =>
    cases h with
    | tup _ vs h1 h2 => exact ⟨vs, rfl, h1, fun j c u hc hu => Rel0.im (h2 j c u hc hu)⟩
  | _ => first | exact h | cases h
theorem Rel.rel0 {β : Nat → Option Nat} {O : Nat → Prop} {w : World} {av : AV} {v : Value} (h : Rel0 β O w av v) : Rel β O w av v := by
  cases av with
  | fn f caps => exact Rel.im h
  | tup cs => exact Rel.im h
  | ag cs => exact Rel.im h
  | _ => exact h
/-- the cells behind a pointer that is only read -/
theorem Im.inv_rp {O : Nat → Prop} {w : World} {cs : List AV} {v : Value} (h : Im O w (.rp cs) v) :
    ∃ g o, v = .pointer (some ⟨g, o, none⟩) ∧ ∀ (j : Nat) av, cs[j]? = some av → ¬ O g ∧ ∃ u, w.cell? ⟨g, o + j, none⟩ = some u ∧ Im O w av u ∧ u.oneCell' = true := by
  cases h with
  | rp _ g o u h1 h2 => exact ⟨g, o, rfl, fun j av hj => ⟨(h1 j av hj).1, u j, (h1 j av hj).2.1, h2 j av hj, (h1 j av hj).2.2⟩⟩
theorem Im.mk_rp {O : Nat → Prop} {w : World} {cs : List AV} {g o : Nat} (h : ∀ (j : Nat) av, cs[j]? = some av → ¬ O g ∧ ∃ u, w.cell? ⟨g, o + j, none⟩ = some u ∧ Im O w av u ∧ u.oneCell' = true) :
    Im O w (.rp cs) (.pointer (some ⟨g, o, none⟩)) :=
  .rp cs g o (fun j => (w.cell? ⟨g, o + j, none⟩).getD undef) (fun j av hj => by
    obtain ⟨h1, u, h2, _, h3⟩ := h j av hj
    exact ⟨h1, by rw [h2]; rfl, by rw [h2]; exact h3⟩) (fun j av hj => by
    obtain ⟨_, u, h2, h4, _⟩ := h j av hj
    rw [h2]; exact h4)
theorem Rel.x {β : Nat → Option Nat} {O : Nat → Prop} {w : World} {v : Value} : Rel β O w .x v := Im.x v

/-- what keeps an own slice -/
theorem VecAt.step {β β' : Nat → Option Nat} {O O' : Nat → Prop} {w w' : World} {id : Nat} {τ : Ty} {l : List (den τ)} {v : Value} (h : VecAt β O w id τ l v)
    {Ow : Nat → Prop} (hs : Stp Ow w w') (hw : ∀ k, k < w.heap.size → Ow k → O k) (hO : ∀ k, k < w.heap.size → O' k → O k)
    (hβ : β' id = β id) (hb : ∀ g, β id = some g → w'.heap[g]? = w.heap[g]?) : VecAt β' O' w' id τ l v := by
  rcases h with ⟨h1, h2, h3⟩ | ⟨g, c, cur, e, h1, h2, h3, h4, h5, h6, h7⟩
  · exact .inl ⟨h1, h2, hβ.trans h3⟩
  · refine .inr ⟨g, c, cur, e, hβ.trans h1, h2, (hb g h1).trans h3, h4, h5, h6, fun i x j av hx hav => ?_⟩
    obtain ⟨u, hu, him⟩ := h7 i x j av hx hav
    exact ⟨u, hu, him.step hs hw hO⟩

/-- the ids whose block's content an abstract value speaks of -/
def vids0 : AV → List Nat
  | .vec id _ _ => [id]
  | .vp id _ _ _ _ => [id]
  | .vs id _ _ _ => [id]
  | .ob id id2 _ => [id, id2]
  | _ => []
def vids : AV → List Nat
  | .fn _ caps => caps.flatMap vids0
  | .tup cs => cs.flatMap vids0
  | .ag cs => cs.flatMap vids0
  | av => vids0 av

theorem ObAt.step {β β' : Nat → Option Nat} {O O' : Nat → Prop} {w w' : World} {id id2 : Nat} {o : Ob} {v : Value} (h : ObAt β O w id id2 o v)
    {Ow : Nat → Prop} (hs : Stp Ow w w') (hw : ∀ k, k < w.heap.size → Ow k → O k) (hO : ∀ k, k < w.heap.size → O' k → O k)
    (hβ : β' id = β id) (hβ2 : β' id2 = β id2) (hb : ∀ g, β id = some g → w'.heap[g]? = w.heap[g]?) (hb2 : ∀ g, β id2 = some g → w'.heap[g]? = w.heap[g]?) : ObAt β' O' w' id id2 o v := by
  cases o with
  | sb T e l =>
    obtain ⟨b, p, u, h1, h2, h3, h4, h5⟩ := h
    refine ⟨b, p, u, hβ.trans h1, h2, (hb b h1).trans h3, h4, ?_⟩
    rcases h5 with ⟨h5, h6, h7⟩ | ⟨g, c, cur, fz, h5, h6, h7, h8⟩
    · exact .inl ⟨h5, h6, hβ2.trans h7⟩
    · exact .inr ⟨g, c, cur, fz, hβ2.trans h5, h6, (hb2 g h5).trans h7, h8⟩
  | it s pos =>
    obtain ⟨g, h1, h2, h3, h4⟩ := h
    exact ⟨g, hβ.trans h1, h2, (hb g h1).trans h3, h4⟩
  | mp κ τ es =>
    obtain ⟨g, ents, clock, h1, h2, h3, h4, h5⟩ := h
    exact ⟨g, ents, clock, hβ.trans h1, h2, (hb g h1).trans h3, h4, h5.mono fun j a b ha hr => ⟨hr.1.mono fun _ _ _ _ h => h.step hs hw hO, hr.2.mono fun _ _ _ _ h => h.step hs hw hO⟩⟩

theorem Rel0.step {β β' : Nat → Option Nat} {O O' : Nat → Prop} {w w' : World} {av : AV} {v : Value} (h : Rel0 β O w av v)
    {Ow : Nat → Prop} (hs : Stp Ow w w') (hw : ∀ k, k < w.heap.size → Ow k → O k) (hO : ∀ k, k < w.heap.size → O' k → O k)
    (hβ : ∀ n ∈ ids0 av, β' n = β n) (hb : ∀ n ∈ vids0 av, ∀ g, β n = some g → w'.heap[g]? = w.heap[g]?) : Rel0 β' O' w' av v := by
  cases av with
  | pt n o =>
    obtain ⟨g, h1, h2⟩ := h
    exact ⟨g, (hβ n (by simp [ids0])).trans h1, h2⟩
  | vec id τ l => exact VecAt.step h hs hw hO (hβ id (by simp [ids0])) (hb id (by simp [vids0]))
  | vp id τ l n off =>
    obtain ⟨h0, ⟨g, h1, h2⟩, v', h3⟩ := h
    exact ⟨h0, ⟨g, (hβ id (by simp [ids0])).trans h1, h2⟩, v', VecAt.step h3 hs hw hO (hβ id (by simp [ids0])) (hb id (by simp [vids0]))⟩
  | vs id τ l k =>
    obtain ⟨h0, v', h3, h4⟩ := h
    exact ⟨h0, v', VecAt.step h3 hs hw hO (hβ id (by simp [ids0])) (hb id (by simp [vids0])), h4⟩
  | ob id id2 o => exact ObAt.step h hs hw hO (hβ id (by simp [ids0])) (hβ id2 (by simp [ids0])) (hb id (by simp [vids0])) (hb id2 (by simp [vids0]))
  | np => exact Im.step h hs hw hO
  | ag cs => exact Im.step h hs hw hO
  | rp cs => exact Im.step h hs hw hO
  | i k n => exact Im.step h hs hw hO
  | b x => exact Im.step h hs hw hO
  | s l => exact Im.step h hs hw hO
  | nl => exact Im.step h hs hw hO
  | rd τ l => exact Im.step h hs hw hO
  | agg cs => exact Im.step h hs hw hO
  | tup cs => exact Im.step h hs hw hO
  | fn f caps => exact Im.step h hs hw hO
  | x => exact Im.step h hs hw hO
end Go.SX
