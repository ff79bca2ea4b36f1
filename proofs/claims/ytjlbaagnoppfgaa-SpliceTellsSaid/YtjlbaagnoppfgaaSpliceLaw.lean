/-
  Changes of a text, in plain Lean: what the program's builder makes and what the document's atoms make are one.
-/
import Derived.Test.YtjlbaagnoppfgaaSxData
namespace Go.Spl
open Go.SX

/-- what is wrong with one part -/
def pfault (p : Part) : Int :=
  if p.kind < 1 ∨ 3 < p.kind then 10
  else if p.n < 0 ∨ 20000 < p.n ∨ (p.kind = 3 ∧ p.n ≠ 0) then 1
  else if 20000 < (p.s.length : Int) then 2
  else if p.kind ≠ 3 ∧ p.s ≠ [] then 1 else 0
def pov (p : Part) : Int := if p.kind = 3 then 0 else p.n
def pmk (p : Part) : Int := if p.kind = 2 then 0 else p.n + p.s.length
def sumOv (c : List Part) : Int := (c.map pov).sum
def sumMk (c : List Part) : Int := (c.map pmk).sum
def chk (c : List Part) : Int × Int × Int :=
  if 400 < (c.length : Int) then (0, 0, 2)
  else match c.find? (fun p => pfault p != 0) with
    | some p => (0, 0, pfault p)
    | none => if 20000 < sumOv c ∨ 20000 < sumMk c then (0, 0, 2) else (sumOv c, sumMk c, 0)
theorem pf_bounds {p : Part} (h : pfault p = 0) : 1 ≤ p.kind ∧ p.kind ≤ 3 ∧ 0 ≤ p.n ∧ p.n ≤ 20000 ∧ (p.kind = 3 → p.n = 0) ∧ (p.s.length : Int) ≤ 20000 ∧ (p.kind ≠ 3 → p.s = []) := by
  unfold pfault at h
  split at h
  · cases h
  split at h
  · cases h
  split at h
  · cases h
  split at h
  · cases h
  rename_i h1 h2 h3 h4
  refine ⟨by omega, by omega, by omega, by omega, fun h => by omega, by omega, fun h => ?_⟩
  by_cases h5 : p.s = []
  · exact h5
  · exact absurd ⟨h, h5⟩ h4
theorem sums_le {c : List Part} (h : ∀ p ∈ c, pfault p = 0) : 0 ≤ sumOv c ∧ sumOv c ≤ 20000 * c.length ∧ 0 ≤ sumMk c ∧ sumMk c ≤ 40000 * c.length := by
  induction c with
  | nil => simp [sumOv, sumMk]
  | cons p c ih =>
    have h1 := pf_bounds (h p (List.mem_cons_self ..))
    have h2 := ih fun q hq => h q (List.mem_cons_of_mem _ hq)
    simp only [sumOv, sumMk, List.map_cons, List.sum_cons, List.length_cons] at h2 ⊢
    have h3 : 0 ≤ pov p ∧ pov p ≤ 20000 := by unfold pov; split <;> omega
    have h4 : 0 ≤ pmk p ∧ pmk p ≤ 40000 := by unfold pmk; split <;> omega
    omega
theorem sum_take {c : List Part} {k : Nat} (hk : k < c.length) : sumOv (c.take (k + 1)) = sumOv (c.take k) + pov (c.getD k default) ∧ sumMk (c.take (k + 1)) = sumMk (c.take k) + pmk (c.getD k default) := by
  have e : c.take (k + 1) = c.take k ++ [c.getD k default] := by rw [List.take_add_one, List.getElem?_eq_getElem hk]; simp [hk]
  rw [e]
  simp [sumOv, sumMk]
theorem chk_bad {c : List Part} {k : Nat} (hl : ¬ 400 < (c.length : Int)) (hk : k < c.length) (h : ∀ p ∈ c.take k, pfault p = 0) (hb : pfault (c.getD k default) ≠ 0) : chk c = (0, 0, pfault (c.getD k default)) := by
  have : c.find? (fun p => pfault p != 0) = some (c.getD k default) := by
    have e : c = c.take k ++ c.getD k default :: c.drop (k + 1) := by
      have h1 := (List.take_append_drop k c).symm
      have h2 : c.drop k = c.getD k default :: c.drop (k + 1) := by rw [List.drop_eq_getElem_cons hk]; simp [hk]
      rw [h2] at h1; exact h1
    rw [e, List.find?_append, List.find?_eq_none.2 (by intro p hp; simp [h p hp])]
    simp only [Option.none_or]
    rw [← e, List.find?_cons_of_pos (by simpa using hb)]
  unfold chk
  rw [if_neg hl, this]
theorem chk_good {c : List Part} (hl : ¬ 400 < (c.length : Int)) (h : ∀ p ∈ c, pfault p = 0) : chk c = if 20000 < sumOv c ∨ 20000 < sumMk c then (0, 0, 2) else (sumOv c, sumMk c, 0) := by
  unfold chk
  rw [if_neg hl, List.find?_eq_none.2 (by intro p hp; simp [h p hp])]

inductive Prim where
  | keep
  | cut
  | put (b : UInt8)
open Prim
def ex (p : Part) : List Prim :=
  if p.kind = 1 then List.replicate p.n.toNat keep else if p.kind = 2 then List.replicate p.n.toNat cut else if p.kind = 3 then p.s.map put else []
def exs (c : List Part) : List Prim := c.flatMap ex
@[simp] theorem exs_nil : exs [] = [] := rfl
theorem exs_cons (p : Part) (c : List Part) : exs (p :: c) = ex p ++ exs c := rfl
theorem exs_append (a b : List Part) : exs (a ++ b) = exs a ++ exs b := by simp [exs]

/-! ### the builder -/
structure Bld where
  out : List Part
  cut : Int
  put : Str
def Bld.init : Bld := ⟨[], 0, []⟩
def flush (b : Bld) : Bld :=
  ⟨b.out ++ (if b.put ≠ [] then [⟨3, 0, b.put⟩] else []) ++ (if 0 < b.cut then [⟨2, b.cut, []⟩] else []), 0, []⟩
/-- one that is kept, behind what is there -/
def tail (l : List Part) (p : Part) : List Part :=
  match l.getLast? with
  | some q => if q.kind = 1 then l.dropLast ++ [⟨q.kind, q.n + p.n, q.s⟩] else l ++ [p]
  | none => l ++ [p]
def add (b : Bld) (p : Part) : Bld :=
  if p.kind = 3 then { b with put := b.put ++ p.s }
  else if p.kind = 2 then { b with cut := b.cut + p.n }
  else if p.kind = 1 then (if p.n = 0 then b else ⟨tail (flush b).out p, 0, []⟩)
  else b
def done (b : Bld) : List Part := (flush b).out
def norm (c : List Part) : List Part := done (c.foldl add .init)
def addP (b : Bld) : Prim → Bld
  | .keep => add b ⟨1, 1, []⟩
  | .cut => add b ⟨2, 1, []⟩
  | .put c => add b ⟨3, 0, [c]⟩
/-- a part that is well -/
structure Ok (p : Part) : Prop where
  kind : p.kind = 1 ∨ p.kind = 2 ∨ p.kind = 3
  n0 : 0 ≤ p.n
  s0 : p.kind ≠ 3 → p.s = []
  n3 : p.kind = 3 → p.n = 0
theorem flush_flush (b : Bld) : flush (flush b) = flush b := by simp [flush]
theorem flush_clean {b : Bld} (h1 : b.put = []) (h2 : b.cut = 0) : flush b = b := by
  obtain ⟨o, c, p⟩ := b
  simp only at h1 h2
  subst h1 h2
  simp [flush]
theorem tail_tail (l : List Part) (m n : Int) : tail (tail l ⟨1, m, []⟩) ⟨1, n, []⟩ = tail l ⟨1, m + n, []⟩ := by
  unfold tail
  cases h : l.getLast? with
  | none => simp
  | some q =>
    by_cases hq : q.kind = 1
    · simp [hq, Int.add_assoc]
    · simp [hq]
theorem add_keep (b : Bld) {m n : Int} (hm : m ≠ 0) (hn : n ≠ 0) (h : m + n ≠ 0) : add (add b ⟨1, m, []⟩) ⟨1, n, []⟩ = add b ⟨1, m + n, []⟩ := by
  simp only [add]
  simp only [show ((1 : Int) = 3) = False by simp, show ((1 : Int) = 2) = False by simp, if_false, if_true, hm, hn, h]
  rw [flush_clean rfl rfl, tail_tail]
theorem add_ex {p : Part} (h : Ok p) (b : Bld) : add b p = (ex p).foldl addP b := by
  obtain ⟨k, n, s⟩ := p
  rcases h.kind with h1 | h1 | h1 <;> simp only at h1 <;> subst h1
  · have hs : s = [] := h.s0 (by simp)
    subst hs
    have hn : 0 ≤ n := h.n0
    obtain ⟨m, rfl⟩ : ∃ m : Nat, n = m := ⟨n.toNat, by omega⟩
    clear h hn
    simp only [ex, if_true, Int.toNat_natCast]
    induction m with
    | zero => simp [add]
    | succ m ih =>
      rw [List.replicate_succ', List.foldl_append, ← ih]
      simp only [List.foldl_cons, List.foldl_nil, addP]
      by_cases hm : m = 0
      · subst hm; simp [add]
      · rw [add_keep b (by omega) (by omega) (by omega)]; rfl
  · have hs : s = [] := h.s0 (by simp)
    subst hs
    have hn : 0 ≤ n := h.n0
    obtain ⟨m, rfl⟩ : ∃ m : Nat, n = m := ⟨n.toNat, by omega⟩
    clear h hn
    simp only [ex, show ((2 : Int) = 1) = False by simp, if_false, if_true, Int.toNat_natCast]
    induction m with
    | zero => simp [add]
    | succ m ih =>
      rw [List.replicate_succ', List.foldl_append, ← ih]
      simp [addP, add, Int.add_assoc]
  · have hn : n = 0 := h.n3 rfl
    subst hn
    clear h
    simp only [ex, show ((3 : Int) = 1) = False by simp, show ((3 : Int) = 2) = False by simp, if_false, if_true]
    induction s generalizing b with
    | nil => simp [add]
    | cons c s ih =>
      simp only [List.map_cons, List.foldl_cons]
      rw [← ih]
      simp [addP, add]
theorem adds_ex {c : List Part} (h : ∀ p ∈ c, Ok p) : ∀ b, c.foldl add b = (exs c).foldl addP b := by
  induction c with
  | nil => intro b; rfl
  | cons p c ih =>
    intro b
    rw [exs_cons, List.foldl_append, List.foldl_cons, add_ex (h p (List.mem_cons_self ..)), ih fun q hq => h q (List.mem_cons_of_mem _ hq)]

/-! ### atoms -/
def at' : List Atom → List Prim → List Atom
  | _, [] => []
  | l, .keep :: r => l.take 1 ++ at' (l.drop 1) r
  | l, .cut :: r => at' (l.drop 1) r
  | l, .put b :: r => ⟨-1, (b.toNat : Int)⟩ :: at' l r
def atomsOf : List Atom → List Part → List Atom
  | _, [] => []
  | l, p :: r =>
    if p.kind = 1 then l.take p.n.toNat ++ atomsOf (l.drop p.n.toNat) r
    else if p.kind = 2 then atomsOf (l.drop p.n.toNat) r
    else if p.kind = 3 then p.s.map (fun b => ⟨-1, (b.toNat : Int)⟩) ++ atomsOf l r
    else atomsOf l r
theorem at_keeps (n : Nat) : ∀ (l : List Atom) (r : List Prim), at' l (List.replicate n keep ++ r) = l.take n ++ at' (l.drop n) r := by
  induction n with
  | zero => intro l r; simp
  | succ n ih =>
    intro l r
    rw [List.replicate_succ, List.cons_append, at', ih]
    cases l <;> simp
theorem at_cuts (n : Nat) : ∀ (l : List Atom) (r : List Prim), at' l (List.replicate n cut ++ r) = at' (l.drop n) r := by
  induction n with
  | zero => intro l r; simp
  | succ n ih =>
    intro l r
    rw [List.replicate_succ, List.cons_append, at', ih]
    cases l <;> simp
theorem at_puts (s : Str) (l : List Atom) (r : List Prim) : at' l (s.map put ++ r) = s.map (fun b => ⟨-1, (b.toNat : Int)⟩) ++ at' l r := by
  induction s with
  | nil => rfl
  | cons c s ih => simp [at', ih]
theorem atomsOf_eq (c : List Part) : ∀ l, atomsOf l c = at' l (exs c) := by
  induction c with
  | nil => intro l; simp [atomsOf, at']
  | cons p c ih =>
    intro l
    rw [exs_cons, atomsOf, ex]
    split
    · rw [at_keeps, ih]
    · split
      · rw [at_cuts, ih]
      · split
        · rw [at_puts, ih]
        · simp [ih]
theorem at_congr (pre : List Prim) {x y : List Prim} (h : ∀ l, at' l x = at' l y) : ∀ l, at' l (pre ++ x) = at' l (pre ++ y) := by
  induction pre with
  | nil => exact h
  | cons p r ih => intro l; cases p <;> simp [at', ih]
theorem at_swap (n : Nat) (b : UInt8) (r : List Prim) (l : List Atom) : at' l (put b :: (List.replicate n cut ++ r)) = at' l (List.replicate n cut ++ put b :: r) := by
  rw [at', at_cuts, at_cuts, at']

/-! ### the builder's parts mean what was added -/
def repr (b : Bld) : List Prim := exs b.out ++ b.put.map put ++ List.replicate b.cut.toNat cut
theorem repr_flush (b : Bld) : repr (flush b) = repr b := by
  obtain ⟨o, c, p⟩ := b
  simp only [repr, flush, exs_append, List.map_nil, List.append_nil, Int.toNat_zero, List.replicate_zero]
  congr 1
  · congr 1
    by_cases h : p = []
    · simp [h]
    · simp [h, exs, ex]
  · by_cases h : 0 < c
    · simp [h, exs, ex]
    · simp [h, show c.toNat = 0 by omega]
theorem exs_done (b : Bld) : exs (done b) = repr b := by
  rw [← repr_flush]; simp [repr, done, flush]
/-- what is there is well -/
structure BOk (b : Bld) : Prop where
  out : ∀ p ∈ b.out, Ok p ∧ ex p ≠ []
  cut : 0 ≤ b.cut
theorem BOk.flush {b : Bld} (h : BOk b) : BOk (flush b) := by
  refine ⟨fun p hp => ?_, Int.le_refl _⟩
  simp only [Spl.flush, List.mem_append] at hp
  rcases hp with (hp | hp) | hp
  · exact h.out p hp
  · split at hp
    · rename_i hne
      simp only [List.mem_singleton] at hp; subst hp
      exact ⟨⟨by simp, by simp, by simp, by simp⟩, by simpa [ex] using hne⟩
    · cases hp
  · split at hp
    · rename_i hc
      simp only [List.mem_singleton] at hp; subst hp
      exact ⟨⟨by simp, by simpa using Int.le_of_lt hc, by simp, by simp⟩, by simp [ex]; omega⟩
    · cases hp
theorem BOk.done {b : Bld} (h : BOk b) : ∀ p ∈ done b, Ok p ∧ ex p ≠ [] := h.flush.out
theorem tail_spec {l : List Part} (h : ∀ p ∈ l, Ok p ∧ ex p ≠ []) : (∀ p ∈ tail l ⟨1, 1, []⟩, Ok p ∧ ex p ≠ []) ∧ exs (tail l ⟨1, 1, []⟩) = exs l ++ [keep] := by
  have one : Ok ⟨1, 1, []⟩ ∧ ex ⟨1, 1, []⟩ ≠ [] := ⟨⟨by simp, by simp, by simp, by simp⟩, by simp [ex]⟩
  have app : (∀ p ∈ l ++ [(⟨1, 1, []⟩ : Part)], Ok p ∧ ex p ≠ []) ∧ exs (l ++ [(⟨1, 1, []⟩ : Part)]) = exs l ++ [keep] := by
    refine ⟨fun p hp => ?_, by simp [exs, ex]⟩
    rcases List.mem_append.1 hp with hp | hp
    · exact h p hp
    · rw [List.mem_singleton] at hp; subst hp; exact one
  unfold tail
  cases hl : l.getLast? with
  | none => exact app
  | some q =>
    by_cases hq : q.kind = 1
    · simp only [hq, if_true]
      have hql : l = l.dropLast ++ [q] := by
        rw [List.getLast?_eq_some_iff] at hl
        obtain ⟨ys, rfl⟩ := hl
        simp
      have hqm : q ∈ l := by rw [hql]; simp
      obtain ⟨h1, h2⟩ := h q hqm
      have hqs : q.s = [] := h1.s0 (by omega)
      have hn := h1.n0
      refine ⟨fun p hp => ?_, ?_⟩
      · rcases List.mem_append.1 hp with hp | hp
        · exact h p (List.dropLast_subset _ hp)
        · rw [List.mem_singleton] at hp; subst hp
          exact ⟨⟨by simp, by simp; omega, by simp [hqs], by simp⟩, by simp [ex]; omega⟩
      · conv => rhs; rw [hql]
        rw [exs_append, exs_append, List.append_assoc]
        congr 1
        simp only [exs, List.flatMap_cons, List.flatMap_nil, List.append_nil, ex, hq, if_true]
        rw [show (q.n + 1).toNat = q.n.toNat + 1 by omega, List.replicate_succ']
    · simp only [hq, if_false]; exact app
theorem BOk.addP {b : Bld} (h : BOk b) (x : Prim) : BOk (addP b x) := by
  cases x with
  | keep =>
    simp only [Spl.addP, add, show ((1 : Int) = 3) = False by simp, show ((1 : Int) = 2) = False by simp, show ((1 : Int) = 0) = False by simp, if_false, if_true]
    exact ⟨(tail_spec h.flush.out).1, Int.le_refl _⟩
  | cut =>
    simp only [Spl.addP, add, show ((2 : Int) = 3) = False by simp, if_false, if_true]
    exact ⟨h.out, by have := h.cut; simp; omega⟩
  | put c =>
    simp only [Spl.addP, add, if_true]
    exact ⟨h.out, h.cut⟩
theorem at_addP {b : Bld} (h : BOk b) (x : Prim) (r : List Prim) (l : List Atom) : at' l (repr (addP b x) ++ r) = at' l (repr b ++ x :: r) := by
  cases x with
  | keep =>
    simp only [addP, add, show ((1 : Int) = 3) = False by simp, show ((1 : Int) = 2) = False by simp, show ((1 : Int) = 0) = False by simp, if_false, if_true]
    have : repr ⟨tail (flush b).out ⟨1, 1, []⟩, 0, []⟩ = repr b ++ [keep] := by
      rw [← repr_flush b]
      simp only [repr, List.map_nil, List.append_nil, Int.toNat_zero, List.replicate_zero, (tail_spec h.flush.out).2]
      simp [flush]
    rw [this]; simp
  | cut =>
    simp only [addP, add, show ((2 : Int) = 3) = False by simp, if_false, if_true]
    have hc := h.cut
    simp only [repr, show (b.cut + 1).toNat = b.cut.toNat + 1 by omega, List.replicate_succ']
    simp
  | put c =>
    simp only [addP, add, if_true, repr, List.map_append, List.map_cons, List.map_nil, List.append_assoc]
    refine at_congr _ (fun l => at_congr _ (fun l => ?_) l) l
    simpa using at_swap _ c r l
theorem at_adds (ps : List Prim) : ∀ (b : Bld), BOk b → ∀ l r, at' l (repr (ps.foldl addP b) ++ r) = at' l (repr b ++ ps ++ r) := by
  induction ps with
  | nil => intro b _ l r; simp
  | cons x ps ih =>
    intro b h l r
    rw [List.foldl_cons, ih _ (h.addP x), List.append_assoc, at_addP h x]
    simp
theorem BOk.adds (ps : List Prim) : ∀ {b : Bld}, BOk b → BOk (ps.foldl Spl.addP b) := by
  induction ps with
  | nil => intro b h; exact h
  | cons x ps ih => intro b h; exact ih (h.addP x)
theorem BOk.init : BOk .init := ⟨(fun _ h => nomatch h), Int.le_refl _⟩
theorem at_done (ps : List Prim) (l : List Atom) : at' l (exs (done (ps.foldl addP .init))) = at' l ps := by
  have := at_adds ps .init BOk.init l []
  rw [exs_done]
  simpa [repr, Bld.init] using this

/-! ### counts -/
def wt (f : Prim → Nat) : List Prim → Nat
  | [] => 0
  | x :: r => f x + wt f r
theorem wt_append (f : Prim → Nat) (a b : List Prim) : wt f (a ++ b) = wt f a + wt f b := by
  induction a with
  | nil => simp [wt]
  | cons x a ih => simp [wt, ih, Nat.add_assoc]
theorem wt_addP (f : Prim → Nat) {b : Bld} (h : BOk b) (x : Prim) : wt f (repr (addP b x)) = wt f (repr b) + f x := by
  cases x with
  | keep =>
    simp only [addP, add, show ((1 : Int) = 3) = False by simp, show ((1 : Int) = 2) = False by simp, show ((1 : Int) = 0) = False by simp, if_false, if_true]
    have : repr ⟨tail (flush b).out ⟨1, 1, []⟩, 0, []⟩ = repr b ++ [keep] := by
      rw [← repr_flush b]
      simp only [repr, List.map_nil, List.append_nil, Int.toNat_zero, List.replicate_zero, (tail_spec h.flush.out).2]
      simp [flush]
    rw [this, wt_append]; simp [wt]
  | cut =>
    simp only [addP, add, show ((2 : Int) = 3) = False by simp, if_false, if_true]
    have hc := h.cut
    simp only [repr, show (b.cut + 1).toNat = b.cut.toNat + 1 by omega, List.replicate_succ', wt_append, wt]
    omega
  | put c =>
    simp only [addP, add, if_true, repr, List.map_append, List.map_cons, List.map_nil, wt_append, wt]
    omega
theorem wt_adds (f : Prim → Nat) (ps : List Prim) : ∀ {b : Bld}, BOk b → wt f (repr (ps.foldl addP b)) = wt f (repr b) + wt f ps := by
  induction ps with
  | nil => intro b _; simp [wt]
  | cons x ps ih => intro b h; rw [List.foldl_cons, ih (h.addP x), wt_addP f h]; simp [wt]; omega
def fOv : Prim → Nat
  | .put _ => 0
  | _ => 1
def fMk : Prim → Nat
  | .cut => 0
  | _ => 1
theorem wt_done (f : Prim → Nat) (ps : List Prim) : wt f (exs (done (ps.foldl addP .init))) = wt f ps := by
  rw [exs_done, wt_adds f ps BOk.init]; simp [repr, Bld.init, wt]

/-! ### the document's normal one -/
structure Ref where
  out : List Part
  put : Str
  next : Int
  kept : Int
def rflush (r : Ref) (to : Int) : Ref :=
  ⟨(if 0 < r.kept ∧ (r.put ≠ [] ∨ r.next < to) then r.out ++ [⟨1, r.kept, []⟩] else r.out) ++ (if r.put ≠ [] then [⟨3, 0, r.put⟩] else []) ++ (if r.next < to then [⟨2, to - r.next, []⟩] else []), [], r.next,
   if 0 < r.kept ∧ (r.put ≠ [] ∨ r.next < to) then 0 else r.kept⟩
def rstep (r : Ref) (a : Atom) : Ref :=
  if a.pos < 0 then { r with put := r.put ++ [UInt8.ofNat a.c.toNat] } else let r := rflush r a.pos; ⟨r.out, r.put, a.pos + 1, r.kept + 1⟩
def rdone (r : Ref) (n : Int) : List Part := let r := rflush r n; if 0 < r.kept then r.out ++ [⟨1, r.kept, []⟩] else r.out
def normalOf (l : List Atom) (n : Int) : List Part := rdone (l.foldl rstep ⟨[], [], 0, 0⟩) n
def wholeFrom (i : Nat) : Nat → List Atom
  | 0 => []
  | n + 1 => ⟨(i : Int), 0⟩ :: wholeFrom (i + 1) n
structure Sim (b : Bld) (r : Ref) (i : Int) : Prop where
  put : b.put = r.put
  cut : b.cut = i - r.next
  le : r.next ≤ i
  kept : 0 ≤ r.kept
  out : b.out = r.out ++ (if 0 < r.kept then [⟨1, r.kept, []⟩] else [])
  last : r.kept = 0 → ∀ q, r.out.getLast? = some q → q.kind ≠ 1
theorem Sim.flush {b : Bld} {r : Ref} {i : Int} (h : Sim b r i) : (flush b).out = (rflush r i).out ++ (if 0 < (rflush r i).kept then [⟨1, (rflush r i).kept, []⟩] else []) ∧ 0 ≤ (rflush r i).kept ∧
    ((rflush r i).kept = 0 → ∀ q, (rflush r i).out.getLast? = some q → q.kind ≠ 1) := by
  have h1 : (0 < b.cut) = (r.next < i) := propext ⟨fun h' => by have := h.cut; omega, fun h' => by have := h.cut; omega⟩
  have hle := h.le
  have hk := h.kept
  simp only [Spl.flush, rflush, h.out, h.put, h.cut]
  by_cases hp : r.put = [] <;> by_cases hn : r.next < i <;> by_cases hkp : 0 < r.kept
  all_goals simp only [hp, hn, hkp, ne_eq, not_true_eq_false, not_false_eq_true, if_true, if_false, or_self, or_true, true_or, and_true, and_false, List.append_nil, Int.lt_irrefl, and_self]
  all_goals simp
  all_goals first | omega | exact ⟨by omega, hk, h.last⟩ | exact ⟨hk, h.last⟩ | exact h.last (by omega) | skip
theorem tail_of {l : List Part} {k : Int} (hk : 0 ≤ k) (hl : k = 0 → ∀ q, l.getLast? = some q → q.kind ≠ 1) :
    tail (l ++ (if 0 < k then [⟨1, k, []⟩] else [])) ⟨1, 1, []⟩ = l ++ [⟨1, k + 1, []⟩] := by
  by_cases h : 0 < k
  · simp [h, tail]
  · have hk0 : k = 0 := by omega
    subst hk0
    simp only [Int.lt_irrefl, if_false, List.append_nil, tail]
    cases h2 : l.getLast? with
    | none => simp
    | some q => simp [hl rfl q h2]
theorem sim_run (ps : List Prim) : ∀ (b : Bld) (r : Ref) (i n : Nat), Sim b r i → wt fOv ps = n → Sim (ps.foldl addP b) ((at' (wholeFrom i n) ps).foldl rstep r) ((i + n : Nat) : Int) := by
  induction ps with
  | nil => intro b r i n h hn; simp [wt] at hn; subst hn; simpa [at'] using h
  | cons x ps ih =>
    intro b r i n h hn
    cases x with
    | keep =>
      obtain ⟨m, rfl⟩ : ∃ m, n = m + 1 := ⟨n - 1, by simp [wt, fOv] at hn; omega⟩
      simp only [wholeFrom, at', List.take_succ_cons, List.take_zero, List.drop_succ_cons, List.drop_zero, List.cons_append, List.nil_append, List.foldl_cons]
      have := ih (addP b .keep) (rstep r ⟨(i : Int), 0⟩) (i + 1) m ?_ (by simp [wt, fOv] at hn; omega)
      · rwa [show i + 1 + m = i + (m + 1) by omega] at this
      · obtain ⟨h1, h2, h3⟩ := h.flush
        simp only [addP, add, show ((1 : Int) = 3) = False by simp, show ((1 : Int) = 2) = False by simp, show ((1 : Int) = 0) = False by simp, if_false, if_true, rstep]
        rw [if_neg (by simp)]
        refine ⟨rfl, by simp, by simp, by simp; omega, ?_, by simp; intro h4; omega⟩
        rw [h1, tail_of h2 h3]
        simp only
        rw [if_pos (by omega)]
    | cut =>
      obtain ⟨m, rfl⟩ : ∃ m, n = m + 1 := ⟨n - 1, by simp [wt, fOv] at hn; omega⟩
      simp only [wholeFrom, at', List.drop_succ_cons, List.drop_zero, List.foldl_cons]
      have := ih (addP b .cut) r (i + 1) m ?_ (by simp [wt, fOv] at hn; omega)
      · rwa [show i + 1 + m = i + (m + 1) by omega] at this
      · simp only [addP, add, show ((2 : Int) = 3) = False by simp, if_false, if_true]
        exact ⟨h.put, by have := h.cut; simp; omega, by have := h.le; simp; omega, h.kept, h.out, h.last⟩
    | put c =>
      simp only [at', List.foldl_cons]
      refine ih (addP b (.put c)) (rstep r ⟨-1, (c.toNat : Int)⟩) i n ?_ (by simpa [wt, fOv] using hn)
      simp only [addP, add, if_true, rstep]
      rw [if_pos (by simp)]
      refine ⟨by simp [h.put], h.cut, h.le, h.kept, h.out, h.last⟩
/-- what the builder makes is the document's normal one -/
theorem normal_eq (ps : List Prim) (n : Nat) (hn : wt fOv ps = n) : normalOf (at' (wholeFrom 0 n) ps) n = done (ps.foldl addP .init) := by
  have h := sim_run ps .init ⟨[], [], 0, 0⟩ 0 n ⟨rfl, by simp [Bld.init], by simp, by simp, by simp [Bld.init], by simp⟩ hn
  rw [Nat.zero_add] at h
  obtain ⟨h1, h2, h3⟩ := h.flush
  unfold normalOf rdone done
  rw [h1]
  simp only
  split <;> simp

/-! ### one behind the other -/
def comp : List Prim → List Prim → List Prim
  | x, .put b :: y => .put b :: comp x y
  | .cut :: x, y => .cut :: comp x y
  | .keep :: x, .keep :: y => .keep :: comp x y
  | .keep :: x, .cut :: y => .cut :: comp x y
  | .put c :: x, .keep :: y => .put c :: comp x y
  | .put _ :: x, .cut :: y => comp x y
  | _, _ => []
termination_by x y => x.length + y.length
theorem comp_put (x : List Prim) (b : UInt8) (y : List Prim) : comp x (put b :: y) = put b :: comp x y := by rw [comp]
/-- the head is none that is put -/
def noPut : List Prim → Prop
  | .put _ :: _ => False
  | _ => True
theorem comp_cut (x : List Prim) {y : List Prim} (h : noPut y) : comp (cut :: x) y = cut :: comp x y := by
  match y with
  | [] => rw [comp]; simp
  | .put b :: y => exact h.elim
  | .cut :: y => rw [comp]; simp
  | .keep :: y => rw [comp]; simp
theorem at_comp (x y : List Prim) (l : List Atom) (h1 : wt fMk x = wt fOv y) (h2 : wt fOv x ≤ l.length) : at' (at' l x) y = at' l (comp x y) := by
  match x, y with
  | x, .put b :: y => rw [comp_put, at', at', at_comp x y l (by simpa [wt, fOv] using h1) h2]
  | .cut :: x, [] =>
    rw [comp_cut x (y := []) trivial]; show at' (at' (l.drop 1) x) ([]) = at' (l.drop 1) (comp x ([])); rw [at_comp x [] _ (by simpa [wt, fMk] using h1) (by simp [wt, fOv] at h2; simp; omega)]
  | .cut :: x, .cut :: y => rw [comp_cut x (y := .cut :: y) trivial]; show at' (at' (l.drop 1) x) (.cut :: y) = at' (l.drop 1) (comp x (.cut :: y)); rw [at_comp x (.cut :: y) _ (by simpa [wt, fMk] using h1) (by simp [wt, fOv] at h2; simp; omega)]
  | .cut :: x, .keep :: y => rw [comp_cut x (y := .keep :: y) trivial]; show at' (at' (l.drop 1) x) (.keep :: y) = at' (l.drop 1) (comp x (.keep :: y)); rw [at_comp x (.keep :: y) _ (by simpa [wt, fMk] using h1) (by simp [wt, fOv] at h2; simp; omega)]
  | .keep :: x, .keep :: y =>
    cases l with
    | nil => simp [wt, fOv] at h2
    | cons a l =>
      rw [comp]
      simp only [at', List.take_succ_cons, List.take_zero, List.drop_succ_cons, List.drop_zero, List.cons_append, List.nil_append]
      rw [at_comp x y l (by simp [wt, fMk, fOv] at h1; omega) (by simp [wt, fOv] at h2; omega)]
  | .keep :: x, .cut :: y =>
    cases l with
    | nil => simp [wt, fOv] at h2
    | cons a l =>
      rw [comp]
      simp only [at', List.take_succ_cons, List.take_zero, List.drop_succ_cons, List.drop_zero, List.cons_append, List.nil_append]
      rw [at_comp x y l (by simp [wt, fMk, fOv] at h1; omega) (by simp [wt, fOv] at h2; omega)]
  | .put c :: x, .keep :: y =>
    rw [comp]
    simp only [at', List.take_succ_cons, List.take_zero, List.drop_succ_cons, List.drop_zero, List.cons_append, List.nil_append]
    rw [at_comp x y l (by simp [wt, fMk, fOv] at h1; omega) (by simpa [wt, fOv] using h2)]
  | .put c :: x, .cut :: y =>
    rw [comp]
    simp only [at', List.drop_succ_cons, List.drop_zero]
    rw [at_comp x y l (by simp [wt, fMk, fOv] at h1; omega) (by simpa [wt, fOv] using h2)]
  | [], [] => simp [comp, at']
  | [], .keep :: y => simp [wt, fOv] at h1; omega
  | [], .cut :: y => simp [wt, fOv] at h1; omega
  | .keep :: x, [] => simp [wt, fMk] at h1
  | .put c :: x, [] => simp [wt, fMk] at h1
termination_by x.length + y.length
theorem wt_ov_comp (x y : List Prim) (h1 : wt fMk x = wt fOv y) : wt fOv (comp x y) = wt fOv x := by
  match x, y with
  | x, .put b :: y => rw [comp_put, wt, wt_ov_comp x y (by simpa [wt, fOv] using h1)]; simp [fOv]
  | .cut :: x, [] => rw [comp_cut x (y := []) trivial, wt, wt, wt_ov_comp x [] (by simpa [wt, fMk] using h1)]
  | .cut :: x, .cut :: y => rw [comp_cut x (y := .cut :: y) trivial, wt, wt, wt_ov_comp x (.cut :: y) (by simpa [wt, fMk] using h1)]
  | .cut :: x, .keep :: y => rw [comp_cut x (y := .keep :: y) trivial, wt, wt, wt_ov_comp x (.keep :: y) (by simpa [wt, fMk] using h1)]
  | .keep :: x, .keep :: y => rw [comp]; simp only [wt]; rw [wt_ov_comp x y (by simp [wt, fMk, fOv] at h1; omega)]
  | .keep :: x, .cut :: y => rw [comp]; simp only [wt]; rw [wt_ov_comp x y (by simp [wt, fMk, fOv] at h1; omega)]; simp [fOv]
  | .put c :: x, .keep :: y => rw [comp]; simp only [wt]; rw [wt_ov_comp x y (by simp [wt, fMk, fOv] at h1; omega)]
  | .put c :: x, .cut :: y => rw [comp]; simp only [wt]; rw [wt_ov_comp x y (by simp [wt, fMk, fOv] at h1; omega)]; simp [fOv]
  | [], [] => simp [comp, wt]
  | [], .keep :: y => simp [wt, fOv] at h1; omega
  | [], .cut :: y => simp [wt, fOv] at h1; omega
  | .keep :: x, [] => simp [wt, fMk] at h1
  | .put c :: x, [] => simp [wt, fMk] at h1
termination_by x.length + y.length
theorem comp_puts (s : Str) (x y : List Prim) : comp x (s.map put ++ y) = s.map put ++ comp x y := by
  induction s with
  | nil => rfl
  | cons c s ih => simp [comp_put, ih]
theorem comp_cuts (n : Nat) (x : List Prim) {y : List Prim} (h : noPut y) : comp (List.replicate n cut ++ x) y = List.replicate n cut ++ comp x y := by
  induction n with
  | zero => rfl
  | succ n ih => simp [List.replicate_succ, comp_cut _ h, ih]
theorem comp_kk (n : Nat) (x y : List Prim) : comp (List.replicate n keep ++ x) (List.replicate n keep ++ y) = List.replicate n keep ++ comp x y := by
  induction n with
  | zero => rfl
  | succ n ih => simp only [List.replicate_succ, List.cons_append]; rw [comp, ih]
theorem comp_kc (n : Nat) (x y : List Prim) : comp (List.replicate n keep ++ x) (List.replicate n cut ++ y) = List.replicate n cut ++ comp x y := by
  induction n with
  | zero => rfl
  | succ n ih => simp only [List.replicate_succ, List.cons_append]; rw [comp, ih]
theorem comp_pk (s : Str) (x y : List Prim) : comp (s.map put ++ x) (List.replicate s.length keep ++ y) = s.map put ++ comp x y := by
  induction s with
  | nil => rfl
  | cons c s ih => simp only [List.length_cons, List.replicate_succ, List.cons_append, List.map_cons]; rw [comp, ih]
theorem comp_pc (s : Str) (x y : List Prim) : comp (s.map put ++ x) (List.replicate s.length cut ++ y) = comp x y := by
  induction s with
  | nil => rfl
  | cons c s ih => simp only [List.length_cons, List.replicate_succ, List.cons_append, List.map_cons]; rw [comp, ih]

/-- what the program makes, step by step, is what the document makes -/
theorem composed_eq {a b : List Part} (ha : ∀ p ∈ a, Ok p) (hb : ∀ p ∈ b, Ok p) {n : Nat} (hn : wt fOv (exs a) = n) (hm : wt fMk (exs a) = wt fOv (exs b)) :
    normalOf (atomsOf (atomsOf (wholeFrom 0 n) a) b) n = done ((comp (exs (norm a)) (exs (norm b))).foldl addP .init) := by
  have hlen : ∀ i n, (wholeFrom i n).length = n := by
    intro i n; induction n generalizing i with
    | zero => rfl
    | succ n ih => simp [wholeFrom, ih]
  have ea : norm a = done ((exs a).foldl addP .init) := by unfold norm; rw [adds_ex ha]
  have eb : norm b = done ((exs b).foldl addP .init) := by unfold norm; rw [adds_ex hb]
  have hm' : wt fMk (exs (norm a)) = wt fOv (exs (norm b)) := by rw [ea, eb, wt_done, wt_done, hm]
  have hn' : wt fOv (exs (norm a)) = n := by rw [ea, wt_done, hn]
  rw [atomsOf_eq, atomsOf_eq, ← at_done (exs a), ← at_done (exs b), ← ea, ← eb, at_comp _ _ _ hm' (by rw [hlen, hn']; exact Nat.le_refl _)]
  exact normal_eq _ n (by rw [wt_ov_comp _ _ hm', hn'])
end Go.Spl
