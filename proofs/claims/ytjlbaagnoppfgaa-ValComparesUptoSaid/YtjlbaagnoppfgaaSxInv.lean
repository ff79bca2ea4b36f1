/-
  The abstract state, the invariant that ties it to a frame and a world, and the steps that keep it.
-/
import Derived.Test.YtjlbaagnoppfgaaSxRel
namespace Go.SX

theorem Rel.step {β β' : Nat → Option Nat} {O O' : Nat → Prop} {w w' : World} {av : AV} {v : Value} (h : Rel β O w av v)
    {Ow : Nat → Prop} (hs : Stp Ow w w') (hw : ∀ k, k < w.heap.size → Ow k → O k) (hO : ∀ k, k < w.heap.size → O' k → O k)
    (hβ : ∀ n ∈ ids av, β' n = β n) (hb : ∀ n ∈ vids av, ∀ g, β n = some g → w'.heap[g]? = w.heap[g]?) : Rel β' O' w' av v := by
  cases av with
  | fn f caps =>
    obtain ⟨vs, hv, hall⟩ := h
    refine ⟨vs, hv, hall.mono fun j a b ha hr => hr.step hs hw hO (fun n hn => hβ n ?_) (fun n hn => hb n ?_)⟩
    · exact List.mem_flatMap.2 ⟨a, List.mem_of_getElem? ha, hn⟩
    · exact List.mem_flatMap.2 ⟨a, List.mem_of_getElem? ha, hn⟩
  | tup cs =>
    obtain ⟨vs, hv, hall⟩ := h
    refine ⟨vs, hv, hall.mono fun j a b ha hr => hr.step hs hw hO (fun n hn => hβ n ?_) (fun n hn => hb n ?_)⟩
    · exact List.mem_flatMap.2 ⟨a, List.mem_of_getElem? ha, hn⟩
    · exact List.mem_flatMap.2 ⟨a, List.mem_of_getElem? ha, hn⟩
  | ag cs =>
    obtain ⟨vs, hv, hall, hone⟩ := h
    refine ⟨vs, hv, hall.mono fun j a b ha hr => hr.step hs hw hO (fun n hn => hβ n ?_) (fun n hn => hb n ?_), hone⟩
    · exact List.mem_flatMap.2 ⟨a, List.mem_of_getElem? ha, hn⟩
    · exact List.mem_flatMap.2 ⟨a, List.mem_of_getElem? ha, hn⟩
  | _ => exact Rel.rel0 (Rel0.step (show Rel0 β O w _ v from h) hs hw hO hβ hb)

structure St where
  slots : List (Nat × AV)
  boxes : List (Nat × List AV)

def look : List (Nat × AV) → Nat → AV
  | [], _ => .x
  | (m, v) :: r, n => bif Nat.beq m n then v else look r n
def lookB : List (Nat × List AV) → Nat → Option (List AV)
  | [], _ => none
  | (m, v) :: r, n => bif Nat.beq m n then some v else lookB r n
def setL {α : Type} : List (Nat × α) → Nat → α → List (Nat × α)
  | [], n, v => [(n, v)]
  | (m, u) :: r, n, v => bif Nat.beq m n then (n, v) :: r else (m, u) :: setL r n v
def delL {α : Type} : List (Nat × α) → Nat → List (Nat × α)
  | [], _ => []
  | (m, u) :: r, n => bif Nat.beq m n then delL r n else (m, u) :: delL r n
def mapV (f : AV → AV) : List (Nat × AV) → List (Nat × AV)
  | [] => []
  | (m, v) :: r => (m, f v) :: mapV f r
def mapC (f : AV → AV) : List AV → List AV
  | [] => []
  | v :: r => f v :: mapC f r
def mapB (f : AV → AV) : List (Nat × List AV) → List (Nat × List AV)
  | [] => []
  | (m, v) :: r => (m, mapC f v) :: mapB f r

theorem beq_iff {m n : Nat} : Nat.beq m n = true ↔ m = n := by simp
theorem look_setL (l : List (Nat × AV)) (d : Nat) (v : AV) (n : Nat) : look (setL l d v) n = if d = n then v else look l n := by
  induction l with
  | nil => simp [setL, look, Bool.cond_eq_ite]
  | cons p r ih =>
    obtain ⟨m, u⟩ := p
    by_cases hmd : m = d
    · subst hmd
      by_cases hmn : m = n <;> simp [setL, look, Bool.cond_eq_ite, hmn]
    · by_cases hmn : m = n
      · subst hmn
        have : d ≠ m := fun e => hmd e.symm
        simp [setL, look, Bool.cond_eq_ite, hmd, this]
      · simp [setL, look, Bool.cond_eq_ite, hmd, hmn, ih]
theorem lookB_setL (l : List (Nat × List AV)) (d : Nat) (v : List AV) (n : Nat) : lookB (setL l d v) n = if d = n then some v else lookB l n := by
  induction l with
  | nil => simp [setL, lookB, Bool.cond_eq_ite]
  | cons p r ih =>
    obtain ⟨m, u⟩ := p
    by_cases hmd : m = d
    · subst hmd
      by_cases hmn : m = n <;> simp [setL, lookB, Bool.cond_eq_ite, hmn]
    · by_cases hmn : m = n
      · subst hmn
        have : d ≠ m := fun e => hmd e.symm
        simp [setL, lookB, Bool.cond_eq_ite, hmd, this]
      · simp [setL, lookB, Bool.cond_eq_ite, hmd, hmn, ih]
theorem lookB_delL (l : List (Nat × List AV)) (d n : Nat) : lookB (delL l d) n = if d = n then none else lookB l n := by
  induction l with
  | nil => simp [delL, lookB]
  | cons p r ih =>
    obtain ⟨m, u⟩ := p
    by_cases hmd : m = d
    · subst hmd
      by_cases hmn : m = n
      · subst hmn; simp [delL, Bool.cond_eq_ite, ih]
      · simp [delL, lookB, Bool.cond_eq_ite, hmn, ih]
    · by_cases hmn : m = n
      · subst hmn
        have : d ≠ m := fun e => hmd e.symm
        simp [delL, lookB, Bool.cond_eq_ite, hmd, this]
      · simp [delL, lookB, Bool.cond_eq_ite, hmd, hmn, ih]
theorem look_mapV (f : AV → AV) (hf : f .x = .x) (l : List (Nat × AV)) (n : Nat) : look (mapV f l) n = f (look l n) := by
  induction l with
  | nil => simp [mapV, look, hf]
  | cons p r ih => obtain ⟨m, u⟩ := p; by_cases hmn : m = n <;> simp [mapV, look, Bool.cond_eq_ite, hmn, ih]
theorem mapC_eq (f : AV → AV) (l : List AV) : mapC f l = l.map f := by induction l with
  | nil => rfl
  | cons a r ih => simp [mapC, ih]
theorem lookB_mapB (f : AV → AV) (l : List (Nat × List AV)) (n : Nat) : lookB (mapB f l) n = (lookB l n).map (mapC f) := by
  induction l with
  | nil => simp [mapB, lookB]
  | cons p r ih => obtain ⟨m, u⟩ := p; by_cases hmn : m = n <;> simp [mapB, lookB, Bool.cond_eq_ite, hmn, ih]

def St.put (s : St) (d : Nat) (v : AV) : St := { s with slots := setL s.slots d v }
def St.setBox (s : St) (n : Nat) (cs : List AV) : St := { s with boxes := setL s.boxes n cs }
def St.map (f : AV → AV) (s : St) : St := ⟨mapV f s.slots, mapB f s.boxes⟩
def St.delBox (s : St) (n : Nat) : St := { s with boxes := delL s.boxes n }

/-- a name in use -/
def Nm (s : St) (n : Nat) : Prop :=
  (∃ cs, lookB s.boxes n = some cs) ∨ (∃ m, n ∈ ids (look s.slots m)) ∨ ∃ b cs, lookB s.boxes b = some cs ∧ ∃ c ∈ cs, n ∈ ids c
def OwnN (s : St) (β : Nat → Option Nat) (k : Nat) : Prop := ∃ n, Nm s n ∧ β n = some k
/-- what must not be read: the blocks of the call's own, and X, which its caller owns -/
def Own (X : Nat → Prop) (s : St) (β : Nat → Option Nat) (k : Nat) : Prop := X k ∨ OwnN s β k

/-- WHAT PACKAGE-LEVEL VARIABLES HOLD: of each its block, as it stands from the start. -/
class Globs where
  gl : List (Nat × Obj)
def GlobOK [G : Globs] (O : Nat → Prop) (w : World) : Prop := ∀ p ∈ G.gl, ¬ O p.1 ∧ w.heap[p.1]? = some p.2
theorem GlobOK.step [Globs] {O O' Ow : Nat → Prop} {w w' : World} (h : GlobOK O w) (hs : Stp Ow w w') (hw : ∀ k, k < w.heap.size → Ow k → O k) (hO : ∀ k, k < w.heap.size → O' k → O k) : GlobOK O' w' := fun p hp => by
  obtain ⟨h1, h2⟩ := h p hp
  have hlt : p.1 < w.heap.size := (Array.getElem?_eq_some_iff.1 h2).1
  exact ⟨fun ho => h1 (hO _ hlt ho), (hs.block _ hlt fun ho => h1 (hw _ hlt ho)).trans h2⟩
set_option linter.unusedSectionVars false
variable [Globs]

/-- which blocks that were there may be written, and where the boxes that were there lie -/
structure Fr where
  own : Nat → Prop
  pin : Nat → Option Nat
def Fr.none : Fr := ⟨fun _ => False, fun _ => Option.none⟩
structure InvB (W0 : World) (F : Fr) (X : Nat → Prop) (N : Nat) (s : St) (β : Nat → Option Nat) (a : Act) (w : World) : Prop where
  ext : Stp F.own W0 w
  slots : ∀ n, Rel β (Own X s β) w (look s.slots n) (a.tmps.getD n undef)
  size : a.tmps.size = N
  boxes : ∀ n cs, lookB s.boxes n = some cs → ∃ g us e, β n = some g ∧ w.heap[g]? = some (.cells us e (0, 0)) ∧ All2 (RelC β (Own X s β) w) cs us.toList
  inj : ∀ n m g, Nm s n → Nm s m → β n = some g → β m = some g → n = m
  own : ∀ n g, Nm s n → β n = some g → g < w.heap.size ∧ (W0.heap.size ≤ g ∨ F.own g)
  defers : a.defers = []
  ext2 : ∀ k, X k → k < W0.heap.size ∧ ¬ F.own k
  pin : ∀ n cs g, lookB s.boxes n = some cs → F.pin n = some g → β n = some g
  pinN : ∀ n, n < N → F.pin n = none
  gl : GlobOK (fun k => X k ∨ F.own k) W0
def Inv (W0 : World) (F : Fr) (X : Nat → Prop) (N : Nat) (s : St) (a : Act) (w : World) : Prop := ∃ β, InvB W0 F X N s β a w

theorem getD_put (a : Act) (d : Nat) (u : Value) (hd : d < a.tmps.size) (n : Nat) : ((a.put (some d) u).tmps).getD n undef = if d = n then u else a.tmps.getD n undef := by
  simp only [Act.put, Array.getD_eq_getD_getElem?, Array.getElem?_setIfInBounds]
  by_cases h : d = n
  · subst h; simp [hd]
  · simp [h]
theorem size_put (a : Act) (d : Option Nat) (u : Value) : (a.put d u).tmps.size = a.tmps.size := by cases d <;> simp [Act.put]
theorem defers_put (a : Act) (d : Option Nat) (u : Value) : (a.put d u).defers = a.defers := by cases d <;> rfl

section
variable {W0 : World} {F : Fr} {X : Nat → Prop} {N : Nat} {s : St} {β : Nat → Option Nat} {a : Act} {w : World}

theorem InvB.ownF (h : InvB W0 F X N s β a w) : ∀ k, k < W0.heap.size → OwnN s β k → F.own k := by
  rintro k hk ⟨n, hn, hb⟩
  rcases (h.own n k hn hb).2 with h1 | h1
  · omega
  · exact h1

theorem InvB.disj (h : InvB W0 F X N s β a w) (n k : Nat) (hn : Nm s n) (hb : β n = some k) : ¬ X k := fun hX => by
  obtain ⟨h1, h2⟩ := h.ext2 k hX
  rcases (h.own n k hn hb).2 with h3 | h3
  · omega
  · exact h2 h3

theorem InvB.globs (h : InvB W0 F X N s β a w) : GlobOK (Own X s β) w :=
  h.gl.step h.ext (fun _ _ h => .inr h) (fun k hk ho => ho.imp id fun hn => h.ownF k hk hn)

/-- THE GENERAL STEP: what is read of the new state is read of the new frame and world. -/
theorem InvB.upd (h : InvB W0 F X N s β a w) {s' : St} {β' : Nat → Option Nat} {a' : Act} {w' : World} {Ow : Nat → Prop} (hs : Stp Ow w w') (hw : ∀ k, k < w.heap.size → Ow k → OwnN s β k)
    (hslots : ∀ n, Rel β' (Own X s' β') w' (look s'.slots n) (a'.tmps.getD n undef))
    (hboxes : ∀ n cs, lookB s'.boxes n = some cs → ∃ g us e, β' n = some g ∧ w'.heap[g]? = some (.cells us e (0, 0)) ∧ All2 (RelC β' (Own X s' β') w') cs us.toList)
    (hinj : ∀ n m g, Nm s' n → Nm s' m → β' n = some g → β' m = some g → n = m)
    (hown : ∀ n g, Nm s' n → β' n = some g → g < w'.heap.size ∧ (W0.heap.size ≤ g ∨ F.own g))
    (hsize : a'.tmps.size = a.tmps.size) (hdef : a'.defers = a.defers) (hpin : ∀ n cs g, lookB s'.boxes n = some cs → F.pin n = some g → β' n = some g) : InvB W0 F X N s' β' a' w' :=
  ⟨h.ext.trans hs (fun k hk ho => h.ownF k hk (hw k (Nat.lt_of_lt_of_le hk h.ext.size) ho)), hslots, hsize.trans h.size, hboxes, hinj, hown, hdef.trans h.defers, h.ext2, hpin, h.pinN, h.gl⟩

/-- names only go: same β, a world in which the blocks in use stand as they stood -/
theorem InvB.less (h : InvB W0 F X N s β a w) {s' : St} {a' : Act} {w' : World} (hs : Stp (fun _ => False) w w')
    (hNm : ∀ n, Nm s' n → Nm s n)
    (hslots : ∀ n, ∃ m, (look s'.slots n = look s.slots m ∧ a'.tmps.getD n undef = a.tmps.getD m undef) ∨ Im (Own X s β) w' (look s'.slots n) (a'.tmps.getD n undef) ∨
      (Rel β (Own X s β) w (look s'.slots n) (a'.tmps.getD n undef)))
    (hboxes : ∀ n cs, lookB s'.boxes n = some cs → lookB s.boxes n = some cs)
    (hsize : a'.tmps.size = a.tmps.size) (hdef : a'.defers = a.defers) : InvB W0 F X N s' β a' w' := by
  have hO : ∀ k, Own X s' β k → Own X s β k := fun k hk => hk.imp id fun ⟨n, hn, hb⟩ => ⟨n, hNm n hn, hb⟩
  have hst : ∀ av v, (∀ n ∈ ids av, Nm s n) → Rel β (Own X s β) w av v → Rel β (Own X s' β) w' av v := fun av v _ hr =>
    hr.step hs (fun _ _ h => h.elim) (fun k _ => hO k) (fun _ _ => rfl) (fun n hn g hg => by
      by_cases hlt : g < w.heap.size
      · exact hs.block g hlt (fun h => h)
      · rename_i hids
        have hn' : Nm s n := hids n (by
          cases av with
          | fn f caps => simp only [vids, ids, List.mem_flatMap] at hn ⊢; obtain ⟨c, hc, hcn⟩ := hn; exact ⟨c, hc, by cases c <;> simp_all [vids0, ids0]⟩
          | tup cs => simp only [vids, ids, List.mem_flatMap] at hn ⊢; obtain ⟨c, hc, hcn⟩ := hn; exact ⟨c, hc, by cases c <;> simp_all [vids0, ids0]⟩
          | ag cs => simp only [vids, ids, List.mem_flatMap] at hn ⊢; obtain ⟨c, hc, hcn⟩ := hn; exact ⟨c, hc, by cases c <;> simp_all [vids0, ids0]⟩
          | _ => simp_all [vids, vids0, ids, ids0])
        exact absurd (h.own n g hn' hg).1 hlt)
  refine h.upd hs (fun _ _ h => h.elim) (fun n => ?_) (fun n cs hcs => ?_) (fun n m g hn hm => h.inj n m g (hNm n hn) (hNm m hm)) (fun n g hn hg => ?_) hsize hdef (fun n cs g hc hp => h.pin n cs g (hboxes n cs hc) hp)
  · have hids : ∀ k ∈ ids (look s'.slots n), Nm s k := fun k hk => hNm k (.inr (.inl ⟨n, hk⟩))
    obtain ⟨m, h1 | h1 | h1⟩ := hslots n
    · rw [h1.2]; rw [h1.1] at hids ⊢; exact hst _ _ hids (h.slots m)
    · exact Rel.im (h1.step (Stp.refl _ _) (fun _ _ h => h) (fun k _ => hO k))
    · exact hst _ _ hids h1
  · obtain ⟨g, us, e, h1, h2, h3⟩ := h.boxes n cs (hboxes n cs hcs)
    have hN : Nm s n := .inl ⟨cs, hboxes n cs hcs⟩
    have hg := (h.own n g hN h1).1
    refine ⟨g, us, e, h1, (hs.block g hg (fun h => h)).trans h2, h3.mono fun j c v hc hr => ⟨hst c v (fun k hk => ?_) hr.1, hr.2⟩⟩
    exact .inr (.inr ⟨n, cs, hboxes n cs hcs, c, List.mem_of_getElem? hc, hk⟩)
  · obtain ⟨h1, h2⟩ := h.own n g (hNm n hn) hg
    exact ⟨Nat.lt_of_lt_of_le h1 hs.size, h2⟩
end
end Go.SX
