/-
  The steps of the invariant that turn memory: a new box, a store into a box, an own slice made or appended to, a store into it.
-/
import Derived.Test.YtjlbaagnoppfgaaSxStep
namespace Go.SX
set_option linter.unusedSectionVars false
variable [Globs]

theorem vids0_ids0 {c : AV} {n : Nat} (hc : n ∈ vids0 c) : n ∈ ids0 c := by cases c <;> simp_all [vids0, ids0]
theorem vids_ids {av : AV} {n : Nat} (h : n ∈ vids av) : n ∈ ids av := by
  cases av with
  | fn f caps => simp only [vids, ids, List.mem_flatMap] at h ⊢; obtain ⟨c, hc, hcn⟩ := h; exact ⟨c, hc, vids0_ids0 hcn⟩
  | tup cs => simp only [vids, ids, List.mem_flatMap] at h ⊢; obtain ⟨c, hc, hcn⟩ := h; exact ⟨c, hc, vids0_ids0 hcn⟩
  | ag cs => simp only [vids, ids, List.mem_flatMap] at h ⊢; obtain ⟨c, hc, hcn⟩ := h; exact ⟨c, hc, vids0_ids0 hcn⟩
  | _ => simp_all [vids, vids0, ids, ids0]

section
variable {W0 : World} {F : Fr} {X : Nat → Prop} {N : Nat} {s : St} {β : Nat → Option Nat} {a : Act} {w : World}

theorem InvB.keep (_h : InvB W0 F X N s β a w) {β' : Nat → Option Nat} {O' Ow : Nat → Prop} {w' : World} (hs : Stp Ow w w') (hw : ∀ k, k < w.heap.size → Ow k → OwnN s β k)
    (hO : ∀ k, k < w.heap.size → O' k → Own X s β k) {av : AV} {v : Value} (hr : Rel β (Own X s β) w av v) (hβ : ∀ n ∈ ids av, β' n = β n)
    (hb : ∀ n ∈ vids av, ∀ g, β n = some g → w'.heap[g]? = w.heap[g]?) : Rel β' O' w' av v := hr.step hs (fun k hk h => .inr (hw k hk h)) hO hβ hb

def setβ (β : Nat → Option Nat) (d : Nat) (b : Option Nat) (n : Nat) : Option Nat := if n = d then b else β n

theorem Stp.alloc (w : World) (o : Obj) : Stp (fun _ => False) w (w.alloc o) :=
  ⟨rfl, rfl, rfl, by simp, fun k hk _ => RowKit.Below.heap_alloc w o k hk⟩
theorem Stp.drew (w : World) : Stp (fun _ => False) w w.drew := ⟨rfl, rfl, rfl, Nat.le_refl _, fun _ _ _ => rfl⟩

/-- a new box under a name that is not in use -/
theorem InvB.box (h : InvB W0 F X N s β a w) {d : Nat} (hd : d < N) (hfree : ¬ Nm s d) {cs : List AV} {us : Array Value} {e : TypeId}
    (hr : All2 (RelC β (Own X s β) w) cs us.toList) (hids : ∀ c ∈ cs, ∀ n ∈ ids c, Nm s n) :
    InvB W0 F X N ((s.setBox d cs).put d (.pt d 0)) (setβ β d (some w.heap.size)) (a.put (some d) (.pointer (some ⟨w.heap.size, 0, none⟩))) (w.alloc (.cells us e)) := by
  have hNm : ∀ n, Nm ((s.setBox d cs).put d (.pt d 0)) n → n = d ∨ Nm s n := by
    rintro n (⟨cs', h⟩ | ⟨q, h⟩ | ⟨b, cs', h, c, hc, hn⟩)
    · simp only [St.put, St.setBox, lookB_setL] at h
      split at h
      · rename_i e; exact .inl e.symm
      · exact .inr (.inl ⟨cs', h⟩)
    · simp only [St.put, St.setBox, look_setL] at h
      split at h
      · simp [ids, ids0] at h; exact .inl h
      · exact .inr (.inr (.inl ⟨q, h⟩))
    · simp only [St.put, St.setBox, lookB_setL] at h
      split at h
      · injection h with h; subst h; exact .inr (hids c hc n hn)
      · exact .inr (.inr (.inr ⟨b, cs', h, c, hc, hn⟩))
  have hβ : ∀ n, Nm s n → setβ β d (some w.heap.size) n = β n := fun n hn => by
    unfold setβ; rw [if_neg]; rintro rfl; exact hfree hn
  have hO : ∀ k, k < w.heap.size → Own X ((s.setBox d cs).put d (.pt d 0)) (setβ β d (some w.heap.size)) k → Own X s β k := by
    rintro k hk (hX | ⟨n, hn, hb⟩)
    · exact .inl hX
    rcases hNm n hn with rfl | hn
    · simp only [setβ, if_true] at hb; injection hb with hb; omega
    · exact .inr ⟨n, hn, (hβ n hn) ▸ hb⟩
  have hst := Stp.alloc w (.cells us e)
  have hk : ∀ {av : AV} {v : Value}, (∀ n ∈ ids av, Nm s n) → Rel β (Own X s β) w av v →
      Rel (setβ β d (some w.heap.size)) (Own X ((s.setBox d cs).put d (.pt d 0)) (setβ β d (some w.heap.size))) (w.alloc (.cells us e)) av v := fun hav hrel =>
    h.keep hst (fun _ _ h => h.elim) hO hrel (fun n hn => hβ n (hav n hn)) (fun n hn g hg => hst.block g (h.own n g (hav n (vids_ids hn)) hg).1 (fun h => h))
  refine h.upd hst (fun _ _ h => h.elim) (fun n => ?_) (fun n cs' hcs => ?_) (fun n m g hn hm h1 h2 => ?_) (fun n g hn hg => ?_) (size_put _ _ _) (defers_put _ _ _) (fun n cs' g hc hp => by
    simp only [St.put, St.setBox, lookB_setL] at hc
    split at hc
    · rename_i e'; subst e'; rw [h.pinN _ hd] at hp; cases hp
    · exact (hβ n (.inl ⟨cs', hc⟩)).trans (h.pin n cs' g hc hp))
  · rw [getD_put a d _ (by rw [h.size]; exact hd)]
    simp only [St.put, St.setBox, look_setL]
    by_cases hdn : d = n
    · simp only [hdn, if_true]; exact ⟨w.heap.size, by simp [setβ], rfl⟩
    · simp only [hdn, if_false]; exact hk (fun k hk => .inr (.inl ⟨n, hk⟩)) (h.slots n)
  · simp only [St.put, St.setBox, lookB_setL] at hcs
    split at hcs
    · rename_i e'; subst e'
      injection hcs with hcs; subst hcs
      exact ⟨w.heap.size, us, e, by simp [setβ], heap_alloc_new w _, hr.mono fun j c v hc hrel => ⟨hk (hids c (List.mem_of_getElem? hc)) hrel.1, hrel.2⟩⟩
    · obtain ⟨g, us', e', h1, h2, h3⟩ := h.boxes n cs' hcs
      have hN : Nm s n := .inl ⟨cs', hcs⟩
      exact ⟨g, us', e', (hβ n hN).trans h1, (hst.block g (h.own n g hN h1).1 (fun h => h)).trans h2,
        h3.mono fun j c v hc hrel => ⟨hk (fun k hk => .inr (.inr ⟨n, cs', hcs, c, List.mem_of_getElem? hc, hk⟩)) hrel.1, hrel.2⟩⟩
  · rcases hNm n hn with e1 | n1 <;> rcases hNm m hm with e2 | m1
    · rw [e1, e2]
    · subst e1; rw [hβ m m1] at h2; simp only [setβ, if_true] at h1; injection h1 with h1; have := (h.own m g m1 h2).1; omega
    · subst e2; rw [hβ n n1] at h1; simp only [setβ, if_true] at h2; injection h2 with h2; have := (h.own n g n1 h1).1; omega
    · rw [hβ n n1] at h1; rw [hβ m m1] at h2; exact h.inj n m g n1 m1 h1 h2
  · rcases hNm n hn with rfl | hn
    · simp only [setβ, if_true] at hg; injection hg with hg; subst hg
      exact ⟨by simp, .inl h.ext.size⟩
    · rw [hβ n hn] at hg
      obtain ⟨h1, h2⟩ := h.own n g hn hg
      exact ⟨Nat.lt_of_lt_of_le h1 hst.size, h2⟩

theorem Stp.setRow (w : World) (g : Nat) (cs : Array Value) : Stp (fun k => k = g) w (w.setRow g cs) :=
  ⟨rfl, rfl, rfl, by simp [World.setRow], fun k _ hk => setRow_other w g k cs (fun e => hk (by first | exact e | exact e.symm))⟩

/-- a store into a box: its cells anew. Nobody's own slice lies in that block. -/
theorem InvB.storeBox (h : InvB W0 F X N s β a w) {n g : Nat} {cs0 cs : List AV} {us0 us : Array Value} {e : TypeId} (hn : lookB s.boxes n = some cs0) (hg : β n = some g)
    (hh : w.heap[g]? = some (.cells us0 e (0, 0)))
    (hsep : (∀ m, n ∉ vids (look s.slots m)) ∧ ∀ b cs', lookB s.boxes b = some cs' → ∀ c ∈ cs', n ∉ vids c)
    (hr : All2 (RelC β (Own X s β) w) cs us.toList) (hids : ∀ c ∈ cs, ∀ k ∈ ids c, Nm s k) (hsepc : ∀ c ∈ cs, n ∉ vids c) : InvB W0 F X N (s.setBox n cs) β a (w.setRow g us) := by
  have hNn : Nm s n := .inl ⟨cs0, hn⟩
  have hNm : ∀ k, Nm (s.setBox n cs) k → Nm s k := by
    rintro k (⟨cs', h⟩ | ⟨q, h⟩ | ⟨b, cs', h, c, hc, hk⟩)
    · simp only [St.setBox, lookB_setL] at h
      split at h
      · rename_i e; exact e ▸ hNn
      · exact .inl ⟨cs', h⟩
    · exact .inr (.inl ⟨q, h⟩)
    · simp only [St.setBox, lookB_setL] at h
      split at h
      · injection h with h; subst h; exact hids c hc k hk
      · exact .inr (.inr ⟨b, cs', h, c, hc, hk⟩)
  have hO : ∀ k, k < w.heap.size → Own X (s.setBox n cs) β k → Own X s β k := fun k _ hk => hk.imp id fun ⟨m, hm, hb⟩ => ⟨m, hNm m hm, hb⟩
  have hst := Stp.setRow w g us
  have hw : ∀ k, k < w.heap.size → k = g → OwnN s β k := fun k _ e => ⟨n, hNn, e ▸ hg⟩
  have hk : ∀ {av : AV} {v : Value}, (∀ k ∈ ids av, Nm s k) → n ∉ vids av → Rel β (Own X s β) w av v → Rel β (Own X (s.setBox n cs) β) (w.setRow g us) av v := fun hav hnv hrel =>
    h.keep hst hw hO hrel (fun _ _ => rfl) (fun m hm g' hg' => hst.block g' (h.own m g' (hav m (vids_ids hm)) hg').1 (fun e => hnv (by
      subst e; rw [h.inj n m g' hNn (hav m (vids_ids hm)) hg hg']; exact hm)))
  refine h.upd hst hw (fun m => ?_) (fun m cs' hcs => ?_) (fun k m g' hk hm => h.inj k m g' (hNm k hk) (hNm m hm)) (fun k g' hk hg' => ?_) rfl rfl (fun m cs' g' hc hp => by
    simp only [St.setBox, lookB_setL] at hc
    split at hc
    · rename_i e'; subst e'; exact h.pin _ cs0 g' hn hp
    · exact h.pin m cs' g' hc hp)
  · exact hk (fun k hk => .inr (.inl ⟨m, hk⟩)) (hsep.1 m) (h.slots m)
  · simp only [St.setBox, lookB_setL] at hcs
    split at hcs
    · rename_i e'; subst e'
      injection hcs with hcs; subst hcs
      exact ⟨g, us, e, hg, setRow_heap w g us0 us e _ hh, hr.mono fun j c v hc hrel => ⟨hk (hids c (List.mem_of_getElem? hc)) (hsepc c (List.mem_of_getElem? hc)) hrel.1, hrel.2⟩⟩
    · rename_i hne
      obtain ⟨g', us', e', h1, h2, h3⟩ := h.boxes m cs' hcs
      have hN : Nm s m := .inl ⟨cs', hcs⟩
      refine ⟨g', us', e', h1, (hst.block g' (h.own m g' hN h1).1 (fun e => hne ?_)).trans h2, h3.mono fun j c v hc hrel => ⟨hk (fun k hk => .inr (.inr ⟨m, cs', hcs, c, List.mem_of_getElem? hc, hk⟩)) (hsep.2 m cs' hcs c (List.mem_of_getElem? hc)) hrel.1, hrel.2⟩⟩
      subst e
      exact h.inj n m g' hNn hN hg h1
  · obtain ⟨h1, h2⟩ := h.own k g' (hNm k hk) hg'
    exact ⟨Nat.lt_of_lt_of_le h1 hst.size, h2⟩

/-- what speaks of n is dropped, a box of that name too -/
def St.kill (s : St) (n : Nat) : St := (s.map (SX.kill n)).delBox n
theorem Nm.of_kill {s : St} {id n : Nat} (h : Nm (s.kill id) n) : Nm s n ∧ n ≠ id := by
  have key : ∀ b cs, lookB (s.kill id).boxes b = some cs → b ≠ id ∧ ∃ cs', lookB s.boxes b = some cs' ∧ cs = cs'.map (SX.kill id) := by
    intro b cs h
    simp only [St.kill, St.delBox, St.map, lookB_delL, lookB_mapB] at h
    split at h
    · cases h
    · rename_i hne
      obtain ⟨cs', h1, rfl⟩ := Option.map_eq_some_iff.1 h
      exact ⟨fun e => hne e.symm, cs', h1, mapC_eq _ _⟩
  rcases h with ⟨cs, h⟩ | ⟨q, h⟩ | ⟨b, cs, h, c, hc, hn⟩
  · obtain ⟨h1, cs', h2, _⟩ := key _ _ h
    exact ⟨.inl ⟨cs', h2⟩, h1⟩
  · simp only [St.kill, St.delBox, St.map, look_mapV _ (kill_x id)] at h
    exact ⟨.inr (.inl ⟨q, (kill_ids _ _ _ h).1⟩), (kill_ids _ _ _ h).2⟩
  · obtain ⟨h1, cs', h2, rfl⟩ := key _ _ h
    obtain ⟨c', hc', rfl⟩ := List.mem_map.1 hc
    exact ⟨.inr (.inr ⟨b, cs', h2, c', hc', (kill_ids _ _ _ hn).1⟩), (kill_ids _ _ _ hn).2⟩

/-- AN OWN SLICE IS MADE, or made out of one that is used up (id1): whoever spoke of id1 is dropped. -/
theorem InvB.newAv (h : InvB W0 F X N s β a w) {d id1 : Nat} (hd : d < N) (hfree : Nm s d → d = id1) {w' : World} {Ow : Nat → Prop} (hs : Stp Ow w w')
    (hw : ∀ k, Ow k → Nm s id1 ∧ β id1 = some k) {b : Option Nat} (hb : ∀ g, b = some g → g < w'.heap.size ∧ ((Nm s id1 ∧ β id1 = some g) ∨ w.heap.size ≤ g))
    {av0 : AV} {u : Value} (hids : ids av0 = [d]) (hv : ∀ O' : Nat → Prop, (∀ k, k < w.heap.size → O' k → Own X s β k) → Rel (setβ β d b) O' w' av0 u) :
    InvB W0 F X N ((s.kill id1).put d av0) (setβ β d b) (a.put (some d) u) w' := by
  have hNm : ∀ n, Nm ((s.kill id1).put d av0) n → n = d ∨ (Nm s n ∧ n ≠ id1 ∧ n ≠ d) := by
    intro n hn
    by_cases hnd : n = d
    · exact .inl hnd
    · refine .inr ?_
      have : Nm (s.kill id1) n := by
        rcases hn with ⟨cs', h⟩ | ⟨q, h⟩ | ⟨b, cs', h, c, hc, hn⟩
        · exact .inl ⟨cs', h⟩
        · simp only [St.put, look_setL] at h
          split at h
          · rw [hids] at h; exact absurd (List.mem_singleton.1 h) hnd
          · exact .inr (.inl ⟨q, h⟩)
        · exact .inr (.inr ⟨b, cs', h, c, hc, hn⟩)
      obtain ⟨h1, h2⟩ := Nm.of_kill this
      exact ⟨h1, h2, hnd⟩
  have hβ : ∀ n, n ≠ d → setβ β d b n = β n := fun n hn => by unfold setβ; rw [if_neg hn]
  have hO : ∀ k, k < w.heap.size → Own X ((s.kill id1).put d av0) (setβ β d b) k → Own X s β k := by
    rintro k hk (hX | ⟨n, hn, hb'⟩)
    · exact .inl hX
    rcases hNm n hn with rfl | ⟨hn, _, hnd⟩
    · simp only [setβ, if_true] at hb'
      rcases (hb k hb').2 with h1 | h1
      · exact .inr ⟨id1, h1.1, h1.2⟩
      · omega
    · exact .inr ⟨n, hn, (hβ n hnd) ▸ hb'⟩
  have hw' : ∀ k, k < w.heap.size → Ow k → OwnN s β k := fun k _ hk => ⟨id1, (hw k hk).1, (hw k hk).2⟩
  have hblk : ∀ n g, Nm s n → n ≠ id1 → β n = some g → w'.heap[g]? = w.heap[g]? := fun n g hn hne hg =>
    hs.block g (h.own n g hn hg).1 (fun ho => hne (h.inj n id1 g hn (hw g ho).1 hg (hw g ho).2))
  have hk : ∀ {av : AV} {v : Value}, (∀ n ∈ ids av, Nm s n ∧ n ≠ id1 ∧ n ≠ d) → Rel β (Own X s β) w av v →
      Rel (setβ β d b) (Own X ((s.kill id1).put d av0) (setβ β d b)) w' av v := fun hav hrel =>
    h.keep hs hw' hO hrel (fun n hn => hβ n (hav n hn).2.2) (fun n hn g hg => hblk n g (hav n (vids_ids hn)).1 (hav n (vids_ids hn)).2.1 hg)
  have hkill : ∀ (av : AV) (v : Value), (∀ n ∈ ids av, Nm s n) → Rel β (Own X s β) w av v → Rel (setβ β d b) (Own X ((s.kill id1).put d av0) (setβ β d b)) w' (SX.kill id1 av) v := by
    intro av v hav hrel
    cases hin : inL id1 (ids av) with
    | true => simp only [SX.kill, hin, cond_true]; exact Rel.x
    | false =>
      have hne : ∀ n ∈ ids av, n ≠ id1 := fun n hn e => by rw [← e, (inL_iff n _).2 hn] at hin; cases hin
      simp only [SX.kill, hin, cond_false]
      exact hk (fun n hn => ⟨hav n hn, hne n hn, fun e => hne n hn (by rw [e]; exact hfree (e ▸ hav n hn))⟩) hrel
  refine h.upd hs hw' (fun n => ?_) (fun n cs hcs => ?_) (fun n m g hn hm h1 h2 => ?_) (fun n g hn hg => ?_) (size_put _ _ _) (defers_put _ _ _) (fun n cs g hc hp => by
    simp only [St.put, St.kill, St.delBox, St.map, lookB_delL, lookB_mapB] at hc
    split at hc
    · cases hc
    · rename_i hne
      obtain ⟨cs', h1, _⟩ := Option.map_eq_some_iff.1 hc
      have hnd : n ≠ d := fun e => hne (by rw [e]; exact (hfree (e ▸ .inl ⟨cs', h1⟩)).symm)
      exact (hβ n hnd).trans (h.pin n cs' g h1 hp))
  · rw [getD_put a d _ (by rw [h.size]; exact hd)]
    simp only [St.put, look_setL]
    by_cases hdn : d = n
    · simp only [hdn, if_true]; subst hdn; exact hv _ hO
    · simp only [hdn, if_false, St.kill, St.delBox, St.map, look_mapV _ (kill_x id1)]
      exact hkill _ _ (fun k hk => .inr (.inl ⟨n, hk⟩)) (h.slots n)
  · have hN : Nm ((s.kill id1).put d av0) n := .inl ⟨cs, hcs⟩
    simp only [St.put, St.kill, St.delBox, St.map, lookB_delL, lookB_mapB] at hcs
    split at hcs
    · cases hcs
    · rename_i hne
      obtain ⟨cs', h1, rfl⟩ := Option.map_eq_some_iff.1 hcs
      obtain ⟨g, us, e, h2, h3, h4⟩ := h.boxes n cs' h1
      have hnd : n ≠ d := fun e => hne (by rw [e]; exact (hfree (e ▸ .inl ⟨cs', h1⟩)).symm)
      refine ⟨g, us, e, (hβ n hnd).trans h2, (hblk n g (.inl ⟨cs', h1⟩) (fun e => hne e.symm) h2).trans h3, ?_⟩
      rw [mapC_eq]
      refine ⟨by simpa using h4.1, fun j c v hc hv' => ?_⟩
      rw [List.getElem?_map, Option.map_eq_some_iff] at hc
      obtain ⟨c', hc', rfl⟩ := hc
      exact ⟨hkill _ _ (fun k hk => .inr (.inr ⟨n, cs', h1, c', List.mem_of_getElem? hc', hk⟩)) (h4.2 j c' v hc' hv').1, (h4.2 j c' v hc' hv').2⟩
  · have aux : ∀ m, Nm s m ∧ m ≠ id1 ∧ m ≠ d → ∀ g, b = some g → β m = some g → False := by
      rintro m ⟨hm, hne, _⟩ g hbg hmg
      rcases (hb g hbg).2 with h3 | h3
      · exact hne (h.inj m id1 g hm h3.1 hmg h3.2)
      · have := (h.own m g hm hmg).1; omega
    rcases hNm n hn with e1 | n1 <;> rcases hNm m hm with e2 | m1
    · rw [e1, e2]
    · subst e1; rw [hβ m m1.2.2] at h2; simp only [setβ, if_true] at h1; exact (aux m m1 g h1 h2).elim
    · subst e2; rw [hβ n n1.2.2] at h1; simp only [setβ, if_true] at h2; exact (aux n n1 g h2 h1).elim
    · rw [hβ n n1.2.2] at h1; rw [hβ m m1.2.2] at h2; exact h.inj n m g n1.1 m1.1 h1 h2
  · rcases hNm n hn with rfl | hn
    · simp only [setβ, if_true] at hg
      refine ⟨(hb g hg).1, ?_⟩
      rcases (hb g hg).2 with h3 | h3
      · exact (h.own id1 g h3.1 h3.2).2
      · exact .inl (Nat.le_trans h.ext.size h3)
    · rw [hβ n hn.2.2] at hg
      obtain ⟨h1, h2⟩ := h.own n g hn.1 hg
      exact ⟨Nat.lt_of_lt_of_le h1 hs.size, h2⟩
theorem InvB.newVec (h : InvB W0 F X N s β a w) {d id1 : Nat} (hd : d < N) (hfree : Nm s d → d = id1) {w' : World} {Ow : Nat → Prop} (hs : Stp Ow w w')
    (hw : ∀ k, Ow k → Nm s id1 ∧ β id1 = some k) {b : Option Nat} (hb : ∀ g, b = some g → g < w'.heap.size ∧ ((Nm s id1 ∧ β id1 = some g) ∨ w.heap.size ≤ g))
    {τ : Ty} {l : List (den τ)} {u : Value} (hv : ∀ O' : Nat → Prop, (∀ k, k < w.heap.size → O' k → Own X s β k) → VecAt (setβ β d b) O' w' d τ l u) :
    InvB W0 F X N ((s.kill id1).put d (.vec d τ l)) (setβ β d b) (a.put (some d) u) w' :=
  h.newAv (av0 := .vec d τ l) hd hfree hs hw hb rfl hv

end
end Go.SX
