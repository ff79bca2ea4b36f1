/-
  Objects of the call's own: a strings.Builder, an iterator over a text, a map: made, turned, asked.
-/
import Derived.Test.YtjlbaagnoppfgaaSxMake
import Derived.Lib.OthersKept
import Derived.Lib.TrimUEq
import Derived.Lib.QuoteLoop
namespace Go.SX
set_option linter.unusedSectionVars false
variable [Globs]
section
variable {P : Program} {N : Nat} {Γ : Ctx} {W0 : World} {F : Fr} {X : Nat → Prop} {s : St} {β : Nat → Option Nat} {a : Act} {w : World}

/-- whoever speaks of the object speaks of what it turned into -/
def updO0 (id id2 : Nat) (o : Ob) : AV → AV
  | .ob i i2 o' => bif Nat.beq i id then (bif Nat.beq i2 id2 then .ob i i2 o else .x) else bif inL id [i, i2] then .x else bif inL id2 [i, i2] then .x else .ob i i2 o'
  | .pt n x => bif inL n [id, id2] then .x else .pt n x
  | .vec n τ l => bif inL n [id, id2] then .x else .vec n τ l
  | .vp n τ l m x => bif inL n [id, id2] then .x else .vp n τ l m x
  | .vs n τ l k => bif inL n [id, id2] then .x else .vs n τ l k
  | v => v
def updO (id id2 : Nat) (o : Ob) : AV → AV
  | .fn f caps => .fn f (mapC (updO0 id id2 o) caps)
  | .tup cs => .tup (mapC (updO0 id id2 o) cs)
  | .ag cs => .ag (mapC (updO0 id id2 o) cs)
  | v => updO0 id id2 o v
def updO0K (id id2 : Nat) (o : Ob) : AV → (AV → Prop) → Prop
  | .ob i i2 o', K => bif Nat.beq i id then (bif Nat.beq i2 id2 then K (.ob i i2 o) else K .x) else bif inL id [i, i2] then K .x else bif inL id2 [i, i2] then K .x else K (.ob i i2 o')
  | .pt n x, K => bif inL n [id, id2] then K .x else K (.pt n x)
  | .vec n τ l, K => bif inL n [id, id2] then K .x else K (.vec n τ l)
  | .vp n τ l m x, K => bif inL n [id, id2] then K .x else K (.vp n τ l m x)
  | .vs n τ l k, K => bif inL n [id, id2] then K .x else K (.vs n τ l k)
  | v, K => K v
theorem updO0K_eq (id id2 : Nat) (o : Ob) (v : AV) (K : AV → Prop) : updO0K id id2 o v K = K (updO0 id id2 o v) := by
  cases v with
  | ob i i2 o' =>
    simp only [updO0K, updO0]
    cases Nat.beq i id <;> cases Nat.beq i2 id2 <;> cases inL id [i, i2] <;> cases inL id2 [i, i2] <;> rfl
  | pt n x => simp only [updO0K, updO0]; cases inL n [id, id2] <;> rfl
  | vec n τ l => simp only [updO0K, updO0]; cases inL n [id, id2] <;> rfl
  | vp n τ l m x => simp only [updO0K, updO0]; cases inL n [id, id2] <;> rfl
  | vs n τ l k => simp only [updO0K, updO0]; cases inL n [id, id2] <;> rfl
  | _ => rfl
def updOK (id id2 : Nat) (o : Ob) : AV → (AV → Prop) → Prop
  | .fn f caps, K => mapCK (updO0K id id2 o) caps fun caps => K (.fn f caps)
  | .tup cs, K => mapCK (updO0K id id2 o) cs fun cs => K (.tup cs)
  | .ag cs, K => mapCK (updO0K id id2 o) cs fun cs => K (.ag cs)
  | v, K => updO0K id id2 o v K
theorem updOK_eq (id id2 : Nat) (o : Ob) (v : AV) (K : AV → Prop) : updOK id id2 o v K = K (updO id id2 o v) := by
  cases v with
  | fn f caps => simp only [updOK, updO, mapCK_eq (updO0K_eq id id2 o)]
  | tup caps => simp only [updOK, updO, mapCK_eq (updO0K_eq id id2 o)]
  | ag caps => simp only [updOK, updO, mapCK_eq (updO0K_eq id id2 o)]
  | _ => simp only [updOK, updO, updO0K_eq]
theorem updO0_ids (id id2 : Nat) (o : Ob) (v : AV) (m : Nat) (h : m ∈ ids0 (updO0 id id2 o v)) : m ∈ ids0 v := by
  cases v with
  | ob i i2 o' =>
    simp only [updO0] at h
    cases h1 : Nat.beq i id <;> cases h2 : Nat.beq i2 id2 <;> cases h3 : inL id [i, i2] <;> cases h4 : inL id2 [i, i2] <;> simp only [h1, h2, h3, h4, cond_true, cond_false] at h <;> first | exact h | (simp [ids0] at h; done)
  | pt n x => simp only [updO0] at h; cases h1 : inL n [id, id2] <;> simp only [h1, cond_true, cond_false] at h <;> first | exact h | (simp [ids0] at h; done)
  | vec n τ l => simp only [updO0] at h; cases h1 : inL n [id, id2] <;> simp only [h1, cond_true, cond_false] at h <;> first | exact h | (simp [ids0] at h; done)
  | vp n τ l k x => simp only [updO0] at h; cases h1 : inL n [id, id2] <;> simp only [h1, cond_true, cond_false] at h <;> first | exact h | (simp [ids0] at h; done)
  | vs n τ l k => simp only [updO0] at h; cases h1 : inL n [id, id2] <;> simp only [h1, cond_true, cond_false] at h <;> first | exact h | (simp [ids0] at h; done)
  | _ => exact h
theorem updO_ids (id id2 : Nat) (o : Ob) (v : AV) (m : Nat) (h : m ∈ ids (updO id id2 o v)) : m ∈ ids v := by
  have key : ∀ l : List AV, m ∈ (mapC (updO0 id id2 o) l).flatMap ids0 → m ∈ l.flatMap ids0 := by
    intro l hl
    rw [mapC_eq] at hl
    obtain ⟨c, hc, hm⟩ := List.mem_flatMap.1 hl
    obtain ⟨c', hc', rfl⟩ := List.mem_map.1 hc
    exact List.mem_flatMap.2 ⟨c', hc', updO0_ids _ _ _ _ _ hm⟩
  cases v with
  | fn f caps => exact key caps h
  | tup caps => exact key caps h
  | ag caps => exact key caps h
  | pt n x => exact updO0_ids id id2 o (.pt n x) m (by cases h1 : inL n [id, id2] <;> simpa [updO, updO0, h1, ids] using h)
  | vec n τ l => exact updO0_ids id id2 o (.vec n τ l) m (by cases h1 : inL n [id, id2] <;> simpa [updO, updO0, h1, ids] using h)
  | vp n τ l k x => exact updO0_ids id id2 o (.vp n τ l k x) m (by cases h1 : inL n [id, id2] <;> simpa [updO, updO0, h1, ids] using h)
  | vs n τ l k => exact updO0_ids id id2 o (.vs n τ l k) m (by cases h1 : inL n [id, id2] <;> simpa [updO, updO0, h1, ids] using h)
  | ob i i2 o' =>
    have e : ids (updO id id2 o (.ob i i2 o')) = ids0 (updO0 id id2 o (.ob i i2 o')) := by
      simp only [updO, updO0]
      cases Nat.beq i id <;> cases Nat.beq i2 id2 <;> cases inL id [i, i2] <;> cases inL id2 [i, i2] <;> rfl
    rw [e] at h
    exact updO0_ids id id2 o (.ob i i2 o') m h
  | _ => exact h

/-- AN OBJECT TURNS: its blocks alone are written. -/
theorem InvB.turnOb (h : InvB W0 F X N s β a w) {id id2 : Nat} (hN : Nm s id) (hN2 : Nm s id2) {b2 : Option Nat} {w' : World} (hst : Stp (fun k => β id = some k ∨ β id2 = some k) w w')
    (hid : setβ β id2 b2 id = β id) (hb2 : ∀ g, b2 = some g → g < w'.heap.size ∧ (β id2 = some g ∨ w.heap.size ≤ g)) {o' : Ob} {v0 : Value}
    (huniq : ∀ o1 v, ObAt β (Own X s β) w id id2 o1 v → v = v0)
    (hnew : ∀ O' : Nat → Prop, (∀ k, k < w.heap.size → O' k → Own X s β k) → ObAt (setβ β id2 b2) O' w' id id2 o' v0) :
    InvB W0 F X N (((s.map (updO id id2 o')).delBox id).delBox id2) (setβ β id2 b2) a w' := by
  have hbx : ∀ n cs, lookB (((s.map (updO id id2 o')).delBox id).delBox id2).boxes n = some cs → n ≠ id ∧ n ≠ id2 ∧ ∃ cs', lookB s.boxes n = some cs' ∧ cs = cs'.map (updO id id2 o') := by
    intro n cs hc
    simp only [St.delBox, St.map, lookB_delL, lookB_mapB] at hc
    split at hc
    · cases hc
    · rename_i hne2
      split at hc
      · cases hc
      · rename_i hne
        obtain ⟨cs', h1, rfl⟩ := Option.map_eq_some_iff.1 hc
        exact ⟨fun e => hne e.symm, fun e => hne2 e.symm, cs', h1, mapC_eq _ _⟩
  have hNm : ∀ n, Nm (((s.map (updO id id2 o')).delBox id).delBox id2) n → Nm s n := by
    rintro n (⟨cs, h⟩ | ⟨m, h⟩ | ⟨b, cs, h, c, hc, hn⟩)
    · obtain ⟨_, _, cs', h1, _⟩ := hbx _ _ h
      exact .inl ⟨cs', h1⟩
    · simp only [St.delBox, St.map, look_mapV (updO id id2 o') rfl] at h
      exact .inr (.inl ⟨m, updO_ids _ _ _ _ _ h⟩)
    · obtain ⟨_, _, cs', h1, rfl⟩ := hbx _ _ h
      obtain ⟨c', hc', rfl⟩ := List.mem_map.1 hc
      exact .inr (.inr ⟨b, cs', h1, c', hc', updO_ids _ _ _ _ _ hn⟩)
  have hβ : ∀ n, n ≠ id2 → setβ β id2 b2 n = β n := fun n hn => by unfold setβ; rw [if_neg hn]
  have hb2' : setβ β id2 b2 id2 = b2 := by simp [setβ]
  have hO : ∀ k, k < w.heap.size → Own X (((s.map (updO id id2 o')).delBox id).delBox id2) (setβ β id2 b2) k → Own X s β k := by
    rintro k hk (hX | ⟨n, hn, hb⟩)
    · exact .inl hX
    · by_cases e : n = id2
      · subst e
        rw [hb2'] at hb
        rcases (hb2 k hb).2 with h1 | h1
        · exact .inr ⟨_, hN2, h1⟩
        · omega
      · exact .inr ⟨n, hNm n hn, (hβ n e) ▸ hb⟩
  have hw : ∀ k, k < w.heap.size → (β id = some k ∨ β id2 = some k) → OwnN s β k := fun k _ hk => hk.elim (fun h => ⟨id, hN, h⟩) fun h => ⟨id2, hN2, h⟩
  have hblk : ∀ n g, Nm s n → n ≠ id → n ≠ id2 → β n = some g → w'.heap[g]? = w.heap[g]? := fun n g hn h1 h2 hg =>
    hst.block g (h.own n g hn hg).1 fun ho => ho.elim (fun e => h1 (h.inj n id g hn hN hg e)) fun e => h2 (h.inj n id2 g hn hN2 hg e)
  have hkeep : ∀ {av : AV} {v : Value}, (∀ n ∈ ids0 av, Nm s n ∧ n ≠ id ∧ n ≠ id2) → Rel0 β (Own X s β) w av v →
      Rel0 (setβ β id2 b2) (Own X (((s.map (updO id id2 o')).delBox id).delBox id2) (setβ β id2 b2)) w' av v := fun hav hrel =>
    hrel.step hst (fun k hk ho => .inr (hw k hk ho)) hO (fun n hn => hβ n (hav n hn).2.2) (fun n hn g hg => hblk n g (hav n (vids0_ids0 hn)).1 (hav n (vids0_ids0 hn)).2.1 (hav n (vids0_ids0 hn)).2.2 hg)
  have hf0 : ∀ av v, (∀ n ∈ ids0 av, Nm s n) → Rel0 β (Own X s β) w av v → Rel0 (setβ β id2 b2) (Own X (((s.map (updO id id2 o')).delBox id).delBox id2) (setβ β id2 b2)) w' (updO0 id id2 o' av) v := by
    intro av v hav hrel
    have hx : ∀ u, Rel0 (setβ β id2 b2) (Own X (((s.map (updO id id2 o')).delBox id).delBox id2) (setβ β id2 b2)) w' .x u := fun u => Im.x u
    have one : ∀ n, ids0 av = [n] → inL n [id, id2] = false → ∀ n ∈ ids0 av, Nm s n ∧ n ≠ id ∧ n ≠ id2 := by
      intro n he hn m hm
      have hm' := hm
      rw [he] at hm
      obtain rfl := List.mem_singleton.1 hm
      refine ⟨hav _ hm', fun e => ?_, fun e => ?_⟩
      · rw [(inL_iff m [id, id2]).2 (by simp [e])] at hn; cases hn
      · rw [(inL_iff m [id, id2]).2 (by simp [e])] at hn; cases hn
    cases av with
    | ob i i2 o1 =>
      simp only [updO0]
      cases h1 : Nat.beq i id with
      | true =>
        have := Nat.eq_of_beq_eq_true h1; subst this
        cases h2 : Nat.beq i2 id2 with
        | true =>
          have := Nat.eq_of_beq_eq_true h2; subst this
          rw [huniq o1 v hrel]
          exact hnew _ hO
        | false => exact hx _
      | false =>
        cases h3 : inL id [i, i2] with
        | true => exact hx _
        | false =>
          cases h4 : inL id2 [i, i2] with
          | true => exact hx _
          | false =>
            refine hkeep (fun n hn => ⟨hav n hn, fun e => ?_, fun e => ?_⟩) hrel
            · rw [(inL_iff id [i, i2]).2 (by rw [← e]; exact hn)] at h3; cases h3
            · rw [(inL_iff id2 [i, i2]).2 (by rw [← e]; exact hn)] at h4; cases h4
    | pt n x =>
      simp only [updO0]
      cases h1 : inL n [id, id2] with
      | true => exact hx _
      | false => exact hkeep (one n rfl h1) hrel
    | vec n τ l =>
      simp only [updO0]
      cases h1 : inL n [id, id2] with
      | true => exact hx _
      | false => exact hkeep (one n rfl h1) hrel
    | vp n τ l m x =>
      simp only [updO0]
      cases h1 : inL n [id, id2] with
      | true => exact hx _
      | false => exact hkeep (one n rfl h1) hrel
    | vs n τ l k =>
      simp only [updO0]
      cases h1 : inL n [id, id2] with
      | true => exact hx _
      | false => exact hkeep (one n rfl h1) hrel
    | _ => exact hkeep (fun n hn => nomatch hn) hrel
  have hfC : ∀ (caps : List AV) (vs : List Value), (∀ n ∈ caps.flatMap ids0, Nm s n) → All2 (Rel0 β (Own X s β) w) caps vs →
      All2 (Rel0 (setβ β id2 b2) (Own X (((s.map (updO id id2 o')).delBox id).delBox id2) (setβ β id2 b2)) w') (mapC (updO0 id id2 o') caps) vs := by
    intro caps vs hc hall
    rw [mapC_eq]
    refine ⟨by simpa using hall.1, fun j c v hj hv => ?_⟩
    rw [List.getElem?_map, Option.map_eq_some_iff] at hj
    obtain ⟨c', hc', rfl⟩ := hj
    exact hf0 c' v (fun n hn => hc n (List.mem_flatMap.2 ⟨c', List.mem_of_getElem? hc', hn⟩)) (hall.2 j c' v hc' hv)
  have hf : ∀ av v, (∀ n ∈ ids av, Nm s n) → Rel β (Own X s β) w av v → Rel (setβ β id2 b2) (Own X (((s.map (updO id id2 o')).delBox id).delBox id2) (setβ β id2 b2)) w' (updO id id2 o' av) v := by
    intro av v hav hrel
    cases av with
    | fn f caps => obtain ⟨vs, h1, h2⟩ := hrel; exact ⟨vs, h1, hfC caps vs hav h2⟩
    | tup caps => obtain ⟨vs, h1, h2⟩ := hrel; exact ⟨vs, h1, hfC caps vs hav h2⟩
    | ag caps => obtain ⟨vs, h1, h2, h3⟩ := hrel; exact ⟨vs, h1, hfC caps vs hav h2, h3⟩
    | ob i i2 o1 => exact Rel.rel0 (hf0 (.ob i i2 o1) v hav hrel)
    | pt n x => exact Rel.rel0 (hf0 (.pt n x) v hav hrel)
    | vec n τ l => exact Rel.rel0 (hf0 (.vec n τ l) v hav hrel)
    | vp n τ l m x => exact Rel.rel0 (hf0 (.vp n τ l m x) v hav hrel)
    | vs n τ l k => exact Rel.rel0 (hf0 (.vs n τ l k) v hav hrel)
    | i k n => exact Rel.rel0 (hf0 (.i k n) v hav hrel)
    | b t => exact Rel.rel0 (hf0 (.b t) v hav hrel)
    | s l => exact Rel.rel0 (hf0 (.s l) v hav hrel)
    | nl => exact Rel.rel0 (hf0 .nl v hav hrel)
    | rd τ l => exact Rel.rel0 (hf0 (.rd τ l) v hav hrel)
    | rp cs => exact Rel.rel0 (hf0 (.rp cs) v hav hrel)
    | agg cs => exact Rel.rel0 (hf0 (.agg cs) v hav hrel)
    | np => exact Rel.rel0 (hf0 .np v hav hrel)
    | x => exact Rel.x
  refine h.upd hst hw (fun n => ?_) (fun n cs hcs => ?_) (fun n m g hn hm h1 h2 => ?_) (fun n g hn hg => ?_) rfl rfl (fun n cs g hc hp => ?_)
  · simp only [St.delBox, St.map, look_mapV (updO id id2 o') rfl]
    exact hf _ _ (fun k hk => .inr (.inl ⟨n, hk⟩)) (h.slots n)
  · obtain ⟨hne, hne2, cs', h1, rfl⟩ := hbx _ _ hcs
    obtain ⟨g, us, e, h2, h3, h4⟩ := h.boxes n cs' h1
    have hNn : Nm s n := .inl ⟨cs', h1⟩
    refine ⟨g, us, e, (hβ n hne2).trans h2, (hblk n g hNn hne hne2 h2).trans h3, by simpa using h4.1, fun j c v hc hv => ?_⟩
    rw [List.getElem?_map, Option.map_eq_some_iff] at hc
    obtain ⟨c', hc', rfl⟩ := hc
    exact ⟨hf _ _ (fun k hk => .inr (.inr ⟨n, cs', h1, c', List.mem_of_getElem? hc', hk⟩)) (h4.2 j c' v hc' hv).1, (h4.2 j c' v hc' hv).2⟩
  · have aux : ∀ m g, Nm s m → m ≠ id2 → b2 = some g → β m = some g → False := by
      intro m g hm hne hbg hmg
      rcases (hb2 g hbg).2 with h3 | h3
      · exact hne (h.inj m id2 g hm hN2 hmg h3)
      · have := (h.own m g hm hmg).1; omega
    by_cases e1 : n = id2 <;> by_cases e2 : m = id2
    · rw [e1, e2]
    · subst e1; rw [hb2'] at h1; rw [hβ m e2] at h2; exact (aux m g (hNm m hm) e2 h1 h2).elim
    · subst e2; rw [hb2'] at h2; rw [hβ n e1] at h1; exact (aux n g (hNm n hn) e1 h2 h1).elim
    · rw [hβ n e1] at h1; rw [hβ m e2] at h2; exact h.inj n m g (hNm n hn) (hNm m hm) h1 h2
  · by_cases e1 : n = id2
    · subst e1
      rw [hb2'] at hg
      refine ⟨(hb2 g hg).1, ?_⟩
      rcases (hb2 g hg).2 with h3 | h3
      · exact (h.own _ g hN2 h3).2
      · exact .inl (Nat.le_trans h.ext.size h3)
    · rw [hβ n e1] at hg
      obtain ⟨h1, h2⟩ := h.own n g (hNm n hn) hg
      exact ⟨Nat.lt_of_lt_of_le h1 hst.size, h2⟩
  · obtain ⟨_, hne2, cs', h1, _⟩ := hbx _ _ hc
    exact (hβ n hne2).trans (h.pin n cs' g h1 hp)

/-- AN OBJECT IS MADE, under names that are not in use. -/
theorem InvB.newOb (h : InvB W0 F X N s β a w) {d d2 : Nat} (hd : d < N) (hfree : ¬ Nm s d) (hfree2 : ¬ Nm s d2) {w' : World} (hs : Stp (fun _ => False) w w') {g : Nat} (hg0 : w.heap.size ≤ g) (hg1 : g < w'.heap.size)
    {o : Ob} {u : Value} (hv : ∀ O' : Nat → Prop, ObAt (setβ (setβ β d2 none) d (some g)) O' w' d d2 o u) :
    InvB W0 F X N (s.put d (.ob d d2 o)) (setβ (setβ β d2 none) d (some g)) (a.put (some d) u) w' := by
  have hNm : ∀ n, Nm (s.put d (.ob d d2 o)) n → n = d ∨ n = d2 ∨ (Nm s n ∧ n ≠ d ∧ n ≠ d2) := by
    intro n hn
    by_cases e1 : n = d
    · exact .inl e1
    by_cases e2 : n = d2
    · exact .inr (.inl e2)
    refine .inr (.inr ⟨?_, e1, e2⟩)
    rcases hn with ⟨cs, h⟩ | ⟨q, h⟩ | ⟨b, cs, h, c, hc, hn⟩
    · exact .inl ⟨cs, h⟩
    · simp only [St.put, look_setL] at h
      split at h
      · simp [ids, ids0] at h; rcases h with h | h
        · exact absurd h e1
        · exact absurd h e2
      · exact .inr (.inl ⟨q, h⟩)
    · exact .inr (.inr ⟨b, cs, h, c, hc, hn⟩)
  have hβ : ∀ n, n ≠ d → n ≠ d2 → setβ (setβ β d2 none) d (some g) n = β n := fun n h1 h2 => by unfold setβ; rw [if_neg h1, if_neg h2]
  have hβd : setβ (setβ β d2 none) d (some g) d = some g := by simp [setβ]
  have hβd2 : ∀ k, setβ (setβ β d2 none) d (some g) d2 = some k → k = g := fun k hk => by
    unfold setβ at hk
    split at hk
    · injection hk with hk; exact hk.symm
    · rw [if_pos rfl] at hk; cases hk
  have hO : ∀ k, k < w.heap.size → Own X (s.put d (.ob d d2 o)) (setβ (setβ β d2 none) d (some g)) k → Own X s β k := by
    rintro k hk (hX | ⟨n, hn, hb⟩)
    · exact .inl hX
    rcases hNm n hn with rfl | rfl | ⟨hn, h1, h2⟩
    · rw [hβd] at hb; injection hb with hb; omega
    · have := hβd2 k hb; omega
    · exact .inr ⟨n, hn, (hβ n h1 h2) ▸ hb⟩
  have hk : ∀ {av : AV} {v : Value}, (∀ n ∈ ids av, Nm s n) → Rel β (Own X s β) w av v → Rel (setβ (setβ β d2 none) d (some g)) (Own X (s.put d (.ob d d2 o)) (setβ (setβ β d2 none) d (some g))) w' av v := fun hav hrel =>
    h.keep hs (fun _ _ h => h.elim) hO hrel (fun n hn => hβ n (fun e => hfree (e ▸ hav n hn)) (fun e => hfree2 (e ▸ hav n hn))) (fun n hn g' hg' => hs.block g' (h.own n g' (hav n (vids_ids hn)) hg').1 (fun h => h))
  refine h.upd hs (fun _ _ h => h.elim) (fun n => ?_) (fun n cs hcs => ?_) (fun n m k hn hm h1 h2 => ?_) (fun n k hn hk' => ?_) (size_put _ _ _) (defers_put _ _ _) (fun n cs k hc hp => (hβ n (fun e => hfree (e ▸ .inl ⟨cs, hc⟩)) (fun e => hfree2 (e ▸ .inl ⟨cs, hc⟩))).trans (h.pin n cs k hc hp))
  · rw [getD_put a d _ (by rw [h.size]; exact hd)]
    simp only [St.put, look_setL]
    by_cases hdn : d = n
    · simp only [hdn, if_true]; subst hdn; exact hv _
    · simp only [hdn, if_false]; exact hk (fun k hk => .inr (.inl ⟨n, hk⟩)) (h.slots n)
  · obtain ⟨g', us, e, h1, h2, h3⟩ := h.boxes n cs hcs
    have hN : Nm s n := .inl ⟨cs, hcs⟩
    exact ⟨g', us, e, (hβ n (fun e => hfree (e ▸ hN)) (fun e => hfree2 (e ▸ hN))).trans h1, (hs.block g' (h.own n g' hN h1).1 (fun h => h)).trans h2,
      h3.mono fun j c v hc hrel => ⟨hk (fun k hk => .inr (.inr ⟨n, cs, hcs, c, List.mem_of_getElem? hc, hk⟩)) hrel.1, hrel.2⟩⟩
  · have aux : ∀ m, Nm s m → β m = some g → False := fun m hm hmg => by have := (h.own m g hm hmg).1; omega
    rcases hNm n hn with e1 | e1 | ⟨n1, n2, n3⟩ <;> rcases hNm m hm with e2 | e2 | ⟨m1, m2, m3⟩
    · rw [e1, e2]
    · subst e1 e2
      by_cases e : n = m
      · exact e
      · exfalso; unfold setβ at h2; rw [if_neg (fun e' => e e'.symm), if_pos rfl] at h2; cases h2
    · subst e1; rw [hβd] at h1; rw [hβ m m2 m3] at h2; injection h1 with h1; subst h1; exact (aux m m1 h2).elim
    · subst e1 e2
      by_cases e : n = m
      · exact e
      · exfalso; unfold setβ at h1; rw [if_neg e, if_pos rfl] at h1; cases h1
    · rw [e1, e2]
    · subst e1; have := hβd2 k h1; subst this; rw [hβ m m2 m3] at h2; exact (aux m m1 h2).elim
    · subst e2; rw [hβd] at h2; rw [hβ n n2 n3] at h1; injection h2 with h2; subst h2; exact (aux n n1 h1).elim
    · subst e2; have := hβd2 k h2; subst this; rw [hβ n n2 n3] at h1; exact (aux n n1 h1).elim
    · rw [hβ n n2 n3] at h1; rw [hβ m m2 m3] at h2; exact h.inj n m k n1 m1 h1 h2
  · rcases hNm n hn with rfl | rfl | ⟨n1, n2, n3⟩
    · rw [hβd] at hk'; injection hk' with hk'; subst hk'; exact ⟨hg1, .inl (Nat.le_trans h.ext.size hg0)⟩
    · have := hβd2 k hk'; subst this; exact ⟨hg1, .inl (Nat.le_trans h.ext.size hg0)⟩
    · rw [hβ n n2 n3] at hk'
      obtain ⟨h1, h2⟩ := h.own n k n1 hk'
      exact ⟨Nat.lt_of_lt_of_le h1 hs.size, h2⟩
end
end Go.SX
