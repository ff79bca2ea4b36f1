/-
  The steps of the invariant: a value is put, names are dropped, an own slice is given up, a box is made, a cell is stored.
-/
import Derived.Test.YtjlbaagnoppfgaaSxInv
namespace Go.SX
set_option linter.unusedSectionVars false
variable [Globs]

theorem Im.ids0_nil {O : Nat → Prop} {w : World} {av : AV} {v : Value} (h : Im O w av v) : ids0 av = [] := by cases h <;> rfl
theorem Im.ids_nil {O : Nat → Prop} {w : World} {av : AV} {v : Value} (h : Im O w av v) : ids av = [] := by
  cases h with
  | fn f caps vs hl h =>
    simp only [ids, List.flatMap_eq_nil_iff]
    intro c hc
    obtain ⟨j, hj, rfl⟩ := List.getElem_of_mem hc
    exact (h j _ _ (List.getElem?_eq_getElem hj) (List.getElem?_eq_getElem (by rw [← hl]; exact hj))).ids0_nil
  | tup caps vs hl h =>
    simp only [ids, List.flatMap_eq_nil_iff]
    intro c hc
    obtain ⟨j, hj, rfl⟩ := List.getElem_of_mem hc
    exact (h j _ _ (List.getElem?_eq_getElem hj) (List.getElem?_eq_getElem (by rw [← hl]; exact hj))).ids0_nil
  | _ => rfl
theorem Im.mono {O O' : Nat → Prop} {w : World} {av : AV} {v : Value} (h : Im O w av v) (hO : ∀ k, O' k → O k) : Im O' w av v :=
  h.step (Stp.refl (fun _ => False) w) (fun _ _ h => h.elim) (fun k _ => hO k)
theorem Rel.mono {β : Nat → Option Nat} {O O' : Nat → Prop} {w : World} {av : AV} {v : Value} (h : Rel β O w av v) (hO : ∀ k, O' k → O k) : Rel β O' w av v :=
  h.step (Stp.refl (fun _ => False) w) (fun _ _ h => h.elim) (fun k _ => hO k) (fun _ _ => rfl) (fun _ _ _ _ => rfl)

section
variable {W0 : World} {F : Fr} {X : Nat → Prop} {N : Nat} {s : St} {β : Nat → Option Nat} {a : Act} {w : World}

theorem Nm.of_put {d : Nat} {v : AV} (hids : ∀ n ∈ ids v, Nm s n) {n : Nat} (h : Nm (s.put d v) n) : Nm s n := by
  rcases h with ⟨cs, h⟩ | ⟨m, h⟩ | ⟨b, cs, h, c, hc, hn⟩
  · exact .inl ⟨cs, h⟩
  · simp only [St.put, look_setL] at h
    split at h
    · exact hids n h
    · exact .inr (.inl ⟨m, h⟩)
  · exact .inr (.inr ⟨b, cs, h, c, hc, hn⟩)

theorem InvB.put (h : InvB W0 F X N s β a w) {d : Nat} (hd : d < N) {v : AV} {u : Value} (hr : Rel β (Own X s β) w v u) (hids : ∀ n ∈ ids v, Nm s n) :
    InvB W0 F X N (s.put d v) β (a.put (some d) u) w := by
  refine h.less (Stp.refl _ _) (fun n => Nm.of_put hids) (fun n => ?_) (fun n cs h => h) (size_put _ _ _) (defers_put _ _ _)
  rw [getD_put a d u (by rw [h.size]; exact hd)]
  simp only [St.put, look_setL]
  by_cases hdn : d = n
  · simp only [hdn, if_true]; exact ⟨n, .inr (.inr hr)⟩
  · simp only [hdn, if_false]; exact ⟨n, .inl ⟨rfl, rfl⟩⟩

theorem InvB.putIm (h : InvB W0 F X N s β a w) {d : Nat} (hd : d < N) {w' : World} (hs : Stp (fun _ => False) w w') {v : AV} {u : Value} (hr : Im (Own X s β) w' v u) :
    InvB W0 F X N (s.put d v) β (a.put (some d) u) w' := by
  refine h.less hs (fun n => Nm.of_put (by rw [hr.ids_nil]; intro n hn; cases hn)) (fun n => ?_) (fun n cs h => h) (size_put _ _ _) (defers_put _ _ _)
  rw [getD_put a d u (by rw [h.size]; exact hd)]
  simp only [St.put, look_setL]
  by_cases hdn : d = n
  · simp only [hdn, if_true]; exact ⟨n, .inr (.inl hr)⟩
  · simp only [hdn, if_false]; exact ⟨n, .inl ⟨rfl, rfl⟩⟩

/-- the world grows, nothing is put -/
theorem InvB.grow (h : InvB W0 F X N s β a w) {w' : World} (hs : Stp (fun _ => False) w w') : InvB W0 F X N s β a w' :=
  h.less hs (fun _ hn => hn) (fun n => ⟨n, .inl ⟨rfl, rfl⟩⟩) (fun _ _ h => h) rfl rfl

/-- a slot that the abstract state does not know of -/
theorem InvB.forget (h : InvB W0 F X N s β a w) {d : Nat} (hd : look s.slots d = .x) {u : Value} : InvB W0 F X N s β (a.put (some d) u) w := by
  refine h.less (Stp.refl _ _) (fun _ hn => hn) (fun n => ?_) (fun _ _ h => h) (size_put _ _ _) (defers_put _ _ _)
  by_cases hdn : d = n
  · subst hdn; rw [hd]; exact ⟨d, .inr (.inl (.x _))⟩
  · refine ⟨n, .inl ⟨rfl, ?_⟩⟩
    simp only [Act.put, Array.getD_eq_getD_getElem?, Array.getElem?_setIfInBounds, if_neg hdn]

/-- every abstract value is weakened by f -/
theorem InvB.mapped (h : InvB W0 F X N s β a w) (f : AV → AV) (hx : f .x = .x) (O' : Nat → Prop)
    (hf : ∀ av v, Rel β (Own X s β) w av v → Rel β O' w (f av) v) (hids : ∀ av n, n ∈ ids (f av) → n ∈ ids av)
    (hO : ∀ k, Own X (s.map f) β k → O' k) : InvB W0 F X N (s.map f) β a w := by
  have hNm : ∀ n, Nm (s.map f) n → Nm s n := by
    rintro n (⟨cs, h⟩ | ⟨m, h⟩ | ⟨b, cs, h, c, hc, hn⟩)
    · simp only [St.map, lookB_mapB, Option.map_eq_some_iff] at h
      obtain ⟨cs', h1, _⟩ := h
      exact .inl ⟨cs', h1⟩
    · simp only [St.map, look_mapV f hx] at h
      exact .inr (.inl ⟨m, hids _ _ h⟩)
    · simp only [St.map, lookB_mapB, Option.map_eq_some_iff] at h
      obtain ⟨cs', h1, rfl⟩ := h
      rw [mapC_eq] at hc
      obtain ⟨c', hc', rfl⟩ := List.mem_map.1 hc
      exact .inr (.inr ⟨b, cs', h1, c', hc', hids _ _ hn⟩)
  refine h.upd (Stp.refl (fun _ => False) w) (fun _ _ h => h.elim) (fun n => ?_) (fun n cs hcs => ?_) (fun n m g hn hm => h.inj n m g (hNm n hn) (hNm m hm))
    (fun n g hn hg => h.own n g (hNm n hn) hg) rfl rfl (fun n cs g hc hp => by
      simp only [St.map, lookB_mapB, Option.map_eq_some_iff] at hc
      obtain ⟨cs', h1, _⟩ := hc
      exact h.pin n cs' g h1 hp)
  · simp only [St.map, look_mapV f hx]
    exact (hf _ _ (h.slots n)).mono hO
  · simp only [St.map, lookB_mapB, Option.map_eq_some_iff] at hcs
    obtain ⟨cs', h1, rfl⟩ := hcs
    obtain ⟨g, us, e, h2, h3, h4⟩ := h.boxes n cs' h1
    refine ⟨g, us, e, h2, h3, ?_⟩
    rw [mapC_eq]
    refine ⟨by simpa using h4.1, fun j c v hc hv => ?_⟩
    rw [List.getElem?_map, Option.map_eq_some_iff] at hc
    obtain ⟨c', hc', rfl⟩ := hc
    exact ⟨(hf _ _ (h4.2 j c' v hc' hv).1).mono hO, (h4.2 j c' v hc' hv).2⟩
end

theorem nbeq_ne {m n : Nat} (h : m ≠ n) : Nat.beq m n = false := by
  rw [← Bool.not_eq_true]; exact fun e => h (Nat.eq_of_beq_eq_true e)
/-- n is in the list -/
def inL (n : Nat) : List Nat → Bool
  | [] => false
  | m :: r => bif Nat.beq m n then true else inL n r
theorem inL_iff (n : Nat) (l : List Nat) : inL n l = true ↔ n ∈ l := by
  induction l with
  | nil => simp [inL]
  | cons m r ih =>
    simp only [inL, Bool.cond_eq_ite, List.mem_cons]
    by_cases h : m = n
    · simp [h]
    · have h' : n ≠ m := fun e => h e.symm
      simp [h, h', ih]

/-- what speaks of n is dropped -/
def kill (n : Nat) (av : AV) : AV := bif inL n (ids av) then .x else av
theorem kill_ids (n : Nat) (av : AV) (m : Nat) (h : m ∈ ids (kill n av)) : m ∈ ids av ∧ m ≠ n := by
  unfold kill at h
  cases hn : inL n (ids av) with
  | true => rw [hn] at h; exact absurd h (by simp [ids, ids0])
  | false =>
    rw [hn] at h
    have h : m ∈ ids av := h
    refine ⟨h, ?_⟩
    rintro rfl
    rw [(inL_iff m _).2 h] at hn
    cases hn
theorem kill_x (n : Nat) : kill n .x = .x := rfl

theorem InvB.kill {W0 : World} {F : Fr} {X : Nat → Prop} {N : Nat} {s : St} {β : Nat → Option Nat} {a : Act} {w : World} (h : InvB W0 F X N s β a w) (n : Nat) : InvB W0 F X N (s.map (kill n)) β a w := by
  have hO : ∀ k, Own X (s.map (SX.kill n)) β k → Own X s β k := by
    rintro k (hX | ⟨m, hm, hb⟩)
    · exact .inl hX
    refine .inr ⟨m, ?_, hb⟩
    rcases hm with ⟨cs, h⟩ | ⟨q, h⟩ | ⟨b, cs, h, c, hc, hn⟩
    · simp only [St.map, lookB_mapB, Option.map_eq_some_iff] at h
      obtain ⟨cs', h1, _⟩ := h
      exact .inl ⟨cs', h1⟩
    · simp only [St.map, look_mapV _ (kill_x n)] at h
      exact .inr (.inl ⟨q, (kill_ids _ _ _ h).1⟩)
    · simp only [St.map, lookB_mapB, Option.map_eq_some_iff] at h
      obtain ⟨cs', h1, rfl⟩ := h
      rw [mapC_eq] at hc
      obtain ⟨c', hc', rfl⟩ := List.mem_map.1 hc
      exact .inr (.inr ⟨b, cs', h1, c', hc', (kill_ids _ _ _ hn).1⟩)
  refine h.mapped (SX.kill n) (kill_x n) (Own X s β) (fun av v hr => ?_) (fun av m hm => (kill_ids _ _ _ hm).1) hO
  unfold SX.kill
  cases inL n (ids av) with
  | true => exact Rel.x
  | false => exact hr

/-- an own slice is given up: it may be read by whoever, and nobody writes it any more -/
def frz (id : Nat) : AV → AV
  | .vec i τ l => bif Nat.beq i id then .rd τ l else .vec i τ l
  | .vp i τ l n off => bif Nat.beq i id then .rp ((enc τ (l.getD n (dflt τ))).drop off) else .vp i τ l n off
  | .pt n o => bif Nat.beq n id then .x else .pt n o
  | .fn f caps => bif inL id (caps.flatMap ids0) then .x else .fn f caps
  | .tup cs => bif inL id (cs.flatMap ids0) then .x else .tup cs
  | .vs i τ l k => bif Nat.beq i id then .rd τ (l.drop k) else .vs i τ l k
  | .ag cs => bif inL id (cs.flatMap ids0) then .x else .ag cs
  | .ob i i2 o => bif inL id [i, i2] then .x else .ob i i2 o
  | av => av
theorem frz_ids (n : Nat) (av : AV) (m : Nat) (h : m ∈ ids (frz n av)) : m ∈ ids av ∧ m ≠ n := by
  cases av with
  | vec i τ l => by_cases e : i = n <;> simp_all [frz, ids, ids0, Bool.cond_eq_ite]
  | vp i τ l k off => by_cases e : i = n <;> simp_all [frz, ids, ids0, Bool.cond_eq_ite]
  | pt i o => by_cases e : i = n <;> simp_all [frz, ids, ids0, Bool.cond_eq_ite]
  | fn f caps =>
    by_cases e : inL n (caps.flatMap ids0) = true
    · simp [frz, e, ids, ids0] at h
    · simp only [Bool.not_eq_true] at e
      simp only [frz, e, cond_false] at h
      refine ⟨h, ?_⟩
      rintro rfl
      rw [(inL_iff m (caps.flatMap ids0)).2 h] at e
      cases e
  | vs i τ l k => by_cases e : i = n <;> simp_all [frz, ids, ids0, Bool.cond_eq_ite]
  | ob i i2 o =>
    by_cases e : inL n [i, i2] = true
    · simp [frz, e, ids, ids0] at h
    · simp only [Bool.not_eq_true] at e
      simp only [frz, e, cond_false] at h
      refine ⟨h, ?_⟩
      rintro rfl
      have h : m ∈ [i, i2] := h
      rw [(inL_iff m [i, i2]).2 h] at e
      cases e
  | ag caps =>
    by_cases e : inL n (caps.flatMap ids0) = true
    · simp [frz, e, ids, ids0] at h
    · simp only [Bool.not_eq_true] at e
      simp only [frz, e, cond_false] at h
      refine ⟨h, ?_⟩
      rintro rfl
      rw [(inL_iff m (caps.flatMap ids0)).2 h] at e
      cases e
  | tup caps =>
    by_cases e : inL n (caps.flatMap ids0) = true
    · simp [frz, e, ids, ids0] at h
    · simp only [Bool.not_eq_true] at e
      simp only [frz, e, cond_false] at h
      refine ⟨h, ?_⟩
      rintro rfl
      rw [(inL_iff m (caps.flatMap ids0)).2 h] at e
      cases e
  | _ => simp [frz, ids, ids0] at h

theorem VecAt.freeze {β : Nat → Option Nat} {O O' : Nat → Prop} {w : World} {id : Nat} {τ : Ty} {l : List (den τ)} {v : Value} (h : VecAt β O w id τ l v)
    (hO : ∀ k, O' k → O k ∧ β id ≠ some k) : Im O' w (.rd τ l) v := by
  rcases h with ⟨rfl, rfl, _⟩ | ⟨g, c, cur, e, h1, rfl, h3, h4, h5, h6, h7⟩
  · exact .rd0 τ none 0 (by simp [maxLen])
  · cases l with
    | nil => exact .rd0 τ _ c h5
    | cons x l =>
      have hg : ¬ O' g := fun hg => (hO g hg).2 h1
      refine .rd τ _ g 0 c (fun i j => (cur[i * esz τ + j]?).getD undef) hg h4 h5 (by simp) (fun i y j av hy hav => ?_) (fun i y j av hy hav => ?_)
      · obtain ⟨u, hu, _⟩ := h7 i y j av hy hav
        rw [Nat.zero_add, cell_of_row w g _ cur e (0, 0) h3, hu]
        rfl
      · obtain ⟨u, hu, him⟩ := h7 i y j av hy hav
        simp only [hu, Option.getD_some]
        exact him.mono fun k hk => (hO k hk).1

theorem Im.rd_drop {O : Nat → Prop} {w : World} {τ : Ty} {l : List (den τ)} {g o n c k : Nat} {ad : Addr} (h : Im O w (.rd τ l) (.slice (some ⟨g, o, none⟩) n c)) (hk : k ≤ l.length)
    (had : k < c → ad = ⟨g, o + k * esz τ, none⟩) : Im O w (.rd τ (l.drop k)) (.slice (some ad) (n - k) (c - k)) := by
  cases h with
  | rd0 _ _ _ hc => simp at hk; subst hk; simp; exact .rd0 τ _ _ hc
  | rd _ _ g off c u hg hc hmx hne hcell him =>
    cases hl : l.drop k with
    | nil =>
      have : (l.drop k).length = 0 := by rw [hl]; rfl
      simp at this
      rw [show l.length - k = 0 by omega]
      exact .rd0 τ _ _ (by omega)
    | cons y r =>
      have hpos : 0 < (l.drop k).length := by rw [hl]; simp
      simp at hpos
      rw [← hl, had (by omega), ← List.length_drop]
      refine .rd τ _ g _ _ (fun i j => u (k + i) j) hg (by simp; omega) (by omega) (by rw [hl]; simp) (fun i z j av hz hav => ?_) (fun i z j av hz hav => ?_)
      · rw [List.getElem?_drop] at hz
        have := hcell _ _ j av hz hav
        rw [Nat.add_mul] at this
        rw [← this]
        congr 2
        omega
      · rw [List.getElem?_drop] at hz
        exact him _ _ j av hz hav
theorem VsAt.freeze {β : Nat → Option Nat} {O O' : Nat → Prop} {w : World} {id : Nat} {τ : Ty} {l : List (den τ)} {k : Nat} {v : Value} (h : VsAt β O w id τ l k v)
    (hO : ∀ k, O' k → O k ∧ β id ≠ some k) : Im O' w (.rd τ (l.drop k)) v := by
  obtain ⟨h0, v', h1, h2⟩ := h
  have h3 := h1.freeze hO
  rcases h2 with ⟨rfl, rfl⟩ | ⟨g, n, c, ad, rfl, rfl, h4⟩
  · exact h3
  · exact h3.rd_drop h0 fun h => by rw [h4 h, Nat.zero_add]
theorem Rel.frz {β : Nat → Option Nat} {O O' : Nat → Prop} {w : World} {id : Nat} {av : AV} {v : Value} (h : Rel β O w av v)
    (hO : ∀ k, O' k → O k ∧ β id ≠ some k) : Rel β O' w (frz id av) v := by
  have hm : ∀ {av v}, Rel β O w av v → Rel β O' w av v := fun h => h.mono fun k hk => (hO k hk).1
  cases av with
  | vec i τ l =>
    by_cases e : i = id
    · subst e; simp only [SX.frz, Nat.beq_refl, cond_true]; exact VecAt.freeze h hO
    · simp only [SX.frz, nbeq_ne e, cond_false]; exact hm h
  | vp i τ l n off =>
    by_cases e : i = id
    · subst e
      simp only [SX.frz, Nat.beq_refl, cond_true]
      obtain ⟨hn, ⟨g, hg, rfl⟩, v', hv⟩ := h
      refine Im.mk_rp (g := g) (o := n * esz τ + off) fun j av hj => ?_
      refine ⟨fun hk => (hO g hk).2 hg, ?_⟩
      rcases hv with ⟨rfl, _, _⟩ | ⟨g', c, cur, e, h1, rfl, h3, h4, h5, h6, h7⟩
      · simp at hn
      · rw [h1] at hg
        injection hg with hg
        subst hg
        rw [List.getElem?_drop] at hj
        have hl : l[n]? = some (l.getD n (dflt τ)) := by rw [List.getD_eq_getElem?_getD, List.getElem?_eq_getElem hn]; rfl
        obtain ⟨u, hu, him⟩ := h7 n _ (off + j) av hl hj
        refine ⟨u, ?_, him.mono fun k hk => (hO k hk).1, plain_one him (enc_plain τ _ _ (List.mem_of_getElem? hj))⟩
        rw [cell_of_row w g' _ cur e (0, 0) h3, Nat.add_assoc, hu]
    · simp only [SX.frz, nbeq_ne e, cond_false]; exact hm h
  | pt n o =>
    by_cases e : n = id
    · subst e; simp only [SX.frz, Nat.beq_refl, cond_true]; exact Rel.x
    · simp only [SX.frz, nbeq_ne e, cond_false]; exact hm h
  | fn f caps =>
    simp only [SX.frz]
    cases inL id (caps.flatMap ids0) with
    | true => exact Rel.x
    | false => exact hm h
  | tup caps =>
    simp only [SX.frz]
    cases inL id (caps.flatMap ids0) with
    | true => exact Rel.x
    | false => exact hm h
  | vs i τ l k =>
    by_cases e : i = id
    · subst e; simp only [SX.frz, Nat.beq_refl, cond_true]; exact VsAt.freeze h hO
    · simp only [SX.frz, nbeq_ne e, cond_false]; exact hm h
  | ag caps =>
    simp only [SX.frz]
    cases inL id (caps.flatMap ids0) with
    | true => exact Rel.x
    | false => exact hm h
  | ob i i2 o =>
    simp only [SX.frz]
    cases inL id [i, i2] with
    | true => exact Rel.x
    | false => exact hm h
  | _ => exact hm h

/-- a box of that name is dropped, too -/
def St.frz (s : St) (id : Nat) : St := (s.map (SX.frz id)).delBox id
theorem Nm.of_frz {s : St} {id n : Nat} (h : Nm (s.frz id) n) : Nm s n ∧ n ≠ id := by
  have key : ∀ b cs, lookB (s.frz id).boxes b = some cs → b ≠ id ∧ ∃ cs', lookB s.boxes b = some cs' ∧ cs = cs'.map (SX.frz id) := by
    intro b cs h
    simp only [St.frz, St.delBox, St.map, lookB_delL, lookB_mapB] at h
    split at h
    · cases h
    · rename_i hne
      obtain ⟨cs', h1, rfl⟩ := Option.map_eq_some_iff.1 h
      exact ⟨fun e => hne e.symm, cs', h1, mapC_eq _ _⟩
  rcases h with ⟨cs, h⟩ | ⟨q, h⟩ | ⟨b, cs, h, c, hc, hn⟩
  · obtain ⟨h1, cs', h2, _⟩ := key _ _ h
    exact ⟨.inl ⟨cs', h2⟩, h1⟩
  · simp only [St.frz, St.delBox, St.map, look_mapV _ (show SX.frz id .x = .x from rfl)] at h
    exact ⟨.inr (.inl ⟨q, (frz_ids _ _ _ h).1⟩), (frz_ids _ _ _ h).2⟩
  · obtain ⟨h1, cs', h2, rfl⟩ := key _ _ h
    obtain ⟨c', hc', rfl⟩ := List.mem_map.1 hc
    exact ⟨.inr (.inr ⟨b, cs', h2, c', hc', (frz_ids _ _ _ hn).1⟩), (frz_ids _ _ _ hn).2⟩

theorem InvB.frz {W0 : World} {F : Fr} {X : Nat → Prop} {N : Nat} {s : St} {β : Nat → Option Nat} {a : Act} {w : World} (h : InvB W0 F X N s β a w) (id : Nat) : InvB W0 F X N (s.frz id) β a w := by
  by_cases hid : Nm s id
  · have hO : ∀ k, Own X (s.frz id) β k → Own X s β k ∧ β id ≠ some k := by
      rintro k (hX | ⟨m, hm, hb⟩)
      · exact ⟨.inl hX, fun e => h.disj id k hid e hX⟩
      · obtain ⟨h1, h2⟩ := Nm.of_frz hm
        exact ⟨.inr ⟨m, h1, hb⟩, fun e => h2 (h.inj m id k h1 hid hb e)⟩
    refine h.upd (Stp.refl (fun _ => False) w) (fun _ _ h => h.elim) (fun n => ?_) (fun n cs hcs => ?_) (fun n m g hn hm => h.inj n m g (Nm.of_frz hn).1 (Nm.of_frz hm).1)
      (fun n g hn hg => h.own n g (Nm.of_frz hn).1 hg) rfl rfl (fun n cs g hc hp => by
        simp only [St.frz, St.delBox, St.map, lookB_delL, lookB_mapB] at hc
        split at hc
        · cases hc
        · obtain ⟨cs', h1, _⟩ := Option.map_eq_some_iff.1 hc
          exact h.pin n cs' g h1 hp)
    · simp only [St.frz, St.delBox, St.map, look_mapV _ (show SX.frz id .x = .x from rfl)]
      exact (h.slots n).frz hO
    · simp only [St.frz, St.delBox, St.map, lookB_delL, lookB_mapB] at hcs
      split at hcs
      · cases hcs
      · obtain ⟨cs', h1, rfl⟩ := Option.map_eq_some_iff.1 hcs
        obtain ⟨g, us, e, h2, h3, h4⟩ := h.boxes n cs' h1
        refine ⟨g, us, e, h2, h3, ?_⟩
        rw [mapC_eq]
        refine ⟨by simpa using h4.1, fun j c v hc hv => ?_⟩
        rw [List.getElem?_map, Option.map_eq_some_iff] at hc
        obtain ⟨c', hc', rfl⟩ := hc
        exact ⟨(h4.2 j c' v hc' hv).1.frz hO, (h4.2 j c' v hc' hv).2⟩
  · have hO : ∀ k, Own X (s.frz id) β k → Own X s β k := by
      rintro k (hX | ⟨m, hm, hb⟩)
      · exact .inl hX
      · exact .inr ⟨m, (Nm.of_frz hm).1, hb⟩
    have hsame : ∀ av, (∀ n ∈ ids av, Nm s n) → SX.frz id av = av := by
      intro av hav
      cases av with
      | vec i τ l => have : i ≠ id := fun e => hid (e ▸ hav i (by simp [ids, ids0])); simp [SX.frz, Bool.cond_eq_ite, this]
      | vp i τ l n off => have : i ≠ id := fun e => hid (e ▸ hav i (by simp [ids, ids0])); simp [SX.frz, Bool.cond_eq_ite, this]
      | pt n o => have : n ≠ id := fun e => hid (e ▸ hav n (by simp [ids, ids0])); simp [SX.frz, Bool.cond_eq_ite, this]
      | fn f caps =>
        have : inL id (caps.flatMap ids0) = false := by
          rw [← Bool.not_eq_true, inL_iff]
          exact fun e => hid (hav id e)
        simp [SX.frz, this]
      | tup caps =>
        have : inL id (caps.flatMap ids0) = false := by
          rw [← Bool.not_eq_true, inL_iff]
          exact fun e => hid (hav id e)
        simp [SX.frz, this]
      | vs i τ l n => have : i ≠ id := fun e => hid (e ▸ hav i (by simp [ids, ids0])); simp [SX.frz, Bool.cond_eq_ite, this]
      | ag caps =>
        have : inL id (caps.flatMap ids0) = false := by
          rw [← Bool.not_eq_true, inL_iff]
          exact fun e => hid (hav id e)
        simp [SX.frz, this]
      | ob i i2 o =>
        have : inL id [i, i2] = false := by
          rw [← Bool.not_eq_true, inL_iff]
          exact fun e => hid (hav id e)
        simp [SX.frz, this]
      | _ => rfl
    refine h.upd (Stp.refl (fun _ => False) w) (fun _ _ h => h.elim) (fun n => ?_) (fun n cs hcs => ?_) (fun n m g hn hm => h.inj n m g (Nm.of_frz hn).1 (Nm.of_frz hm).1)
      (fun n g hn hg => h.own n g (Nm.of_frz hn).1 hg) rfl rfl (fun n cs g hc hp => by
        simp only [St.frz, St.delBox, St.map, lookB_delL, lookB_mapB] at hc
        split at hc
        · cases hc
        · obtain ⟨cs', h1, _⟩ := Option.map_eq_some_iff.1 hc
          exact h.pin n cs' g h1 hp)
    · simp only [St.frz, St.delBox, St.map, look_mapV _ (show SX.frz id .x = .x from rfl)]
      rw [hsame _ (fun k hk => .inr (.inl ⟨n, hk⟩))]
      exact (h.slots n).mono hO
    · simp only [St.frz, St.delBox, St.map, lookB_delL, lookB_mapB] at hcs
      split at hcs
      · cases hcs
      · obtain ⟨cs', h1, rfl⟩ := Option.map_eq_some_iff.1 hcs
        obtain ⟨g, us, e, h2, h3, h4⟩ := h.boxes n cs' h1
        refine ⟨g, us, e, h2, h3, ?_⟩
        rw [mapC_eq]
        refine ⟨by simpa using h4.1, fun j c v hc hv => ?_⟩
        rw [List.getElem?_map, Option.map_eq_some_iff] at hc
        obtain ⟨c', hc', rfl⟩ := hc
        rw [hsame _ (fun k hk => .inr (.inr ⟨n, cs', h1, c', List.mem_of_getElem? hc', hk⟩))]
        exact ⟨(h4.2 j c' v hc' hv).1.mono hO, (h4.2 j c' v hc' hv).2⟩
end Go.SX
