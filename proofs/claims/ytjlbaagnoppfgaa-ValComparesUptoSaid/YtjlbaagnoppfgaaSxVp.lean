/-
  A store into an element of an own slice: whoever reads that slice reads the new element.
-/
import Derived.Test.YtjlbaagnoppfgaaSxBuild2
namespace Go.SX
set_option linter.unusedSectionVars false
variable [Globs]
/-! ### lists -/
theorem splice_get {α : Type} {l m : List α} {p : Nat} (h : p + m.length ≤ l.length) (k : Nat) :
    (l.take p ++ m ++ l.drop (p + m.length))[k]? = if p ≤ k ∧ k < p + m.length then m[k - p]? else l[k]? := by
  have hl : (l.take p).length = p := by simp; omega
  by_cases h1 : k < p
  · rw [List.append_assoc, List.getElem?_append_left (by omega), List.getElem?_take, if_pos h1, if_neg (by omega)]
  · by_cases h2 : k < p + m.length
    · rw [if_pos ⟨by omega, h2⟩, List.append_assoc, List.getElem?_append_right (by omega), hl, List.getElem?_append_left (by omega)]
    · rw [if_neg (by omega), List.getElem?_append_right (by simp; omega), List.getElem?_drop]
      congr 1
      simp
      omega
theorem spliceL_eq {α : Type} (m : List α) : ∀ (l : List α) (p : Nat), p + m.length ≤ l.length → spliceL l p m = l.take p ++ m ++ l.drop (p + m.length) := by
  intro l
  induction l with
  | nil => intro p h; cases p <;> simp_all [spliceL]
  | cons a r ih =>
    intro p h
    cases p with
    | zero => simp [spliceL]
    | succ p =>
      simp only [spliceL]
      rw [ih p (by simp at h; omega)]
      simp [show p + 1 + m.length = p + m.length + 1 by omega]
theorem AVles.get {a b : List AV} (h : AVles a b) {j : Nat} {e : AV} (he : b[j]? = some e) : ∃ c, a[j]? = some c ∧ AVle c e := by
  induction a generalizing b j with
  | nil => cases b with
    | nil => simp at he
    | cons _ _ => exact h.elim
  | cons z r ih => cases b with
    | nil => exact h.elim
    | cons y t =>
      cases j with
      | zero => simp at he; subst he; exact ⟨z, rfl, h.1⟩
      | succ j => exact ih h.2 (by simpa using he)

section
variable {P : Program} {N : Nat} {Γ : Ctx} {W0 : World} {F : Fr} {X : Nat → Prop} {s : St} {β : Nat → Option Nat} {a : Act} {w : World}

def updE (τ : Ty) (off : Nat) (cs : List AV) (x : den τ) : Option (den τ) := dec τ (spliceL (enc τ x) off cs)
theorem VecAt.turn {O : Nat → Prop} {w' : World} {id : Nat} {τ : Ty} {l : List (den τ)} {v : Value} (h : VecAt β O w id τ l v) {g : Nat} {cur : Array Value} {e : TypeId} (hg : β id = some g)
    (hh : w.heap[g]? = some (.cells cur e (0, 0))) {n off : Nat} {cs : List AV} {us : List Value} (hoff : off + cs.length ≤ esz τ) (hcs : All2 (Im O w) cs us) (hfit : n * esz τ + off + us.length ≤ cur.size)
    (hh' : w'.heap[g]? = some (.cells (cur.toList.take (n * esz τ + off) ++ us ++ cur.toList.drop (n * esz τ + off + us.length)).toArray e (0, 0))) {x' : den τ} (hx : updE τ off cs (l.getD n (dflt τ)) = some x')
    (hstep : ∀ av u, Im O w av u → Im O w' av u) : VecAt β O w' id τ (l.set n x') v := by
  rcases h with ⟨_, _, h3⟩ | ⟨g', c, cur', e', h1, h2, h3, h4, h5, h6, h7⟩
  · rw [hg] at h3; cases h3
  rw [hg] at h1; injection h1 with h1; subst h1
  rw [hh] at h3; injection h3 with h3; injection h3 with h3 h3'; subst h3 h3'
  have hul : us.length ≤ cur.toList.length := by simp; omega
  have hget := splice_get (l := cur.toList) (m := us) (p := n * esz τ + off) (by simpa using hfit)
  refine .inr ⟨g, c, _, e, hg, by simpa using h2, hh', by simpa using h4, h5, ?_, fun i x j av hi hj => ?_⟩
  · simp
    rw [← h6]
    omega
  · have hjl : j < esz τ := by rw [← enc_length τ x]; exact (List.getElem?_eq_some_iff.1 hj).1
    simp only [List.getElem?_toArray, hget]
    by_cases hin : i = n
    · subst hin
      have hil : i < l.length := by
        have := (List.getElem?_eq_some_iff.1 hi).1
        simpa using this
      rw [List.getElem?_set_self hil] at hi
      injection hi with hi
      subst hi
      have hle := dec_le hx
      obtain ⟨c0, hc0, hle0⟩ := hle.get hj
      rw [spliceL_eq cs _ off (by rw [enc_length]; exact hoff), splice_get (by rw [enc_length]; exact hoff)] at hc0
      by_cases hjo : off ≤ j ∧ j < off + cs.length
      · rw [if_pos hjo] at hc0
        rw [if_pos ⟨by omega, by rw [← hcs.1]; omega⟩]
        have hlt : j - off < us.length := by rw [← hcs.1]; omega
        rw [show i * esz τ + j - (i * esz τ + off) = j - off by omega, List.getElem?_eq_getElem hlt]
        exact ⟨_, rfl, hstep _ _ (im_le (hcs.2 _ _ _ hc0 (List.getElem?_eq_getElem hlt)) hle0)⟩
      · rw [if_neg hjo] at hc0
        rw [if_neg (by rw [← hcs.1]; omega)]
        have hl : l[i]? = some (l.getD i (dflt τ)) := by rw [List.getD_eq_getElem?_getD, List.getElem?_eq_getElem hil]; rfl
        obtain ⟨u, hu, him⟩ := h7 i _ j c0 hl hc0
        exact ⟨u, by simpa using hu, hstep _ _ (im_le him hle0)⟩
    · rw [List.getElem?_set_ne (fun e => hin e.symm)] at hi
      obtain ⟨u, hu, him⟩ := h7 i x j av hi hj
      rw [if_neg ?_]
      · exact ⟨u, by simpa using hu, hstep _ _ him⟩
      · rw [← hcs.1]
        intro ⟨h8, h9⟩
        rcases Nat.lt_or_gt_of_ne hin with h10 | h10
        · have : (i + 1) * esz τ ≤ n * esz τ := Nat.mul_le_mul_right _ h10
          rw [Nat.add_mul] at this
          omega
        · have : (n + 1) * esz τ ≤ i * esz τ := Nat.mul_le_mul_right _ h10
          rw [Nat.add_mul] at this
          omega

/-- whoever speaks of the slice speaks of its new element -/
def updV (id n off : Nat) (τ : Ty) (cs : List AV) : AV → AV
  | .vec i σ l => bif Nat.beq i id then (bif decide (σ = τ) then (match updE σ off cs (l.getD n (dflt σ)) with
      | some x => .vec i σ (l.set n x)
      | none => .x) else .x) else .vec i σ l
  | .vs i σ l k => bif Nat.beq i id then (bif decide (σ = τ) then (match updE σ off cs (l.getD n (dflt σ)) with
      | some x => .vs i σ (l.set n x) k
      | none => .x) else .x) else .vs i σ l k
  | .vp i σ l m o => bif Nat.beq i id then (bif decide (σ = τ) then (match updE σ off cs (l.getD n (dflt σ)) with
      | some x => .vp i σ (l.set n x) m o
      | none => .x) else .x) else .vp i σ l m o
  | .fn f caps => bif inL id (caps.flatMap ids0) then .x else .fn f caps
  | .tup l => bif inL id (l.flatMap ids0) then .x else .tup l
  | .ag l => bif inL id (l.flatMap ids0) then .x else .ag l
  | .ob i i2 o => bif inL id [i, i2] then .x else .ob i i2 o
  | v => v
def optXK {α : Type} : Option α → (α → Prop) → Prop → Prop
  | some x, K, _ => K x
  | none, _, H => H
def updVK (id n off : Nat) (τ : Ty) (cs : List AV) : AV → (AV → Prop) → Prop
  | .vec i σ l, K => bif Nat.beq i id then (bif decide (σ = τ) then optXK (updE σ off cs (l.getD n (dflt σ))) (fun x => K (.vec i σ (l.set n x))) (K .x) else K .x) else K (.vec i σ l)
  | .vs i σ l k, K => bif Nat.beq i id then (bif decide (σ = τ) then optXK (updE σ off cs (l.getD n (dflt σ))) (fun x => K (.vs i σ (l.set n x) k)) (K .x) else K .x) else K (.vs i σ l k)
  | .vp i σ l m o, K => bif Nat.beq i id then (bif decide (σ = τ) then optXK (updE σ off cs (l.getD n (dflt σ))) (fun x => K (.vp i σ (l.set n x) m o)) (K .x) else K .x) else K (.vp i σ l m o)
  | .fn f caps, K => bif inL id (caps.flatMap ids0) then K .x else K (.fn f caps)
  | .tup l, K => bif inL id (l.flatMap ids0) then K .x else K (.tup l)
  | .ag l, K => bif inL id (l.flatMap ids0) then K .x else K (.ag l)
  | .ob i i2 o, K => bif inL id [i, i2] then K .x else K (.ob i i2 o)
  | v, K => K v
theorem updVK_eq (id n off : Nat) (τ : Ty) (cs : List AV) (v : AV) (K : AV → Prop) : updVK id n off τ cs v K = K (updV id n off τ cs v) := by
  cases v with
  | vec i σ l =>
    simp only [updVK, updV]
    cases Nat.beq i id <;> cases decide (σ = τ) <;> (try rfl)
    simp only [cond_true]
    cases updE σ off cs (l.getD n (dflt σ)) <;> rfl
  | vs i σ l k =>
    simp only [updVK, updV]
    cases Nat.beq i id <;> cases decide (σ = τ) <;> (try rfl)
    simp only [cond_true]
    cases updE σ off cs (l.getD n (dflt σ)) <;> rfl
  | vp i σ l m o =>
    simp only [updVK, updV]
    cases Nat.beq i id <;> cases decide (σ = τ) <;> (try rfl)
    simp only [cond_true]
    cases updE σ off cs (l.getD n (dflt σ)) <;> rfl
  | fn f caps => simp only [updVK, updV]; cases inL id (caps.flatMap ids0) <;> rfl
  | tup l => simp only [updVK, updV]; cases inL id (l.flatMap ids0) <;> rfl
  | ag l => simp only [updVK, updV]; cases inL id (l.flatMap ids0) <;> rfl
  | ob i i2 o => simp only [updVK, updV]; cases inL id [i, i2] <;> rfl
  | _ => rfl
theorem updV_ids (id n off : Nat) (τ : Ty) (cs : List AV) (av : AV) (m : Nat) (h : m ∈ ids (updV id n off τ cs av)) : m ∈ ids av := by
  cases av with
  | vec i σ l =>
    simp only [updV] at h
    cases h1 : Nat.beq i id <;> cases h2 : decide (σ = τ) <;> simp only [h1, h2, cond_true, cond_false] at h <;> (try exact h) <;> (try (simp [ids, ids0] at h; done))
    split at h
    · exact h
    · simp [ids, ids0] at h
  | vs i σ l k =>
    simp only [updV] at h
    cases h1 : Nat.beq i id <;> cases h2 : decide (σ = τ) <;> simp only [h1, h2, cond_true, cond_false] at h <;> (try exact h) <;> (try (simp [ids, ids0] at h; done))
    split at h
    · exact h
    · simp [ids, ids0] at h
  | vp i σ l k o =>
    simp only [updV] at h
    cases h1 : Nat.beq i id <;> cases h2 : decide (σ = τ) <;> simp only [h1, h2, cond_true, cond_false] at h <;> (try exact h) <;> (try (simp [ids, ids0] at h; done))
    split at h
    · exact h
    · simp [ids, ids0] at h
  | fn f caps => simp only [updV] at h; cases h1 : inL id (caps.flatMap ids0) <;> simp only [h1, cond_true, cond_false] at h <;> first | exact h | simp [ids, ids0] at h
  | tup caps => simp only [updV] at h; cases h1 : inL id (caps.flatMap ids0) <;> simp only [h1, cond_true, cond_false] at h <;> first | exact h | simp [ids, ids0] at h
  | ag caps => simp only [updV] at h; cases h1 : inL id (caps.flatMap ids0) <;> simp only [h1, cond_true, cond_false] at h <;> first | exact h | simp [ids, ids0] at h
  | ob i i2 o => simp only [updV] at h; cases h1 : inL id [i, i2] <;> simp only [h1, cond_true, cond_false] at h <;> first | exact h | (simp [ids, ids0] at h; done)
  | _ => exact h

/-- the block of a name is written: what is read of it is read anew -/
theorem InvB.turn (h : InvB W0 F X N s β a w) {id g : Nat} (hN : Nm s id) (hg : β id = some g) {w' : World} (hst : Stp (fun k => k = g) w w') (f : AV → AV) (hfx : f .x = .x)
    (hf : ∀ av v, (∀ n ∈ ids av, Nm s n) → Rel β (Own X s β) w av v → Rel β (Own X s β) w' (f av) v) (hids : ∀ av m, m ∈ ids (f av) → m ∈ ids av) :
    InvB W0 F X N ((s.map f).delBox id) β a w' := by
  have hbx : ∀ n cs, lookB ((s.map f).delBox id).boxes n = some cs → n ≠ id ∧ ∃ cs', lookB s.boxes n = some cs' ∧ cs = cs'.map f := by
    intro n cs hc
    simp only [St.delBox, St.map, lookB_delL, lookB_mapB] at hc
    split at hc
    · cases hc
    · rename_i hne
      obtain ⟨cs', h1, rfl⟩ := Option.map_eq_some_iff.1 hc
      exact ⟨fun e => hne e.symm, cs', h1, mapC_eq _ _⟩
  have hNm : ∀ n, Nm ((s.map f).delBox id) n → Nm s n := by
    rintro n (⟨cs, h⟩ | ⟨m, h⟩ | ⟨b, cs, h, c, hc, hn⟩)
    · obtain ⟨_, cs', h1, _⟩ := hbx _ _ h
      exact .inl ⟨cs', h1⟩
    · simp only [St.delBox, St.map, look_mapV f hfx] at h
      exact .inr (.inl ⟨m, hids _ _ h⟩)
    · obtain ⟨_, cs', h1, rfl⟩ := hbx _ _ h
      obtain ⟨c', hc', rfl⟩ := List.mem_map.1 hc
      exact .inr (.inr ⟨b, cs', h1, c', hc', hids _ _ hn⟩)
  have hO : ∀ k, Own X ((s.map f).delBox id) β k → Own X s β k := fun k hk => hk.imp _root_.id fun ⟨n, hn, hb⟩ => ⟨n, hNm n hn, hb⟩
  refine h.upd hst (fun k _ e => ⟨id, hN, e ▸ hg⟩) (fun n => ?_) (fun n cs hcs => ?_) (fun n m g hn hm => h.inj n m g (hNm n hn) (hNm m hm)) (fun n g' hn hg' => ?_) rfl rfl (fun n cs g' hc hp => by
    obtain ⟨_, cs', h1, _⟩ := hbx _ _ hc
    exact h.pin n cs' g' h1 hp)
  · simp only [St.delBox, St.map, look_mapV f hfx]
    exact (hf _ _ (fun k hk => .inr (.inl ⟨n, hk⟩)) (h.slots n)).mono hO
  · obtain ⟨hne, cs', h1, rfl⟩ := hbx _ _ hcs
    obtain ⟨g', us, e, h2, h3, h4⟩ := h.boxes n cs' h1
    have hNn : Nm s n := .inl ⟨cs', h1⟩
    refine ⟨g', us, e, h2, (hst.block g' (h.own n g' hNn h2).1 (fun e => hne ?_)).trans h3, by simpa using h4.1, fun j c v hc hv => ?_⟩
    · subst e; exact h.inj n id g' hNn hN h2 hg
    · rw [List.getElem?_map, Option.map_eq_some_iff] at hc
      obtain ⟨c', hc', rfl⟩ := hc
      exact ⟨(hf _ _ (fun k hk => .inr (.inr ⟨n, cs', h1, c', List.mem_of_getElem? hc', hk⟩)) (h4.2 j c' v hc' hv).1).mono hO, (h4.2 j c' v hc' hv).2⟩
  · obtain ⟨h1, h2⟩ := h.own n g' (hNm n hn) hg'
    exact ⟨Nat.lt_of_lt_of_le h1 hst.size, h2⟩

def storeVpK (s : St) (id : Nat) (τ : Ty) (n off cells : Nat) (v : AV) (K : St → Prop) : Prop :=
  cellsK v fun cs => chkK (Nat.beq cs.length cells) (chkK (Nat.ble (off + cells) (esz τ)) (plainCK cs fun cs =>
    mapVK (updVK id n off τ cs) s.slots fun sl => mapBK (updVK id n off τ cs) s.boxes fun b => delLK b id fun b => K ⟨sl, b⟩))
theorem storeVp_ok (hI : InvB W0 F X N s β a w) {o : Oper} {t : TypeId} {x y : Operand} (ho : o.op = .store t x y) {ti : TI} (hti : ti.ok P t) {id n off : Nat} {τ : Ty} {l : List (den τ)}
    (hx : Rel β (Own X s β) w (.vp id τ l n off) (a.eval x)) (hNm : Nm s id) {v : AV}
    (hy : Rel β (Own X s β) w v (a.eval y)) (hids : ∀ n ∈ ids v, Nm s n) {K : St → Prop} (h : storeVpK s id τ n off ti.cells v K) :
    ∃ s' w', K s' ∧ InvB W0 F X N s' β a w' ∧ (execOp a.eval o).run P w = .ok .skip w' := by
  obtain ⟨cs, h, h1, h2, h3⟩ := cells_ok hy hids h
  simp only [chkK_iff] at h
  obtain ⟨hc, hoff, h⟩ := h
  rw [plainCK_eq, mapVK_eq (updVK_eq id n off τ _), mapBK_eq (updVK_eq id n off τ _), delLK_eq] at h
  have hc := Nat.eq_of_beq_eq_true hc
  have hoff := Nat.le_of_ble_eq_true hoff
  obtain ⟨h0, ⟨g, hg, hp⟩, v', hv'⟩ := hx
  have hvv := hv'
  rcases hvv with ⟨rfl, _, _⟩ | ⟨g', c, cur, e, h4, h5, h6, h7, h8, h9, h10⟩
  · simp at h0
  rw [hg] at h4; injection h4 with h4; subst h4
  have hpl : All2 (Im (Own X s β) w) (plainC cs) (a.eval y).cells.toList := plainC_im (h1.mono fun _ _ _ _ h => h.1)
  have hlen : cs.length = (a.eval y).cells.size := by rw [h1.1]; simp
  have hfit : n * esz τ + off + (a.eval y).cells.size ≤ cur.size := by
    have : (n + 1) * esz τ ≤ c * esz τ := Nat.mul_le_mul_right _ (by omega)
    rw [Nat.add_mul] at this
    omega
  have hrun := storeVar_run (w := w) hti h6 (off := n * esz τ + off) (v := a.eval y) (by rw [← hlen]; exact hc) hfit h3
  have hst := Stp.setRow w g (cur.toList.take (n * esz τ + off) ++ (a.eval y).cells.toList ++ cur.toList.drop (n * esz τ + off + (a.eval y).cells.size)).toArray
  have hh' := setRow_heap w g cur (cur.toList.take (n * esz τ + off) ++ (a.eval y).cells.toList ++ cur.toList.drop (n * esz τ + off + (a.eval y).cells.size)).toArray e _ h6
  have hOg : ∀ k, k < w.heap.size → k = g → Own X s β k := fun k _ e => .inr ⟨id, hNm, e ▸ hg⟩
  have himst : ∀ av u, Im (Own X s β) w av u → Im (Own X s β) (w.setRow g (cur.toList.take (n * esz τ + off) ++ (a.eval y).cells.toList ++ cur.toList.drop (n * esz τ + off + (a.eval y).cells.size)).toArray) av u :=
    fun av u him => him.step hst hOg (fun _ _ h => h)
  have hturn : ∀ {m : List (den τ)} {u : Value} {x' : den τ}, VecAt β (Own X s β) w id τ m u → updE τ off (plainC cs) (m.getD n (dflt τ)) = some x' →
      VecAt β (Own X s β) (w.setRow g (cur.toList.take (n * esz τ + off) ++ (a.eval y).cells.toList ++ cur.toList.drop (n * esz τ + off + (a.eval y).cells.size)).toArray) id τ (m.set n x') u := fun hv hx =>
    hv.turn hg h6 (us := (a.eval y).cells.toList) (by rw [hpl.1]; simp; omega) hpl (by simpa using hfit) (by simpa using hh') hx himst
  have hkeep : ∀ {av : AV} {v : Value}, (∀ k ∈ ids av, Nm s k) → id ∉ vids av → Rel β (Own X s β) w av v →
      Rel β (Own X s β) (w.setRow g (cur.toList.take (n * esz τ + off) ++ (a.eval y).cells.toList ++ cur.toList.drop (n * esz τ + off + (a.eval y).cells.size)).toArray) av v := fun hav hnv hrel =>
    hrel.step hst hOg (fun _ _ h => h) (fun _ _ => rfl) (fun m hm g' hg' => hst.block g' (hI.own m g' (hav m (vids_ids hm)) hg').1 (fun e => hnv (by
      subst e; rw [hI.inj id m g' hNm (hav m (vids_ids hm)) hg hg']; exact hm)))
  refine ⟨_, _, h, hI.turn (f := updV id n off τ (plainC cs)) hNm hg hst rfl (fun av u hav hrel => ?_) (fun av m => updV_ids id n off τ _ av m), by simp [execOp, ho, hp, Instr.storeAt, Instr.sureAddr, hrun]⟩
  cases av with
  | vec i σ m =>
    by_cases hi : i = id
    · subst hi
      simp only [updV, Nat.beq_refl, cond_true]
      by_cases hσ : σ = τ
      · subst hσ
        simp only [decide_true, cond_true]
        split
        · rename_i x' hx'; exact hturn hrel hx'
        · exact Rel.x
      · simp only [hσ, decide_false, cond_false]; exact Rel.x
    · simp only [updV, nbeq_ne hi, cond_false]
      exact hkeep hav (by simp [vids, vids0]; exact fun e => hi e.symm) hrel
  | vs i σ m k =>
    by_cases hi : i = id
    · subst hi
      simp only [updV, Nat.beq_refl, cond_true]
      by_cases hσ : σ = τ
      · subst hσ
        simp only [decide_true, cond_true]
        split
        · rename_i x' hx'
          obtain ⟨k0, k1, k2, k3⟩ := hrel
          exact ⟨by simpa using k0, k1, hturn k2 hx', k3⟩
        · exact Rel.x
      · simp only [hσ, decide_false, cond_false]; exact Rel.x
    · simp only [updV, nbeq_ne hi, cond_false]
      exact hkeep hav (by simp [vids, vids0]; exact fun e => hi e.symm) hrel
  | vp i σ m k o' =>
    by_cases hi : i = id
    · subst hi
      simp only [updV, Nat.beq_refl, cond_true]
      by_cases hσ : σ = τ
      · subst hσ
        simp only [decide_true, cond_true]
        split
        · rename_i x' hx'
          obtain ⟨k0, k1, u', k2⟩ := hrel
          exact ⟨by simpa using k0, k1, u', hturn k2 hx'⟩
        · exact Rel.x
      · simp only [hσ, decide_false, cond_false]; exact Rel.x
    · simp only [updV, nbeq_ne hi, cond_false]
      exact hkeep hav (by simp [vids, vids0]; exact fun e => hi e.symm) hrel
  | fn f caps =>
    simp only [updV]
    cases hin : inL id (caps.flatMap ids0) with
    | true => exact Rel.x
    | false => exact hkeep hav (fun hm => by rw [(inL_iff id (caps.flatMap ids0)).2 (vids_ids hm)] at hin; cases hin) hrel
  | tup caps =>
    simp only [updV]
    cases hin : inL id (caps.flatMap ids0) with
    | true => exact Rel.x
    | false => exact hkeep hav (fun hm => by rw [(inL_iff id (caps.flatMap ids0)).2 (vids_ids hm)] at hin; cases hin) hrel
  | ag caps =>
    simp only [updV]
    cases hin : inL id (caps.flatMap ids0) with
    | true => exact Rel.x
    | false => exact hkeep hav (fun hm => by rw [(inL_iff id (caps.flatMap ids0)).2 (vids_ids hm)] at hin; cases hin) hrel
  | ob i i2 o =>
    simp only [updV]
    cases hin : inL id [i, i2] with
    | true => exact Rel.x
    | false => exact hkeep hav (fun hm => by rw [(inL_iff id [i, i2]).2 hm] at hin; cases hin) hrel
  | _ => exact hkeep hav (fun h => nomatch h) hrel
end
end Go.SX
