/-
  The operations that make, read and write memory: conditions, and that they suffice.
-/
import Derived.Test.YtjlbaagnoppfgaaSxVal2
namespace Go.SX
set_option linter.unusedSectionVars false
variable [Globs]
section
variable {P : Program} {N : Nat} {Γ : Ctx} {W0 : World} {F : Fr} {X : Nat → Prop} {s : St} {β : Nat → Option Nat} {a : Act} {w : World}

theorem loadFrom_run (P : Program) (w : World) (g o : Nat) (us : List Value) : ∀ (i : Nat) (acc : Array Value), (∀ j u, us[j]? = some u → w.cell? ⟨g, o + (i + j), none⟩ = some u) →
    (loadCellsFrom ⟨g, o, none⟩ i us.length acc).run P w = .ok (acc ++ us.toArray) w := by
  induction us with
  | nil => intro i acc _; simp [loadCellsFrom]
  | cons u r ih =>
    intro i acc h
    have h0 : w.cell? ⟨g, o + i, none⟩ = some u := by simpa using h 0 u rfl
    have := ih (i + 1) (acc.push u) (fun j v hv => by have := h (j + 1) v (by simpa using hv); rw [← this]; congr 2; omega)
    simp only [List.length_cons, loadCellsFrom, add_none, Sem.run_bind, run_load, h0, Result.andThen_ok, this]
    simp
theorem loadCells_run (P : Program) (w : World) (g o : Nat) (us : List Value) (h : ∀ j u, us[j]? = some u → w.cell? ⟨g, o + j, none⟩ = some u) :
    (loadCells ⟨g, o, none⟩ us.length).run P w = .ok us.toArray w := by
  have := loadFrom_run P w g o us 0 #[] (by simpa using h)
  simpa [loadCells] using this
theorem loadVar_run {t : Nat} {ti : TI} (hti : ti.ok P t) (g o : Nat) (us : List Value) (hl : us.length = ti.cells) (h : ∀ j u, us[j]? = some u → w.cell? ⟨g, o + j, none⟩ = some u) :
    (isStruct ti.desc = true → (loadVar t ⟨g, o, none⟩).run P w = .ok (.agg us.toArray) w) ∧ (isStruct ti.desc = false → ∀ u, us[0]? = some u → (loadVar t ⟨g, o, none⟩).run P w = .ok u w) := by
  refine ⟨fun hs => ?_, fun hs u hu => ?_⟩
  · have h1 := agg_ok hti w
    have h2 := loadCells_run P w g o us h
    rw [hl] at h2
    simp [loadVar, h1, hs, hti.sizeOf w, h2]
  · have h1 := agg_ok hti w
    have h2 : w.cell? ⟨g, o, none⟩ = some u := by simpa using h 0 u hu
    simp [loadVar, h1, hs, h2]

theorem plainC_im {O : Nat → Prop} {cs : List AV} {us : List Value} (h : All2 (Rel β O w) cs us) : All2 (Im O w) (plainC cs) us := by
  induction cs generalizing us with
  | nil => have := h.nil_inv; subst this; exact All2.nil _
  | cons c r ih =>
    obtain ⟨u, us', rfl, h1, h2⟩ := h.cons_inv
    cases c <;> exact All2.cons (by first | exact h1 | exact .x _) (ih h2)

/-- what a pointer's cells are -/
def loadVK (Γ : Ctx) (s : St) (t : TypeId) : AV → (AV → Prop) → Prop
  | .pt n o, K => lookBK s.boxes n fun cs => tiK Γ t fun ti => takeK ti.cells (cs.drop o) fun l => packK (isStruct ti.desc) l K
  | .rp cs, K => tiK Γ t fun ti => takeK ti.cells cs fun l => packK (isStruct ti.desc) l K
  | .vp _ τ l n o, K => tiK Γ t fun ti => takeK ti.cells ((enc τ (l.getD n (dflt τ))).drop o) fun l => packK (isStruct ti.desc) l K
  | _, _ => False

theorem pack_ok {o : Oper} {t : Nat} {x : Operand} (ho : o.op = .load t x) {ti : TI} (hti : ti.ok P t) {g off : Nat} (hx : a.eval x = .pointer (some ⟨g, off, none⟩)) {cs : List AV} {us : List Value}
    (hl : cs.length = ti.cells) (hr : All2 (RelC β (Own X s β) w) cs us) (hids : ∀ c ∈ cs, ∀ n ∈ ids c, Nm s n) (hc : ∀ (j : Nat) u, us[j]? = some u → w.cell? ⟨g, off + j, none⟩ = some u)
    {K : AV → Prop} (h : packK (isStruct ti.desc) cs K) : LoadOK P X s β a w o K := by
  have h2 := loadVar_run (w := w) hti g off us (by rw [← hr.1, hl]) hc
  cases hs : isStruct ti.desc with
  | true =>
    rw [hs] at h
    have h : plainCK cs (fun l => K (.agg l)) := h
    rw [plainCK_eq] at h
    have him := plainC_im (hr.mono fun _ _ _ _ h => h.1)
    exact .im h (.agg _ us him.1 (fun u hu => by
      obtain ⟨j, hj, rfl⟩ := List.getElem_of_mem hu
      have hj' : j < cs.length := by rw [hr.1]; exact hj
      exact (hr.2 j _ _ (List.getElem?_eq_getElem hj') (List.getElem?_eq_getElem hj)).2) him.2) (by simp [execOp, ho, hx, Instr.loadAt, Instr.sureAddr, h2.1 hs])
  | false =>
    rw [hs] at h
    cases cs with
    | nil => exact h.elim
    | cons c r =>
      cases r with
      | cons _ _ => exact h.elim
      | nil =>
        obtain ⟨u, us', rfl, h1, h3⟩ := hr.cons_inv
        exact ⟨c, u, h, h1.1, hids c (by simp), by simp [execOp, ho, hx, Instr.loadAt, Instr.sureAddr, h2.2 hs u rfl]⟩

theorem All2.drop_take {R : AV → Value → Prop} {cs : List AV} {us : List Value} (h : All2 R cs us) (o n : Nat) : All2 R ((cs.drop o).take n) ((us.drop o).take n) := by
  refine ⟨by simp [h.1], fun j c u hc hu => ?_⟩
  rw [List.getElem?_take, List.getElem?_drop] at hc hu
  split at hc
  · rename_i hj; rw [if_pos hj] at hu; exact h.2 _ _ _ hc hu
  · cases hc

theorem cells_all2 {R : AV → Value → Prop} {cs : List AV} {f : Nat → Option Value} (h : ∀ (j : Nat) c, cs[j]? = some c → ∃ u, f j = some u ∧ R c u) :
    ∃ us : List Value, All2 R cs us ∧ ∀ (j : Nat) u, us[j]? = some u → f j = some u := by
  induction cs generalizing f with
  | nil => exact ⟨[], All2.nil _, by simp⟩
  | cons c r ih =>
    obtain ⟨u, h1, h2⟩ := h 0 c rfl
    obtain ⟨us, h3, h4⟩ := ih (f := fun j => f (j + 1)) (fun j c hc => h (j + 1) c (by simpa using hc))
    refine ⟨u :: us, All2.cons h2 h3, fun j v hv => ?_⟩
    cases j with
    | zero => simp at hv; subst hv; exact h1
    | succ j => exact h4 j v (by simpa using hv)

theorem load_ok (hΓ : Γ.ok P) (hI : InvB W0 F X N s β a w) {o : Oper} {t : Nat} {x : Operand} (ho : o.op = .load t x) {v : AV} (hr : Rel β (Own X s β) w v (a.eval x)) {K : AV → Prop} (h : loadVK Γ s t v K) : LoadOK P X s β a w o K := by
  cases v with
  | pt n off =>
    obtain ⟨cs, h1, h⟩ := (lookBK_iff _ _ _).1 (show lookBK s.boxes n fun cs => tiK Γ t fun ti => takeK ti.cells (cs.drop off) fun l => packK (isStruct ti.desc) l K from h)
    obtain ⟨ti, hti, h⟩ := tiK_ok hΓ h
    rw [takeK_iff] at h
    obtain ⟨g, us, e, h2, h3, h4⟩ := hI.boxes n cs h1
    obtain ⟨g', h5, h6⟩ := hr
    rw [h2] at h5; injection h5 with h5; subst h5
    refine pack_ok ho hti h6 (cs := (cs.drop off).take ti.cells) (us := (us.toList.drop off).take ti.cells) (by rw [List.length_take]; omega) (h4.drop_take _ _)
      (fun c hc n' hn' => .inr (.inr ⟨n, cs, h1, c, List.mem_of_mem_drop (List.mem_of_mem_take hc), hn'⟩)) (fun j u hu => ?_) h.2
    rw [List.getElem?_take, List.getElem?_drop] at hu
    split at hu
    · rw [cell_of_row w g _ us e (0, 0) h3]; simpa using hu
    · cases hu
  | rp cs =>
    obtain ⟨ti, hti, h⟩ := tiK_ok hΓ (show tiK Γ t fun ti => takeK ti.cells cs fun l => packK (isStruct ti.desc) l K from h)
    rw [takeK_iff] at h
    obtain ⟨g, off, h1, h2⟩ := Im.inv_rp hr
    obtain ⟨us, h3, h4⟩ := cells_all2 (R := Im (Own X s β) w) (cs := cs) (f := fun j => w.cell? ⟨g, off + j, none⟩) (fun j c hc => (h2 j c hc).2.imp fun _ hu => ⟨hu.1, hu.2.1⟩)
    refine pack_ok ho hti h1 (cs := cs.take ti.cells) (us := us.take ti.cells) (by rw [List.length_take]; omega) ?_ (fun c hc n' hn' => ?_) (fun j u hu => ?_) h.2
    · have h5 : All2 (RelC β (Own X s β) w) cs us := ⟨h3.1, fun j c u hc hu => by
        obtain ⟨_, u', hu', him, hone⟩ := h2 j c hc
        have := h4 j u hu
        rw [hu'] at this; injection this with this; subst this
        exact ⟨Rel.im him, hone⟩⟩
      have := h5.drop_take 0 ti.cells
      simpa using this
    · exfalso
      have hc' := List.mem_of_mem_take hc
      obtain ⟨j, hj, rfl⟩ := List.getElem_of_mem hc'
      obtain ⟨_, u, _, him, _⟩ := h2 j _ (List.getElem?_eq_getElem hj)
      rw [him.ids_nil] at hn'
      cases hn'
    · rw [List.getElem?_take] at hu
      split at hu
      · exact h4 j u hu
      · cases hu
  | vp id τ l n off =>
    obtain ⟨ti, hti, h⟩ := tiK_ok hΓ (show tiK Γ t fun ti => takeK ti.cells ((enc τ (l.getD n (dflt τ))).drop off) fun l => packK (isStruct ti.desc) l K from h)
    rw [takeK_iff] at h
    obtain ⟨hn, ⟨g, h1, h2⟩, v', hv⟩ := hr
    rcases hv with ⟨rfl, _, _⟩ | ⟨g', c, cur, e, h3, _, h5, h6, h7, h8, h9⟩
    · simp at hn
    rw [h3] at h1; injection h1 with h1; subst h1
    have hl : l[n]? = some (l.getD n (dflt τ)) := by rw [List.getD_eq_getElem?_getD, List.getElem?_eq_getElem hn]; rfl
    obtain ⟨us, h10, h11⟩ := cells_all2 (R := Im (Own X s β) w) (cs := (enc τ (l.getD n (dflt τ))).drop off) (f := fun j => w.cell? ⟨g', n * esz τ + off + j, none⟩) (fun j c hc => by
      rw [List.getElem?_drop] at hc
      obtain ⟨u, hu, him⟩ := h9 n _ _ c hl hc
      exact ⟨u, by rw [cell_of_row w g' _ cur e (0, 0) h5, Nat.add_assoc]; exact hu, him⟩)
    refine pack_ok ho hti h2 (cs := ((enc τ (l.getD n (dflt τ))).drop off).take ti.cells) (us := us.take ti.cells) (by rw [List.length_take]; omega) ?_ (fun c hc n' hn' => ?_) (fun j u hu => ?_) h.2
    · have h12 : All2 (RelC β (Own X s β) w) ((enc τ (l.getD n (dflt τ))).drop off) us :=
        h10.mono fun _ _ _ hc h => ⟨Rel.im h, plain_one h (enc_plain τ _ _ (List.mem_of_mem_drop (List.mem_of_getElem? hc)))⟩
      have := h12.drop_take 0 ti.cells
      simpa using this
    · exfalso
      have hp := enc_plain τ _ c (List.mem_of_mem_drop (List.mem_of_mem_take hc))
      cases c <;> first | (cases hp; done) | (simp [ids, ids0] at hn')
    · rw [List.getElem?_take] at hu
      split at hu
      · exact h11 j u hu
      · cases hu
  | _ => exact h.elim

/-- the cells of a value that is to be kept in memory -/
def cellsK : AV → (List AV → Prop) → Prop
  | .agg l, K => K l
  | .x, _ => False
  | .tup _, _ => False
  | .ag l, K => K l
  | v, K => K [v]
theorem cells_ok {v : AV} {u : Value} (hr : Rel β (Own X s β) w v u) (hids : ∀ n ∈ ids v, Nm s n) {K : List AV → Prop} (h : cellsK v K) :
    ∃ cs, K cs ∧ All2 (RelC β (Own X s β) w) cs u.cells.toList ∧ (∀ c ∈ cs, ∀ n ∈ ids c, Nm s n) ∧ ∀ x ∈ u.cells.toList, x.oneCell' = true := by
  have one : K [v] → u.cells = #[u] → u.oneCell' = true → ∃ cs, K cs ∧ All2 (RelC β (Own X s β) w) cs u.cells.toList ∧ (∀ c ∈ cs, ∀ n ∈ ids c, Nm s n) ∧ ∀ x ∈ u.cells.toList, x.oneCell' = true := by
    intro hK hc h1
    refine ⟨[v], hK, ?_, ?_, ?_⟩
    · rw [hc]; exact All2.cons ⟨hr, h1⟩ (All2.nil _)
    · intro c hc' n hn; rw [List.mem_singleton.1 hc'] at hn; exact hids n hn
    · rw [hc]; intro x hx; simp at hx; subst hx; exact h1
  cases v with
  | agg l =>
    obtain ⟨vs, rfl, h2, h3⟩ := hr.inv_agg
    refine ⟨l, h, ?_, fun c hc n hn => ?_, by simpa [Value.cells] using h3⟩
    · have h4 : All2 (RelC β (Own X s β) w) l vs := ⟨h2.1, fun j c u hc hu => ⟨Rel.im (h2.2 j c u hc hu), h3 u (List.mem_of_getElem? hu)⟩⟩
      simpa [Value.cells] using h4
    · exfalso
      obtain ⟨j, hj, rfl⟩ := List.getElem_of_mem hc
      have hj' : j < vs.length := by rw [← h2.1]; exact hj
      rw [(h2.2 j _ _ (List.getElem?_eq_getElem hj) (List.getElem?_eq_getElem hj')).ids_nil] at hn
      cases hn
  | ag l =>
    obtain ⟨vs, rfl, h2, h3⟩ := id hr
    refine ⟨l, h, ?_, fun c hc n hn => ?_, by simpa [Value.cells] using h3⟩
    · have h4 : All2 (RelC β (Own X s β) w) l vs := ⟨h2.1, fun j c u hc hu => ⟨Rel.rel0 (h2.2 j c u hc hu), h3 u (List.mem_of_getElem? hu)⟩⟩
      simpa [Value.cells] using h4
    · obtain ⟨j, hj, rfl⟩ := List.getElem_of_mem hc
      have hj' : j < vs.length := by rw [← h2.1]; exact hj
      exact hids n (List.mem_flatMap.2 ⟨_, List.getElem_mem hj, (h2.2 j _ _ (List.getElem?_eq_getElem hj) (List.getElem?_eq_getElem hj')).ids hn⟩)
  | vs id τ l k => obtain ⟨_, _, ad, c, rfl, _⟩ := VsAt.inv hr; exact one h rfl rfl
  | i k n => obtain rfl := hr.inv_i; exact one h rfl rfl
  | b t => obtain rfl := hr.inv_b; exact one h rfl rfl
  | s l => obtain ⟨rfl, _⟩ := hr.inv_s; exact one h rfl rfl
  | nl => obtain rfl := hr.inv_nl; exact one h rfl rfl
  | rd τ l => obtain ⟨ad, c, rfl, _⟩ := hr.inv_rd; exact one h rfl rfl
  | pt n off => obtain ⟨g, _, rfl⟩ := id hr; exact one h rfl rfl
  | vec id τ l =>
    have hr' := hr
    rcases hr' with ⟨_, rfl, _⟩ | ⟨_, _, _, _, _, rfl, _⟩
    · exact one h rfl rfl
    · exact one h rfl rfl
  | vp id τ l n off => have hr' := hr; obtain ⟨_, ⟨g, _, rfl⟩, _⟩ := hr'; exact one h rfl rfl
  | rp cs => obtain ⟨g, off, rfl, _⟩ := Im.inv_rp hr; exact one h rfl rfl
  | fn f caps => obtain ⟨vs, rfl, _⟩ := id hr; exact one h rfl rfl
  | np => have hr' : Im _ _ _ _ := hr; cases hr'; exact one h rfl rfl
  | ob i i2 o =>
    cases o with
    | sb T e l => have hr' := hr; obtain ⟨b, p, q, _, rfl, _⟩ := hr'; exact one h rfl rfl
    | it t pos => have hr' := hr; obtain ⟨g, _, rfl, _⟩ := hr'; exact one h rfl rfl
    | mp κ τ es => have hr' := hr; obtain ⟨g, _, _, _, rfl, _⟩ := hr'; exact one h rfl rfl
  | tup _ => exact h.elim
  | x => exact h.elim

/-- a new box -/
def boxK (N : Nat) (s : St) (d : Nat) (cs : List AV) (K : St → Prop) : Prop :=
  chkK (Nat.blt d N) (match s with | ⟨sl0, b0⟩ => setLK b0 d cs fun b => setLK sl0 d (.pt d 0) fun sl => K ⟨sl, b⟩)
theorem box_ok (hI : InvB W0 F X N s β a w) {d : Nat} (hfree : ¬ Nm s d) {cs : List AV} {us : Array Value} {e : TypeId} (hr : All2 (RelC β (Own X s β) w) cs us.toList) (hids : ∀ c ∈ cs, ∀ n ∈ ids c, Nm s n)
    {K : St → Prop} (h : boxK N s d cs K) : ∃ s' β', K s' ∧ InvB W0 F X N s' β' (a.put (some d) (.pointer (some ⟨w.heap.size, 0, none⟩))) (w.alloc (.cells us e)) := by
  obtain ⟨h1, h2⟩ := (chkK_iff _ _).1 h
  have h2 : K ((s.setBox d cs).put d (.pt d 0)) := by obtain ⟨sl, b⟩ := s; simp only [setLK_eq] at h2; exact h2
  exact ⟨_, _, h2, hI.box (by rw [Nat.blt_eq] at h1; exact h1) hfree hr hids⟩

theorem newVar_run (t : TypeId) (v : Value) (w : World) : (newVar t v).run P w = .ok ⟨w.heap.size, 0, none⟩ (w.alloc (.cells v.cells t)) := by
  simp [newVar, newRow, newObj]
  rfl
theorem not_frz (s : St) (d : Nat) : ¬ Nm (s.frz d) d := fun h => (Nm.of_frz h).2 rfl

def allocK (Γ : Ctx) (N : Nat) (s : St) (t : TypeId) (dst : Option Nat) (K : St → Prop) : Prop :=
  match dst with
  | some d => stFrzK d s fun s => tiK Γ t fun ti => ofValsK ti.zero fun cs => boxK N s d cs K
  | none => False
def boxOpK (N : Nat) (s : St) (x : Operand) (dst : Option Nat) (K : St → Prop) : Prop :=
  match dst with
  | some d => stFrzK d s fun s => evK s x fun v => cellsK v fun cs => boxK N s d cs K
  | none => False

theorem ofVals_all2 (O : Nat → Prop) (l : List Value) (h1 : ∀ v ∈ l, v.oneCell' = true) : All2 (RelC β O w) (ofVals l) l := by
  induction l with
  | nil => exact All2.nil _
  | cons v r ih => exact All2.cons ⟨Rel.im (ofVal_im _ _ _), h1 v (List.mem_cons_self ..)⟩ (ih fun u hu => h1 u (List.mem_cons_of_mem _ hu))
theorem ofVals_ids (l : List Value) : ∀ c ∈ ofVals l, ids c = [] := by
  induction l with
  | nil => intro c hc; cases hc
  | cons v r ih =>
    intro c hc
    rcases List.mem_cons.1 hc with rfl | hc
    · exact (ofVal_im (fun _ => False) default v).ids_nil
    · exact ih c hc

theorem alloc_ok (hΓ : Γ.ok P) (hone : ∀ p ∈ Γ, ∀ v ∈ p.2.zero, v.oneCell' = true) (hI : InvB W0 F X N s β a w) {o : Oper} {t : TypeId} (ho : o.op = .alloc t) {K : St → Prop} (h : allocK Γ N s t o.dst K)
    {next : Act → World → Prop} {Q : Exit → Act → World → Prop} (hn : ∀ s' a' w', K s' → Inv W0 F X N s' a' w' → next a' w') : o.wp P a w next Q := by
  cases hd : o.dst with
  | none => rw [hd] at h; exact h.elim
  | some d =>
    rw [hd] at h
    have h : stFrzK d s fun s => tiK Γ t fun ti => ofValsK ti.zero fun cs => boxK N s d cs K := h
    rw [stFrzK_eq] at h
    obtain ⟨ti, hmem, h2⟩ := tiK_mem h
    have hti := hΓ _ hmem
    have h1 := hone _ hmem
    rw [ofValsK_eq] at h2
    obtain ⟨z, hz, hzc⟩ := hti.zeroValue w
    have hr : All2 (RelC β (Own X (s.frz d) β) w) (ofVals ti.zero) z.cells.toList := by
      rw [hzc]; exact ofVals_all2 _ _ h1
    obtain ⟨s', β', hK, hI'⟩ := box_ok (e := t) (hI.frz d) (not_frz s d) hr (fun c hc n hn => by rw [ofVals_ids _ c hc] at hn; cases hn) h2
    refine wp_val (u := .pointer (some ⟨w.heap.size, 0, none⟩)) (w' := w.alloc (.cells z.cells t)) ?_ (by rw [hd]; exact hn _ _ _ hK ⟨_, hI'⟩)
    simp [execOp, ho, Instr.alloc, hz, newVar_run]

theorem boxOp_ok (hI : InvB W0 F X N s β a w) {o : Oper} {t : TypeId} {x : Operand} (ho : o.op = .box t x) {K : St → Prop} (h : boxOpK N s x o.dst K)
    {next : Act → World → Prop} {Q : Exit → Act → World → Prop} (hn : ∀ s' a' w', K s' → Inv W0 F X N s' a' w' → next a' w') : o.wp P a w next Q := by
  cases hd : o.dst with
  | none => rw [hd] at h; exact h.elim
  | some d =>
    rw [hd] at h
    have h : stFrzK d s fun s => evK s x fun v => cellsK v fun cs => boxK N s d cs K := h
    rw [stFrzK_eq, evK_eq] at h
    have hI1 := hI.frz d
    obtain ⟨cs, h1, h2, h3, _⟩ := cells_ok (ev_rel hI1 x).1 (ev_rel hI1 x).2 h
    obtain ⟨s', β', hK, hI'⟩ := box_ok (e := t) hI1 (not_frz s d) h2 h3 h1
    refine wp_val (u := .pointer (some ⟨w.heap.size, 0, none⟩)) (w' := w.alloc (.cells (a.eval x).cells t)) ?_ (by rw [hd]; exact hn _ _ _ hK ⟨_, hI'⟩)
    simp [execOp, ho, Instr.box, newVar_run]

/-- a store into a box -/
def storeBoxK (s : St) (n o : Nat) (cells : Nat) (v : AV) (K : St → Prop) : Prop :=
  lookBK s.boxes n fun cs0 => cellsK v fun cs => chkK (Nat.beq cs.length cells) (chkK (noVs n s.slots) (chkK (noVb n s.boxes) (chkK (noV n cs)
    (spliceK cs0 o cs fun cs' => match s with | ⟨sl, b0⟩ => setLK b0 n cs' fun b => K ⟨sl, b⟩))))
theorem noV_spec {n : Nat} {l : List AV} (h : noV n l = true) : ∀ c ∈ l, n ∉ vids c := by
  induction l with
  | nil => intro c hc; cases hc
  | cons v r ih =>
    simp only [noV] at h
    cases hin : inL n (vids v) with
    | true => rw [hin] at h; cases h
    | false =>
      rw [hin] at h
      intro c hc
      rcases List.mem_cons.1 hc with rfl | hc
      · rw [← Bool.not_eq_true, inL_iff] at hin; exact hin
      · exact ih h c hc
theorem noVs_spec {n : Nat} {l : List (Nat × AV)} (h : noVs n l = true) : ∀ m, n ∉ vids (look l m) := by
  induction l with
  | nil => intro m hm; simp [look, vids, vids0] at hm
  | cons p r ih =>
    obtain ⟨k, v⟩ := p
    simp only [noVs] at h
    cases hin : inL n (vids v) with
    | true => rw [hin] at h; cases h
    | false =>
      rw [hin] at h
      intro m
      simp only [look]
      cases Nat.beq k m with
      | true => rw [← Bool.not_eq_true, inL_iff] at hin; exact hin
      | false => exact ih h m
theorem noVb_spec {n : Nat} {l : List (Nat × List AV)} (h : noVb n l = true) : ∀ b cs, lookB l b = some cs → ∀ c ∈ cs, n ∉ vids c := by
  induction l with
  | nil => intro b cs hb; cases hb
  | cons p r ih =>
    obtain ⟨k, v⟩ := p
    simp only [noVb] at h
    cases hv : noV n v with
    | false => rw [hv] at h; cases h
    | true =>
      rw [hv] at h
      intro b cs hb
      simp only [lookB] at hb
      cases hk : Nat.beq k b with
      | true => rw [hk] at hb; injection hb with hb; subst hb; exact noV_spec hv
      | false => rw [hk] at hb; exact ih h b cs hb

theorem storeVar_run {t : Nat} {ti : TI} (hti : ti.ok P t) {g off : Nat} {v : Value} {us : Array Value} {e : TypeId} (hh : w.heap[g]? = some (.cells us e (0, 0))) (hsz : v.cells.size = ti.cells) (hle : off + v.cells.size ≤ us.size)
    (h1 : ∀ x ∈ v.cells.toList, x.oneCell' = true) :
    (storeVar t ⟨g, off, none⟩ v).run P w = .ok () (w.setRow g (us.toList.take off ++ v.cells.toList ++ us.toList.drop (off + v.cells.size)).toArray) := by
  have := run_storeCells_at P g off e v.cells.toList 0 us w hh (by simpa using hle) h1
  simp only [Nat.add_zero, Array.length_toList] at this
  simp [storeVar, hti.sizeOf w, hsz, this]

theorem All2.splice {R : AV → Value → Prop} {cs0 cs : List AV} {us0 us : List Value} (h0 : All2 R cs0 us0) (h : All2 R cs us) (o : Nat) (_hle : o + cs.length ≤ cs0.length) :
    All2 R (cs0.take o ++ cs ++ cs0.drop (o + cs.length)) (us0.take o ++ us ++ us0.drop (o + us.length)) := by
  have happ : ∀ {a c : List AV} {b d : List Value}, All2 R a b → All2 R c d → All2 R (a ++ c) (b ++ d) := by
    intro a c b d hab hcd
    refine ⟨by simp [hab.1, hcd.1], fun j z y hx hy => ?_⟩
    by_cases hj : j < a.length
    · rw [List.getElem?_append_left hj] at hx
      rw [List.getElem?_append_left (by rw [← hab.1]; exact hj)] at hy
      exact hab.2 j z y hx hy
    · rw [List.getElem?_append_right (by omega)] at hx
      rw [List.getElem?_append_right (by rw [← hab.1]; omega), ← hab.1] at hy
      exact hcd.2 _ z y hx hy
  have htake : All2 R (cs0.take o) (us0.take o) := by
    have := h0.drop_take 0 o
    simpa using this
  have hdrop : All2 R (cs0.drop (o + cs.length)) (us0.drop (o + us.length)) := by
    rw [← h.1]
    refine ⟨by simp [h0.1], fun j z y hx hy => ?_⟩
    rw [List.getElem?_drop] at hx hy
    exact h0.2 _ z y hx hy
  exact happ (happ htake h) hdrop

theorem storeBox_ok (hI : InvB W0 F X N s β a w) {o : Oper} {t : TypeId} {x y : Operand} (ho : o.op = .store t x y) {ti : TI} (hti : ti.ok P t) {n off : Nat} (hx : Rel β (Own X s β) w (.pt n off) (a.eval x)) {v : AV}
    (hy : Rel β (Own X s β) w v (a.eval y)) (hids : ∀ n ∈ ids v, Nm s n) {K : St → Prop} (h : storeBoxK s n off ti.cells v K) :
    ∃ s' w', K s' ∧ InvB W0 F X N s' β a w' ∧ (execOp a.eval o).run P w = .ok .skip w' := by
  obtain ⟨cs0, h0, h⟩ := (lookBK_iff _ _ _).1 h
  obtain ⟨cs, h, h1, h2, h3⟩ := cells_ok hy hids h
  simp only [chkK_iff] at h
  obtain ⟨hc, hs1, hs2, hs3, h⟩ := h
  obtain ⟨hle, h⟩ := spliceK_iff _ _ _ _ h
  have h : K (s.setBox n (cs0.take off ++ cs ++ cs0.drop (off + cs.length))) := by obtain ⟨sl, b⟩ := s; simp only [setLK_eq] at h; exact h
  obtain ⟨g, us, e, h4, h5, h6⟩ := hI.boxes n cs0 h0
  obtain ⟨g', h7, h8⟩ := hx
  rw [h4] at h7; injection h7 with h7; subst h7
  have hlen : cs.length = (a.eval y).cells.size := by rw [h1.1]; simp
  have hlen0 : cs0.length = us.size := by rw [h6.1]; simp
  have hrun := storeVar_run (w := w) hti h5 (off := off) (v := a.eval y) (by rw [← hlen]; exact Nat.eq_of_beq_eq_true hc) (by rw [← hlen, ← hlen0]; exact hle) h3
  refine ⟨_, _, h, hI.storeBox (us := (us.toList.take off ++ (a.eval y).cells.toList ++ us.toList.drop (off + (a.eval y).cells.size)).toArray) h0 h4 h5 ⟨noVs_spec hs1, noVb_spec hs2⟩ ?_ ?_ ?_, by simp [execOp, ho, h8, Instr.storeAt, Instr.sureAddr, hrun]⟩
  · have := All2.splice h6 h1 off hle
    simpa using this
  · intro c hc' k hk
    rcases List.mem_append.1 hc' with hc' | hc'
    · rcases List.mem_append.1 hc' with hc' | hc'
      · exact .inr (.inr ⟨n, cs0, h0, c, List.mem_of_mem_take hc', hk⟩)
      · exact h2 c hc' k hk
    · exact .inr (.inr ⟨n, cs0, h0, c, List.mem_of_mem_drop hc', hk⟩)
  · intro c hc'
    rcases List.mem_append.1 hc' with hc' | hc'
    · rcases List.mem_append.1 hc' with hc' | hc'
      · exact noVb_spec hs2 n cs0 h0 c (List.mem_of_mem_take hc')
      · exact noV_spec hs3 c hc'
    · exact noVb_spec hs2 n cs0 h0 c (List.mem_of_mem_drop hc')
end
end Go.SX
