/-
  Regions that draw their order: a block of calm operations that may come in any order is walked once, in the order of the text.
-/
import Derived.Test.YtjlbaagnoppfgaaSxWk
import Derived.Orders
namespace Go.SX
set_option linter.unusedSectionVars false
variable [Globs]
section
variable {P : Program} {N : Nat} {Γ : Ctx} {W0 : World} {F : Fr} {X : Nat → Prop} {s : St} {β : Nat → Option Nat} {a : Act} {w : World} {ops : Array Oper}

def Eqv (s s' : St) : Prop := (∀ n, look s.slots n = look s'.slots n) ∧ ∀ n, lookB s.boxes n = lookB s'.boxes n
theorem Eqv.refl (s : St) : Eqv s s := ⟨fun _ => rfl, fun _ => rfl⟩
theorem Eqv.trans {a b c : St} (h : Eqv a b) (h' : Eqv b c) : Eqv a c := ⟨fun n => (h.1 n).trans (h'.1 n), fun n => (h.2 n).trans (h'.2 n)⟩
theorem Eqv.symm {a b : St} (h : Eqv a b) : Eqv b a := ⟨fun n => (h.1 n).symm, fun n => (h.2 n).symm⟩
theorem Eqv.ev {a b : St} (h : Eqv a b) (x : Operand) : ev a x = ev b x := by cases x <;> first | rfl | exact h.1 _
theorem Eqv.inv (hI : InvB W0 F X N s β a w) {s' : St} (h : Eqv s s') : InvB W0 F X N s' β a w := by
  refine hI.less (Stp.refl _ _) ?_ (fun n => ⟨n, .inl ⟨(h.1 n).symm, rfl⟩⟩) (fun n cs hc => by rw [h.2]; exact hc) rfl rfl
  rintro n (⟨cs, hc⟩ | ⟨m, hm⟩ | ⟨k, cs, hk, c, hc, hn⟩)
  · exact .inl ⟨cs, by rw [h.2]; exact hc⟩
  · exact .inr (.inl ⟨m, by rw [h.1]; exact hm⟩)
  · exact .inr (.inr ⟨k, cs, by rw [h.2]; exact hk, c, hc, hn⟩)
theorem Eqv.putO {s s' : St} (h : Eqv s s') (d : Option Nat) (v : AV) : Eqv (putO s d v) (SX.putO s' d v) := by
  refine ⟨fun n => ?_, fun n => by rw [boxes_putO, boxes_putO, h.2]⟩
  rw [look_putO, look_putO, h.1]
theorem frz_eqv {d : Nat} (h : ¬ Nm s d) : Eqv (s.frz d) s := by
  refine ⟨fun n => ?_, fun n => ?_⟩
  · show look (mapV (SX.frz d) s.slots) n = _
    rw [look_mapV _ (show SX.frz d .x = .x from rfl)]
    exact frz_same fun hd => h (.inr (.inl ⟨n, hd⟩))
  · simp only [St.frz, St.delBox, St.map, lookB_delL, lookB_mapB]
    by_cases e : d = n
    · rw [if_pos e]
      cases hl : lookB s.boxes n with
      | none => rfl
      | some cs => exact absurd (.inl ⟨cs, e ▸ hl⟩) h
    · rw [if_neg e]
      cases hl : lookB s.boxes n with
      | none => rfl
      | some cs => rw [Option.map_some, map_same fun v hv => frz_same fun hd => h (.inr (.inr ⟨n, cs, hl, v, hv, hd⟩))]
theorem kill_eqv {d : Nat} (h : ¬ Nm s d) : Eqv (s.kill d) s := by
  refine ⟨fun n => ?_, fun n => ?_⟩
  · show look (mapV (SX.kill d) s.slots) n = _
    rw [look_mapV _ (kill_x d)]
    exact kill_same fun hd => h (.inr (.inl ⟨n, hd⟩))
  · simp only [St.kill, St.delBox, St.map, lookB_delL, lookB_mapB]
    by_cases e : d = n
    · rw [if_pos e]
      cases hl : lookB s.boxes n with
      | none => rfl
      | some cs => exact absurd (.inl ⟨cs, e ▸ hl⟩) h
    · rw [if_neg e]
      cases hl : lookB s.boxes n with
      | none => rfl
      | some cs => rw [Option.map_some, map_same fun v hv => kill_same fun hd => h (.inr (.inr ⟨n, cs, hl, v, hv, hd⟩))]
/-- a calm operation is carried out -/
theorem calm_wp (hΓ : Γ.good P) (hI : InvB W0 F X N s β a w) {o : Oper} {v : AV} (hfree : (∃ t len ps, o.op = .buildSlice t len ps) → ∃ d, o.dst = some d ∧ ¬ Nm s d) (hd : ∀ d, o.dst = some d → d < N)
    (h : calmK P Γ s o.op (fun u => u = v)) {next : Act → World → Prop} {Q : Exit → Act → World → Prop} (hn : ∀ a' w', Inv W0 F X N (putO s o.dst v) a' w' → next a' w') : o.wp P a w next Q := by
  by_cases hb : ∃ t len ps, o.op = .buildSlice t len ps
  · obtain ⟨d, hdst, hNd⟩ := hfree hb
    obtain ⟨t, len, ps, ho⟩ := hb
    rw [ho] at h
    have h : bsliceCK Γ s t len ps.toList (fun u => u = v) := h
    unfold bsliceCK at h
    rw [opVecsK_eq] at h
    obtain ⟨e, h⟩ := (nilK_iff _ _).1 h
    refine bslice_ok hΓ.ok hΓ.one hI ho (K := fun s2 => ∃ τ l, v = .rd τ l ∧ Eqv (s2.frz d) (putO s (some d) v)) ?_ fun s' a' w' hK ⟨β', hI'⟩ => ?_
    · unfold bsliceK
      rw [opVecsK_eq, e, hdst, frzAllK_eq]
      refine (optK_iff _ _).2 ⟨d, rfl, ?_⟩
      simp only [frzAll]
      rw [stFrzK_eq]
      have hfe := frz_eqv hNd
      obtain ⟨ti, h1, h⟩ := (CP.ti Γ t).det h
      refine (CP.ti Γ t).put h1 ?_
      obtain ⟨el, h2, h⟩ := (CP.sliceTK ti.desc).det h
      refine (CP.sliceTK ti.desc).put h2 ?_
      obtain ⟨te, h3, h⟩ := (CP.ti Γ el).det h
      refine (CP.ti Γ el).put h3 ?_
      obtain ⟨τ, h4, h⟩ := (tyK_iff _ _).1 h
      refine (tyK_iff _ _).2 ⟨τ, h4, ?_⟩
      obtain ⟨h5, h⟩ := (chkK_iff _ _).1 h
      obtain ⟨h6, h⟩ := (chkK_iff _ _).1 h
      refine (chkK_iff _ _).2 ⟨h5, (chkK_iff _ _).2 ⟨h6, ?_⟩⟩
      rw [partsK_eq] at h ⊢
      rw [parts_congr (s' := s) fun x _ => hfe.ev x.2]
      obtain ⟨cs, h7, h⟩ := (CP.fill (pl := fun i K => K (i * te.cells, te.cells)) (fun _ => CP.pure _) _ _).det h
      refine (CP.fill (pl := fun i K => K (i * te.cells, te.cells)) (fun _ => CP.pure _) _ _).put h7 ?_
      rw [plainCK_eq] at h ⊢
      obtain ⟨l, h8, rfl⟩ := (optK_iff _ _).1 h
      refine (optK_iff _ _).2 ⟨l, h8, ?_⟩
      rw [stKillK_eq]
      refine stPut_mk (fun d' e' => by injection e' with e'; subst e'; exact hd _ hdst) ⟨τ, l, rfl, ?_⟩
      have hNd1 : ¬ Nm (s.frz d) d := not_frz s d
      have hke := (kill_eqv hNd1).trans hfe
      have hNk : ¬ Nm ((s.frz d).kill d) d := fun hm => (Nm.of_kill hm).2 rfl
      refine ⟨fun n => ?_, fun n => ?_⟩
      · show look (mapV (SX.frz d) (((s.frz d).kill d).put d (.vec d τ l)).slots) n = _
        rw [look_mapV _ (show SX.frz d .x = .x from rfl), look_putO]
        show SX.frz d (look (setL ((s.frz d).kill d).slots d (.vec d τ l)) n) = _
        rw [look_setL]
        by_cases e' : d = n
        · rw [if_pos e', if_pos (by rw [e'])]; simp [SX.frz]
        · rw [if_neg e', if_neg (fun h => e' (by injection h)), hke.1 n]
          exact frz_same fun hd' => hNd (.inr (.inl ⟨n, hd'⟩))
      · have h9 := (frz_eqv hNk).2 n
        exact h9.trans (hke.2 n)
    · obtain ⟨τ, l, _, he⟩ := hK
      rw [hdst] at hn
      exact hn _ _ ⟨β', Eqv.inv (hI'.frz d) he⟩
  · exact op_ok hΓ hI (calm_op (fun t len ps e => hb ⟨t, len, ps, e⟩) ((calm_cp P Γ s o.op).put h (stPut_mk (K := fun s' => s' = putO s o.dst v) hd rfl))) fun s' a' w' hs' hI' => hn a' w' (hs' ▸ hI')

/-! ### the values that a block yields in the order of the text -/
abbrev Item := Nat × Oper × AV
def StepV (P : Program) (Γ : Ctx) (ops : List Oper) (o : Oper) (s : St) (v : AV) : Prop :=
  match o.guard with
  | none => calmK P Γ s o.op (fun u => u = v)
  | some (j, want) => ∃ oj d, ops[j]? = some oj ∧ oj.dst = some d ∧
    ((look s.slots d = .b want ∧ calmK P Γ s o.op (fun u => u = v)) ∨ ((look s.slots d = .b (!want) ∨ look s.slots d = .tup []) ∧ v = .tup []))
def fzB (fz : List Nat) (v : AV) : Bool := fz.all fun d => !(inB d (ids v))
theorem fzB_iff {fz : List Nat} {v : AV} : fzB fz v = true ↔ ∀ d ∈ fz, d ∉ ids v := by
  simp only [fzB, List.all_eq_true, Bool.not_eq_true', ← Bool.not_eq_true, inB_iff]
def Chain (P : Program) (Γ : Ctx) (N : Nat) (fz : List Nat) (ops : List Oper) : List Item → St → Prop
  | [], _ => True
  | (_, o, v) :: r, s => StepV P Γ ops o s v ∧ (∀ d, o.dst = some d → d < N) ∧ (∀ d ∈ fz, d ∉ ids v) ∧ Chain P Γ N fz ops r (putO s o.dst v)
def runI : List Item → St → St
  | [], s => s
  | (_, o, v) :: r, s => runI r (putO s o.dst v)
def blkStepK (P : Program) (Γ : Ctx) (N : Nat) (fz : List Nat) (ops : List Oper) (i : Nat) (known : List Nat) (s : St) (K : List Nat → St → Prop) : Prop :=
  nthK ops i fun o =>
    match o.guard with
    | none => calmK P Γ s o.op fun v => chkK (fzB fz v) (stPutK N s o.dst v fun s => K known s)
    | some (j, want) => nthK ops j fun oj => optK oj.dst fun d =>
      guardK N (inB j known) s d want (fun s => calmK P Γ s o.op fun v => chkK (fzB fz v) (stPutK N s o.dst v fun s => K (j :: known) s))
        (fun s => stPutK N s o.dst (.tup []) fun s => K (j :: known) s)
def vcBlk (P : Program) (Γ : Ctx) (N : Nat) (fz : List Nat) (ops : List Oper) : List Nat → List Nat → St → (St → Prop) → Prop
  | [], _, s, Q => Q s
  | i :: r, known, s, Q => blkStepK P Γ N fz ops i known s fun known s => vcBlk P Γ N fz ops r known s Q
theorem guard_cases {d : Nat} {known want : Bool} {run skip : St → Prop} (h : guardK N known s d want run skip) :
    (look s.slots d = .b want ∧ ∃ s', Eqv s s' ∧ run s') ∨ ((look s.slots d = .b (!want) ∨ look s.slots d = .tup []) ∧ ∃ s', Eqv s s' ∧ skip s') := by
  have hput : ∀ t (K : St → Prop), look s.slots d = .b t → stPutK N s (some d) (.b t) K → ∃ s', Eqv s s' ∧ K s' := fun t K hv hK =>
    ⟨putO s (some d) (.b t), ⟨fun n => by
      rw [look_putO]
      split
      · rename_i e; injection e with e; rw [← e, hv]
      · rfl, fun _ => rfl⟩, (stPut_inv hK).1⟩
  unfold guardK at h
  rw [lookK_eq] at h
  cases known with
  | true =>
    cases hv : look s.slots d with
    | b t =>
      rw [hv] at h
      cases t <;> cases want
      · exact .inl ⟨rfl, s, Eqv.refl s, h⟩
      · exact .inr ⟨.inl rfl, s, Eqv.refl s, h⟩
      · exact .inr ⟨.inl rfl, s, Eqv.refl s, h⟩
      · exact .inl ⟨rfl, s, Eqv.refl s, h⟩
    | tup l =>
      rw [hv] at h
      cases l with
      | nil => exact .inr ⟨.inr rfl, s, Eqv.refl s, h⟩
      | cons _ _ => exact h.elim
    | _ => rw [hv] at h; exact h.elim
  | false =>
    cases hv : look s.slots d with
    | b t =>
      rw [hv] at h
      by_cases ht : t = want
      · subst ht; exact .inl ⟨rfl, hput t run hv (h.1 rfl)⟩
      · have ht' : t = !want := by cases t <;> cases want <;> simp_all
        subst ht'
        exact .inr ⟨.inl rfl, hput _ skip hv (h.2 rfl)⟩
    | tup l =>
      rw [hv] at h
      cases l with
      | nil => exact .inr ⟨.inr rfl, s, Eqv.refl s, h⟩
      | cons _ _ => exact h.elim
    | _ => rw [hv] at h; exact h.elim
theorem blk_chain {fz : List Nat} {opl : List Oper} {K : St → Prop} (B : List Nat) : ∀ (known : List Nat) (s : St), vcBlk P Γ N fz opl B known s K → ∀ s0, Eqv s0 s →
    ∃ its : List Item, its.map (·.1) = B ∧ (∀ it ∈ its, opl[it.1]? = some it.2.1) ∧ Chain P Γ N fz opl its s0 ∧ ∃ t, Eqv (runI its s0) t ∧ K t := by
  induction B with
  | nil => intro known s h s0 he; exact ⟨[], rfl, (by intro it hit; cases hit), trivial, s, he, h⟩
  | cons i r ih =>
    intro known s h s0 he
    obtain ⟨o, ho, h⟩ := (nthK_iff _ _ _).1 h
    have run : ∀ {known' : List Nat} {s1 : St}, Eqv s0 s1 → (calmK P Γ s1 o.op fun v => chkK (fzB fz v) (stPutK N s1 o.dst v fun s => vcBlk P Γ N fz opl r known' s K)) →
        ∃ v, calmK P Γ s0 o.op (fun u => u = v) ∧ (∀ d, o.dst = some d → d < N) ∧ (∀ d ∈ fz, d ∉ ids v) ∧ vcBlk P Γ N fz opl r known' (putO s1 o.dst v) K := by
      intro known' s1 he1 h1
      obtain ⟨v, h2, h3⟩ := (calm_cp P Γ s1 o.op).det h1
      obtain ⟨h6, h3⟩ := (chkK_iff _ _).1 h3
      obtain ⟨h4, h5⟩ := stPut_inv h3
      exact ⟨v, by rw [calm_congr he1.2 fun x _ => he1.ev x]; exact h2, h5, fzB_iff.1 h6, h4⟩
    have fin : ∀ {v : AV} {known' : List Nat} {s1 : St}, Eqv s0 s1 → StepV P Γ opl o s0 v → (∀ d, o.dst = some d → d < N) → (∀ d ∈ fz, d ∉ ids v) → vcBlk P Γ N fz opl r known' (putO s1 o.dst v) K →
        ∃ its : List Item, its.map (·.1) = i :: r ∧ (∀ it ∈ its, opl[it.1]? = some it.2.1) ∧ Chain P Γ N fz opl its s0 ∧ ∃ t, Eqv (runI its s0) t ∧ K t := by
      intro v known' s1 he1 h1 h2 h2' h3
      obtain ⟨its, k1, k2, k3, k4⟩ := ih _ _ h3 (putO s0 o.dst v) (he1.putO o.dst v)
      refine ⟨(i, o, v) :: its, by simp [k1], fun it hit => ?_, ⟨h1, h2, h2', k3⟩, k4⟩
      rcases List.mem_cons.1 hit with rfl | hit
      · exact ho
      · exact k2 it hit
    cases hg : o.guard with
    | none =>
      rw [hg] at h
      obtain ⟨v, h1, h2, h2', h3⟩ := run he h
      exact fin he (by unfold StepV; rw [hg]; exact h1) h2 h2' h3
    | some p =>
      obtain ⟨j, want⟩ := p
      rw [hg] at h
      obtain ⟨oj, hj, h⟩ := (nthK_iff _ _ _).1 h
      obtain ⟨d, hd, h⟩ := (optK_iff _ _).1 h
      rcases guard_cases h with ⟨h1, s1, he1, h⟩ | ⟨h1, s1, he1, h⟩
      · obtain ⟨v, h2, h3, h3', h4⟩ := run (he.trans he1) h
        exact fin (he.trans he1) (by unfold StepV; rw [hg]; exact ⟨oj, d, hj, hd, .inl ⟨by rw [he.1]; exact h1, h2⟩⟩) h3 h3' h4
      · obtain ⟨h4, h5⟩ := stPut_inv h
        exact fin (he.trans he1) (by unfold StepV; rw [hg]; exact ⟨oj, d, hj, hd, .inr ⟨by rw [he.1]; exact h1, rfl⟩⟩) h5 (by intro _ _ h; cases h) h4

/-! ### what is read after a part of the block -/
def selL : List Item → (Nat → Bool) → Nat → AV → AV
  | [], _, _, base => base
  | (i, o, v) :: r, p, x, base => if p i = true ∧ o.dst = some x then v else selL r p x base
theorem selL_append (l l' : List Item) (p : Nat → Bool) (x : Nat) (base : AV) : selL (l ++ l') p x base = selL l p x (selL l' p x base) := by
  induction l with
  | nil => rfl
  | cons q r ih => obtain ⟨i, o, v⟩ := q; simp only [List.cons_append, selL, ih]
theorem selL_skip {l : List Item} {p : Nat → Bool} {x : Nat} {base : AV} (h : ∀ q ∈ l, p q.1 = true → q.2.1.dst ≠ some x) : selL l p x base = base := by
  induction l with
  | nil => rfl
  | cons q r ih =>
    obtain ⟨i, o, v⟩ := q
    simp only [selL]
    rw [if_neg fun ⟨h1, h2⟩ => h _ (List.mem_cons_self ..) h1 h2]
    exact ih fun q hq => h q (List.mem_cons_of_mem _ hq)
theorem selL_same {l : List Item} {p p' : Nat → Bool} {x : Nat} {base : AV} (h : ∀ q ∈ l, q.2.1.dst = some x → p q.1 = p' q.1) : selL l p x base = selL l p' x base := by
  induction l with
  | nil => rfl
  | cons q r ih =>
    obtain ⟨i, o, v⟩ := q
    simp only [selL]
    rw [ih fun q hq => h q (List.mem_cons_of_mem _ hq)]
    by_cases hd : o.dst = some x
    · rw [h _ (List.mem_cons_self ..) hd]
    · simp [hd]
def aft (o : Oper) (i : Nat) : Bool := o.after.any fun e => Region.binds .any e && Nat.beq e.on i
theorem aft_spec {o : Oper} {i : Nat} (h : aft o i = true) : ∃ e ∈ o.after, Region.binds .any e = true ∧ e.on = i := by
  obtain ⟨e, h1, h2⟩ := Array.any_eq_true'.1 h
  simp only [Bool.and_eq_true] at h2
  exact ⟨e, h1, h2.1, Nat.eq_of_beq_eq_true h2.2⟩
/-- an earlier and a later item of a block -/
def PairOK (ops : Array Oper) (e t : Item) : Prop :=
  e.1 ≠ t.1 ∧ (∀ d, e.2.1.dst = some d → t.2.1.dst ≠ some d) ∧ (aft t.2.1 e.1 = true ∨ ((∀ d, e.2.1.dst = some d → d ∉ t.2.1.looksAt ops) ∧ ∀ d, t.2.1.dst = some d → d ∉ e.2.1.looksAt ops))
theorem look_runI (l : List Item) (h : l.Pairwise (PairOK ops)) : ∀ (s : St) (x : Nat), look (runI l s).slots x = selL l (fun _ => true) x (look s.slots x) := by
  induction l with
  | nil => intro s x; rfl
  | cons q r ih =>
    obtain ⟨i, o, v⟩ := q
    intro s x
    rw [List.pairwise_cons] at h
    simp only [runI, selL]
    rw [ih h.2, look_putO]
    by_cases hd : o.dst = some x
    · rw [if_pos hd, if_pos ⟨trivial, hd⟩]
      exact selL_skip fun q hq _ => (h.1 q hq).2.1 x hd
    · rw [if_neg hd, if_neg fun h => hd h.2]
theorem boxes_runI (l : List Item) : ∀ s, (runI l s).boxes = s.boxes := by
  induction l with
  | nil => intro s; rfl
  | cons q r ih => obtain ⟨i, o, v⟩ := q; intro s; simp only [runI]; rw [ih, boxes_putO]
theorem chain_at {fz : List Nat} {opl : List Oper} (pre : List Item) {i : Nat} {o : Oper} {v : AV} {post : List Item} : ∀ s, Chain P Γ N fz opl (pre ++ (i, o, v) :: post) s → StepV P Γ opl o (runI pre s) v ∧ ∀ d, o.dst = some d → d < N := by
  induction pre with
  | nil => intro s h; exact ⟨h.1, h.2.1⟩
  | cons q r ih => obtain ⟨i', o', v'⟩ := q; intro s h; exact ih _ h.2.2.2
theorem chain_ids {fz : List Nat} {opl : List Oper} (l : List Item) : ∀ s, Chain P Γ N fz opl l s → ∀ q ∈ l, ∀ d ∈ fz, d ∉ ids q.2.2 := by
  induction l with
  | nil => intro _ _ q hq; cases hq
  | cons q' r ih =>
    obtain ⟨i, o, v⟩ := q'
    intro s h q hq
    rcases List.mem_cons.1 hq with rfl | hq
    · exact h.2.2.1
    · exact ih _ h.2.2.2 q hq
theorem selL_or {l : List Item} {p : Nat → Bool} {x : Nat} {base : AV} : selL l p x base = base ∨ ∃ q ∈ l, selL l p x base = q.2.2 := by
  induction l with
  | nil => exact .inl rfl
  | cons q r ih =>
    obtain ⟨i, o, v⟩ := q
    simp only [selL]
    split
    · exact .inr ⟨_, List.mem_cons_self .., rfl⟩
    · exact ih.imp id fun ⟨q, hq, e⟩ => ⟨q, List.mem_cons_of_mem _ hq, e⟩

/-! ### the block, in any order -/
def cnt : List Item → (Nat → Bool) → Nat
  | [], _ => 0
  | q :: r, p => (if p q.1 = true then 0 else 1) + cnt r p
theorem cnt_le {l : List Item} {p p' : Nat → Bool} (h : ∀ i, p i = true → p' i = true) : cnt l p' ≤ cnt l p := by
  induction l with
  | nil => exact Nat.le_refl _
  | cons q r ih =>
    simp only [cnt]
    by_cases h1 : p q.1 = true
    · rw [if_pos h1, if_pos (h _ h1)]; omega
    · rw [if_neg h1]; split <;> omega
theorem cnt_lt {l : List Item} {p p' : Nat → Bool} (h : ∀ i, p i = true → p' i = true) {q : Item} (hq : q ∈ l) (h1 : p q.1 ≠ true) (h2 : p' q.1 = true) : cnt l p' < cnt l p := by
  induction l with
  | nil => cases hq
  | cons q' r ih =>
    simp only [cnt]
    rcases List.mem_cons.1 hq with rfl | hq
    · rw [if_pos h2, if_neg h1]; have := cnt_le (l := r) h; omega
    · have := ih hq
      by_cases h3 : p q'.1 = true
      · rw [if_pos h3, if_pos (h _ h3)]; omega
      · rw [if_neg h3]; split <;> omega
theorem cnt_all {l : List Item} {p : Nat → Bool} (h : cnt l p = 0) : ∀ q ∈ l, p q.1 = true := by
  induction l with
  | nil => intro q hq; cases hq
  | cons q' r ih =>
    simp only [cnt] at h
    intro q hq
    rcases List.mem_cons.1 hq with rfl | hq
    · by_cases h3 : p q.1 = true
      · exact h3
      · rw [if_neg h3] at h; omega
    · exact ih (by omega) q hq
theorem first_not {l : List Item} {p : Nat → Bool} (h : cnt l p ≠ 0) : ∃ pre q post, l = pre ++ q :: post ∧ (∀ r ∈ pre, p r.1 = true) ∧ p q.1 ≠ true := by
  induction l with
  | nil => exact absurd rfl h
  | cons q' r ih =>
    by_cases h3 : p q'.1 = true
    · simp only [cnt, if_pos h3] at h
      obtain ⟨pre, q, post, rfl, h4, h5⟩ := ih (by omega)
      exact ⟨q' :: pre, q, post, rfl, fun x hx => by rcases List.mem_cons.1 hx with rfl | hx; exact h3; exact h4 x hx, h5⟩
    · exact ⟨[], q', r, rfl, (by intro x hx; cases hx), h3⟩
def setAll (listed : Array Bool) (B : List Nat) : Array Bool := B.foldl (fun l i => l.setIfInBounds i true) listed
theorem setAll_size (B : List Nat) : ∀ listed : Array Bool, (setAll listed B).size = listed.size := by
  induction B with
  | nil => intro l; rfl
  | cons i r ih => intro l; simp only [setAll, List.foldl_cons]; exact (ih _).trans (by simp)
theorem setAll_get (B : List Nat) : ∀ (listed : Array Bool) (j : Nat), j < listed.size → (setAll listed B).getD j false = (decide (j ∈ B) || listed.getD j false) := by
  induction B with
  | nil => intro l j _; simp [setAll]
  | cons i r ih =>
    intro l j hj
    have h1 := ih (l.setIfInBounds i true) j (by simpa using hj)
    simp only [setAll, List.foldl_cons] at h1 ⊢
    rw [h1]
    by_cases hij : i = j
    · subst hij; simp [hj]
    · have hji : j ≠ i := fun e => hij e.symm
      simp [Array.getElem?_setIfInBounds_ne hij, hji]

/-- each of a list comes before o, by a chain within it -/
def lastB (oj : Oper) : List Item → Prop
  | [] => True
  | q :: r => (aft oj q.1 = true ∨ ∃ q' ∈ r, aft q'.2.1 q.1 = true) ∧ lastB oj r

structure BlkOK (ops : Array Oper) (listed : Array Bool) (its : List Item) : Prop where
  size : listed.size = ops.size
  un : ∀ q ∈ its, listed.getD q.1 true = false
  at' : ∀ q ∈ its, ops[q.1]? = some q.2.1
  pairs : its.Pairwise (PairOK ops)
  prev : ∀ pre q post, its = pre ++ q :: post → ∀ e ∈ q.2.1.after, Region.binds .any e = true → listed.getD e.on false = true ∨ ∃ r ∈ pre, r.1 = e.on
  last : ∀ j oj, ops[j]? = some oj → listed.getD j true = false → (∀ q ∈ its, q.1 ≠ j) → lastB oj its ∨ ∃ j', aft oj j' = true ∧ listed.getD j' false = false ∧ ∀ q ∈ its, q.1 ≠ j'

theorem getD_dflt {l : Array Bool} {i : Nat} (h : i < l.size) (d d' : Bool) : l.getD i d = l.getD i d' := by simp [h]

theorem blk_ok (hΓ : Γ.good P) {Q : Exit → Act → World → Prop} {its : List Item} {listed0 : Array Bool} (hb : BlkOK ops listed0 its) {s0 : St} {fz : List Nat} (hc : Chain P Γ N fz ops.toList its s0)
    (hfz : ∀ q ∈ its, (∃ t len ps, q.2.1.op = .buildSlice t len ps) → ∃ d, q.2.1.dst = some d ∧ d ∈ fz) (hN0 : ∀ d ∈ fz, ¬ Nm s0 d) {f : Nat}
    (hend : ∀ fuel a w, f ≤ fuel → Inv W0 F X N (runI its s0) a w → wpAny P .any ops Q fuel (setAll listed0 (its.map (·.1))) a w) :
    ∀ (n fuel : Nat) (listed : Array Bool) (s : St) (a : Act) (w : World), cnt its (fun i => listed.getD i false) ≤ n → n + f ≤ fuel → listed.size = ops.size →
      (∀ j, (∀ q ∈ its, q.1 ≠ j) → listed.getD j false = listed0.getD j false) →
      (∀ q ∈ its, listed.getD q.1 false = true → ∀ e ∈ q.2.1.after, Region.binds .any e = true → listed.getD e.on false = true) →
      s.boxes = s0.boxes → (∀ x, look s.slots x = selL its (fun i => listed.getD i false) x (look s0.slots x)) → Inv W0 F X N s a w → wpAny P .any ops Q fuel listed a w := by
  intro n
  induction n with
  | zero =>
    intro fuel listed s a w hn hf hsz h1 h2 hbx hlk ⟨β, hI⟩
    have hall := cnt_all (Nat.le_zero.1 hn)
    have e : listed = setAll listed0 (its.map (·.1)) := by
      apply Array.ext
      · rw [setAll_size, hsz, hb.size]
      · intro j hj hj'
        have hj0 : j < listed0.size := by rw [hb.size, ← hsz]; exact hj
        have h3 := setAll_get (its.map (·.1)) listed0 j hj0
        have h4 : listed.getD j false = (setAll listed0 (its.map (·.1))).getD j false := by
          rw [h3]
          by_cases hm : j ∈ its.map (·.1)
          · obtain ⟨q, hq, rfl⟩ := List.mem_map.1 hm
            rw [hall q hq]; simp [hm]
          · rw [h1 j fun q hq e => hm (List.mem_map.2 ⟨q, hq, e⟩)]; simp only [hm, decide_false, Bool.false_or]
        simpa [hj, hj'] using h4
    rw [e]
    refine hend fuel a w (by omega) ⟨β, Eqv.inv hI ⟨fun x => ?_, fun _ => by rw [boxes_runI, hbx]⟩⟩
    rw [hlk, look_runI its hb.pairs]
    exact selL_same fun q hq _ => hall q hq
  | succ n ih =>
    intro fuel listed s a w hn hf hsz h1 h2 hbx hlk hInv
    by_cases hz : cnt its (fun i => listed.getD i false) = 0
    · exact ih fuel listed s a w (by omega) (by omega) hsz h1 h2 hbx hlk hInv
    obtain ⟨fuel, rfl⟩ : ∃ k, fuel = k + 1 := ⟨fuel - 1, by omega⟩
    -- the first that is not there yet can be taken
    obtain ⟨pre, q, post, e, hpre, hq⟩ := first_not hz
    have hlt : ∀ q ∈ its, q.1 < ops.size := fun q hq => (Array.getElem?_eq_some_iff.1 (hb.at' q hq)).1
    have hunb : ∀ q ∈ its, listed.getD q.1 false ≠ true → listed.getD q.1 true = false := fun q hq h => by
      rw [getD_dflt (by rw [hsz]; exact hlt q hq) true false]; simpa using h
    have hready : q.1 ∈ Region.ready .any ops listed := by
      have hqm : q ∈ its := by rw [e]; simp
      refine mem_ready.2 ⟨hunb q hqm hq, q.2.1, hb.at' q hqm, fun ed hed hbd => ?_⟩
      rcases hb.prev pre q post e ed hed hbd with h | ⟨r, hr, hre⟩
      · by_cases hm : ∃ q' ∈ its, q'.1 = ed.on
        · obtain ⟨q', hq', hqe⟩ := hm
          exfalso
          have := hb.un q' hq'
          rw [hqe, getD_dflt (by rw [hb.size, ← hqe]; exact hlt q' hq') true false, h] at this
          cases this
        · rw [h1 _ fun q' hq' he => hm ⟨q', hq', he⟩]; exact h
      · rw [← hre]; exact hpre r hr
    refine ⟨fun h => (by rw [h] at hready; cases hready), fun j hj => ?_⟩
    obtain ⟨hjun, oj, hoj, hjall⟩ := mem_ready.1 hj
    have hjun' : listed.getD j false ≠ true := by
      intro h
      have hjs : j < listed.size := by rw [hsz]; exact (Array.getElem?_eq_some_iff.1 hoj).1
      rw [getD_dflt hjs true false, h] at hjun; cases hjun
    -- it is one of the block
    obtain ⟨it, hit, hitj⟩ : ∃ it ∈ its, it.1 = j := by
      by_cases hm : ∃ it ∈ its, it.1 = j
      · exact hm
      · exfalso
        have hno : ∀ q ∈ its, q.1 ≠ j := fun q hq e => hm ⟨q, hq, e⟩
        have hj0 : listed0.getD j true = false := by
          have hjs : j < listed0.size := by rw [hb.size]; exact (Array.getElem?_eq_some_iff.1 hoj).1
          rw [getD_dflt hjs true false, ← h1 j hno]; simpa using hjun'
        rcases hb.last j oj hoj hj0 hno with hl | ⟨j', hl1, hl2, hl3⟩
        case inr =>
          obtain ⟨ed, h3, h4, h5⟩ := aft_spec hl1
          have h6 := hjall ed h3 h4
          rw [h5, h1 j' hl3, hl2] at h6
          cases h6
        have key : ∀ l : List Item, (∀ q ∈ l, q ∈ its) → lastB oj l → ∀ q ∈ l, listed.getD q.1 false = true := by
          intro l
          induction l with
          | nil => intro _ _ q hq; cases hq
          | cons q r ihl =>
            intro hsub ⟨hl1, hl2⟩
            have hr := ihl (fun q hq => hsub q (List.mem_cons_of_mem _ hq)) hl2
            intro q' hq'
            rcases List.mem_cons.1 hq' with rfl | hq'
            · rcases hl1 with h | ⟨q'', hq'', h⟩
              · obtain ⟨ed, h3, h4, h5⟩ := aft_spec h
                rw [← h5]; exact hjall ed h3 h4
              · obtain ⟨ed, h3, h4, h5⟩ := aft_spec h
                rw [← h5]; exact h2 q'' (hsub q'' (List.mem_cons_of_mem _ hq'')) (hr q'' hq'') ed h3 h4
            · exact hr q' hq'
        exact hq (key its (fun _ h => h) hl q (by rw [e]; simp))
    subst hitj
    obtain ⟨pre', post', e'⟩ := List.append_of_mem hit
    obtain ⟨i, o, v⟩ := it
    have hoj' := hb.at' _ hit
    rw [hoj] at hoj'; injection hoj' with hoj'
    have hoj'' := hoj'.symm
    subst hoj''
    obtain ⟨hstep, hdN⟩ := chain_at pre' s0 (by rw [← e']; exact hc)
    have hpw := hb.pairs
    rw [e'] at hpw
    obtain ⟨hpw1, hpw2, hpw3⟩ := List.pairwise_append.1 hpw
    rw [List.pairwise_cons] at hpw2
    have hread : ∀ x ∈ o.looksAt ops, look s.slots x = look (runI pre' s0).slots x := fun x hx => by
      rw [hlk, look_runI pre' hpw1, e', selL_append]
      have h3 : selL ((i, o, v) :: post') (fun i => listed.getD i false) x (look s0.slots x) = look s0.slots x := by
        refine selL_skip fun q hq hlq hdq => ?_
        rcases List.mem_cons.1 hq with rfl | hq
        · exact hjun' hlq
        · obtain ⟨_, _, h5⟩ := hpw2.1 q hq
          rcases h5 with h5 | ⟨_, h5⟩
          · obtain ⟨ed, h6, h7, h8⟩ := aft_spec h5
            have := h2 q (by rw [e']; simp [hq]) hlq ed h6 h7
            rw [h8] at this
            exact hjun' this
          · exact h5 x hdq hx
      rw [h3]
      refine selL_same fun q hq hdq => ?_
      obtain ⟨_, _, h5⟩ := hpw3 q hq (i, o, v) (List.mem_cons_self ..)
      rcases h5 with h5 | ⟨h5, _⟩
      · obtain ⟨ed, h6, h7, h8⟩ := aft_spec h5
        rw [← h8]; exact hjall ed h6 h7
      · exact absurd hx (h5 x hdq)
    have hbx' : s.boxes = (runI pre' s0).boxes := by rw [boxes_runI, hbx]
    have hcongr : ∀ K, calmK P Γ s o.op K = calmK P Γ (runI pre' s0) o.op K := calm_congr (fun _ => by rw [hbx']) fun x hx => by
      cases x with
      | tmp t => exact hread t (by simp only [Oper.looksAt, List.mem_append, List.mem_filterMap]; exact .inl ⟨_, hx, rfl⟩)
      | _ => rfl
    -- and what comes after it is known
    have hnext : ∀ a' w', Inv W0 F X N (putO s o.dst v) a' w' → wpAny P .any ops Q fuel (listed.setIfInBounds i true) a' w' := by
      intro a' w' hI'
      have hset : ∀ k, (listed.setIfInBounds i true).getD k false = (decide (k = i) || listed.getD k false) := fun k => by
        by_cases hk : i = k
        · subst hk
          have : i < listed.size := by rw [hsz]; exact hlt _ hit
          simp [this]
        · have hk' : k ≠ i := fun e => hk e.symm
          simp [Array.getElem?_setIfInBounds_ne hk, hk']
      have huniq : ∀ q ∈ its, q.1 = i → q = (i, o, v) := fun q hq hqi => by
        rw [e'] at hq
        rcases List.mem_append.1 hq with hq | hq
        · exact absurd hqi (hpw3 q hq (i, o, v) (List.mem_cons_self ..)).1
        · rcases List.mem_cons.1 hq with rfl | hq
          · rfl
          · exact absurd hqi.symm (hpw2.1 q hq).1
      refine ih fuel _ (putO s o.dst v) a' w' ?_ (by omega) (by simpa using hsz) (fun k hk => ?_) (fun q hq hl ed hed hbd => ?_) (by rw [boxes_putO, hbx]) (fun x => ?_) hI'
      · have := cnt_lt (l := its) (p := fun i => listed.getD i false) (p' := fun k => (listed.setIfInBounds i true).getD k false) (fun k hk => by rw [hset, hk]; simp) hit hjun' (by rw [hset]; simp)
        omega
      · rw [hset, h1 k hk]
        have : k ≠ i := fun e => hk _ hit e.symm
        simp [this]
      · rw [hset] at hl ⊢
        by_cases hqi : q.1 = i
        · have := huniq q hq hqi
          subst this
          rw [hjall ed hed hbd]; simp
        · have hlq : listed.getD q.1 false = true := by simpa [hqi] using hl
          rw [h2 q hq hlq ed hed hbd]; simp
      · rw [look_putO]
        by_cases hd : o.dst = some x
        · rw [if_pos hd, e', selL_append]
          have h3 : selL ((i, o, v) :: post') (fun k => (listed.setIfInBounds i true).getD k false) x (look s0.slots x) = v := by
            simp only [selL]
            rw [if_pos ⟨by rw [hset]; simp, hd⟩]
          rw [h3]
          exact (selL_skip fun q hq _ hdq => (hpw3 q hq (i, o, v) (List.mem_cons_self ..)).2.1 x hdq hd).symm
        · rw [if_neg hd, hlk]
          refine selL_same fun q hq hdq => ?_
          show listed.getD q.1 false = (listed.setIfInBounds i true).getD q.1 false
          rw [hset]
          by_cases hqi : q.1 = i
          · have := huniq q hq hqi
            subst this
            exact absurd hdq hd
          · simp [hqi]
    obtain ⟨β, hI⟩ := hInv
    have hrun : calmK P Γ (runI pre' s0) o.op (fun u => u = v) → o.wp P a w (wpAny P .any ops Q fuel (listed.setIfInBounds i true)) Q := fun h => by
      rw [← hcongr] at h
      refine calm_wp hΓ hI (fun hb' => ?_) hdN h hnext
      obtain ⟨d, h1, h2⟩ := hfz _ hit hb'
      refine ⟨d, h1, ?_⟩
      rintro (⟨cs, hcs⟩ | ⟨n, hn⟩ | ⟨k, cs, hk, c, hc', hn⟩)
      · exact hN0 d h2 (.inl ⟨cs, by rw [← hbx]; exact hcs⟩)
      · rw [hlk] at hn
        rcases selL_or (l := its) (p := fun i => listed.getD i false) (x := n) (base := look s0.slots n) with h3 | ⟨q, hq, h3⟩
        · rw [h3] at hn; exact hN0 d h2 (.inr (.inl ⟨n, hn⟩))
        · rw [h3] at hn; exact chain_ids its s0 hc q hq d h2 hn
      · exact hN0 d h2 (.inr (.inr ⟨k, cs, by rw [← hbx]; exact hk, c, hc', hn⟩))
    unfold wpOp
    rw [hoj]
    show if _ then _ else _
    cases hg : o.guard with
    | none =>
      unfold StepV at hstep
      rw [hg] at hstep
      rw [if_pos (by simp [Region.wanted, hg])]
      exact .inl (hrun hstep)
    | some p =>
      obtain ⟨gj, want⟩ := p
      unfold StepV at hstep
      rw [hg] at hstep
      obtain ⟨og, d, hgj, hgd, hstep⟩ := hstep
      have hd : look s.slots d = look (runI pre' s0).slots d := hread d (by
        simp only [Oper.looksAt, hg, List.mem_append]
        refine .inr ?_
        have : ops[gj]? = some og := by simpa using hgj
        simp [this, hgd])
      rcases hstep with ⟨h3, h4⟩ | ⟨h3, h4⟩
      · have hgk : guardK N true s d want (fun _ => True) (fun _ => False) := by
          unfold guardK; rw [lookK_eq, hd, h3]
          cases want <;> trivial
        rcases guard_ok hI hgj hgd hgk with ⟨_, _, hy, _⟩ | ⟨_, _, _, h⟩
        · rw [if_pos (by simp [Region.wanted, hg]; exact hy)]
          exact .inl (hrun h4)
        · exact h.elim
      · have hgk : guardK N true s d want (fun _ => False) (fun _ => True) := by
          unfold guardK; rw [lookK_eq, hd]
          rcases h3 with h3 | h3
          · rw [h3]; cases want <;> trivial
          · rw [h3]; trivial
        rcases guard_ok hI hgj hgd hgk with ⟨_, _, _, h⟩ | ⟨_, _, hy, _⟩
        · exact h.elim
        · rw [if_neg (by simp [Region.wanted, hg]; exact hy)]
          subst h4
          obtain ⟨s2, k1, k2⟩ := putIm_ok hI (Stp.refl _ w) (stPut_mk (K := fun s' => s' = putO s o.dst (.tup [])) hdN rfl) (undef_rel _ _)
          exact hnext _ _ (k1 ▸ ⟨β, k2⟩)

/-! ### a region's plan -/
/-- the orders of some operations: at each step one of those that are ready -/
inductive OT where
  | fin
  | non
  | opt (i : Nat) (k alt : OT)
inductive Ph where
  | tree (n : Nat) (S : List Nat) (t : OT)
  | take (i : Nat)
  | one (i : Nat)
  | blk (B : List Nat) (fz : List Nat := [])
  | two (i j : Nat)
  | twoT (i j t : Nat)
def phLen : Ph → Nat
  | .tree n _ _ => n
  | .blk B _ => B.length
  | .two _ _ => 2
  | .twoT _ _ _ => 3
  | _ => 1
def gStepK (N : Nat) (ops : List Oper) (o : Oper) (known : List Nat) (s : St) (run : (List Nat) → St → Prop) (skip : (List Nat) → St → Prop) : Prop :=
  match o.guard with
  | none => run known s
  | some (j, want) => nthK ops j fun oj => optK oj.dst fun d => guardK N (inB j known) s d want (run (j :: known)) (skip (j :: known))
def noGuard (o : Oper) (K : Prop) : Prop := match o.guard with
  | none => K
  | some _ => False
/-- each order of a tree comes to the state T -/
def vcOT (P : Program) (Γ : Ctx) (N : Nat) (ops : List Oper) (T : St) : OT → St → Prop
  | .fin, s => Wk s T
  | .non, _ => True
  | .opt i k alt, s => (nthK ops i fun o => noGuard o (opK P Γ N o s fun s => vcOT P Γ N ops T k s)) ∧ vcOT P Γ N ops T alt s
def heads : OT → List Nat
  | .opt i _ alt => i :: heads alt
  | _ => []
def eqL : List Nat → List Nat → Bool
  | [], [] => true
  | a :: r, b :: r' => Nat.beq a b && eqL r r'
  | _, _ => false
theorem eqL_eq : ∀ {l m : List Nat}, eqL l m = true → l = m
  | [], [], _ => rfl
  | [], _ :: _, h => nomatch h
  | _ :: _, [], h => nomatch h
  | a :: r, b :: r', h => by
    simp only [eqL, Bool.and_eq_true] at h
    rw [Nat.eq_of_beq_eq_true h.1, eqL_eq h.2]
def headOT (ops : Array Oper) (listed : Array Bool) : OT → Bool
  | .fin => true
  | .non => false
  | t => eqL (Region.ready .any ops listed) (heads t)
def okOT (ops : Array Oper) (full : Array Bool) : Nat → Array Bool → OT → Bool
  | n, listed, .fin => Nat.beq n 0 && decide (listed = full)
  | _, _, .non => true
  | n, listed, .opt i k alt => (match n with
    | 0 => false
    | m + 1 => headOT ops (listed.setIfInBounds i true) k && okOT ops full m (listed.setIfInBounds i true) k) && okOT ops full n listed alt
def vcPlan (P : Program) (Γ : Ctx) (N : Nat) (ops : List Oper) : List Ph → List Nat → St → (St → Prop) → Prop
  | [], _, s, Q => Q s
  | .tree _ _ t :: r, known, s, Q => ∃ T : St, vcOT P Γ N ops T t s ∧ vcPlan P Γ N ops r known T Q
  | .take i :: r, known, s, Q => nthK ops i fun o => gStepK N ops o known s (fun known s => valK Γ s o.op fun v => stPutK N s o.dst v fun s => vcPlan P Γ N ops r known s Q)
      (fun known s => stPutK N s o.dst (.tup []) fun s => vcPlan P Γ N ops r known s Q)
  | .one i :: r, known, s, Q => nthK ops i fun o => gStepK N ops o known s (fun known s => opK P Γ N o s fun s => vcPlan P Γ N ops r known s Q)
      (fun known s => stPutK N s o.dst (.tup []) fun s => vcPlan P Γ N ops r known s Q)
  | .two i j :: r, known, s, Q => ∃ T : St,
      (nthK ops i fun o => nthK ops j fun o' => noGuard o (noGuard o' (opK P Γ N o s fun s => opK P Γ N o' s fun s => Wk s T))) ∧
      (nthK ops j fun o => nthK ops i fun o' => noGuard o (noGuard o' (opK P Γ N o s fun s => opK P Γ N o' s fun s => Wk s T))) ∧ vcPlan P Γ N ops r known T Q
  | .twoT i j t :: r, known, s, Q => ∃ T : St,
      (nthK ops i fun o => nthK ops j fun o' => nthK ops t fun ot => noGuard o (noGuard o' (noGuard ot (opK P Γ N o s fun s => valK Γ s ot.op fun v => stPutK N s ot.dst v fun s => opK P Γ N o' s fun s => Wk s T)))) ∧
      (nthK ops i fun o => nthK ops j fun o' => nthK ops t fun ot => noGuard o (noGuard o' (noGuard ot (opK P Γ N o' s fun s => opK P Γ N o s fun s => valK Γ s ot.op fun v => stPutK N s ot.dst v fun s => Wk s T)))) ∧ vcPlan P Γ N ops r known T Q
  | .blk B fz :: r, known, s, Q => frzAllK fz s fun s => vcBlk P Γ N fz ops B known s fun s => vcPlan P Γ N ops r known s Q

def ppairB (ops : Array Oper) (e t : Nat × Oper) : Bool :=
  !(Nat.beq e.1 t.1) && (match e.2.dst with
    | some d => !(match t.2.dst with | some d' => Nat.beq d d' | none => false)
    | none => true) &&
  (aft t.2 e.1 || ((match e.2.dst with
    | some d => !(inB d (t.2.looksAt ops))
    | none => true) && (match t.2.dst with
    | some d => !(inB d (e.2.looksAt ops))
    | none => true)))
def pairsB (ops : Array Oper) : List (Nat × Oper) → Bool
  | [] => true
  | e :: r => r.all (ppairB ops e) && pairsB ops r
def prevB (listed : Array Bool) : List Nat → List (Nat × Oper) → Bool
  | _, [] => true
  | seen, (i, o) :: r => (o.after.all fun e => !Region.binds .any e || listed.getD e.on false || inB e.on seen) && prevB listed (i :: seen) r
def lastBB (oj : Oper) : List (Nat × Oper) → Bool
  | [] => true
  | q :: r => (aft oj q.1 || r.any fun q' => aft q'.2 q.1) && lastBB oj r
def pick (ops : Array Oper) : List Nat → Option (List (Nat × Oper))
  | [] => some []
  | i :: r => match ops[i]?, pick ops r with
    | some o, some l => some ((i, o) :: l)
    | _, _ => none
def blkB (ops : Array Oper) (listed : Array Bool) (B : List Nat) : Bool :=
  match pick ops B with
  | none => false
  | some l => (B.all fun i => !(listed.getD i true)) && pairsB ops l && prevB listed [] l &&
    (List.range ops.size).all fun j => listed.getD j true || inB j B || match ops[j]? with
      | some oj => lastBB oj l || (List.range ops.size).any fun j' => aft oj j' && !(listed.getD j' false) && !(inB j' B)
      | none => true
def fzOK (fz : List Nat) (o : Oper) : Bool := match o.op with
  | .buildSlice _ _ _ => match o.dst with | some d => inB d fz | none => false
  | _ => true
def planB (ops : Array Oper) : Array Bool → List Ph → Bool
  | listed, [] => (Region.ready .any ops listed).isEmpty
  | listed, .tree n S t :: r => headOT ops listed t && okOT ops (setAll listed S) n listed t && planB ops (setAll listed S) r
  | listed, .take i :: r => (Region.ready .any ops listed).contains i && Region.free .any ops listed i && planB ops (listed.setIfInBounds i true) r
  | listed, .one i :: r => (match Region.ready .any ops listed with
    | [j] => Nat.beq i j
    | _ => false) && planB ops (listed.setIfInBounds i true) r
  | listed, .two i j :: r => (match Region.ready .any ops listed with
    | [i', j'] => Nat.beq i i' && Nat.beq j j'
    | _ => false) && (match Region.ready .any ops (listed.setIfInBounds i true) with
    | [j'] => Nat.beq j j'
    | _ => false) && (match Region.ready .any ops (listed.setIfInBounds j true) with
    | [i'] => Nat.beq i i'
    | _ => false) && planB ops ((listed.setIfInBounds i true).setIfInBounds j true) r
  | listed, .twoT i j t :: r => (match Region.ready .any ops listed with
    | [i', j'] => Nat.beq i i' && Nat.beq j j'
    | _ => false) && ((Region.ready .any ops (listed.setIfInBounds i true)).contains t && Region.free .any ops (listed.setIfInBounds i true) t) &&
    (match Region.ready .any ops ((listed.setIfInBounds i true).setIfInBounds t true) with
    | [j'] => Nat.beq j j'
    | _ => false) && (match Region.ready .any ops (listed.setIfInBounds j true) with
    | [i'] => Nat.beq i i'
    | _ => false) && ((Region.ready .any ops ((listed.setIfInBounds j true).setIfInBounds i true)).contains t && Region.free .any ops ((listed.setIfInBounds j true).setIfInBounds i true) t) &&
    decide (((listed.setIfInBounds i true).setIfInBounds t true).setIfInBounds j true = ((listed.setIfInBounds j true).setIfInBounds i true).setIfInBounds t true) && planB ops (((listed.setIfInBounds i true).setIfInBounds t true).setIfInBounds j true) r
  | listed, .blk B fz :: r => (blkB ops listed B && B.all fun i => match ops[i]? with | some o => fzOK fz o | none => false) && planB ops (setAll listed B) r
def planOK (ops : Array Oper) (pl : List Ph) : Bool := Region.noSelect ops && planB ops (Array.replicate ops.size false) pl && decide ((pl.map phLen).sum ≤ ops.size)

theorem pick_spec {B : List Nat} : ∀ {l : List (Nat × Oper)}, pick ops B = some l → ∀ its : List Item, its.map (·.1) = B → (∀ it ∈ its, ops[it.1]? = some it.2.1) → its.map (fun q => (q.1, q.2.1)) = l := by
  induction B with
  | nil =>
    intro l h its h1 _
    injection h with h; subst h
    cases its with
    | nil => rfl
    | cons _ _ => cases h1
  | cons i r ih =>
    intro l h its h1 h2
    cases its with
    | nil => cases h1
    | cons q t =>
      obtain ⟨i', o, v⟩ := q
      simp only [List.map_cons, List.cons.injEq] at h1
      obtain ⟨rfl, h1⟩ := h1
      have h3 := h2 _ (List.mem_cons_self ..)
      have h3' : ops[i']? = some o := h3
      simp only [pick, h3'] at h
      cases hp : pick ops r with
      | none => rw [hp] at h; cases h
      | some l' =>
        rw [hp] at h
        injection h with h
        subst h
        simp only [List.map_cons]
        rw [ih hp t h1 fun it hit => h2 it (List.mem_cons_of_mem _ hit)]
theorem pairs_spec {its : List Item} (h : pairsB ops (its.map fun q => (q.1, q.2.1)) = true) : its.Pairwise (PairOK ops) := by
  induction its with
  | nil => exact List.Pairwise.nil
  | cons e r ih =>
    simp only [List.map_cons, pairsB, Bool.and_eq_true, List.all_eq_true] at h
    refine List.Pairwise.cons (fun t ht => ?_) (ih h.2)
    have := h.1 (t.1, t.2.1) (List.mem_map.2 ⟨t, ht, rfl⟩)
    simp only [ppairB, Bool.and_eq_true, Bool.or_eq_true] at this
    obtain ⟨⟨h1, h2⟩, h3⟩ := this
    refine ⟨fun e' => by rw [e'] at h1; simp at h1, fun d hd hd' => by rw [hd, hd'] at h2; simp at h2, h3.imp id fun h4 => ⟨fun d hd hm => ?_, fun d hd hm => ?_⟩⟩
    · have := h4.1; rw [hd] at this; simp only [Bool.not_eq_true'] at this
      rw [inB_iff.2 hm] at this; cases this
    · have := h4.2; rw [hd] at this; simp only [Bool.not_eq_true'] at this
      rw [inB_iff.2 hm] at this; cases this
theorem prev_spec {listed : Array Bool} (its : List Item) : ∀ seen, prevB listed seen (its.map fun q => (q.1, q.2.1)) = true →
    ∀ pre q post, its = pre ++ q :: post → ∀ e ∈ q.2.1.after, Region.binds .any e = true → listed.getD e.on false = true ∨ e.on ∈ seen ∨ ∃ r ∈ pre, r.1 = e.on := by
  induction its with
  | nil => intro seen _ pre q post e; cases pre <;> cases e
  | cons t r ih =>
    intro seen h pre q post e ed hed hbd
    simp only [List.map_cons, prevB, Bool.and_eq_true] at h
    cases pre with
    | nil =>
      simp only [List.nil_append, List.cons.injEq] at e
      obtain ⟨rfl, rfl⟩ := e
      have := Array.all_eq_true_iff_forall_mem.1 h.1 ed hed
      simp only [Bool.or_eq_true, Bool.not_eq_true', hbd, Bool.true_eq_false, false_or] at this
      rcases this with h1 | h1
      · exact .inl h1
      · exact .inr (.inl (inB_iff.1 h1))
    | cons p pre =>
      simp only [List.cons_append, List.cons.injEq] at e
      obtain ⟨rfl, e⟩ := e
      rcases ih _ h.2 pre q post e ed hed hbd with h1 | h1 | ⟨r', h1, h2⟩
      · exact .inl h1
      · rcases List.mem_cons.1 h1 with h1 | h1
        · exact .inr (.inr ⟨t, List.mem_cons_self .., h1.symm⟩)
        · exact .inr (.inl h1)
      · exact .inr (.inr ⟨r', List.mem_cons_of_mem _ h1, h2⟩)
theorem last_spec {oj : Oper} {its : List Item} (h : lastBB oj (its.map fun q => (q.1, q.2.1)) = true) : lastB oj its := by
  induction its with
  | nil => trivial
  | cons q r ih =>
    simp only [List.map_cons, lastBB, Bool.and_eq_true, Bool.or_eq_true] at h
    refine ⟨h.1.imp id fun h1 => ?_, ih h.2⟩
    obtain ⟨x, h2, h3⟩ := List.any_eq_true.1 h1
    obtain ⟨q', h4, rfl⟩ := List.mem_map.1 h2
    exact ⟨q', h4, h3⟩
theorem blkB_spec {listed : Array Bool} {B : List Nat} (hsz : listed.size = ops.size) (h : blkB ops listed B = true) {its : List Item} (h1 : its.map (·.1) = B) (h2 : ∀ it ∈ its, ops[it.1]? = some it.2.1) : BlkOK ops listed its := by
  unfold blkB at h
  cases hp : pick ops B with
  | none => rw [hp] at h; cases h
  | some l =>
    rw [hp] at h
    have e := pick_spec hp its h1 h2
    subst e
    simp only [Bool.and_eq_true, List.all_eq_true, List.mem_range] at h
    obtain ⟨⟨⟨h3, h4⟩, h5⟩, h6⟩ := h
    refine ⟨hsz, fun q hq => ?_, h2, pairs_spec h4, fun pre q post e ed hed hbd => ?_, fun j oj hoj hun hno => ?_⟩
    · have := h3 q.1 (by rw [← h1]; exact List.mem_map.2 ⟨q, hq, rfl⟩)
      simpa using this
    · rcases prev_spec its [] h5 pre q post e ed hed hbd with h | h | h
      · exact .inl h
      · cases h
      · exact .inr h
    · have := h6 j (Array.getElem?_eq_some_iff.1 hoj).1
      simp only [Bool.or_eq_true, hun, Bool.false_eq_true, false_or, hoj] at this
      rcases this with h7 | h7
      · rw [← h1] at h7
        obtain ⟨q, hq, hqe⟩ := List.mem_map.1 (inB_iff.1 h7)
        exact absurd hqe (hno q hq)
      · rcases h7 with h7 | h7
        · exact .inl (last_spec h7)
        · obtain ⟨j', _, h8⟩ := List.any_eq_true.1 h7
          simp only [Bool.and_eq_true, Bool.not_eq_true'] at h8
          refine .inr ⟨j', h8.1.1, h8.1.2, fun q hq e => ?_⟩
          have := inB_iff (j := j') (l := B)
          rw [h8.2] at this
          have h9 : j' ∈ B := by rw [← h1, ← e]; exact List.mem_map.2 ⟨q, hq, rfl⟩
          exact absurd (this.2 h9) (by simp)

theorem gStep_cases {o : Oper} {opl : List Oper} {known : List Nat} {run skip : List Nat → St → Prop} (hI : InvB W0 F X N s β a w) (h : gStepK N opl o known s run skip) :
    (∃ k s', InvB W0 F X N s' β a w ∧ Region.wanted o (yielded opl.toArray a.tmps) = true ∧ run k s') ∨ (∃ k s', InvB W0 F X N s' β a w ∧ Region.wanted o (yielded opl.toArray a.tmps) = false ∧ skip k s') := by
  unfold gStepK at h
  cases hg : o.guard with
  | none => rw [hg] at h; exact .inl ⟨known, s, hI, by simp [Region.wanted, hg], h⟩
  | some p =>
    obtain ⟨j, want⟩ := p
    rw [hg] at h
    obtain ⟨oj, hj, h⟩ := (nthK_iff _ _ _).1 h
    obtain ⟨d, hd, h⟩ := (optK_iff _ _).1 h
    rcases guard_ok hI hj hd h with ⟨s', h1, h2, h3⟩ | ⟨s', h1, h2, h3⟩
    · exact .inl ⟨_, s', h1, by simp [Region.wanted, hg, h2], h3⟩
    · exact .inr ⟨_, s', h1, by simp [Region.wanted, hg]; exact h2, h3⟩

theorem of_frzAll (fz : List Nat) : ∀ (s : St) (d : Nat), Nm (frzAll fz s) d → Nm s d := by
  induction fz with
  | nil => intro s d h; exact h
  | cons n r ih => intro s d h; exact (Nm.of_frz (ih _ _ h)).1
theorem not_frzAll (fz : List Nat) : ∀ (s : St) (d : Nat), d ∈ fz → ¬ Nm (frzAll fz s) d := by
  induction fz with
  | nil => intro s d h; cases h
  | cons n r ih =>
    intro s d h
    rcases List.mem_cons.1 h with rfl | h
    · intro hm; exact not_frz s d (of_frzAll r _ _ hm)
    · exact ih _ d h

theorem ot_ok (hΓ : Γ.good P) {Q' : Exit → Act → World → Prop} {full : Array Bool} {T : St} {fuel : Nat} (hfin : ∀ a w, Inv W0 F X N T a w → wpAny P .any ops Q' fuel full a w) (t : OT) :
    ∀ (n : Nat) (listed : Array Bool) (s : St) (a : Act) (w : World), okOT ops full n listed t = true → vcOT P Γ N ops.toList T t s → Inv W0 F X N s a w →
      (t = .fin → wpAny P .any ops Q' (fuel + n) listed a w) ∧ ∀ i ∈ heads t, ∃ m, n = m + 1 ∧ wpOp P ops Q' i (wpAny P .any ops Q' (fuel + m) (listed.setIfInBounds i true)) a w := by
  induction t with
  | fin =>
    intro n listed s a w h1 h ⟨β, hI⟩
    refine ⟨fun _ => ?_, fun i hi => nomatch hi⟩
    simp only [okOT, Bool.and_eq_true, decide_eq_true_eq] at h1
    have hn := Nat.eq_of_beq_eq_true h1.1
    subst hn
    rw [h1.2]
    exact hfin a w ⟨β, hI.wk h⟩
  | non =>
    intro n listed s a w h1 h hI
    exact ⟨(fun e => nomatch e), fun i hi => nomatch hi⟩
  | opt i k alt ihk iha =>
    intro n listed s a w h1 h hI
    refine ⟨(fun e => nomatch e), fun j hj => ?_⟩
    simp only [okOT, Bool.and_eq_true] at h1
    obtain ⟨hK, hA⟩ := h
    rcases List.mem_cons.1 hj with rfl | hj
    · cases n with
      | zero => exact absurd h1.1 Bool.false_ne_true
      | succ m =>
        refine ⟨m, rfl, ?_⟩
        have h1 := h1.1
        simp only [Bool.and_eq_true] at h1
        obtain ⟨o, ho, hK⟩ := (nthK_iff _ _ _).1 hK
        have ho' : ops[j]? = some o := by simpa using ho
        cases hg : o.guard with
        | some _ => unfold noGuard at hK; rw [hg] at hK; exact hK.elim
        | none =>
          unfold noGuard at hK
          rw [hg] at hK
          obtain ⟨β, hI⟩ := hI
          unfold wpOp
          rw [ho']
          show if _ then _ else _
          rw [if_pos (by simp [Region.wanted, hg])]
          refine .inl (op_ok hΓ hI hK fun s1 a1 w1 k1 hI1 => ?_)
          obtain ⟨q1, q2⟩ := ihk m _ s1 a1 w1 h1.2 k1 hI1
          cases k with
          | fin => exact q1 rfl
          | non => exact absurd h1.1 Bool.false_ne_true
          | opt i' k' alt' =>
            have hr : Region.ready .any ops (listed.setIfInBounds j true) = heads (.opt i' k' alt') := eqL_eq h1.1
            obtain ⟨m', hm, _⟩ := q2 i' (List.mem_cons_self ..)
            subst hm
            rw [← Nat.add_assoc]
            refine wpAny_all hr (by simp [heads]) fun p hp => ?_
            obtain ⟨m2, hm2, hw⟩ := q2 p hp
            obtain rfl : m' = m2 := by omega
            exact hw
    · exact (iha n listed s a w h1.2 hA hI).2 j hj
theorem plan_ok (hΓ : Γ.good P) {Q : St → Prop} {Q' : Exit → Act → World → Prop} (hQ : ∀ s a w, Q s → Inv W0 F X N s a w → Q' .normal a w) (hpan : ∀ c a a' w, Q' (.panic c) a w → Q' (.panic c) a' w) (hsel : Region.noSelect ops = true) (pl : List Ph) :
    ∀ (listed : Array Bool) (known : List Nat) (s : St) (fuel : Nat) (a : Act) (w : World), listed.size = ops.size → planB ops listed pl = true → (pl.map phLen).sum ≤ fuel →
      vcPlan P Γ N ops.toList pl known s Q → Inv W0 F X N s a w → wpAny P .any ops Q' fuel listed a w := by
  induction pl with
  | nil =>
    intro listed known s fuel a w _ h1 _ h hI
    exact wpAny_done (List.isEmpty_iff.1 h1) (hQ s a w h hI) fuel
  | cons ph r ih =>
    intro listed known s fuel a w hsz h1 h2 h ⟨β, hI⟩
    cases ph with
    | tree n S t =>
      simp only [List.map_cons, List.sum_cons, phLen] at h2
      simp only [planB, Bool.and_eq_true] at h1
      obtain ⟨T, hT, hrest⟩ := (show ∃ T : St, vcOT P Γ N ops.toList T t s ∧ vcPlan P Γ N ops.toList r known T Q from h)
      have q := ot_ok hΓ (Q' := Q') (fuel := fuel - n) (fun a w hI => ih _ _ _ _ _ _ ((setAll_size _ _).trans hsz) h1.2 (by omega) hrest hI) t n listed s a w h1.1.2 hT ⟨β, hI⟩
      rw [show fuel = fuel - n + n by omega]
      cases t with
      | fin => exact q.1 rfl
      | non => exact absurd h1.1.1 Bool.false_ne_true
      | opt i k alt =>
        have hr : Region.ready .any ops listed = heads (.opt i k alt) := eqL_eq h1.1.1
        obtain ⟨m, hm, _⟩ := q.2 i (List.mem_cons_self ..)
        rw [show fuel - n + n = (fuel - n + m) + 1 by omega]
        refine wpAny_all hr (by simp [heads]) fun p hp => ?_
        obtain ⟨m2, hm2, hw⟩ := q.2 p hp
        obtain rfl : m = m2 := by omega
        exact hw
    | take i =>
      simp only [List.map_cons, List.sum_cons, phLen] at h2
      obtain ⟨fuel, rfl⟩ : ∃ k, fuel = k + 1 := ⟨fuel - 1, by omega⟩
      simp only [planB, Bool.and_eq_true] at h1
      obtain ⟨o, ho, h⟩ := (nthK_iff _ _ _).1 h
      have ho' : ops[i]? = some o := by simpa using ho
      have go : ∀ {v u : _} {known' : List Nat} {s1 : St}, InvB W0 F X N s1 β a w → Rel β (Own X s1 β) w v u → (∀ n ∈ ids v, Nm s1 n) → stPutK N s1 o.dst v (fun s => vcPlan P Γ N ops.toList r known' s Q) → Yields P ops o u a → wpAny P .any ops Q' (fuel + 1) listed a w := by
        intro v u known' s1 hI1 hr hids hK hy
        obtain ⟨s2, k1, k2⟩ := put_ok hI1 hK hr hids
        exact wpAny_take ho' hsel h1.1.2 h1.1.1 (fun c a w h => hpan c _ _ w h) hy (ih _ _ _ _ _ _ (by simpa using hsz) h1.2 (by omega) k1 ⟨β, k2⟩)
      rcases gStep_cases hI h with ⟨k, s1, hI1, hw, h⟩ | ⟨k, s1, hI1, hw, h⟩
      · obtain ⟨v, u, k1, k2, k3, k4⟩ := val_ok_all hΓ hI1 h
        exact go hI1 k2 k3 k1 (.inl ⟨by simpa using hw, k4⟩)
      · exact go hI1 (Rel.im (undef_rel _ _)) (by intro n hn; cases hn) h (.inr ⟨by simpa using hw, rfl⟩)
    | one i =>
      simp only [List.map_cons, List.sum_cons, phLen] at h2
      obtain ⟨fuel, rfl⟩ : ∃ k, fuel = k + 1 := ⟨fuel - 1, by omega⟩
      simp only [planB, Bool.and_eq_true] at h1
      obtain ⟨o, ho, h⟩ := (nthK_iff _ _ _).1 h
      have ho' : ops[i]? = some o := by simpa using ho
      have hr : Region.ready .any ops listed = [i] := by
        have h3 := h1.1
        generalize Region.ready .any ops listed = rd at h3
        match rd with
        | [] => cases h3
        | [j] => rw [Nat.eq_of_beq_eq_true h3]
        | _ :: _ :: _ => cases h3
      refine wpAny_all hr (by simp) fun j hj => ?_
      rw [List.mem_singleton] at hj
      rw [hj]
      unfold wpOp
      rw [ho']
      show if _ then _ else _
      rcases gStep_cases hI h with ⟨k, s1, hI1, hw, h⟩ | ⟨k, s1, hI1, hw, h⟩
      · rw [if_pos (by simpa using hw)]
        exact .inl (op_ok hΓ hI1 h fun s' a' w' k1 k2 => ih _ _ _ _ _ _ (by simpa using hsz) h1.2 (by omega) k1 k2)
      · rw [if_neg (by simpa using hw)]
        obtain ⟨s2, k1, k2⟩ := putIm_ok hI1 (Stp.refl _ w) h (undef_rel _ _)
        exact ih _ _ _ _ _ _ (by simpa using hsz) h1.2 (by omega) k1 ⟨β, k2⟩
    | two i j =>
      simp only [List.map_cons, List.sum_cons, phLen] at h2
      obtain ⟨fuel, rfl⟩ : ∃ k, fuel = k + 2 := ⟨fuel - 2, by omega⟩
      simp only [planB, Bool.and_eq_true] at h1
      obtain ⟨⟨⟨hr, hri⟩, hrj⟩, h1⟩ := h1
      have hr : Region.ready .any ops listed = [i, j] := by
        generalize Region.ready .any ops listed = rd at hr
        match rd with
        | [] => cases hr
        | [_] => cases hr
        | [a, b] => simp only [Bool.and_eq_true] at hr; rw [Nat.eq_of_beq_eq_true hr.1, Nat.eq_of_beq_eq_true hr.2]
        | _ :: _ :: _ :: _ => cases hr
      have hri : Region.ready .any ops (listed.setIfInBounds i true) = [j] := by
        generalize Region.ready .any ops (listed.setIfInBounds i true) = rd at hri
        match rd with
        | [] => cases hri
        | [a] => rw [Nat.eq_of_beq_eq_true hri]
        | _ :: _ :: _ => cases hri
      have hrj : Region.ready .any ops (listed.setIfInBounds j true) = [i] := by
        generalize Region.ready .any ops (listed.setIfInBounds j true) = rd at hrj
        match rd with
        | [] => cases hrj
        | [a] => rw [Nat.eq_of_beq_eq_true hrj]
        | _ :: _ :: _ => cases hrj
      obtain ⟨T, hij, hji, hrest⟩ := (show ∃ T : St, _ ∧ _ ∧ vcPlan P Γ N ops.toList r known T Q from h)
      have hcomm : (listed.setIfInBounds j true).setIfInBounds i true = (listed.setIfInBounds i true).setIfInBounds j true := by
        by_cases hne : j = i
        · rw [hne]
        · exact Array.setIfInBounds_comm _ _ hne
      have go : ∀ {p q : Nat}, (nthK ops.toList p fun o => nthK ops.toList q fun o' => noGuard o (noGuard o' (opK P Γ N o s fun s => opK P Γ N o' s fun s => Wk s T))) →
          Region.ready .any ops (listed.setIfInBounds p true) = [q] → (listed.setIfInBounds p true).setIfInBounds q true = (listed.setIfInBounds i true).setIfInBounds j true → wpOp P ops Q' p (wpAny P .any ops Q' (fuel + 1) (listed.setIfInBounds p true)) a w := by
        intro p q hK hrq hcm
        obtain ⟨o, ho, hK⟩ := (nthK_iff _ _ _).1 hK
        obtain ⟨o', ho2, hK⟩ := (nthK_iff _ _ _).1 hK
        have ho' : ops[p]? = some o := by simpa using ho
        have ho2' : ops[q]? = some o' := by simpa using ho2
        cases hg : o.guard with
        | some _ => unfold noGuard at hK; rw [hg] at hK; exact hK.elim
        | none =>
          cases hg2 : o'.guard with
          | some _ => unfold noGuard at hK; rw [hg, hg2] at hK; exact hK.elim
          | none =>
            unfold noGuard at hK
            rw [hg, hg2] at hK
            unfold wpOp
            rw [ho']
            show if _ then _ else _
            rw [if_pos (by simp [Region.wanted, hg])]
            refine .inl (op_ok hΓ hI hK fun s1 a1 w1 k1 ⟨β1, hI1⟩ => ?_)
            refine wpAny_all hrq (by simp) fun k hk => ?_
            rw [List.mem_singleton] at hk
            subst hk
            unfold wpOp
            rw [ho2']
            show if _ then _ else _
            rw [if_pos (by simp [Region.wanted, hg2])]
            refine .inl (op_ok hΓ hI1 k1 fun s2 a2 w2 k2 ⟨β2, hI2⟩ => ?_)
            rw [hcm]
            exact ih _ _ _ _ _ _ (by simpa using hsz) h1 (by omega) hrest ⟨β2, hI2.wk k2⟩
      refine wpAny_all hr (by simp) fun k hk => ?_
      rcases List.mem_cons.1 hk with rfl | hk
      · exact go hij hri rfl
      · rw [List.mem_singleton] at hk
        subst hk
        exact go hji hrj hcomm
    | twoT i j t =>
      simp only [List.map_cons, List.sum_cons, phLen] at h2
      obtain ⟨fuel, rfl⟩ : ∃ k, fuel = k + 3 := ⟨fuel - 3, by omega⟩
      simp only [planB, Bool.and_eq_true, decide_eq_true_eq] at h1
      obtain ⟨⟨⟨⟨⟨⟨hr, ht1⟩, hr2⟩, hr3⟩, ht2⟩, hcm⟩, h1⟩ := h1
      have one : ∀ {rd : List Nat} {q : Nat}, (match rd with | [q'] => Nat.beq q q' | _ => false) = true → rd = [q] := by
        intro rd q h
        match rd with
        | [] => cases h
        | [a] => rw [Nat.eq_of_beq_eq_true h]
        | _ :: _ :: _ => cases h
      have hr : Region.ready .any ops listed = [i, j] := by
        generalize Region.ready .any ops listed = rd at hr
        match rd with
        | [] => cases hr
        | [_] => cases hr
        | [a, b] => simp only [Bool.and_eq_true] at hr; rw [Nat.eq_of_beq_eq_true hr.1, Nat.eq_of_beq_eq_true hr.2]
        | _ :: _ :: _ :: _ => cases hr
      have hr2 := one hr2
      have hr3 := one hr3
      obtain ⟨T, hA, hB, hrest⟩ := (show ∃ T : St, _ ∧ _ ∧ vcPlan P Γ N ops.toList r known T Q from h)
      have ung : ∀ {K : Oper → Oper → Oper → Prop}, (nthK ops.toList i fun o => nthK ops.toList j fun o' => nthK ops.toList t fun ot => noGuard o (noGuard o' (noGuard ot (K o o' ot)))) →
          ∃ o o' ot, ops[i]? = some o ∧ ops[j]? = some o' ∧ ops[t]? = some ot ∧ o.guard = none ∧ o'.guard = none ∧ ot.guard = none ∧ K o o' ot := by
        intro K hK
        obtain ⟨o, ho, hK⟩ := (nthK_iff _ _ _).1 hK
        obtain ⟨o', ho2, hK⟩ := (nthK_iff _ _ _).1 hK
        obtain ⟨ot, ho3, hK⟩ := (nthK_iff _ _ _).1 hK
        unfold noGuard at hK
        cases hg : o.guard with
        | some _ => rw [hg] at hK; exact hK.elim
        | none => cases hg2 : o'.guard with
          | some _ => rw [hg, hg2] at hK; exact hK.elim
          | none => cases hg3 : ot.guard with
            | some _ => rw [hg, hg2, hg3] at hK; exact hK.elim
            | none => rw [hg, hg2, hg3] at hK; exact ⟨o, o', ot, by simpa using ho, by simpa using ho2, by simpa using ho3, by first | exact hg | rfl, by first | exact hg2 | rfl, by first | exact hg3 | rfl, hK⟩
      have run : ∀ {p : Nat} {o : Oper} {s : St} {β : Nat → Option Nat} {a : Act} {w : World} {K : St → Prop} {nx : Act → World → Prop}, ops[p]? = some o → o.guard = none → InvB W0 F X N s β a w → opK P Γ N o s K → (∀ s' a' w', K s' → Inv W0 F X N s' a' w' → nx a' w') → wpOp P ops Q' p nx a w := by
        intro p o s β a w K nx ho hg hI hK hn
        unfold wpOp
        rw [ho]
        show if _ then _ else _
        rw [if_pos (by simp [Region.wanted, hg])]
        exact .inl (op_ok hΓ hI hK hn)
      have tak : ∀ {li : Array Bool} {ot : Oper} {s : St} {a : Act} {w : World} {f : Nat} {K : St → Prop}, ops[t]? = some ot → ot.guard = none → Region.free .any ops li t = true → (Region.ready .any ops li).contains t = true → Inv W0 F X N s a w →
          (valK Γ s ot.op fun v => stPutK N s ot.dst v K) → (∀ s' a' w', K s' → Inv W0 F X N s' a' w' → wpAny P .any ops Q' f (li.setIfInBounds t true) a' w') → wpAny P .any ops Q' (f + 1) li a w := by
        intro li ot s a w f K ho hg hfr hrd ⟨β, hI⟩ hK hn
        obtain ⟨v, u, k1, k2, k3, k4⟩ := val_ok_all hΓ hI hK
        obtain ⟨s2, k5, k6⟩ := put_ok hI k1 k2 k3
        exact wpAny_take ho hsel hfr hrd (fun c a w h => hpan c _ _ w h) (.inl ⟨by simp [Region.wanted, hg], k4⟩) (hn _ _ _ k5 ⟨β, k6⟩)
      have fin : ∀ s' a' w', Wk s' T → Inv W0 F X N s' a' w' → wpAny P .any ops Q' fuel (((listed.setIfInBounds i true).setIfInBounds t true).setIfInBounds j true) a' w' := fun s' a' w' k2 ⟨β2, hI2⟩ =>
        ih _ _ _ _ _ _ (by simpa using hsz) h1 (by omega) hrest ⟨β2, hI2.wk k2⟩
      refine wpAny_all hr (by simp) fun k hk => ?_
      rcases List.mem_cons.1 hk with rfl | hk
      · obtain ⟨o, o', ot, e1, e2, e3, g1, g2, g3, hK⟩ := ung hA
        refine run e1 g1 hI hK fun s1 a1 w1 k1 hI1 => ?_
        refine tak e3 g3 ht1.2 ht1.1 hI1 k1 fun s2 a2 w2 k2 ⟨β2, hI2⟩ => ?_
        refine wpAny_all hr2 (by simp) fun k hk => ?_
        rw [List.mem_singleton] at hk
        subst hk
        exact run e2 g2 hI2 k2 fun s3 a3 w3 k3 hI3 => fin _ _ _ k3 hI3
      · rw [List.mem_singleton] at hk
        subst hk
        obtain ⟨o, o', ot, e1, e2, e3, g1, g2, g3, hK⟩ := ung hB
        refine run e2 g2 hI hK fun s1 a1 w1 k1 ⟨β1, hI1⟩ => ?_
        refine wpAny_all hr3 (by simp) fun k hk => ?_
        rw [List.mem_singleton] at hk
        subst hk
        refine run e1 g1 hI1 k1 fun s2 a2 w2 k2 hI2 => ?_
        refine tak e3 g3 ht2.2 ht2.1 hI2 k2 fun s3 a3 w3 k3 hI3 => ?_
        rw [← hcm]
        exact fin _ _ _ k3 hI3
    | blk B fz =>
      simp only [List.map_cons, List.sum_cons, phLen] at h2
      simp only [planB, Bool.and_eq_true] at h1
      have h : frzAllK fz s fun s => vcBlk P Γ N fz ops.toList B known s fun s => vcPlan P Γ N ops.toList r known s Q := h
      rw [frzAllK_eq] at h
      have hI := hI.frzAll fz
      have hN0 : ∀ d ∈ fz, ¬ Nm (frzAll fz s) d := fun d hd hm => not_frzAll fz s d hd hm
      obtain ⟨its, k1, k2, k3, t, k4, k5⟩ := blk_chain B known _ h _ (Eqv.refl _)
      have hb := blkB_spec hsz h1.1.1 k1 (fun it hit => by simpa using k2 it hit)
      have hlen : its.length = B.length := by rw [← k1]; simp
      refine blk_ok hΓ hb k3 (fun q hq ⟨tt, len, ps, ho⟩ => ?_) hN0 (f := (r.map phLen).sum) (fun fuel a w hf hI => ?_) its.length fuel listed _ a w ?_ (by omega) hsz (fun _ _ => rfl) (fun q hq hl => ?_) rfl (fun x => ?_) ⟨β, hI⟩
      · have h3 := List.all_eq_true.1 h1.1.2 q.1 (by rw [← k1]; exact List.mem_map.2 ⟨q, hq, rfl⟩)
        simp only [hb.at' q hq, fzOK, ho] at h3
        cases hd : q.2.1.dst with
        | none => rw [hd] at h3; cases h3
        | some d => rw [hd] at h3; exact ⟨d, rfl, inB_iff.1 h3⟩
      · rw [k1]
        obtain ⟨β, hI⟩ := hI
        exact ih _ _ _ _ _ _ ((setAll_size _ _).trans hsz) h1.2 hf k5 ⟨β, Eqv.inv hI k4⟩
      · have : ∀ (l : List Item) p, cnt l p ≤ l.length := by
          intro l p
          induction l with
          | nil => exact Nat.le_refl _
          | cons q r ih => simp only [cnt, List.length_cons]; split <;> omega
        exact this _ _
      · have := hb.un q hq
        rw [getD_dflt (by rw [hsz]; exact (Array.getElem?_eq_some_iff.1 (hb.at' q hq)).1) true false, hl] at this
        cases this
      · refine (selL_skip fun q hq hl => ?_).symm
        have := hb.un q hq
        rw [getD_dflt (by rw [hsz]; exact (Array.getElem?_eq_some_iff.1 (hb.at' q hq)).1) true false] at this
        rw [show listed.getD q.1 false = true from hl] at this
        cases this

/-- A REGION THAT DRAWS ITS ORDER -/
theorem draw_ok (hΓ : Γ.good P) {Q : St → Prop} {Q' : Exit → Act → World → Prop} (hQ : ∀ s a w, Q s → Inv W0 F X N s a w → Q' .normal a w) {pl : List Ph} (hpl : planOK ops pl = true) {id : Nat}
    (h : vcPlan P Γ N ops.toList pl [] s Q) (hI : Inv W0 F X N s a w) : (Code.region id ops true).wp P Q' a w := by
  simp only [planOK, Bool.and_eq_true, decide_eq_true_eq] at hpl
  obtain ⟨⟨h1, h2⟩, h3⟩ := hpl
  obtain ⟨β, hI⟩ := hI
  have hdr : Inv W0 F X N s a { w with drawn := w.drawn + 1 } := ⟨β, hI.grow ⟨rfl, rfl, rfl, Nat.le_refl _, fun _ _ _ => rfl⟩⟩
  refine wp_mono (Q := fun e a w => e = .normal ∧ Q' .normal a w) (wp_region_any hΓ.mixed (plan_ok hΓ (fun s a w h hI => ⟨rfl, hQ s a w h hI⟩) (fun c a a' w h => by cases h.1) h1 pl _ [] s ops.size a _ (by simp) h2 h3 h hdr)) fun e a w ⟨e1, e2⟩ => by subst e1; exact e2
end
end Go.SX
