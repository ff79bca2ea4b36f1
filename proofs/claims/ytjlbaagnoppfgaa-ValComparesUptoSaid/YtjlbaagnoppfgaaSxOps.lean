/-
  The operations that compute values and leave the world alone: conditions, and that they suffice.
-/
import Derived.Test.YtjlbaagnoppfgaaSxVc
namespace Go.SX
set_option linter.unusedSectionVars false
variable [Globs]

/-- a field takes cells; where it takes one, it is no struct and no array -/
def fieldOk (P : Program) (f : Field) : Bool :=
  P.cellsOf f.type != 0 && (P.info? f.type).isSome && (P.cellsOf f.type != 1 || match P.underlying f.type with
    | some (.struct _) => false
    | some (.array _ _) => false
    | none => false
    | _ => true)
theorem fieldOk_spec {P : Program} {f : Field} (h : fieldOk P f = true) : P.cellsOf f.type ≠ 0 ∧ (∃ i, P.info? f.type = some i) ∧ (P.cellsOf f.type = 1 → ∀ w : World, (isAgg f.type).run P w = .ok false w) := by
  simp only [fieldOk, Bool.and_eq_true, bne_iff_ne, Bool.or_eq_true] at h
  obtain ⟨⟨h1, h2⟩, h3⟩ := h
  refine ⟨h1, Option.isSome_iff_exists.1 h2, fun e w => ?_⟩
  rcases h3 with h3 | h3
  · exact absurd e h3
  · cases hu : P.underlying f.type with
    | none => rw [hu] at h3; cases h3
    | some d => rw [hu] at h3; cases d <;> first | (cases h3; done) | simp [isAgg, run_underlying hu]
/-- what the tables say of a type -/
def TD.ok (P : Program) (d : TypeDesc) : TD → Prop
  | .struct fl => ∃ fs : Array Field, d = .struct fs ∧ fs.toList.map (fun f => (f.offset, P.cellsOf f.type)) = fl ∧ fs.toList.all (fieldOk P) = true
  | .slice e => d = .slice e
  | .int k => d = .int k
  | .str => d = .string
  | .bool => d = .bool
  | .arr n e => d = .array n e
  | .mp k e => d = .map k e
  | .other => (∀ fs, d ≠ .struct fs) ∧ ∀ n e, d ≠ .array n e
def ekOf (P : Program) (f : Field) : Option EK :=
  bif f.name == "_" then none else match P.underlying f.type with
    | some (.int _) => some .int
    | some .string => some .str
    | some .bool => some .bool
    | _ => none
def eqOK (P : Program) (t : TypeId) (eqs : List EK) : Bool :=
  eqs.isEmpty || match P.underlying t with
    | some (.struct fs) => !P.stoodInHeld t && !P.eqGuardType P.depth t && decide (fs.toList.map (ekOf P) = eqs.map some)
    | _ => false

structure TI.ok (P : Program) (t : TypeId) (ti : TI) : Prop where
  info : ∃ i z, P.info? t = some i ∧ i.size = ti.cells ∧ i.bytes = ti.bytes ∧ i.zero = some z ∧ z.cells = ti.zero.toArray
  desc : ∃ d, P.underlying t = some d ∧ ti.desc.ok P d
  eqs : eqOK P t ti.eqs = true
  one : isStruct ti.desc = false → ∃ i, P.info? t = some i ∧ i.zero = ti.zero.head?
def Ctx.ok (P : Program) (Γ : Ctx) : Prop := ∀ p ∈ Γ, p.2.ok P p.1
theorem tiK_mem {Γ : Ctx} {t : Nat} {K : TI → Prop} (h : tiK Γ t K) : ∃ ti : TI, (t, ti) ∈ Γ ∧ K ti := by
  induction Γ with
  | nil => exact h.elim
  | cons p r ih =>
    obtain ⟨m, u⟩ := p
    simp only [tiK] at h
    by_cases e : m = t
    · subst e; simp only [Nat.beq_refl, cond_true] at h; exact ⟨u, List.mem_cons_self .., h⟩
    · rw [nbeq_ne e] at h
      obtain ⟨ti, h1, h2⟩ := ih h
      exact ⟨ti, List.mem_cons_of_mem _ h1, h2⟩
theorem tiK_ok {P : Program} {Γ : Ctx} (hΓ : Γ.ok P) {t : Nat} {K : TI → Prop} (h : tiK Γ t K) : ∃ ti : TI, ti.ok P t ∧ K ti := by
  obtain ⟨ti, h1, h2⟩ := tiK_mem h
  exact ⟨ti, hΓ _ h1, h2⟩
theorem TI.ok.sizeOf {P : Program} {t : Nat} {ti : TI} (h : ti.ok P t) (w : World) : (sizeOf t).run P w = .ok ti.cells w := by
  obtain ⟨i, z, h1, h2, _⟩ := h.info
  simp [Go.sizeOf, typeInfo, h1, h2]
theorem TI.ok.cellsOf {P : Program} {t : Nat} {ti : TI} (h : ti.ok P t) : P.cellsOf t = ti.cells := by
  obtain ⟨i, z, h1, h2, _⟩ := h.info
  simp [Program.cellsOf, h1, h2]
theorem TI.ok.zeroValue {P : Program} {t : Nat} {ti : TI} (h : ti.ok P t) (w : World) : ∃ z, (zeroValue t).run P w = .ok z w ∧ z.cells = ti.zero.toArray := by
  obtain ⟨i, z, h1, h2, h3, h4, h5⟩ := h.info
  exact ⟨z, by simp [Go.zeroValue, typeInfo, h1, h4], h5⟩

section
variable {P : Program} {N : Nat}

theorem wp_val {o : Oper} {a : Act} {w w' : World} {next : Act → World → Prop} {Q : Exit → Act → World → Prop} {u : Value} (hrun : (execOp a.eval o).run P w = .ok (.value u) w') (h : next (a.put o.dst u) w') : o.wp P a w next Q := by
  unfold Oper.wp; rw [hrun]; exact h
theorem wp_skp {o : Oper} {a : Act} {w w' : World} {next : Act → World → Prop} {Q : Exit → Act → World → Prop} (hrun : (execOp a.eval o).run P w = .ok .skip w') (h : next (a.put o.dst undef) w') : o.wp P a w next Q := by
  unfold Oper.wp; rw [hrun]; exact h

def OpOK (P : Program) (N : Nat) (o : Oper) (s : St) (K : St → Prop) : Prop :=
  ∀ (W0 : World) (F : Fr) (X : Nat → Prop) (β : Nat → Option Nat) (a : Act) (w : World) (next : Act → World → Prop) (Q : Exit → Act → World → Prop), InvB W0 F X N s β a w →
    (∀ s' a' w', K s' → Inv W0 F X N s' a' w' → next a' w') → o.wp P a w next Q

section
variable {W0 : World} {F : Fr} {X : Nat → Prop} {s : St} {β : Nat → Option Nat} {a : Act} {w : World}

theorem ofVal_im (O : Nat → Prop) (w : World) (v : Value) : Im O w (ofVal v) v := by
  cases v with
  | int k n => exact .i k n
  | bool b => exact .b b
  | string s =>
    simp only [ofVal]
    cases h : Nat.ble s.data.toList.length 1000000 with
    | false => exact .x _
    | true =>
      have hl := Nat.le_of_ble_eq_true h
      have := Im.s (O := O) (w := w) s.data.toList (by unfold maxLen; omega)
      simpa using this
  | slice a l c =>
    cases a with
    | some a => exact .x _
    | none => cases l with
      | succ l => exact .x _
      | zero => cases c with
        | succ c => exact .x _
        | zero => exact .nl
  | _ => exact .x _

theorem ev_rel (h : InvB W0 F X N s β a w) (x : Operand) : Rel β (Own X s β) w (ev s x) (a.eval x) ∧ ∀ n ∈ ids (ev s x), Nm s n := by
  cases x with
  | tmp t => exact ⟨h.slots t, fun n hn => .inr (.inl ⟨t, hn⟩)⟩
  | const v => exact ⟨Rel.im (ofVal_im _ _ _), by rw [show ev s (.const v) = ofVal v from rfl, (ofVal_im (fun _ => False) w v).ids_nil]; intro n hn; cases hn⟩
  | global g => exact ⟨Rel.x, by intro n hn; cases hn⟩
  | func f => exact ⟨⟨[], rfl, All2.nil _⟩, by intro n hn; simp [ev, ids] at hn⟩
theorem evs_rel (h : InvB W0 F X N s β a w) (l : List Operand) : All2 (Rel β (Own X s β) w) (evs s l) (l.map a.eval) ∧ ∀ c ∈ evs s l, ∀ n ∈ ids c, Nm s n := by
  induction l with
  | nil => exact ⟨All2.nil _, by simp [evs]⟩
  | cons x r ih =>
    refine ⟨All2.cons (ev_rel h x).1 ih.1, fun c hc => ?_⟩
    rcases List.mem_cons.1 hc with rfl | hc
    · exact (ev_rel h x).2
    · exact ih.2 c hc

theorem put_ok (h : InvB W0 F X N s β a w) {d : Option Nat} {v : AV} {u : Value} {K : St → Prop} (hK : stPutK N s d v K) (hr : Rel β (Own X s β) w v u) (hids : ∀ n ∈ ids v, Nm s n) :
    ∃ s', K s' ∧ InvB W0 F X N s' β (a.put d u) w := by
  cases d with
  | none => exact ⟨s, hK, h⟩
  | some d =>
    rw [stPutK_some] at hK
    by_cases hd : d < N
    · rw [show Nat.blt d N = true from by rw [Nat.blt_eq]; exact hd, cond_true] at hK
      exact ⟨s.put d v, hK, h.put hd hr hids⟩
    · rw [show Nat.blt d N = false from by rw [← Bool.not_eq_true, Nat.blt_eq]; exact hd] at hK
      exact hK.elim
theorem putIm_ok (h : InvB W0 F X N s β a w) {d : Option Nat} {v : AV} {u : Value} {K : St → Prop} {w' : World} (hs : Stp (fun _ => False) w w') (hK : stPutK N s d v K) (hr : Im (Own X s β) w' v u) :
    ∃ s', K s' ∧ InvB W0 F X N s' β (a.put d u) w' := by
  have h' := h.grow hs
  exact put_ok h' hK (Rel.im hr) (by rw [hr.ids_nil]; intro n hn; cases hn)

/-- an operation that yields a value in the world as it is -/
theorem val_ok (h : InvB W0 F X N s β a w) {o : Oper} {v : AV} {u : Value} {K : St → Prop} {next : Act → World → Prop} {Q : Exit → Act → World → Prop} (hK : stPutK N s o.dst v K)
    (hn : ∀ s' a' w', K s' → Inv W0 F X N s' a' w' → next a' w') (hrun : (execOp a.eval o).run P w = .ok (.value u) w) (hr : Rel β (Own X s β) w v u) (hids : ∀ n ∈ ids v, Nm s n) : o.wp P a w next Q := by
  obtain ⟨s', h1, h2⟩ := put_ok h hK hr hids
  exact wp_val hrun (hn _ _ _ h1 ⟨β, h2⟩)
theorem valIm_ok (h : InvB W0 F X N s β a w) {o : Oper} {v : AV} {u : Value} {K : St → Prop} {next : Act → World → Prop} {Q : Exit → Act → World → Prop} {w' : World} (hs : Stp (fun _ => False) w w') (hK : stPutK N s o.dst v K)
    (hn : ∀ s' a' w', K s' → Inv W0 F X N s' a' w' → next a' w') (hrun : (execOp a.eval o).run P w = .ok (.value u) w') (hr : Im (Own X s β) w' v u) : o.wp P a w next Q := by
  obtain ⟨s', h1, h2⟩ := putIm_ok h hs hK hr
  exact wp_val hrun (hn _ _ _ h1 ⟨β, h2⟩)

/-- what a concrete value is, by its abstract one -/
theorem Rel.inv_i {k : IntKind} {n : Int} {v : Value} (h : Rel β (Own X s β) w (.i k n) v) : v = .int k n := by cases (show Im _ _ _ _ from h); rfl
theorem Rel.inv_b {x : Bool} {v : Value} (h : Rel β (Own X s β) w (.b x) v) : v = .bool x := by cases (show Im _ _ _ _ from h); rfl
theorem Rel.inv_s {l : Str} {v : Value} (h : Rel β (Own X s β) w (.s l) v) : v = .string ⟨l.toArray⟩ ∧ l.length ≤ maxLen := by
  cases (show Im _ _ _ _ from h) with
  | s _ hl => exact ⟨rfl, hl⟩
theorem Rel.inv_nl {v : Value} (h : Rel β (Own X s β) w .nl v) : v = .slice none 0 0 := by cases (show Im _ _ _ _ from h); rfl
theorem Rel.inv_rd {τ : Ty} {l : List (den τ)} {v : Value} (h : Rel β (Own X s β) w (.rd τ l) v) : ∃ a c, v = .slice a l.length c ∧ l.length ≤ c ∧ c ≤ maxLen := by
  cases (show Im _ _ _ _ from h) with
  | rd0 _ a c hc => exact ⟨a, c, rfl, by simp, hc⟩
  | rd _ _ g o c u _ h1 h2 => exact ⟨_, c, rfl, h1, h2⟩
end

/-- the binary operations -/
theorem rng_wrap {k : IntKind} {n : Int} (h : Rng k n) : k.wrap n = n := by
  cases k <;> simp only [Rng] at h
  · rw [IntKind.wrap_i32]; omega
  · rw [IntKind.wrap_i64]; omega
  · rw [IntKind.wrap_u8]; omega
  · rw [IntKind.wrap_u16]; omega
  · rw [IntKind.wrap_u32]; omega
  · rw [IntKind.wrap_u64]; omega

theorem arith_run {k : IntKind} {n : Int} {K : AV → Prop} (h : arithK k n K) : ∃ m, K (.i k m) ∧ m = k.wrap n := by
  unfold arithK at h
  cases hk : k.signed with
  | true => rw [hk] at h; exact ⟨n, h.2, (rng_wrap h.1).symm⟩
  | false => rw [hk] at h; exact ⟨_, h, rfl⟩

theorem bin_run (op : BinOp) {av bv : AV} {K : AV → Prop} (h : binK op av bv K) {X : Nat → Prop} {β : Nat → Option Nat} {s : St} {w : World} {u v : Value} (hu : Rel β (Own X s β) w av u) (hv : Rel β (Own X s β) w bv v)
    (t : TypeId) (x y : Operand) : ∃ r z, K r ∧ Im (Own X s β) w r z ∧ ∀ w' : World, (do eqGuard op t x y u v; binOp op t u v : Sem Value).run P w' = .ok z w' := by
  cases av with
  | i k a =>
    cases bv with
    | i k' c =>
      obtain rfl := hu.inv_i
      obtain rfl := hv.inv_i
      have hshift : ∀ {m : Int}, K (.i k m) → (∀ w' : World, (do eqGuard op t x y (.int k a) (.int k' c); binOp op t (.int k a) (.int k' c) : Sem Value).run P w' = .ok (.int k m) w') →
          ∃ r z, K r ∧ Im (Own X s β) w r z ∧ ∀ w' : World, (do eqGuard op t x y (.int k a) (.int k' c); binOp op t (.int k a) (.int k' c) : Sem Value).run P w' = .ok z w' :=
        fun hK hr => ⟨_, _, hK, .i k _, hr⟩
      have hb : ∀ {b : Bool}, K (.b b) → (∀ w' : World, (do eqGuard op t x y (.int k a) (.int k' c); binOp op t (.int k a) (.int k' c) : Sem Value).run P w' = .ok (.bool b) w') →
          ∃ r z, K r ∧ Im (Own X s β) w r z ∧ ∀ w' : World, (do eqGuard op t x y (.int k a) (.int k' c); binOp op t (.int k a) (.int k' c) : Sem Value).run P w' = .ok z w' :=
        fun hK hr => ⟨_, _, hK, .b _, hr⟩
      by_cases hk : k = k'
      case neg =>
        cases op <;> simp only [binK, hk, decide_false, cond_false] at h
        · exact hshift h.2 (fun w' => by simp [eqGuard, binOp, Op.shift, show ¬ c < 0 from by omega])
        · exact hshift h.2 (fun w' => by simp [eqGuard, binOp, Op.shift, show ¬ c < 0 from by omega])
      case pos =>
      subst hk
      cases op <;> simp only [binK, decide_true, cond_true, intBinK] at h
      case add => obtain ⟨m, h1, rfl⟩ := arith_run h; exact hshift h1 (fun w' => by simp [eqGuard, binOp, Op.intArith])
      case sub => obtain ⟨m, h1, rfl⟩ := arith_run h; exact hshift h1 (fun w' => by simp [eqGuard, binOp, Op.intArith])
      case mul => obtain ⟨m, h1, rfl⟩ := arith_run h; exact hshift h1 (fun w' => by simp [eqGuard, binOp, Op.intArith])
      case quo => exact hshift h.2.2 (fun w' => by simp [eqGuard, binOp, Op.intDiv, h.1, rng_wrap h.2.1])
      case rem => exact hshift h.2 (fun w' => by simp [eqGuard, binOp, Op.intDiv, h.1])
      case and => exact hshift h (fun w' => by simp [eqGuard, binOp, intBits_and])
      case or => exact hshift h (fun w' => by simp [eqGuard, binOp, intBits_or])
      case xor => exact hshift h (fun w' => by simp [eqGuard, binOp, intBits_xor])
      case andNot => exact hshift h (fun w' => by simp [eqGuard, binOp, Op.intBits, bits])
      case shl => exact hshift h.2 (fun w' => by simp [eqGuard, binOp, Op.shift, show ¬ c < 0 from by omega])
      case shr => exact hshift h.2 (fun w' => by simp [eqGuard, binOp, Op.shift, show ¬ c < 0 from by omega])
      case eql => exact hb h (fun w' => by simp [eqGuard, binOp, Op.intCmp])
      case neq => exact hb h (fun w' => by simp [eqGuard, binOp, Op.intCmp])
      case lss => exact hb h (fun w' => by simp [eqGuard, binOp, Op.intCmp])
      case leq => exact hb h (fun w' => by simp [eqGuard, binOp, Op.intCmp])
      case gtr => exact hb h (fun w' => by simp [eqGuard, binOp, Op.intCmp])
      case geq => exact hb h (fun w' => by simp [eqGuard, binOp, Op.intCmp])
    | _ => exact h.elim
  | s a =>
    cases bv with
    | s c =>
      obtain ⟨rfl, ha⟩ := hu.inv_s
      obtain ⟨rfl, hc⟩ := hv.inv_s
      have hb : ∀ {b : Bool}, K (.b b) → (∀ w' : World, (do eqGuard op t x y (.string ⟨a.toArray⟩) (.string ⟨c.toArray⟩); binOp op t (.string ⟨a.toArray⟩) (.string ⟨c.toArray⟩) : Sem Value).run P w' = .ok (.bool b) w') →
          ∃ r z, K r ∧ Im (Own X s β) w r z ∧ ∀ w' : World, (do eqGuard op t x y (.string ⟨a.toArray⟩) (.string ⟨c.toArray⟩); binOp op t (.string ⟨a.toArray⟩) (.string ⟨c.toArray⟩) : Sem Value).run P w' = .ok z w' :=
        fun hK hr => ⟨_, _, hK, .b _, hr⟩
      have hsz : ∀ l : Str, (ByteArray.mk l.toArray).size = l.length := fun l => by simp [ByteArray.size]
      cases op <;> simp only [binK, strBinK] at h
      case add =>
        have hle : ¬ ((((ByteArray.mk a.toArray).size + (ByteArray.mk c.toArray).size : Nat) : Int) > IntKind.i64.max) := by
          rw [hsz, hsz]
          have : IntKind.i64.max = 9223372036854775807 := rfl
          rw [this]
          have := h.1
          unfold maxLen at this
          omega
        refine ⟨_, .string (⟨a.toArray⟩ ++ ⟨c.toArray⟩), h.2, ?_, ?_⟩
        · have := Im.s (O := Own X s β) (w := w) (a ++ c) (by simpa using h.1)
          have e : (ByteArray.mk a.toArray ++ ByteArray.mk c.toArray) = ByteArray.mk (a ++ c).toArray := by
            apply ByteArray.ext
            simp
          rw [e]; exact this
        · intro w'
          simp only [eqGuard, binOp, Op.stringOp, if_neg hle]
          simp
      case eql => exact hb h (fun w' => by simp [eqGuard, binOp, Op.stringOp])
      case neq => exact hb h (fun w' => by simp [eqGuard, binOp, Op.stringOp])
      case lss => exact hb h (fun w' => by simp [eqGuard, binOp, Op.stringOp])
      case leq => exact hb h (fun w' => by simp [eqGuard, binOp, Op.stringOp])
      case gtr => exact hb h (fun w' => by simp [eqGuard, binOp, Op.stringOp])
      case geq => exact hb h (fun w' => by simp [eqGuard, binOp, Op.stringOp])
    | _ => exact h.elim
  | _ => exact h.elim
end
end Go.SX
