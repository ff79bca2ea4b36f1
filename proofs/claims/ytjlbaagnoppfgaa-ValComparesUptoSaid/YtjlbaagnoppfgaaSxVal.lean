/-
  The value operations: the conditions suffice.
-/
import Derived.Test.YtjlbaagnoppfgaaSxEq
namespace Go.SX
set_option linter.unusedSectionVars false
variable [Globs]
section
variable {P : Program} {N : Nat} {Γ : Ctx} {W0 : World} {F : Fr} {X : Nat → Prop} {s : St} {β : Nat → Option Nat} {a : Act} {w : World}

/-- what a value operation comes to -/
def ValOK (P : Program) (X : Nat → Prop) (s : St) (β : Nat → Option Nat) (a : Act) (w : World) (o : Oper) (K : AV → Prop) : Prop :=
  ∃ v u, K v ∧ Rel β (Own X s β) w v u ∧ (∀ n ∈ ids v, Nm s n) ∧ ∀ w' : World, (execOp a.eval o).run P w' = .ok (.value u) w'
/-- the same of a load, in the world at hand -/
def LoadOK (P : Program) (X : Nat → Prop) (s : St) (β : Nat → Option Nat) (a : Act) (w : World) (o : Oper) (K : AV → Prop) : Prop :=
  ∃ v u, K v ∧ Rel β (Own X s β) w v u ∧ (∀ n ∈ ids v, Nm s n) ∧ (execOp a.eval o).run P w = .ok (.value u) w

theorem ValOK.im {o : Oper} {K : AV → Prop} {v : AV} {u : Value} (hK : K v) (hr : Im (Own X s β) w v u) (hrun : ∀ w' : World, (execOp a.eval o).run P w' = .ok (.value u) w') : ValOK P X s β a w o K :=
  ⟨v, u, hK, Rel.im hr, (fun n hn => by rw [hr.ids_nil] at hn; cases hn), hrun⟩

theorem LoadOK.im {o : Oper} {K : AV → Prop} {v : AV} {u : Value} (hK : K v) (hr : Im (Own X s β) w v u) (hrun : (execOp a.eval o).run P w = .ok (.value u) w) : LoadOK P X s β a w o K :=
  ⟨v, u, hK, Rel.im hr, (fun n hn => by rw [hr.ids_nil] at hn; cases hn), hrun⟩

theorem Rel.inv_agg {cs : List AV} {v : Value} (h : Rel β (Own X s β) w (.agg cs) v) : ∃ vs : List Value, v = .agg vs.toArray ∧ All2 (Im (Own X s β) w) cs vs ∧ ∀ u ∈ vs, u.oneCell' = true := by
  cases (show Im _ _ _ _ from h) with
  | agg _ vs h1 h0 h2 => exact ⟨vs, rfl, ⟨h1, h2⟩, h0⟩
theorem Rel.inv_tup {cs : List AV} {v : Value} (h : Rel β (Own X s β) w (.tup cs) v) : ∃ vs : List Value, v = .tuple vs.toArray ∧ All2 (Rel0 β (Own X s β) w) cs vs := h
theorem Rel0.ids {c : AV} {u : Value} (hr : Rel0 β (Own X s β) w c u) {n : Nat} (h : n ∈ SX.ids c) : n ∈ ids0 c := by
  cases c with
  | fn f caps => rw [Im.ids_nil (show Im _ _ _ _ from hr)] at h; cases h
  | tup cs => rw [Im.ids_nil (show Im _ _ _ _ from hr)] at h; cases h
  | ag cs => rw [Im.ids_nil (show Im _ _ _ _ from hr)] at h; cases h
  | _ => exact h

theorem add_none (g o n : Nat) : (⟨g, o, none⟩ : Addr).add n = ⟨g, o + n, none⟩ := by
  unfold Addr.add
  split
  · rename_i h; subst h; rfl
  · rfl

theorem un_run (op : UnOp) {av : AV} {K : AV → Prop} (h : unK op av K) {u : Value} (hu : Rel β (Own X s β) w av u) : ∃ r z, K r ∧ Im (Own X s β) w r z ∧ ∀ w' : World, (Op.unary op u).run P w' = .ok z w' := by
  cases av with
  | b x =>
    obtain rfl := hu.inv_b
    cases op <;> simp only [unK] at h
    exact ⟨_, _, h, .b _, fun w' => by simp [Op.unary]⟩
  | i k n =>
    obtain rfl := hu.inv_i
    cases op <;> simp only [unK] at h
    · obtain ⟨m, h1, rfl⟩ := arith_run h
      exact ⟨_, _, h1, .i k _, fun w' => by simp [Op.unary, Op.intArith]⟩
    · exact ⟨_, _, h, .i k _, fun w' => by simp [Op.unary, intBits_xor]⟩
  | _ => exact h.elim

theorem fl_at {fs : Array Field} {fl : List (Nat × Nat)} (h : fs.toList.map (fun f => (f.offset, P.cellsOf f.type)) = fl) {f : Nat} {d : Nat × Nat} (hd : fl[f]? = some d) :
    ∃ fd, fs[f]? = some fd ∧ fd ∈ fs ∧ fd.offset = d.1 ∧ P.cellsOf fd.type = d.2 := by
  subst h
  rw [List.getElem?_map, Option.map_eq_some_iff] at hd
  obtain ⟨fd, h1, rfl⟩ := hd
  refine ⟨fd, by simpa using h1, ?_, rfl, rfl⟩
  have := List.mem_of_getElem? h1
  simpa using this

theorem struct_ok {t : Nat} {ti : TI} (hti : ti.ok P t) {K : List (Nat × Nat) → Prop} (h : structK ti.desc K) :
    ∃ fl fs, K fl ∧ P.underlying t = some (.struct fs) ∧ fs.toList.map (fun f => (f.offset, P.cellsOf f.type)) = fl ∧ ∀ f ∈ fs, fieldOk P f = true := by
  obtain ⟨de, h1, h2⟩ := hti.desc
  cases hd : ti.desc with
  | struct fl =>
    rw [hd] at h h2
    obtain ⟨fs, rfl, h3, h4⟩ := (show ∃ fs : Array Field, de = .struct fs ∧ fs.toList.map (fun f => (f.offset, P.cellsOf f.type)) = fl ∧ fs.toList.all (fieldOk P) = true from h2)
    exact ⟨fl, fs, h, h1, h3, fun f hf => List.all_eq_true.1 h4 f (by simpa using hf)⟩
  | _ => rw [hd] at h; exact h.elim
theorem slice_ok {t : Nat} {ti : TI} (hti : ti.ok P t) {K : Nat → Prop} (h : sliceTK ti.desc K) : ∃ e, K e ∧ P.underlying t = some (.slice e) := by
  obtain ⟨de, h1, h2⟩ := hti.desc
  cases hd : ti.desc with
  | slice e => rw [hd] at h h2; exact ⟨e, h, (show de = .slice e from h2) ▸ h1⟩
  | _ => rw [hd] at h; exact h.elim
theorem str_ok {t : Nat} {ti : TI} (hti : ti.ok P t) (h : isStrT ti.desc = true) : P.underlying t = some .string := by
  obtain ⟨de, h1, h2⟩ := hti.desc
  cases hd : ti.desc with
  | str => rw [hd] at h2; exact (show de = .string from h2) ▸ h1
  | _ => rw [hd] at h; cases h
theorem bool_ok {t : Nat} {ti : TI} (hti : ti.ok P t) (h : isBoolT ti.desc = true) : P.underlying t = some .bool := by
  obtain ⟨de, h1, h2⟩ := hti.desc
  cases hd : ti.desc with
  | bool => rw [hd] at h2; exact (show de = .bool from h2) ▸ h1
  | _ => rw [hd] at h; cases h
theorem agg_ok {t : Nat} {ti : TI} (hti : ti.ok P t) (w : World) : (isAgg t).run P w = .ok (isStruct ti.desc) w := by
  obtain ⟨de, h1, h2⟩ := hti.desc
  cases hd : ti.desc with
  | struct fl => rw [hd] at h2; obtain ⟨fs, rfl, _⟩ := h2; simp [isAgg, run_underlying h1, isStruct]
  | slice e => rw [hd] at h2; obtain rfl := (show de = .slice e from h2); simp [isAgg, run_underlying h1, isStruct]
  | int k => rw [hd] at h2; obtain rfl := (show de = .int k from h2); simp [isAgg, run_underlying h1, isStruct]
  | str => rw [hd] at h2; obtain rfl := (show de = .string from h2); simp [isAgg, run_underlying h1, isStruct]
  | bool => rw [hd] at h2; obtain rfl := (show de = .bool from h2); simp [isAgg, run_underlying h1, isStruct]
  | arr n e => rw [hd] at h2; obtain rfl := (show de = .array n e from h2); simp [isAgg, run_underlying h1, isStruct]
  | mp k e => rw [hd] at h2; obtain rfl := (show de = .map k e from h2); simp [isAgg, run_underlying h1, isStruct]
  | other =>
    rw [hd] at h2
    have h2 := (show (∀ fs, de ≠ .struct fs) ∧ ∀ n e, de ≠ .array n e from h2)
    cases de <;> first | exact absurd rfl (h2.1 _) | exact absurd rfl (h2.2 _ _) | simp [isAgg, run_underlying h1, isStruct]

theorem fieldAt_run {t f : Nat} {fs : Array Field} (hu : P.underlying t = some (.struct fs)) {fl : List (Nat × Nat)} (h3 : fs.toList.map (fun f => (f.offset, P.cellsOf f.type)) = fl)
    (h4 : ∀ f ∈ fs, fieldOk P f = true) {d : Nat × Nat} (hf : fl[f]? = some d) (g o : Nat) (w : World) :
    (Instr.fieldAt t (.pointer (some ⟨g, o, none⟩)) f).run P w = .ok (.pointer (some ⟨g, o + d.1, none⟩)) w := by
  obtain ⟨fd, h5, h6, h7, h8⟩ := fl_at h3 hf
  obtain ⟨h9, ⟨i, hi⟩, _⟩ := fieldOk_spec (h4 fd h6)
  have hsz : (sizeOf fd.type).run P w = .ok (P.cellsOf fd.type) w := by simp [sizeOf, typeInfo, hi, Program.cellsOf]
  have h10 : P.cellsOf fd.type ≠ 0 := h9
  simp [Instr.fieldAt, run_underlying hu, h5, Instr.sureAddr, fieldPlace, hsz, h10, add_none, h7]

theorem int_ok {v : AV} {K : Int → Prop} (h : intK v K) {u : Value} (hr : Rel β (Own X s β) w v u) : ∃ k n, u = .int k n ∧ K n := by
  cases v with
  | i k n => exact ⟨k, n, hr.inv_i, h⟩
  | _ => exact h.elim
theorem bound_ok (hI : InvB W0 F X N s β a w) {x : Option Operand} {d : Int} {K : Int → Prop} (h : boundK s x d K) :
    (x = none ∧ K d) ∨ ∃ y k n, x = some y ∧ a.eval y = .int k n ∧ K n := by
  cases x with
  | none => exact .inl ⟨rfl, h⟩
  | some y =>
    have h : evK s y fun v => intK v K := h
    rw [evK_eq] at h
    obtain ⟨k, n, h1, h2⟩ := int_ok h (ev_rel hI y).1
    exact .inr ⟨y, k, n, rfl, h1, h2⟩

theorem pick_ok (hI : InvB W0 F X N s β a w) {o : Oper} {c x y : Operand} (ho : o.op = .pick c x y) {K : AV → Prop} (h : pickK (ev s c) (ev s x) (ev s y) K) : ValOK P X s β a w o K := by
  have hc := (ev_rel hI c).1
  have hx := ev_rel hI x
  have hy := ev_rel hI y
  cases hcv : ev s c with
  | b t =>
    rw [hcv] at h hc
    have hc' := hc.inv_b
    have hrun : ∀ w' : World, (execOp a.eval o).run P w' = .ok (.value (if t then a.eval x else a.eval y)) w' := by
      intro w'; simp [execOp, ho, hc', asBool]
    have hsplit : (bif t then K (ev s x) else K (ev s y)) → ValOK P X s β a w o K := by
      intro h
      cases t with
      | true => exact ⟨_, _, h, hx.1, hx.2, fun w' => by rw [hrun]; rfl⟩
      | false => exact ⟨_, _, h, hy.1, hy.2, fun w' => by rw [hrun]; rfl⟩
    cases hxv : ev s x with
    | b p =>
      cases hyv : ev s y with
      | b q =>
        rw [hxv, hyv] at h
        rw [hxv] at hx; rw [hyv] at hy
        refine .im (show K (.b (bif t then p else q)) from h) (.b _) fun w' => ?_
        rw [hrun, hx.1.inv_b, hy.1.inv_b]
        cases t <;> rfl
      | _ => rw [hxv, hyv] at h hsplit; exact hsplit h
    | _ => rw [hxv] at h hsplit; exact hsplit h
  | _ => rw [hcv] at h; exact h.elim

theorem run_bool_eq {t : TypeId} (hu : P.underlying t = some .bool) (p q : Bool) (w : World) (x y : Operand) :
    (do eqGuard .eql t x y (.bool p) (.bool q); binOp .eql t (.bool p) (.bool q) : Sem Value).run P w = .ok (.bool (p == q)) w ∧
    (do eqGuard .neq t x y (.bool p) (.bool q); binOp .neq t (.bool p) (.bool q) : Sem Value).run P w = .ok (.bool (!(p == q))) w := by
  have h : ∀ d : Nat, (Op.equalIn (d + 1) t (.bool p) (.bool q)).run P w = .ok (p == q) w := fun d => by simp [Op.equalIn, run_underlying hu]
  refine ⟨?_, ?_⟩
  · simp only [eqGuard, binOp]
    simp [Op.equal, Op.maxDepth, h 9999]
  · simp only [eqGuard, binOp]
    simp [Op.equal, Op.maxDepth, h 9999]

theorem bin_ok (hΓ : Γ.ok P) (hI : InvB W0 F X N s β a w) {o : Oper} {op : BinOp} {t ty : TypeId} {x y : Operand} (ho : o.op = .binOp op t x y ty) {K : AV → Prop} (h : binTK Γ op t (ev s x) (ev s y) K) : ValOK P X s β a w o K := by
  have hx := (ev_rel hI x).1
  have hy := (ev_rel hI y).1
  have hgen : binK op (ev s x) (ev s y) K → ValOK P X s β a w o K := by
    intro h
    obtain ⟨r, z, h1, h2, h3⟩ := bin_run op h hx hy t x y (P := P)
    refine .im h1 h2 fun w' => ?_
    have h3 := h3 w'
    simp only [execOp, ho]
    simp only [Sem.run_bind] at h3 ⊢
    rw [h3]
    rfl
  cases hxv : ev s x with
  | b p =>
    cases hyv : ev s y with
    | b q =>
      rw [hxv, hyv] at h
      rw [hxv] at hx; rw [hyv] at hy
      obtain ⟨ti, hti, h⟩ := tiK_ok hΓ (show tiK Γ t fun ti => chkK (isBoolT ti.desc) (boolBinK op p q K) from h)
      rw [chkK_iff] at h
      have hu := bool_ok hti h.1
      have h := h.2
      cases op <;> simp only [boolBinK] at h
      · refine .im h (.b _) fun w' => ?_
        have h3 := (run_bool_eq hu p q w' x y).1
        simp only [execOp, ho, hx.inv_b, hy.inv_b]
        simp only [Sem.run_bind] at h3 ⊢
        rw [h3]
        rfl
      · refine .im h (.b _) fun w' => ?_
        have h3 := (run_bool_eq hu p q w' x y).2
        simp only [execOp, ho, hx.inv_b, hy.inv_b]
        simp only [Sem.run_bind] at h3 ⊢
        rw [h3]
        rfl
    | _ => rw [hxv, hyv] at h hgen; exact hgen h
  | agg cs =>
    cases hyv : ev s y with
    | agg ds =>
      rw [hxv, hyv] at h
      rw [hxv] at hx; rw [hyv] at hy
      obtain ⟨ti, hti, h⟩ := tiK_ok hΓ (show tiK Γ t fun ti => structFK ti.desc fun fl => chkK (!ti.eqs.isEmpty) (aggEqK ti.eqs fl cs ds fun b => aggBinK op b K) from h)
      have hd := hti.desc
      cases hde : ti.desc with
      | struct fl =>
        rw [hde] at h hd
        obtain ⟨he, h⟩ := (chkK_iff _ _).1 (show chkK (!ti.eqs.isEmpty) (aggEqK ti.eqs fl cs ds fun b => aggBinK op b K) from h)
        obtain ⟨us, hu, hxu, _⟩ := hx.inv_agg
        obtain ⟨vs, hv, hyv, _⟩ := hy.inv_agg
        obtain ⟨hc, h⟩ := aggEq_im hxu hyv ti.eqs fl h
        have hne : ti.eqs ≠ [] := fun e => by rw [e] at he; cases he
        have hfl : ∀ fs : Array Field, P.underlying t = some (.struct fs) → fs.toList.map (fun f => (f.offset, P.cellsOf f.type)) = fl := by
          intro fs hfs
          obtain ⟨de, h1, fs', rfl, h3, _⟩ := hd
          rw [hfs] at h1
          injection h1 with h1; injection h1 with h1
          subst h1
          exact h3
        cases op <;> first | exact (show False from h).elim | skip
        · refine .im (show K (.b (cellsEq ti.eqs (fl.map (·.1)) us vs)) from h) (.b _) fun w' => ?_
          have h3 := (bin_struct_run hne hti.eqs hfl hc x y w').1
          simp only [execOp, ho, hu, hv]
          simp only [Sem.run_bind] at h3 ⊢
          rw [h3]
          rfl
        · refine .im (show K (.b (!(cellsEq ti.eqs (fl.map (·.1)) us vs))) from h) (.b _) fun w' => ?_
          have h3 := (bin_struct_run hne hti.eqs hfl hc x y w').2
          simp only [execOp, ho, hu, hv]
          simp only [Sem.run_bind] at h3 ⊢
          rw [h3]
          rfl
      | _ => rw [hde] at h; exact h.elim
    | _ => rw [hxv, hyv] at h hgen; exact hgen h
  | _ => rw [hxv] at h hgen; exact hgen h

theorem conv_ok {o : Oper} {src dst : TypeId} {x : Operand} (ho : o.op = .convert src dst x) {ti : TI} (hti : ti.ok P dst) {v : AV} (hr : Rel β (Own X s β) w v (a.eval x)) {K : AV → Prop} (h : convK ti.desc v K)
    (hsrc : ∃ d, P.underlying src = some d) : ValOK P X s β a w o K := by
  obtain ⟨de, h1, h2⟩ := hti.desc
  obtain ⟨sd, hsd⟩ := hsrc
  cases hd : ti.desc with
  | int k =>
    rw [hd] at h h2
    obtain rfl := (show de = .int k from h2)
    cases v with
    | i k' n =>
      refine .im (show K (.i k (k.wrap n)) from h) (.i k _) fun w' => ?_
      cases sd <;> simp [execOp, ho, hr.inv_i, convert, run_underlying h1, run_underlying hsd, Conv.intToInt]
    | _ => exact h.elim
  | str =>
    rw [hd] at h h2
    obtain rfl := (show de = .string from h2)
    cases v with
    | s l =>
      have hl := hr.inv_s
      refine .im (show K (.s l) from h) (.s l hl.2) fun w' => ?_
      cases sd <;> simp [execOp, ho, hl.1, convert, run_underlying h1, run_underlying hsd]
    | _ => exact h.elim
  | _ => rw [hd] at h; exact h.elim
end
end Go.SX
