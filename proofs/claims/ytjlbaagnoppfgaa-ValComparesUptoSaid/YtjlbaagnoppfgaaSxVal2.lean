/-
  The value operations, the rest: addresses, fields, slices.
-/
import Derived.Test.YtjlbaagnoppfgaaSxVal
namespace Go.SX
set_option linter.unusedSectionVars false
variable [Globs]
section
variable {P : Program} {N : Nat} {Γ : Ctx} {W0 : World} {F : Fr} {X : Nat → Prop} {s : St} {β : Nat → Option Nat} {a : Act} {w : World}

theorem faddr_ok {o : Oper} {t f : Nat} {x : Operand} (ho : o.op = .fieldAddr t x f) {fs : Array Field} (hu : P.underlying t = some (.struct fs)) {fl : List (Nat × Nat)}
    (h3 : fs.toList.map (fun f => (f.offset, P.cellsOf f.type)) = fl) (h4 : ∀ f ∈ fs, fieldOk P f = true) {d : Nat × Nat} (hf : fl[f]? = some d)
    {v : AV} (hr : Rel β (Own X s β) w v (a.eval x)) (hids : ∀ n ∈ ids v, Nm s n) {K : AV → Prop} (h : faddrK d.1 v K) : ValOK P X s β a w o K := by
  cases v with
  | pt n off =>
    obtain ⟨g, h1, h2⟩ := hr
    exact ⟨.pt n (off + d.1), .pointer (some ⟨g, off + d.1, none⟩), h, ⟨g, h1, rfl⟩, hids, fun w' => by simp [execOp, ho, h2, fieldAt_run hu h3 h4 hf]⟩
  | rp cs =>
    obtain ⟨g, off, h1, h2⟩ := Im.inv_rp hr
    have h : forceL (cs.drop d.1) (fun cs => K (.rp cs)) := h
    rw [forceL_eq] at h
    refine ⟨.rp (cs.drop d.1), .pointer (some ⟨g, off + d.1, none⟩), h, Im.mk_rp (g := g) (o := off + d.1) fun j av hj => ?_, hids, fun w' => by simp [execOp, ho, h1, fieldAt_run hu h3 h4 hf]⟩
    rw [List.getElem?_drop] at hj
    obtain ⟨h5, u, h6, h7⟩ := h2 _ _ hj
    exact ⟨h5, u, by rw [Nat.add_assoc]; exact h6, h7⟩
  | vp id τ l n off =>
    obtain ⟨h1, ⟨g, h2, h5⟩, h6⟩ := hr
    refine ⟨.vp id τ l n (off + d.1), .pointer (some ⟨g, n * esz τ + (off + d.1), none⟩), h, ⟨h1, ⟨g, h2, rfl⟩, h6⟩, hids, fun w' => ?_⟩
    simp [execOp, ho, h5, fieldAt_run hu h3 h4 hf, Nat.add_assoc]
  | _ => exact h.elim

theorem field_ok {o : Oper} {t f : Nat} {x : Operand} (ho : o.op = .field t x f) {fs : Array Field} (hu : P.underlying t = some (.struct fs)) {fl : List (Nat × Nat)}
    (h3 : fs.toList.map (fun f => (f.offset, P.cellsOf f.type)) = fl) {d : Nat × Nat} (hf : fl[f]? = some d) (h4 : ∀ f ∈ fs, fieldOk P f = true)
    {v : AV} (hr : Rel β (Own X s β) w v (a.eval x)) {K : AV → Prop} (h : fieldK d.1 d.2 v K) : ValOK P X s β a w o K := by
  cases v with
  | agg cs =>
    obtain ⟨vs, h1, h2, _⟩ := hr.inv_agg
    have h : takeK d.2 (cs.drop d.1) (fun l => match l with | [v] => K v | _ => False) := h
    rw [takeK_iff] at h
    obtain ⟨fd, h5, h6, h7, h8⟩ := fl_at h3 hf
    cases hl : (cs.drop d.1).take d.2 with
    | nil => rw [hl] at h; exact h.2.elim
    | cons c r =>
      cases r with
      | cons c' r => rw [hl] at h; exact h.2.elim
      | nil =>
        rw [hl] at h
        have hd2 : d.2 = 1 := by
          have := congrArg List.length hl
          simp only [List.length_take, List.length_cons, List.length_nil] at this
          have := h.1
          omega
        have hc : cs[d.1]? = some c := by
          have h9 : ((cs.drop d.1).take d.2)[0]? = some c := by rw [hl]; rfl
          rw [hd2] at h9
          simpa [List.getElem?_take, List.getElem?_drop] using h9
        have hlt : d.1 < cs.length := (List.getElem?_eq_some_iff.1 hc).1
        have hv : vs[d.1]? = some (vs[d.1]'(by rw [← h2.1]; exact hlt)) := List.getElem?_eq_getElem _
        refine .im h.2 (h2.2 _ _ _ hc hv) fun w' => ?_
        have hp := (fieldOk_spec (h4 fd h6)).2.2 (h8.trans hd2) w'
        simp [execOp, ho, h1, Instr.field, run_underlying hu, h5, asAgg, part, hp, h7, hv]
  | _ => exact h.elim

theorem extract_ok {o : Oper} {i : Nat} {x : Operand} (ho : o.op = .extract x i) {v : AV} (hr : Rel β (Own X s β) w v (a.eval x)) (hids : ∀ n ∈ ids v, Nm s n) {K : AV → Prop} (h : extractK i v K) : ValOK P X s β a w o K := by
  cases v with
  | tup cs =>
    obtain ⟨vs, h1, h2⟩ := hr.inv_tup
    obtain ⟨c, h3, h4⟩ := (nthK_iff cs i K).1 h
    have hlt : i < cs.length := (List.getElem?_eq_some_iff.1 h3).1
    have hv : vs[i]? = some (vs[i]'(by rw [← h2.1]; exact hlt)) := List.getElem?_eq_getElem _
    have hr0 := h2.2 _ _ _ h3 hv
    exact ⟨c, _, h4, Rel.rel0 hr0, fun n hn => hids n (List.mem_flatMap.2 ⟨c, List.mem_of_getElem? h3, hr0.ids hn⟩), fun w' => by simp [execOp, ho, h1, Instr.extract, hv]⟩
  | _ => exact h.elim

theorem VsAt.inv {O : Nat → Prop} {id : Nat} {τ : Ty} {l : List (den τ)} {k : Nat} {v : Value} (h : VsAt β O w id τ l k v) :
    k ≤ l.length ∧ l.length ≤ maxLen ∧ ∃ ad c, v = .slice ad (l.length - k) c ∧ l.length - k ≤ c ∧ c ≤ maxLen := by
  obtain ⟨h0, v', h1, h2⟩ := h
  rcases h1 with ⟨rfl, rfl, _⟩ | ⟨g, c, cur, e, h3, rfl, h5, h6, h7, h8, h9⟩
  · refine ⟨h0, Nat.zero_le _, ?_⟩
    rcases h2 with ⟨rfl, rfl⟩ | ⟨g, n, c, ad, h3, _⟩
    · exact ⟨none, 0, rfl, Nat.le_refl _, Nat.zero_le _⟩
    · cases h3
  · refine ⟨h0, by omega, ?_⟩
    rcases h2 with ⟨rfl, rfl⟩ | ⟨g', n, c', ad, h3, h4, _⟩
    · exact ⟨_, c, rfl, by omega, h7⟩
    · cases h3; exact ⟨_, c - k, h4, by omega, by omega⟩
theorem elem_sz {e : Nat} {te : TI} (hte : te.ok P e) {τ : Ty} (hsz : Nat.beq te.cells (esz τ) = true) (w : World) : (sizeOf e).run P w = .ok (esz τ) w := by
  rw [hte.sizeOf, Nat.eq_of_beq_eq_true hsz]

theorem iaddr_ok {o : Oper} {t e : Nat} {x i : Operand} (ho : o.op = .indexAddr t x i) (hu : P.underlying t = some (.slice e)) {te : TI} (hte : te.ok P e) {k : IntKind} {n : Int} (hi : a.eval i = .int k n)
    {v : AV} (hr : Rel β (Own X s β) w v (a.eval x)) (hids : ∀ n ∈ ids v, Nm s n) {K : AV → Prop} (h : iaddrK n te.cells v K) : ValOK P X s β a w o K := by
  cases v with
  | rd τ l =>
    have h := (chkK_iff _ _).1 (show chkK (Nat.beq te.cells (esz τ)) ((0 ≤ n ∧ n < (l.length : Int)) ∧ forceL (enc τ (l.getD n.toNat (dflt τ))) fun cs => K (.rp cs)) from h)
    obtain ⟨hsz, ⟨h0, h1⟩, h2⟩ := h
    rw [forceL_eq] at h2
    generalize hev : a.eval x = xv at hr
    cases (show Im _ _ _ _ from hr) with
    | rd0 _ ad c hc => simp at h1; omega
    | rd _ _ g off c u hg hc hm hne hcell him =>
      have hn : n.toNat < l.length := by omega
      have hl : l[n.toNat]? = some (l.getD n.toNat (dflt τ)) := by rw [List.getD_eq_getElem?_getD, List.getElem?_eq_getElem hn]; rfl
      refine ⟨_, .pointer (some ⟨g, off + n.toNat * esz τ, none⟩), h2, Im.mk_rp (g := g) (o := off + n.toNat * esz τ) fun j av hj => ⟨hg, u n.toNat j, ?_, him _ _ _ _ hl hj, plain_one (him _ _ _ _ hl hj) (enc_plain τ _ _ (List.mem_of_getElem? hj))⟩, hids, fun w' => ?_⟩
      · rw [Nat.add_assoc]; exact hcell _ _ _ _ hl hj
      · simp [execOp, ho, hev, hi, Instr.indexAt, asIntOf, run_underlying hu, h0, h1, elem_sz hte hsz, add_none]
  | vec id τ l =>
    have h := (chkK_iff _ _).1 (show chkK (Nat.beq te.cells (esz τ)) ((0 ≤ n ∧ n < (l.length : Int)) ∧ K (.vp id τ l n.toNat 0)) from h)
    obtain ⟨hsz, ⟨h0, h1⟩, h2⟩ := h
    have hr' := hr
    rcases hr with ⟨rfl, _, _⟩ | ⟨g, c, cur, e', h3, h4, h5, h6, h7, h8, h9⟩
    · simp at h1; omega
    · refine ⟨_, .pointer (some ⟨g, n.toNat * esz τ + 0, none⟩), h2, ⟨by omega, ⟨g, h3, rfl⟩, a.eval x, hr'⟩, hids, fun w' => ?_⟩
      simp [execOp, ho, h4, hi, Instr.indexAt, asIntOf, run_underlying hu, h0, h1, elem_sz hte hsz, add_none]
  | vs id τ l k =>
    have h := (chkK_iff _ _).1 (show chkK (Nat.beq te.cells (esz τ)) ((0 ≤ n ∧ n < ((l.length - k : Nat) : Int)) ∧ K (.vp id τ l (k + n.toNat) 0)) from h)
    obtain ⟨hsz, ⟨h0, h1⟩, h2⟩ := h
    obtain ⟨hk, v', hv', hsuf⟩ := hr
    have hv := hv'
    rcases hv with ⟨rfl, _, _⟩ | ⟨g, c, cur, e', h3, h4, h5, h6, h7, h8, h9⟩
    · simp at h1; omega
    · have hev : a.eval x = .slice (some ⟨g, k * esz τ, none⟩) (l.length - k) (c - k) := by
        rcases hsuf with ⟨rfl, hh⟩ | ⟨g', n', c', ad, h10, h11, h12⟩
        · rw [hh, h4]; simp
        · rw [h4] at h10; cases h10; rw [h11, h12 (by omega)]
      refine ⟨_, .pointer (some ⟨g, (k + n.toNat) * esz τ + 0, none⟩), h2, ⟨by omega, ⟨g, h3, rfl⟩, v', hv'⟩, hids, fun w' => ?_⟩
      have h1' : n < (l.length : Int) - k := by omega
      simp [execOp, ho, hev, hi, Instr.indexAt, asIntOf, run_underlying hu, h0, h1, elem_sz hte hsz, add_none, Nat.add_mul]
  | _ => exact h.elim

theorem arrAddr_ok {o : Oper} {t e len : Nat} {x i : Operand} (ho : o.op = .indexAddr t x i) (hu : P.underlying t = some (.array len e)) {te : TI} (hte : te.ok P e) {k : IntKind} {n : Int} (hi : a.eval i = .int k n)
    {v : AV} (hr : Rel β (Own X s β) w v (a.eval x)) (hids : ∀ n ∈ ids v, Nm s n) {K : AV → Prop} (h : arrAddrK n len te.cells v K) : ValOK P X s β a w o K := by
  cases v with
  | pt m off =>
    obtain ⟨⟨h0, h1⟩, h2⟩ := (show (0 ≤ n ∧ n < (len : Int)) ∧ K (.pt m (off + n.toNat * te.cells)) from h)
    obtain ⟨g, h3, h4⟩ := hr
    refine ⟨_, .pointer (some ⟨g, off + n.toNat * te.cells, none⟩), h2, ⟨g, h3, rfl⟩, hids, fun w' => ?_⟩
    simp [execOp, ho, h4, hi, Instr.indexAt, asIntOf, run_underlying hu, h0, h1, Instr.sureAddr, hte.sizeOf, add_none]
  | _ => exact h.elim
theorem arrIdx_ok {o : Oper} {t e len : Nat} {x i : Operand} (ho : o.op = .index t x i) (hu : P.underlying t = some (.array len e)) {te : TI} (hte : te.ok P e) {k : IntKind} {n : Int} (hi : a.eval i = .int k n)
    {v : AV} (hr : Rel β (Own X s β) w v (a.eval x)) {K : AV → Prop} (h : arrIdxK n len te.cells (isStruct te.desc) v K) : ValOK P X s β a w o K := by
  cases v with
  | agg cs =>
    obtain ⟨hc, h⟩ := (chkK_iff _ _).1 (show chkK (Nat.beq te.cells 1) (chkK (!(isStruct te.desc)) ((0 ≤ n ∧ n < (len : Int)) ∧ nthK cs n.toNat K)) from h)
    obtain ⟨hs, ⟨h0, h1⟩, h⟩ := (chkK_iff _ _).1 h
    obtain ⟨c, hc1, hK⟩ := (nthK_iff _ _ _).1 h
    have hc := Nat.eq_of_beq_eq_true hc
    have hs : isStruct te.desc = false := by simpa using hs
    generalize hev : a.eval x = xv at hr
    cases (show Im _ _ _ _ from hr) with
    | agg _ us hl ho1 him =>
      have hlt : n.toNat < us.length := by rw [← hl]; exact (List.getElem?_eq_some_iff.1 hc1).1
      have hu1 : us[n.toNat]? = some (us[n.toNat]'hlt) := List.getElem?_eq_getElem hlt
      refine .im hK (him n.toNat c _ hc1 hu1) fun w' => ?_
      have hag := agg_ok hte w'
      rw [hs] at hag
      simp [execOp, ho, hev, hi, Instr.index, asIntOf, run_underlying hu, h0, h1, hte.sizeOf, hc, part, hag, hu1]
  | _ => exact h.elim
theorem strIndex_ok {o : Oper} {t : Nat} {x i : Operand} (ho : o.op = .index t x i) (hu : P.underlying t = some .string) {k : IntKind} {n : Int} (hi : a.eval i = .int k n)
    {v : AV} (hr : Rel β (Own X s β) w v (a.eval x)) {K : AV → Prop} (h : strIndexK n v K) : ValOK P X s β a w o K := by
  cases v with
  | s l =>
    obtain ⟨⟨h0, h1⟩, h2⟩ := (show (0 ≤ n ∧ n < (l.length : Int)) ∧ K (.i .u8 ((l.getD n.toNat 0).toNat : Int)) from h)
    obtain ⟨h3, h4⟩ := hr.inv_s
    have hn : n.toNat < l.length := by omega
    refine .im h2 (.i _ _) fun w' => ?_
    have hg : (ByteArray.mk l.toArray)[n.toNat]? = some (l.getD n.toNat 0) := by
      have hs : n.toNat < (ByteArray.mk l.toArray).size := by simpa [ByteArray.size] using hn
      rw [List.getD_eq_getElem?_getD, List.getElem?_eq_getElem hn, getElem?_pos (ByteArray.mk l.toArray) n.toNat hs]
      rfl
    simp [execOp, ho, h3, hi, Instr.index, asIntOf, run_underlying hu, h0, hg]
  | _ => exact h.elim

theorem nilChk_ok {o : Oper} {x : Operand} (ho : o.op = .nilCheck x) {v : AV} (hr : Rel β (Own X s β) w v (a.eval x)) (hids : ∀ n ∈ ids v, Nm s n) {K : AV → Prop} (h : nilChkK v K) : ValOK P X s β a w o K := by
  have key : ∀ ad, a.eval x = .pointer (some ad) → ∀ w' : World, (execOp a.eval o).run P w' = .ok (.value (a.eval x)) w' := fun ad e w' => by simp [execOp, ho, e]
  cases v with
  | pt n off => exact ⟨_, _, h, hr, hids, by obtain ⟨g, _, h2⟩ := hr; exact key _ h2⟩
  | rp cs => exact ⟨_, _, h, hr, hids, by obtain ⟨g, off, h2, _⟩ := Im.inv_rp hr; exact key _ h2⟩
  | vp id τ l n off => exact ⟨_, _, h, hr, hids, by obtain ⟨_, ⟨g, _, h2⟩, _⟩ := hr; exact key _ h2⟩
  | _ => exact h.elim

theorem fnVal_ok (hI : InvB W0 F X N s β a w) {o : Oper} {f : FuncId} {captured : Array Operand} (ho : o.op = .makeFunc (.func f) #[] captured) {K : AV → Prop} (hn : ∀ x ∈ captured, noFn [ev s x] = true)
    (h : K (.fn f (evs s captured.toList))) : ValOK P X s β a w o K := by
  have he := evs_rel hI captured.toList
  have e : captured.map a.eval = (captured.toList.map a.eval).toArray := by apply Array.ext'; simp
  refine ⟨_, .func (.func f) #[] (captured.toList.map a.eval).toArray, h, ⟨_, rfl, ?_⟩, ?_, fun w' => by rw [← e]; simp [execOp, ho, Instr.makeFunc]⟩
  · refine ⟨he.1.1, fun j c v hc hv => ?_⟩
    have hr := he.1.2 j c v hc hv
    have hne : noFn [c] = true := by
      have hm : c ∈ evs s captured.toList := List.mem_of_getElem? hc
      have hex : ∀ l : List Operand, (∀ x ∈ l, noFn [ev s x] = true) → c ∈ evs s l → noFn [c] = true := by
        intro l
        induction l with
        | nil => intro _ hm; simp [evs] at hm
        | cons x r ih =>
          intro hl hm
          rcases List.mem_cons.1 hm with h1 | h1
          · exact h1 ▸ hl x (List.mem_cons_self ..)
          · exact ih (fun y hy => hl y (List.mem_cons_of_mem _ hy)) h1
      exact hex _ (fun x hx => hn x (by simpa using hx)) hm
    cases c <;> first | exact hr | cases hne
  · intro n hn'
    simp only [ids, List.mem_flatMap] at hn'
    obtain ⟨c, hc, hcn⟩ := hn'
    refine he.2 c hc n ?_
    cases c <;> first | exact hcn | simp [ids0] at hcn

theorem len_ok {o : Oper} {args : Array Operand} {ts : Array TypeId} (ho : o.op = .call { callee := .builtin .len, args := args, argTypes := ts }) (hI : InvB W0 F X N s β a w) {t : Nat} (ht : ts.toList[0]? = some t) {ti : TI} (hti : ti.ok P t)
    {K : AV → Prop} (h : lenVK ti.desc (evs s args.toList) K) : ValOK P X s β a w o K := by
  obtain ⟨de, h1, h2⟩ := hti.desc
  have he := (evs_rel hI args.toList).1
  have ht' : ts[0]? = some t := by simpa using ht
  cases hl : evs s args.toList with
  | nil => rw [hl] at h; cases hd : ti.desc <;> rw [hd] at h <;> exact h.elim
  | cons c r =>
    cases r with
    | cons c' r => rw [hl] at h; cases hd : ti.desc <;> rw [hd] at h <;> cases c <;> exact h.elim
    | nil =>
      rw [hl] at h he
      obtain ⟨x, hx⟩ : ∃ x, args.toList = [x] := by
        have hlen := he.1
        simp only [List.length_map, List.length_cons, List.length_nil] at hlen
        cases ha : args.toList with
        | nil => rw [ha] at hlen; simp at hlen
        | cons x r => cases r with
          | nil => exact ⟨x, rfl⟩
          | cons y r => rw [ha] at hlen; simp at hlen
      have hargs : args = #[x] := by rw [← Array.toArray_toList (xs := args), hx]
      rw [hx] at he
      have hr : Rel β (Own X s β) w c (a.eval x) := he.head
      have hrun : ∀ v, ∀ w' : World, (Builtin.len_ ts o.type #[a.eval x]).run P w' = .ok v w' → (execOp a.eval o).run P w' = .ok (.value v) w' := by
        intro v w' hv
        simp [execOp, ho, hargs, resolve, invoke, builtin, hv]
      cases hd : ti.desc with
      | slice e =>
        rw [hd] at h h2
        obtain rfl := (show de = .slice e from h2)
        have hs : ∀ ad n cc, a.eval x = .slice ad n cc → ∀ w' : World, (execOp a.eval o).run P w' = .ok (.value (.int .i64 n)) w' := fun ad n cc e w' => hrun _ w' (by simp [Builtin.len_, ht', run_underlying h1, e, goInt])
        cases c with
        | nl => exact .im (show K (.i .i64 0) from h) (.i _ _) (hs _ _ _ hr.inv_nl)
        | rd τ l =>
          obtain ⟨ad, cc, h3, h4, h5⟩ := hr.inv_rd
          exact .im ((show l.length ≤ maxLen → K (.i .i64 (l.length : Int)) from h) (Nat.le_trans h4 h5)) (.i _ _) (hs _ _ _ h3)
        | vec id τ l =>
          rcases hr with ⟨rfl, h3, _⟩ | ⟨g, cc, cur, e', h3, h4, h5, h6, h7, _⟩
          · exact .im ((show ([] : List (den τ)).length ≤ maxLen → K (.i .i64 (([] : List (den τ)).length : Int)) from h) (Nat.zero_le _)) (.i _ _) (hs _ _ _ h3)
          · exact .im ((show l.length ≤ maxLen → K (.i .i64 (l.length : Int)) from h) (Nat.le_trans h6 h7)) (.i _ _) (hs _ _ _ h4)
        | vs id τ l k =>
          obtain ⟨h3, h4, ad, cc, h5, _⟩ := VsAt.inv hr
          exact .im ((show k ≤ l.length → l.length ≤ maxLen → K (.i .i64 ((l.length - k : Nat) : Int)) from h) h3 h4) (.i _ _) (hs _ _ _ h5)
        | _ => exact h.elim
      | str =>
        rw [hd] at h h2
        obtain rfl := (show de = .string from h2)
        cases c with
        | s l =>
          obtain ⟨h3, h4⟩ := hr.inv_s
          refine .im ((show l.length ≤ maxLen → K (.i .i64 (l.length : Int)) from h) h4) (.i _ _) fun w' => (hrun _ w' ?_)
          have hsz : (ByteArray.mk l.toArray).size = l.length := by simp [ByteArray.size]
          simp [Builtin.len_, ht', run_underlying h1, h3, goInt, hsz]
        | _ => exact h.elim
      | _ => rw [hd] at h; cases c <;> exact h.elim

theorem two_args {args : Array Operand} {c d : AV} (hI : InvB W0 F X N s β a w) (hl : evs s args.toList = [c, d]) :
    ∃ x y, args = #[x, y] ∧ Rel β (Own X s β) w c (a.eval x) ∧ Rel β (Own X s β) w d (a.eval y) ∧ (∀ n ∈ ids c, Nm s n) ∧ (∀ n ∈ ids d, Nm s n) ∧ c = ev s x ∧ d = ev s y := by
  have he := evs_rel hI args.toList
  cases ha : args.toList with
  | nil => rw [ha] at hl; simp [evs] at hl
  | cons x r =>
    cases r with
    | nil => rw [ha] at hl; simp [evs] at hl
    | cons y r =>
      cases r with
      | cons z r => rw [ha] at hl; simp [evs] at hl
      | nil =>
        rw [hl, ha] at he
        rw [ha] at hl
        simp only [evs, List.cons.injEq] at hl
        exact ⟨x, y, by rw [← Array.toArray_toList (xs := args), ha], he.1.head, he.1.tail.head, he.2 c (by simp), he.2 d (by simp), hl.1.symm, hl.2.1.symm⟩

theorem minmax_ok {o : Oper} {b : Builtin} {args : Array Operand} {ts : Array TypeId} (ho : o.op = .call { callee := .builtin b, args := args, argTypes := ts }) (hI : InvB W0 F X N s β a w)
    {K : AV → Prop} (h : (b = .min ∧ minK (evs s args.toList) K) ∨ (b = .max ∧ maxK (evs s args.toList) K)) : ValOK P X s β a w o K := by
  have key : ∀ k x y, evs s args.toList = [.i k x, .i k y] → ∃ p q, args = #[p, q] ∧ a.eval p = .int k x ∧ a.eval q = .int k y := by
    intro k x y hl
    obtain ⟨p, q, h1, h2, h3, _⟩ := two_args hI hl
    exact ⟨p, q, h1, h2.inv_i, h3.inv_i⟩
  have shp : ∀ (L : List AV), (∃ k x k' y, L = [.i k x, .i k' y]) ∨ (minK L K = False ∧ maxK L K = False) := by
    intro L
    rcases L with _ | ⟨c, _ | ⟨d, _ | ⟨e, r⟩⟩⟩
    · exact .inr ⟨rfl, rfl⟩
    · exact .inr (by cases c <;> exact ⟨rfl, rfl⟩)
    · cases c with
      | i k x => cases d with
        | i k' y => exact .inl ⟨k, x, k', y, rfl⟩
        | _ => exact .inr ⟨rfl, rfl⟩
      | _ => exact .inr ⟨rfl, rfl⟩
    · exact .inr (by cases c <;> cases d <;> exact ⟨rfl, rfl⟩)
  rcases shp (evs s args.toList) with ⟨k, x, k', y, hl⟩ | ⟨h1, h2⟩
  · rcases h with ⟨rfl, h⟩ | ⟨rfl, h⟩
    · rw [hl] at h
      obtain ⟨hk, hK⟩ := (chkK_iff _ _).1 (show chkK (decide (k = k')) (K (.i k (if y < x then y else x))) from h)
      obtain rfl := of_decide_eq_true hk
      obtain ⟨p, q, h1, h2, h3⟩ := key k x y hl
      exact .im hK (.i _ _) (fun w' => by simp [execOp, ho, h1, h2, h3, resolve, invoke, builtin, Builtin.min_, Builtin.min2])
    · rw [hl] at h
      obtain ⟨hk, hK⟩ := (chkK_iff _ _).1 (show chkK (decide (k = k')) (K (.i k (if x < y then y else x))) from h)
      obtain rfl := of_decide_eq_true hk
      obtain ⟨p, q, h1, h2, h3⟩ := key k x y hl
      exact .im hK (.i _ _) (fun w' => by simp [execOp, ho, h1, h2, h3, resolve, invoke, builtin, Builtin.max_, Builtin.max2])
  · rcases h with ⟨_, h⟩ | ⟨_, h⟩
    · rw [h1] at h; exact h.elim
    · rw [h2] at h; exact h.elim

theorem extract_mk (l : Str) (lo hi : Nat) : (ByteArray.mk l.toArray).extract lo hi = ByteArray.mk ((l.take hi).drop lo).toArray := by
  apply ByteArray.ext
  simp [List.drop_take]

theorem bound_run (hI : InvB W0 F X N s β a w) {x : Option Operand} {d : Int} {K : Int → Prop} (h : boundK s x d K) :
    ∃ n, K n ∧ ((x = none ∧ n = d) ∨ ∃ y k, x = some y ∧ a.eval y = .int k n) := by
  rcases bound_ok hI h with ⟨h1, h2⟩ | ⟨y, k, n, h1, h2, h3⟩
  · exact ⟨d, h2, .inl ⟨h1, rfl⟩⟩
  · exact ⟨n, h3, .inr ⟨y, k, h1, h2⟩⟩

/-- the two bounds of a cut -/
theorem bounds_run {x y : Option Operand} {lo hi : Int} {a : Act} (isSlice : Bool) (len cap : Nat) (hlo : (x = none ∧ lo = 0) ∨ ∃ y' k, x = some y' ∧ a.eval y' = .int k lo)
    (hhi : (y = none ∧ hi = (len : Int)) ∨ ∃ y' k, y = some y' ∧ a.eval y' = .int k hi) (h0 : 0 ≤ lo) (h1 : lo ≤ hi) (h2 : hi ≤ (len : Int)) (hc : len ≤ cap) :
    (Instr.sliceBounds isSlice len cap (x.map a.eval) (y.map a.eval) none).run P w = .ok (lo.toNat, hi.toNat, cap) w := by
  have hb : ∀ (k : IntKind) (n : Int) (m : Nat) (code : BoundsCode), 0 ≤ n → n ≤ (m : Int) → (Instr.sliceBound (.int k n) m code).run P w = .ok n.toNat w := by
    intro k n m code h3 h4
    simp [Instr.sliceBound, asIntOf, h3, h4]
  have hlo' : ∀ m : Nat, hi.toNat = m → ((match x.map a.eval with | some v => Instr.sliceBound v m (if (none : Option Value).isSome then .slice3C else .sliceB) | none => pure 0 : Sem Nat)).run P w = .ok lo.toNat w := by
    intro m hm
    rcases hlo with ⟨rfl, rfl⟩ | ⟨y', k, rfl, e⟩
    · rfl
    · simp only [Option.map_some, e]
      exact hb _ _ _ _ h0 (by omega)
  rcases hhi with ⟨rfl, rfl⟩ | ⟨y', k, rfl, e⟩
  · rcases hlo with ⟨rfl, rfl⟩ | ⟨y', k, rfl, e⟩
    · simp [Instr.sliceBounds]
    · have := hb k lo len .sliceB h0 (by omega)
      simp [Instr.sliceBounds, e, this]
  · have h3 := hb k hi cap (if isSlice then .sliceAcap else .sliceAlen) (by omega) (by omega)
    rcases hlo with ⟨rfl, rfl⟩ | ⟨y'', k', rfl, e'⟩
    · simp [Instr.sliceBounds, e, h3]
    · have h4 := hb k' lo hi.toNat .sliceB h0 (by omega)
      simp [Instr.sliceBounds, e, e', h3, h4]

theorem strSlice_ok (hI : InvB W0 F X N s β a w) {o : Oper} {t : Nat} {x : Operand} {lo hi : Option Operand} (ho : o.op = .slice t x lo hi none) (hu : P.underlying t = some .string)
    {v : AV} (hr : Rel β (Own X s β) w v (a.eval x)) {K : AV → Prop} (h : strSliceK s lo hi v K) : ValOK P X s β a w o K := by
  cases v with
  | s l =>
    obtain ⟨h3, h4⟩ := hr.inv_s
    obtain ⟨m, h, hm⟩ := bound_run hI (show boundK s lo 0 fun lo => boundK s hi (l.length : Int) fun hi => (0 ≤ lo ∧ lo ≤ hi ∧ hi ≤ (l.length : Int)) ∧ K (.s ((l.take hi.toNat).drop lo.toNat)) from h)
    obtain ⟨n, ⟨⟨p0, p1, p2⟩, hK⟩, hn⟩ := bound_run hI h
    have hsz : (ByteArray.mk l.toArray).size = l.length := by simp [ByteArray.size]
    refine .im hK (.s _ (by simp; omega)) fun w' => ?_
    have hb := bounds_run (P := P) (w := w') (a := a) false l.length l.length hm hn p0 p1 p2 (Nat.le_refl _)
    simp [execOp, ho, h3, Instr.sliceAt, run_underlying hu, Instr.slice, hsz, hb, extract_mk]
  | _ => exact h.elim

theorem suf_mk {O : Nat → Prop} {id : Nat} {τ : Ty} {l : List (den τ)} {k m : Nat} {ad : Option Addr} {n c : Nat} (h : VsAt β O w id τ l k (.slice ad n c)) (hm : m ≤ l.length - k) :
    VsAt β O w id τ l (k + m) (.slice (if c = m then ad else ad.map (·.add (m * esz τ))) (n - m) (c - m)) := by
  obtain ⟨h0, v', h1, h2⟩ := h
  refine ⟨by omega, v', h1, ?_⟩
  rcases h2 with ⟨rfl, rfl⟩ | ⟨g, n', c', ad', rfl, h4, h5⟩
  · rcases h1 with ⟨rfl, h3, _⟩ | ⟨g, c', cur, e, h3, h4, h5, h6, h7, h8, h9⟩
    · cases h3
      have : m = 0 := by simp at hm; exact hm
      subst this
      exact .inl ⟨rfl, by simp⟩
    · cases h4
      by_cases hc : c = m
      · rw [if_pos hc]; subst hc
        exact .inr ⟨g, _, _, ⟨g, 0, none⟩, rfl, by rw [Nat.zero_add], fun h => by omega⟩
      · rw [if_neg hc]
        exact .inr ⟨g, _, _, (⟨g, 0, none⟩ : Addr).add (m * esz τ), rfl, by rw [Nat.zero_add]; rfl, fun h => by simp [add_none]⟩
  · cases h4
    by_cases hc : c' - k = m
    · rw [if_pos hc]
      exact .inr ⟨g, _, _, ad', rfl, by simp only [Nat.sub_sub], fun h => by omega⟩
    · rw [if_neg hc]
      refine .inr ⟨g, _, _, ad'.add (m * esz τ), rfl, by simp only [Nat.sub_sub]; rfl, fun h => ?_⟩
      rw [h5 (by omega), add_none, Nat.add_mul]
theorem rdSlice_ok (hI : InvB W0 F X N s β a w) {o : Oper} {t e : Nat} {x : Operand} {lo hi : Option Operand} (ho : o.op = .slice t x lo hi none) (hu : P.underlying t = some (.slice e)) {te : TI} (hte : te.ok P e)
    {v : AV} (hr : Rel β (Own X s β) w v (a.eval x)) (hids : ∀ n ∈ ids v, Nm s n) {K : AV → Prop} (h : rdSliceK s te.cells lo hi v K) : ValOK P X s β a w o K := by
  cases v with
  | rd τ l =>
    obtain ⟨hsz, h⟩ := (chkK_iff _ _).1 (show chkK (Nat.beq te.cells (esz τ)) (boundK s lo 0 fun lo => boundK s hi (l.length : Int) fun hi => (0 ≤ lo ∧ lo ≤ hi ∧ hi ≤ (l.length : Int)) ∧ K (.rd τ ((l.take hi.toNat).drop lo.toNat))) from h)
    obtain ⟨m, h, hm⟩ := bound_run hI h
    obtain ⟨n, ⟨⟨p0, p1, p2⟩, hK⟩, hn⟩ := bound_run hI h
    obtain ⟨ad, c, h3, h4, h5⟩ := hr.inv_rd
    have hrun : ∀ w' : World, (execOp a.eval o).run P w' = .ok (.value (.slice (if c = m.toNat then ad else ad.map (·.add (m.toNat * esz τ))) (n.toNat - m.toNat) (c - m.toNat))) w' := by
      intro w'
      have hb := bounds_run (P := P) (w := w') (a := a) true l.length c hm hn p0 p1 p2 h4
      simp [execOp, ho, h3, Instr.sliceAt, run_underlying hu, Instr.slice, hb, elem_sz hte hsz]
    have hlen : ((l.take n.toNat).drop m.toNat).length = n.toNat - m.toNat := by simp; omega
    refine .im hK ?_ hrun
    cases hl : (l.take n.toNat).drop m.toNat with
    | nil =>
      rw [hl] at hlen
      rw [← hlen]
      exact .rd0 τ _ _ (by omega)
    | cons y r =>
      rw [← hl, ← hlen]
      have hpos : 0 < n.toNat - m.toNat := by rw [← hlen, hl]; simp
      generalize hev : a.eval x = xv at hr
      rw [hev] at h3
      subst h3
      cases (show Im _ _ _ _ from hr) with
      | rd0 _ ad c hc => simp at p2; omega
      | rd _ _ g off c u hg hc hmx hne hcell him =>
        rw [if_neg (by omega)]
        simp only [Option.map_some, add_none]
        refine .rd τ _ g _ _ (fun i j => u (m.toNat + i) j) hg (by omega) (by omega) (by rw [hl]; simp) (fun i z j av hz hav => ?_) (fun i z j av hz hav => ?_)
        · rw [List.getElem?_drop, List.getElem?_take] at hz
          split at hz
          · have := hcell _ _ j av hz hav
            rw [Nat.add_mul] at this
            rw [← this]
            congr 2
            omega
          · cases hz
        · rw [List.getElem?_drop, List.getElem?_take] at hz
          split at hz
          · exact him _ _ j av hz hav
          · cases hz
  | vec id τ l =>
    have hr : VsAt β (Own X s β) w id τ l 0 (a.eval x) := ⟨Nat.zero_le _, _, hr, .inl ⟨rfl, rfl⟩⟩
    cases hi with
    | some _ => exact ((chkK_iff _ _).1 (show chkK (Nat.beq te.cells (esz τ)) False from h)).2.elim
    | none =>
      obtain ⟨hsz, h⟩ := (chkK_iff _ _).1 (show chkK (Nat.beq te.cells (esz τ)) (boundK s lo 0 fun lo => (0 ≤ lo ∧ lo ≤ (l.length : Int)) ∧ K (.vs id τ l lo.toNat)) from h)
      obtain ⟨m, ⟨⟨p0, p1⟩, hK⟩, hm⟩ := bound_run hI h
      obtain ⟨n, hn', hn⟩ := bound_run hI (show boundK s none (l.length : Int) (fun n => n = (l.length : Int)) from rfl)
      subst hn'
      obtain ⟨_, h4, ad, c, h5, h6, h7⟩ := VsAt.inv hr
      rw [Nat.sub_zero] at h5 h6
      rw [h5] at hr
      have h8 := suf_mk hr (m := m.toNat) (by omega)
      rw [Nat.zero_add] at h8
      refine ⟨_, _, hK, h8, hids, fun w' => ?_⟩
      have hb := bounds_run (P := P) (w := w') (a := a) true l.length c hm hn p0 p1 (Int.le_refl _) h6
      simp only [Int.toNat_natCast, Option.map_none] at hb
      simp [execOp, ho, h5, Instr.sliceAt, run_underlying hu, Instr.slice, hb, elem_sz hte hsz]
  | vs id τ l k =>
    cases hi with
    | some _ => exact ((chkK_iff _ _).1 (show chkK (Nat.beq te.cells (esz τ)) False from h)).2.elim
    | none =>
      obtain ⟨hsz, h⟩ := (chkK_iff _ _).1 (show chkK (Nat.beq te.cells (esz τ)) (boundK s lo 0 fun lo => (0 ≤ lo ∧ lo ≤ ((l.length - k : Nat) : Int)) ∧ K (.vs id τ l (k + lo.toNat))) from h)
      obtain ⟨m, ⟨⟨p0, p1⟩, hK⟩, hm⟩ := bound_run hI h
      obtain ⟨n, hn', hn⟩ := bound_run hI (show boundK s none ((l.length - k : Nat) : Int) (fun n => n = ((l.length - k : Nat) : Int)) from rfl)
      subst hn'
      obtain ⟨_, h4, ad, c, h5, h6, h7⟩ := VsAt.inv hr
      rw [h5] at hr
      have h8 := suf_mk hr (m := m.toNat) (by omega)
      refine ⟨_, _, hK, h8, hids, fun w' => ?_⟩
      have hb := bounds_run (P := P) (w := w') (a := a) true (l.length - k) c hm hn p0 p1 (Int.le_refl _) h6
      simp only [Int.toNat_natCast, Option.map_none] at hb
      simp [execOp, ho, h5, Instr.sliceAt, run_underlying hu, Instr.slice, hb, elem_sz hte hsz]
  | _ => exact h.elim
end
end Go.SX
