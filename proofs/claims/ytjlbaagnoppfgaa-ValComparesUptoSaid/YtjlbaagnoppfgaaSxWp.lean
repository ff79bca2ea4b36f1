/-
  A region, a function's code, a contract: the verification condition, and that it suffices.
-/
import Derived.Test.YtjlbaagnoppfgaaSxObK
import Derived.Test.YtjlbaagnoppfgaaSxMap
namespace Go.SX
set_option linter.unusedSectionVars false
variable [Globs]
section
variable {P : Program} {N : Nat} {Γ : Ctx} {W0 : World} {F : Fr} {X : Nat → Prop} {s : St} {β : Nat → Option Nat} {a : Act} {w : World}

structure Ctx.good (P : Program) (Γ : Ctx) : Prop where
  ok : Γ.ok P
  one : ∀ p ∈ Γ, (∀ v ∈ p.2.zero, v.oneCell' = true) ∧ p.2.zero.length = p.2.cells
  mixed : P.follows .mixedOrders = true

/-! ### one operation -/
def loadFrzK (Γ : Ctx) (s : St) (t : TypeId) : AV → (St → Prop) → Prop
  | .pt n o, K => lookBK s.boxes n fun cs => tiK Γ t fun ti => match isStruct ti.desc with
    | true => takeK ti.cells (cs.drop o) fun l => vecsOfK l fun ids => frzAllK ids s K
    | false => K s
  | _, K => K s
def storeK (s : St) (ti : TI) : AV → AV → (St → Prop) → Prop
  | .pt n o, v, K => storeBoxK s n o ti.cells v K
  | .vp id τ _ n o, v, K => storeVpK s id τ n o ti.cells v K
  | _, _, _ => False
def sbHeadK : List AV → (Nat → Nat → Ob → List AV → Prop) → Prop → Prop
  | .ob id id2 (.sb T e l) :: rest, A, _ => A id id2 (.sb T e l) rest
  | _, _, B => B
theorem sbHead_cases {vs : List AV} {A : Nat → Nat → Ob → List AV → Prop} {B : Prop} (h : sbHeadK vs A B) : (∃ id id2 o rest, vs = .ob id id2 o :: rest ∧ A id id2 o rest) ∨ B := by
  unfold sbHeadK at h
  split at h
  · exact .inl ⟨_, _, _, _, rfl, h⟩
  · exact .inr h
theorem sbHead_of {vs : List AV} {A : Nat → Nat → Ob → List AV → Prop} {B : Prop} {b : List (Nat × List AV)} (h : imAll (rdAll b vs) = true) (hb : B) : sbHeadK vs A B := by
  unfold sbHeadK
  split
  · simp [rdAll, rdOf, rdB, imAll, imB] at h
  · exact hb
def calleeK (P : Program) (Γ : Ctx) (N : Nat) (s : St) (op : Op) (args : List Operand) (ts : List TypeId) (dst : Option Nat) (K : St → Prop) : Callee → Prop
  | .value f => evsK s args fun vs => sbHeadK vs (fun id id2 o rest => callSbK P N s f id id2 o rest dst K) (callK P N s f args dst K ∨ callBK P N s f args dst K ∨ readK P N s f args dst K)
  | .builtin .append => appendK Γ N s args ts dst K
  | _ => valK Γ s op fun v => stPutK N s dst v K
def opK (P : Program) (Γ : Ctx) (N : Nat) (o : Oper) (s : St) (K : St → Prop) : Prop :=
  match o.op with
  | .alloc t => tiK Γ t fun ti => match ti.sb with
    | some e => allocSbK N s t ti e o.dst K
    | none => allocK Γ N s t o.dst K
  | .range t x => rangeK Γ N s t x o.dst K
  | .next x b => match b with
    | true => nextK N s x o.dst K
    | false => False
  | .box _ x => boxOpK N s x o.dst K
  | .load t x => evK s x fun p => loadFrzK Γ s t p fun s => evK s x fun p => loadVK Γ s t p fun v => stPutK N s o.dst v K
  | .store t x y => evK s x fun p => evK s y fun v => tiK Γ t fun ti => match o.dst with
    | none => storeK s ti p v K
    | some _ => False
  | .convert src dst x => evK s x fun a => tiK Γ src fun ts => tiK Γ dst fun ti => convAK Γ ts.desc ti.desc a fun v => stPutK N s o.dst v K
  | .makeSlice t x y => makeK Γ N s t x y o.dst K
  | .makeMap t r => match r with
    | none => mkMapK Γ N s t o.dst K
    | some _ => False
  | .lookup t x i ok => mapLookK Γ N s t x i ok o.dst K
  | .mapUpdate t x i y => mapUpdK Γ s t x i y o.dst K
  | .insert t x i y => mapUpdK Γ s t x i y o.dst K
  | .build t ps => buildK Γ N s t ps.toList o.dst K
  | .buildSlice t len ps => bsliceK Γ N s t len ps.toList o.dst K
  | .call c => calleeK P Γ N s o.op c.args.toList c.argTypes.toList o.dst K c.callee
  | op => valK Γ s op fun v => stPutK N s o.dst v K

theorem builtin_ok (hΓ : Γ.good P) (hI : InvB W0 F X N s β a w) {o : Oper} {b : Builtin} {args : Array Operand} {ts : Array TypeId} (ho : o.op = .call { callee := .builtin b, args := args, argTypes := ts })
    {K : AV → Prop} (h : builtinVK Γ s b args.toList ts.toList K) : ValOK P X s β a w o K := by
  cases b <;> first | exact h.elim | skip
  · have h : evsK s args.toList fun l => nthK ts.toList 0 fun t => tiK Γ t fun ti => lenVK ti.desc l K := h
    rw [evsK_eq] at h
    obtain ⟨t, h1, h⟩ := (nthK_iff _ _ _).1 h
    obtain ⟨ti, hti, h⟩ := tiK_ok hΓ.ok h
    exact len_ok ho hI h1 hti h
  · have h : evsK s args.toList fun l => maxK l K := h
    rw [evsK_eq] at h
    exact minmax_ok ho hI (.inr ⟨rfl, h⟩)
  · have h : evsK s args.toList fun l => minK l K := h
    rw [evsK_eq] at h
    exact minmax_ok ho hI (.inl ⟨rfl, h⟩)

theorem mem_evs {x : Operand} {l : List Operand} (h : x ∈ l) : ev s x ∈ evs s l := by
  induction l with
  | nil => cases h
  | cons y r ih =>
    rcases List.mem_cons.1 h with rfl | h
    · exact List.mem_cons_self ..
    · exact List.mem_cons_of_mem _ (ih h)
/-- the value operations, all of them -/
theorem val_ok_all (hΓ : Γ.good P) (hI : InvB W0 F X N s β a w) {o : Oper} {K : AV → Prop} (h : valK Γ s o.op K) : ValOK P X s β a w o K := by
  cases ho : o.op with
  | move x => rw [ho] at h; have h : evK s x K := h; rw [evK_eq] at h; exact ⟨_, _, h, (ev_rel hI x).1, (ev_rel hI x).2, fun w' => by simp [execOp, ho]⟩
  | assign x => rw [ho] at h; have h : evK s x K := h; rw [evK_eq] at h; exact ⟨_, _, h, (ev_rel hI x).1, (ev_rel hI x).2, fun w' => by simp [execOp, ho]⟩
  | pick c x y =>
    rw [ho] at h
    have h : evK s c fun c => evK s x fun a => evK s y fun b => pickK c a b K := h
    simp only [evK_eq] at h
    exact pick_ok hI ho h
  | binOp op t x y ty =>
    rw [ho] at h
    have h : evK s x fun a => evK s y fun b => binTK Γ op t a b K := h
    simp only [evK_eq] at h
    exact bin_ok hΓ.ok hI ho h
  | unOp op t x =>
    rw [ho] at h
    have h : evK s x fun a => unK op a K := h
    simp only [evK_eq] at h
    obtain ⟨r, z, h1, h2, h3⟩ := un_run (P := P) op h (ev_rel hI x).1
    exact .im h1 h2 (fun w' => by simp [execOp, ho, h3])
  | convert src dst x =>
    rw [ho] at h
    have h : evK s x fun a => tiK Γ src fun _ => tiK Γ dst fun ti => convK ti.desc a K := h
    rw [evK_eq] at h
    obtain ⟨si, hsi, h⟩ := tiK_ok hΓ.ok h
    obtain ⟨ti, hti, h⟩ := tiK_ok hΓ.ok h
    obtain ⟨d, hd, _⟩ := hsi.desc
    exact conv_ok ho hti (ev_rel hI x).1 h ⟨d, hd⟩
  | fieldAddr t x f =>
    rw [ho] at h
    have h : evK s x fun p => tiK Γ t fun ti => structK ti.desc fun fl => nthK fl f fun d => match d with | (off, _) => faddrK off p K := h
    rw [evK_eq] at h
    obtain ⟨ti, hti, h⟩ := tiK_ok hΓ.ok h
    obtain ⟨fl, fs, h, hu, h3, h4⟩ := struct_ok hti h
    obtain ⟨d, hd, h⟩ := (nthK_iff _ _ _).1 h
    exact faddr_ok ho hu h3 h4 hd (ev_rel hI x).1 (ev_rel hI x).2 h
  | field t x f =>
    rw [ho] at h
    have h : evK s x fun p => tiK Γ t fun ti => structK ti.desc fun fl => nthK fl f fun d => match d with | (off, sz) => fieldK off sz p K := h
    rw [evK_eq] at h
    obtain ⟨ti, hti, h⟩ := tiK_ok hΓ.ok h
    obtain ⟨fl, fs, h, hu, h3, h4⟩ := struct_ok hti h
    obtain ⟨d, hd, h⟩ := (nthK_iff _ _ _).1 h
    exact field_ok ho hu h3 hd h4 (ev_rel hI x).1 h
  | extract x i =>
    rw [ho] at h
    have h : evK s x fun p => extractK i p K := h
    rw [evK_eq] at h
    exact extract_ok ho (ev_rel hI x).1 (ev_rel hI x).2 h
  | indexAddr t x i =>
    rw [ho] at h
    have h : evK s x fun a => evK s i fun n => intK n fun n => tiK Γ t fun ti => idxAddrK Γ n a K ti.desc := h
    rw [evK_eq, evK_eq] at h
    obtain ⟨k, n, hi, h⟩ := int_ok h (ev_rel hI i).1
    obtain ⟨ti, hti, h⟩ := tiK_ok hΓ.ok h
    obtain ⟨de, h1, h2⟩ := hti.desc
    cases hd : ti.desc with
    | slice e =>
      rw [hd] at h h2
      obtain ⟨te, hte, h⟩ := tiK_ok hΓ.ok h
      exact iaddr_ok ho ((show de = .slice e from h2) ▸ h1) hte hi (ev_rel hI x).1 (ev_rel hI x).2 h
    | arr len e =>
      rw [hd] at h h2
      obtain ⟨te, hte, h⟩ := tiK_ok hΓ.ok h
      exact arrAddr_ok ho ((show de = .array len e from h2) ▸ h1) hte hi (ev_rel hI x).1 (ev_rel hI x).2 h
    | _ => rw [hd] at h; exact h.elim
  | index t x i =>
    rw [ho] at h
    have h : evK s x fun a => evK s i fun n => intK n fun n => tiK Γ t fun ti => idxValK Γ n a K ti.desc := h
    rw [evK_eq, evK_eq] at h
    obtain ⟨k, n, hi, h⟩ := int_ok h (ev_rel hI i).1
    obtain ⟨ti, hti, h⟩ := tiK_ok hΓ.ok h
    obtain ⟨de, h1, h2⟩ := hti.desc
    cases hd : ti.desc with
    | str =>
      rw [hd] at h h2
      exact strIndex_ok ho ((show de = .string from h2) ▸ h1) hi (ev_rel hI x).1 h
    | arr len e =>
      rw [hd] at h h2
      obtain ⟨te, hte, h⟩ := tiK_ok hΓ.ok h
      exact arrIdx_ok ho ((show de = .array len e from h2) ▸ h1) hte hi (ev_rel hI x).1 h
    | _ => rw [hd] at h; exact h.elim
  | nilCheck x =>
    rw [ho] at h
    have h : evK s x fun p => nilChkK p K := h
    rw [evK_eq] at h
    exact nilChk_ok ho (ev_rel hI x).1 (ev_rel hI x).2 h
  | makeFunc fn first captured =>
    rw [ho] at h
    have h : fnK fn first.toList.length fun f => evsK s captured.toList fun l => chkK (noFn l) (K (.fn f l)) := h
    obtain ⟨first⟩ := first
    cases first with
    | cons _ _ => cases fn <;> exact h.elim
    | nil =>
      cases fn with
      | func f =>
        have h : evsK s captured.toList fun l => chkK (noFn l) (K (.fn f l)) := h
        rw [evsK_eq] at h
        obtain ⟨h1, h⟩ := (chkK_iff _ _).1 h
        refine fnVal_ok hI ho (fun x hx => ?_) h
        have hmem : ev s x ∈ evs s captured.toList := mem_evs (by simpa using hx)
        have : ∀ l : List AV, noFn l = true → ∀ v ∈ l, noFn [v] = true := by
          intro l
          induction l with
          | nil => intro _ v hv; cases hv
          | cons y r ih =>
            intro hl v hv
            have hy : noFn r = true ∧ noFn [y] = true := by cases y <;> first | exact ⟨hl, rfl⟩ | exact absurd (show false = true from hl) (by simp)
            rcases List.mem_cons.1 hv with e | hv
            · rw [e]; exact hy.2
            · exact ih hy.1 v hv
        exact this _ h1 _ hmem
      | _ => exact h.elim
  | call c =>
    rw [ho] at h
    obtain ⟨callee, args, ts⟩ := c
    cases callee with
    | builtin b => exact builtin_ok hΓ hI ho h
    | _ => exact h.elim
  | slice t x lo hi mx =>
    rw [ho] at h
    cases mx with
    | some _ => exact h.elim
    | none =>
      have h : evK s x fun a => tiK Γ t fun ti => match isStrT ti.desc with
        | true => strSliceK s lo hi a K
        | false => sliceTK ti.desc fun e => tiK Γ e fun te => rdSliceK s te.cells lo hi a K := h
      rw [evK_eq] at h
      obtain ⟨ti, hti, h⟩ := tiK_ok hΓ.ok h
      cases hs : isStrT ti.desc with
      | true => rw [hs] at h; exact strSlice_ok hI ho (str_ok hti hs) (ev_rel hI x).1 h
      | false =>
        rw [hs] at h
        obtain ⟨e, h, hu⟩ := slice_ok hti h
        obtain ⟨te, hte, h⟩ := tiK_ok hΓ.ok h
        exact rdSlice_ok hI ho hu hte (ev_rel hI x).1 (ev_rel hI x).2 h
  | _ => rw [ho] at h; exact h.elim

theorem valPut_ok (hΓ : Γ.good P) (hI : InvB W0 F X N s β a w) {o : Oper} {K : St → Prop} (h : valK Γ s o.op fun v => stPutK N s o.dst v K)
    {next : Act → World → Prop} {Q : Exit → Act → World → Prop} (hn : ∀ s' a' w', K s' → Inv W0 F X N s' a' w' → next a' w') : o.wp P a w next Q := by
  obtain ⟨v, u, h1, h2, h3, h4⟩ := val_ok_all hΓ hI h
  exact val_ok hI h1 hn (h4 w) h2 h3

theorem op_ok (hΓ : Γ.good P) (hI : InvB W0 F X N s β a w) {o : Oper} {K : St → Prop} (h : opK P Γ N o s K)
    {next : Act → World → Prop} {Q : Exit → Act → World → Prop} (hn : ∀ s' a' w', K s' → Inv W0 F X N s' a' w' → next a' w') : o.wp P a w next Q := by
  unfold opK at h
  cases ho : o.op with
  | alloc t =>
    rw [ho] at h
    obtain ⟨ti, hti, h⟩ := tiK_ok hΓ.ok (show tiK Γ t fun ti => match ti.sb with
      | some e => allocSbK N s t ti e o.dst K
      | none => allocK Γ N s t o.dst K from h)
    cases he : ti.sb with
    | some e => rw [he] at h; exact allocSb_ok hI ho hti h hn
    | none => rw [he] at h; exact alloc_ok hΓ.ok (fun p hp => (hΓ.one p hp).1) hI ho h hn
  | range t x => rw [ho] at h; exact range_ok hΓ.ok hI ho h hn
  | next x b =>
    rw [ho] at h
    cases b with
    | true => exact next_ok hI ho h hn
    | false => exact h.elim
  | box t x => rw [ho] at h; exact boxOp_ok hI ho h hn
  | load t x =>
    rw [ho] at h
    have h : evK s x fun p => loadFrzK Γ s t p fun s => evK s x fun p => loadVK Γ s t p fun v => stPutK N s o.dst v K := h
    rw [evK_eq] at h
    have key : ∃ s', InvB W0 F X N s' β a w ∧ evK s' x fun p => loadVK Γ s' t p fun v => stPutK N s' o.dst v K := by
      cases hp : ev s x with
      | pt n off =>
        rw [hp] at h
        obtain ⟨cs, h1, h⟩ := (lookBK_iff _ _ _).1 h
        obtain ⟨ti, hti, h⟩ := tiK_ok hΓ.ok h
        cases hs : isStruct ti.desc with
        | true =>
          rw [hs] at h
          have h := ((takeK_iff _ _ _).1 h).2
          rw [vecsOfK_eq, frzAllK_eq] at h
          exact ⟨_, hI.frzAll _, h⟩
        | false => rw [hs] at h; exact ⟨s, hI, h⟩
      | _ => rw [hp] at h; exact ⟨s, hI, h⟩
    obtain ⟨s', hI', h⟩ := key
    rw [evK_eq] at h
    obtain ⟨v, u, h1, h2, h3, h4⟩ := load_ok hΓ.ok hI' ho (ev_rel hI' x).1 h
    exact val_ok hI' h1 hn h4 h2 h3
  | store t x y =>
    rw [ho] at h
    have h : evK s x fun p => evK s y fun v => tiK Γ t fun ti => match o.dst with
      | none => storeK s ti p v K
      | some _ => False := h
    rw [evK_eq, evK_eq] at h
    obtain ⟨ti, hti, h⟩ := tiK_ok hΓ.ok h
    cases hd : o.dst with
    | some d => rw [hd] at h; exact h.elim
    | none =>
      rw [hd] at h
      cases hp : ev s x with
      | pt n off =>
        rw [hp] at h
        have hx := (ev_rel hI x).1
        rw [hp] at hx
        obtain ⟨s', w', h1, h2, h3⟩ := storeBox_ok hI ho hti hx (ev_rel hI y).1 (ev_rel hI y).2 h
        exact wp_skp h3 (by rw [hd]; exact hn _ _ _ h1 ⟨β, h2⟩)
      | vp id τ l n off =>
        rw [hp] at h
        have hx := ev_rel hI x
        rw [hp] at hx
        obtain ⟨s', w', h1, h2, h3⟩ := storeVp_ok hI ho hti hx.1 (hx.2 id (by simp [ids, ids0])) (ev_rel hI y).1 (ev_rel hI y).2 h
        exact wp_skp h3 (by rw [hd]; exact hn _ _ _ h1 ⟨β, h2⟩)
      | _ => rw [hp] at h; exact h.elim
  | convert src dst x =>
    rw [ho] at h
    have h : evK s x fun a => tiK Γ src fun ts => tiK Γ dst fun ti => convAK Γ ts.desc ti.desc a fun v => stPutK N s o.dst v K := h
    rw [evK_eq] at h
    obtain ⟨ts, hts, h⟩ := tiK_ok hΓ.ok h
    obtain ⟨ti, hti, h⟩ := tiK_ok hΓ.ok h
    rcases convA_ok hΓ.ok ho hts hti (ev_rel hI x).1 h with ⟨v, u, h1, h2, h3, h4⟩ | ⟨e, l, h1, h2, h3⟩
    · exact val_ok hI h1 hn h4 h2 h3
    · obtain ⟨r, u, w', k1, k2, k3, k4⟩ := convS_ok (K := fun v => stPutK N s o.dst v K) hΓ.ok (own_lt hI) ho hts hti h2 (ev_rel hI x).1 h1 h3
      exact valIm_ok hI k2 k1 hn k3 k4
  | makeSlice t x y => rw [ho] at h; exact make_ok hΓ.ok hI ho h hn
  | makeMap t r =>
    cases r with
    | none => rw [ho] at h; exact mkMap_ok hΓ.ok hI ho h hn
    | some x => rw [ho] at h; exact h.elim
  | lookup t x i ok => rw [ho] at h; exact mapLook_ok hΓ.ok hI ho h hn
  | mapUpdate t x i y => rw [ho] at h; exact mapUpd_ok hΓ.ok hI (.inl ho) h hn
  | insert t x i y => rw [ho] at h; exact mapUpd_ok hΓ.ok hI (.inr ho) h hn
  | build t ps => rw [ho] at h; exact build_ok hΓ.ok (fun p hp => (hΓ.one p hp).1) hI ho h hn
  | buildSlice t len ps => rw [ho] at h; exact bslice_ok hΓ.ok hΓ.one hI ho h hn
  | call c =>
    rw [ho] at h
    obtain ⟨callee, args, ts⟩ := c
    cases callee with
    | value f =>
      have h : evsK s args.toList fun vs => sbHeadK vs (fun id id2 o' rest => callSbK P N s f id id2 o' rest o.dst K) (callK P N s f args.toList o.dst K ∨ callBK P N s f args.toList o.dst K ∨ readK P N s f args.toList o.dst K) := h
      rw [evsK_eq] at h
      rcases sbHead_cases h with ⟨id, id2, ob, rest, hev, h⟩ | h
      · exact callSb_ok hI ho hev h hn
      · exact h.elim (fun h => call_ok hI ho h hn) fun h => h.elim (fun h => callB_ok hI ho h hn) fun h => read_ok hI ho h hn
    | builtin b =>
      cases b with
      | append => exact append_ok hΓ.ok hΓ.one hI ho h hn
      | _ => exact valPut_ok hΓ hI (by rw [ho]; exact h) hn
    | invoke r m => exact valPut_ok hΓ hI (by rw [ho]; exact h) hn
  | _ => exact valPut_ok hΓ hI (by rw [ho]; rw [ho] at h; exact h) hn

/-! ### a region -/
def litK : AV → (Bool → Prop) → (Prop) → Prop
  | .b true, K, _ => K true
  | .b false, K, _ => K false
  | .tup [], _, K => K
  | _, _, _ => False
/-- what the guard's operation yields: known already, or both ways are to be gone -/
def guardK (N : Nat) (known : Bool) (s : St) (d : Nat) (want : Bool) (run skip : St → Prop) : Prop :=
  lookK s.slots d fun v => match known with
    | true => match v with
      | .b true => bif want then run s else skip s
      | .b false => bif want then skip s else run s
      | .tup [] => skip s
      | _ => False
    | false => match v with
      | .b t => (t = want → stPutK N s (some d) (.b want) run) ∧ (t = (!want) → stPutK N s (some d) (.b (!want)) skip)
      | .tup [] => skip s
      | _ => False
def opsStepK (P : Program) (Γ : Ctx) (N : Nat) (ops : List Oper) (o : Oper) (known : List Nat) (s : St) (K : List Nat → St → Prop) : Prop :=
  match o.guard with
  | none => opK P Γ N o s fun s => K known s
  | some (j, want) => nthK ops j fun oj => optK oj.dst fun d =>
    guardK N (inB j known) s d want (fun s => opK P Γ N o s fun s => K (j :: known) s)
      (fun s => stPutK N s o.dst (.tup []) fun s => K (j :: known) s)
def vcOps (P : Program) (Γ : Ctx) (N : Nat) (ops : List Oper) : List Oper → List Nat → St → (St → Prop) → Prop
  | [], _, s, Q => Q s
  | o :: r, known, s, Q => opsStepK P Γ N ops o known s fun known s => vcOps P Γ N ops r known s Q

theorem undef_rel (O : Nat → Prop) (w : World) : Im O w (.tup []) undef := by
  have := Im.tup (O := O) (w := w) [] [] rfl (by simp)
  exact this

theorem guard_ok (hI : InvB W0 F X N s β a w) {ops : List Oper} {j : Nat} {oj : Oper} (hj : ops[j]? = some oj) {d : Nat} (hd : oj.dst = some d) {known want : Bool} {run skip : St → Prop} (h : guardK N known s d want run skip) :
    (∃ s', InvB W0 F X N s' β a w ∧ yielded ops.toArray a.tmps j = some want ∧ run s') ∨ (∃ s', InvB W0 F X N s' β a w ∧ yielded ops.toArray a.tmps j ≠ some want ∧ skip s') := by
  have hy : yielded ops.toArray a.tmps j = (match a.tmps[d]? with | some (.bool b) => some b | _ => none) := by
    simp [yielded, hj, hd]; rfl
  have hr := hI.slots d
  have hlit : ∀ (t want : Bool), look s.slots d = .b t → yielded ops.toArray a.tmps j = some t := by
    intro t want hv
    rw [hv] at hr
    have := hr.inv_b
    rw [hy]
    rw [Array.getD_eq_getD_getElem?] at this
    cases hc : a.tmps[d]? with
    | none => rw [hc] at this; simp [undef] at this
    | some u => rw [hc] at this; simp at this; subst this; rfl
  have htup : look s.slots d = .tup [] → yielded ops.toArray a.tmps j ≠ some want := by
    intro hv
    rw [hv] at hr
    obtain ⟨vs, h1, h2⟩ := hr.inv_tup
    rw [hy]
    rw [Array.getD_eq_getD_getElem?] at h1
    cases hc : a.tmps[d]? with
    | none => simp
    | some u => rw [hc] at h1; simp at h1; subst h1; simp
  have hput : ∀ t, look s.slots d = .b t → ∀ K : St → Prop, stPutK N s (some d) (.b t) K → ∃ s', InvB W0 F X N s' β a w ∧ K s' := by
    intro t hv K hK
    rw [stPutK_some] at hK
    cases hb : Nat.blt d N with
    | false => rw [hb] at hK; exact hK.elim
    | true =>
      rw [hb, cond_true] at hK
      have hdN : d < N := by rw [Nat.blt_eq] at hb; exact hb
      have h1 := hI.put hdN (v := .b t) (u := a.tmps.getD d undef) (by rw [hv] at hr; exact hr) (by intro n hn; cases hn)
      refine ⟨_, ?_, hK⟩
      have e : a.put (some d) (a.tmps.getD d undef) = a := by
        have hdl : d < a.tmps.size := by rw [hI.size]; exact hdN
        simp only [Act.put]
        congr 1
        apply Array.ext_getElem?
        intro i
        rw [Array.getElem?_setIfInBounds]
        split
        · rename_i e; subst e; rw [Array.getElem?_eq_getElem hdl]; simp
        · rfl
      rw [e] at h1
      exact h1
  unfold guardK at h
  rw [lookK_eq] at h
  cases known with
  | true =>
    cases hv : look s.slots d with
    | b t =>
      rw [hv] at h
      have hyt := hlit t want hv
      cases t <;> cases want
      · exact .inl ⟨s, hI, hyt, h⟩
      · exact .inr ⟨s, hI, by rw [hyt]; simp, h⟩
      · exact .inr ⟨s, hI, by rw [hyt]; simp, h⟩
      · exact .inl ⟨s, hI, hyt, h⟩
    | tup l =>
      rw [hv] at h
      cases l with
      | nil => exact .inr ⟨s, hI, htup hv, h⟩
      | cons _ _ => exact h.elim
    | _ => rw [hv] at h; exact h.elim
  | false =>
    cases hv : look s.slots d with
    | b t =>
      rw [hv] at h
      have hyt := hlit t want hv
      by_cases ht : t = want
      · obtain ⟨s', h1, h2⟩ := hput want (ht ▸ hv) run (h.1 ht)
        exact .inl ⟨s', h1, by rw [hyt, ht], h2⟩
      · have ht' : t = !want := by cases t <;> cases want <;> simp_all
        obtain ⟨s', h1, h2⟩ := hput (!want) (ht' ▸ hv) skip (h.2 ht')
        exact .inr ⟨s', h1, by rw [hyt]; simpa using ht, h2⟩
    | tup l =>
      rw [hv] at h
      cases l with
      | nil => exact .inr ⟨s, hI, htup hv, h⟩
      | cons _ _ => exact h.elim
    | _ => rw [hv] at h; exact h.elim

theorem vcOps_ok (hΓ : Γ.good P) {ops : List Oper} {Q : St → Prop} {Q' : Exit → Act → World → Prop} (hQ : ∀ s a w, Q s → Inv W0 F X N s a w → Q' .normal a w) (l : List Oper) :
    ∀ (known : List Nat) (s : St) (a : Act) (w : World), vcOps P Γ N ops l known s Q → Inv W0 F X N s a w → wpList P ops.toArray Q' l a w := by
  induction l with
  | nil => intro known s a w h hI; exact hQ s a w h hI
  | cons o r ih =>
    intro known s a w h ⟨β, hI⟩
    simp only [vcOps, opsStepK] at h
    cases hg : o.guard with
    | none =>
      rw [hg] at h
      exact wpList_plain hg fun K hK => op_ok hΓ hI h fun s' a' w' h1 h2 => hK _ _ (ih known s' a' w' h1 h2)
    | some p =>
      obtain ⟨j, want⟩ := p
      rw [hg] at h
      obtain ⟨oj, hj, h⟩ := (nthK_iff _ _ _).1 h
      obtain ⟨d, hd, h⟩ := (optK_iff _ _).1 h
      refine wpList_step fun K hK => ?_
      rcases guard_ok hI hj hd h with ⟨s', hI', hy, h⟩ | ⟨s', hI', hy, h⟩
      · rw [if_pos (by simp [Region.wanted, hg, hy])]
        exact op_ok hΓ hI' h fun s' a' w' h1 h2 => hK _ _ (ih _ s' a' w' h1 h2)
      · rw [if_neg (by simp [Region.wanted, hg]; exact hy)]
        obtain ⟨s2, h1, h2⟩ := putIm_ok hI' (Stp.refl _ w) h (undef_rel _ _)
        exact hK _ _ (ih _ s2 _ _ h1 ⟨β, h2⟩)
end
end Go.SX
