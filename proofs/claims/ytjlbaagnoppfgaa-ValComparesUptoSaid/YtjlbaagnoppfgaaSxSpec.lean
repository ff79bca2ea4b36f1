/-
  Contracts out of verification conditions.
-/
import Derived.Test.YtjlbaagnoppfgaaSxVcg
namespace Go.SX
set_option linter.unusedSectionVars false
variable [Globs]
section
variable {P : Program} {N : Nat} {Γ : Ctx} {W0 : World} {F : Fr} {X : Nat → Prop} {s : St} {β : Nat → Option Nat} {a : Act} {w : World}

def slotVals : List (Nat × AV) → List AV
  | [] => []
  | (_, v) :: r => v :: slotVals r
def boxVals : List (Nat × List AV) → List AV
  | [] => []
  | (_, l) :: r => l ++ boxVals r
def slotVecsK : List (Nat × AV) → (List Nat → Prop) → Prop
  | [], K => K []
  | (_, .vec id _ _) :: r, K => slotVecsK r fun l => K (id :: l)
  | (_, .vs id _ _ _) :: r, K => slotVecsK r fun l => K (id :: l)
  | _ :: r, K => slotVecsK r K
def slotVecs : List (Nat × AV) → List Nat
  | [] => []
  | (_, .vec id _ _) :: r => id :: slotVecs r
  | (_, .vs id _ _ _) :: r => id :: slotVecs r
  | _ :: r => slotVecs r
theorem slotVecsK_eq (l : List (Nat × AV)) : ∀ K, slotVecsK l K = K (slotVecs l) := by
  induction l with
  | nil => intro K; rfl
  | cons p r ih => intro K; obtain ⟨n, v⟩ := p; cases v <;> simp [slotVecsK, slotVecs, ih]
def boxVecsK : List (Nat × List AV) → (List Nat → Prop) → Prop
  | [], K => K []
  | (_, l) :: r, K => vecsOfK l fun ids => boxVecsK r fun l => K (ids ++ l)
def boxVecs : List (Nat × List AV) → List Nat
  | [] => []
  | (_, l) :: r => vecsOf l ++ boxVecs r
theorem boxVecsK_eq (l : List (Nat × List AV)) : ∀ K, boxVecsK l K = K (boxVecs l) := by
  induction l with
  | nil => intro K; rfl
  | cons p r ih => intro K; obtain ⟨n, v⟩ := p; simp [boxVecsK, boxVecs, vecsOfK_eq, ih]

/-- one result -/
def resK (Γ : Ctx) (s : St) : ResultVar → (AV → Prop) → Prop
  | .tmp t, K => lookK s.slots t fun v => chkK (imB v) (chkK (fnArgs [v]) (K v))
  | .cell a t, K => lookK s.slots a fun p => loadVK Γ s t p fun v => chkK (imB v) (chkK (fnArgs [v]) (K v))
def resAllK (Γ : Ctx) (s : St) : List ResultVar → (List AV → Prop) → Prop
  | [], K => K []
  | r :: t, K => resK Γ s r fun v => resAllK Γ s t fun l => K (v :: l)
def oneTup : List AV → AV
  | [v] => v
  | l => .tup l
def retK (Γ : Ctx) (s : St) (rs : List ResultVar) (K : AV → Prop) : Prop :=
  slotVecsK s.slots fun i1 => boxVecsK s.boxes fun i2 => frzAllK (i1 ++ i2) s fun s => resAllK Γ s rs fun l => K (oneTup l)

def resOf (tmps : Array Value) : ResultVar → Sem Value
  | .tmp t => pure (tmps.getD t undef)
  | .cell a t => do loadVar t (← asAddr (tmps.getD a undef))
theorem res_ok (hΓ : Γ.good P) (hI : InvB W0 F X N s β a w) {r : ResultVar} {K : AV → Prop} (h : resK Γ s r K) : ∃ v u, K v ∧ Im (Own X s β) w v u ∧ (resOf a.tmps r).run P w = .ok u w := by
  cases r with
  | tmp t =>
    have h : lookK s.slots t fun v => chkK (imB v) (chkK (fnArgs [v]) (K v)) := h
    rw [lookK_eq] at h
    obtain ⟨h1, h⟩ := (chkK_iff _ _).1 h
    obtain ⟨h2, h⟩ := (chkK_iff _ _).1 h
    exact ⟨_, _, h, im_of_rel (hI.slots t) h1 h2, rfl⟩
  | cell ad t =>
    have h : lookK s.slots ad fun p => loadVK Γ s t p fun v => chkK (imB v) (chkK (fnArgs [v]) (K v)) := h
    rw [lookK_eq] at h
    let o : Oper := { dst := none, op := .load t (.tmp ad), type := 0, pos := "", after := #[], guard := none }
    obtain ⟨v, u, h1, h2, _, h4⟩ := load_ok hΓ.ok hI (o := o) (x := .tmp ad) rfl (hI.slots ad) h
    obtain ⟨h5, h1⟩ := (chkK_iff _ _).1 h1
    obtain ⟨h6, h1⟩ := (chkK_iff _ _).1 h1
    refine ⟨v, u, h1, im_of_rel h2 h5 h6, ?_⟩
    have hp := hI.slots ad
    -- a pointer lies there
    have hptr : ∃ x, a.tmps.getD ad undef = .pointer (some x) := by
      cases hv : look s.slots ad with
      | pt n off => rw [hv] at hp; obtain ⟨g, _, e⟩ := hp; exact ⟨_, e⟩
      | rp cs => rw [hv] at hp; obtain ⟨g, off, e, _⟩ := Im.inv_rp hp; exact ⟨_, e⟩
      | vp id τ l n off => rw [hv] at hp; obtain ⟨_, ⟨g, _, e⟩, _⟩ := hp; exact ⟨_, e⟩
      | _ => rw [hv] at h; exact h.elim
    obtain ⟨x, hx⟩ := hptr
    have h4' : (Instr.loadAt t (a.tmps.getD ad undef)).run P w = .ok u w := by
      simp only [execOp, o, Act.eval, Sem.run_bind] at h4
      cases hr : (Instr.loadAt t (a.tmps.getD ad undef)).run P w with
      | ok q w' => rw [hr] at h4; simp at h4; obtain ⟨e1, e2⟩ := h4; subst e1 e2; rfl
      | halt q w' => rw [hr] at h4; simp at h4
    rw [hx] at h4'
    simp only [resOf, hx]
    simpa [Instr.loadAt, Instr.sureAddr, asAddr] using h4'
theorem resAll_ok (hΓ : Γ.good P) (hI : InvB W0 F X N s β a w) (rs : List ResultVar) : ∀ {K : List AV → Prop}, resAllK Γ s rs K → ∃ vs us, K vs ∧ All2 (Im (Own X s β) w) vs us ∧ (rs.mapM (resOf a.tmps)).run P w = .ok us w := by
  induction rs with
  | nil => intro K h; exact ⟨[], [], h, All2.nil _, rfl⟩
  | cons r t ih =>
    intro K h
    obtain ⟨v, u, h, h1, h2⟩ := res_ok hΓ hI (show resK Γ s r fun v => resAllK Γ s t fun l => K (v :: l) from h)
    obtain ⟨vs, us, h3, h4, h5⟩ := ih h
    refine ⟨v :: vs, u :: us, h3, All2.cons h1 h4, ?_⟩
    rw [List.mapM_cons]
    simp only [Sem.run_bind, h2, Result.andThen_ok]
    rw [h5]
    rfl
theorem results_eq (fn : Func) (tmps : Array Value) : results fn tmps = (do let vs ← fn.results.mapM (resOf tmps); pure (if h : vs.size = 1 then vs[0] else .tuple vs)) := by
  unfold results
  congr 1
theorem ret_ok (hΓ : Γ.good P) (hI : InvB W0 F X N s β a w) {fn : Func} {K : AV → Prop} (h : retK Γ s fn.results.toList K) : ∃ v u, K v ∧ Im X w v u ∧ (results fn a.tmps).run P w = .ok u w := by
  unfold retK at h
  rw [slotVecsK_eq, boxVecsK_eq, frzAllK_eq] at h
  have hI1 := hI.frzAll (slotVecs s.slots ++ boxVecs s.boxes)
  obtain ⟨vs, us, h1, h2, h3⟩ := resAll_ok hΓ hI1 _ h
  have hX : ∀ {v u}, Im (Own X (frzAll (slotVecs s.slots ++ boxVecs s.boxes) s) β) w v u → Im X w v u := fun h => h.mono fun k hk => .inl hk
  have hrun : (results fn a.tmps).run P w = .ok (if h : us.toArray.size = 1 then us.toArray[0] else .tuple us.toArray) w := by
    rw [results_eq, Array.mapM_eq_mapM_toList]
    simp only [Sem.run_bind, Sem.run_map, h3, Result.andThen_ok, Sem.run_pure]
  rcases us with _ | ⟨u, _ | ⟨u', r⟩⟩
  · have := h2.1
    have hv : vs = [] := List.eq_nil_of_length_eq_zero (by simpa using this)
    subst hv
    exact ⟨.tup [], .tuple #[], h1, .tup [] [] rfl (by simp), by rw [hrun]; rfl⟩
  · obtain ⟨v, rfl⟩ : ∃ v, vs = [v] := by
      have := h2.1
      match vs, this with
      | [v], _ => exact ⟨v, rfl⟩
    exact ⟨v, u, h1, hX h2.head, by rw [hrun]; rfl⟩
  · obtain ⟨v, v', t, rfl⟩ : ∃ v v' t, vs = v :: v' :: t := by
      have := h2.1
      match vs, this with
      | v :: v' :: t, _ => exact ⟨v, v', t, rfl⟩
    refine ⟨.tup (v :: v' :: t), .tuple (u :: u' :: r).toArray, h1, hX (.tup _ _ h2.1 h2.2), ?_⟩
    rw [hrun, dif_neg (by simp)]

/-- the post of a function's code -/
def postK (Γ : Ctx) (rs : List ResultVar) (R : AV → Prop) (e : Exit) (s : St) : Prop :=
  match e with
  | .normal => retK Γ s rs R
  | .ret => retK Γ s rs R
  | _ => False

/-- **A CONTRACT OUT OF A VERIFICATION CONDITION.** -/
theorem pspec_of_vc (hΓ : Γ.good P) {f : FuncId} {fn : Func} {c : Code} (hf : P.funcs[f]? = some fn) (hb : fn.body = some c) (hcall : ∀ (vs : Array Value) (w : World), (callFunc f vs).run P w = .ok (.enter f vs) w)
    {rs : Array ResultVar} (hrs : fn.results = rs) (hN : fn.ntmps = N) {args : List AV} {r : AV} {L : List Nat} (hlen : args.length ≤ N)
    (hvc : vc P Γ N L c (postK Γ rs.toList (fun v => v = r)) ⟨argSlots 0 args, []⟩) : PSpec P f args r := by
  refine ⟨hcall, fun O w vs hO hG hargs => ?_⟩
  refine calls_of_wp hf hb ?_
  have hsz : vs.length = args.length := hargs.1.symm
  have hI : InvB w Fr.none O N ⟨argSlots 0 args, []⟩ (fun _ => none) { tmps := vs.toArray ++ Array.replicate (fn.ntmps - vs.toArray.size) undef, defers := [] } w := by
    have hNm : ∀ n, ¬ Nm ⟨argSlots 0 args, []⟩ n := by
      rintro n (⟨cs, h⟩ | ⟨m, h⟩ | ⟨b, cs, h, _⟩)
      · cases h
      · have := look_args args 0 m
        rw [Nat.zero_add] at this
        simp only [this] at h
        by_cases hm : m < args.length
        · rw [List.getD_eq_getElem?_getD, List.getElem?_eq_getElem hm] at h
          have := (hargs.2 m _ _ (List.getElem?_eq_getElem hm) (List.getElem?_eq_getElem (by rw [hsz]; exact hm))).ids_nil
          rw [show (some args[m]).getD AV.x = args[m] from rfl, this] at h
          cases h
        · rw [List.getD_eq_getElem?_getD, List.getElem?_eq_none (by omega)] at h
          simp [ids, ids0] at h
      · cases h
    refine ⟨Stp.refl _ _, fun n => ?_, ?_, fun n cs h => (by cases h), fun n m g hn => absurd hn (hNm n), fun n g hn => absurd hn (hNm n), rfl, fun k hk => ⟨hO k hk, id⟩, fun n cs g h => (by cases h), fun _ _ => rfl, hG.step (Stp.refl (fun _ => False) w) (fun _ _ h => h.elim) fun k _ hk => hk.elim id fun h => h.elim⟩
    · have h1 := look_args args 0 n
      rw [Nat.zero_add] at h1
      show Rel _ _ _ (look (argSlots 0 args) n) _
      rw [h1]
      by_cases hm : n < args.length
      · have hmv : n < vs.length := by rw [hsz]; exact hm
        have h2 := hargs.2 n _ _ (List.getElem?_eq_getElem hm) (List.getElem?_eq_getElem hmv)
        rw [List.getD_eq_getElem?_getD, List.getElem?_eq_getElem hm]
        have h3 : (vs.toArray ++ Array.replicate (fn.ntmps - vs.toArray.size) undef).getD n undef = vs[n] := by
          rw [Array.getD_eq_getD_getElem?, Array.getElem?_append_left (by simpa using hmv)]
          simp [hmv]
        rw [h3]
        refine Rel.im (h2.mono fun k hk => ?_)
        rcases hk with hk | ⟨m, hm', _⟩
        · exact hk
        · exact absurd hm' (hNm m)
      · rw [List.getD_eq_getElem?_getD, List.getElem?_eq_none (by omega)]
        exact Rel.x
    · show (vs.toArray ++ Array.replicate (fn.ntmps - vs.toArray.size) undef).size = N
      simp only [Array.size_append, List.size_toArray, Array.size_replicate, hN, hsz]
      omega
  refine vc_ok (W0 := w) (F := Fr.none) (X := O) hΓ c _ _ _ _ _ (fun e s a w' hq ⟨β, hI'⟩ => ?_) hvc ⟨_, hI⟩
  have key : retK Γ s rs.toList (fun v => v = r) → a.defers = [] ∧ ∃ v, (results fn a.tmps).run P w' = .ok v w' ∧ ∃ v', Ending.returned v = .returned v' ∧ Stp (fun _ => False) w w' ∧ Im O w' r v' := by
    intro h
    rw [← hrs] at h
    obtain ⟨v, u, rfl, h1, h2⟩ := ret_ok hΓ hI' h
    exact ⟨hI'.defers, u, h2, u, rfl, hI'.ext, h1⟩
  cases e with
  | normal => exact key hq
  | ret => exact key hq
  | _ => exact hq.elim

/-! ### contracts that write what they are handed -/
def resBK (Γ : Ctx) (s : St) : ResultVar → (AV → Prop) → Prop
  | .tmp t, K => lookK s.slots t K
  | .cell a t, K => lookK s.slots a fun p => loadVK Γ s t p K
def resBAllK (Γ : Ctx) (s : St) : List ResultVar → (List AV → Prop) → Prop
  | [], K => K []
  | r :: t, K => resBK Γ s r fun v => resBAllK Γ s t fun l => K (v :: l)
/-- the end of a function that hands back own memory: names are turned, then the results and the boxes are as told -/
def endK (Γ : Ctx) (rs : List ResultVar) (r : AV) (boxes' : List (Nat × List AV)) (s : St) : Prop :=
  ∃ rn, renStK rn s fun s => resBAllK Γ s rs fun l => chkK (noFn l) (oneTup l = r) ∧ wkB s boxes'
def postBK (Γ : Ctx) (rs : List ResultVar) (r : AV) (boxes' : List (Nat × List AV)) (e : Exit) (s : St) : Prop :=
  match e with
  | .normal => endK Γ rs r boxes' s
  | .ret => endK Γ rs r boxes' s
  | _ => False

theorem resB_ok (hΓ : Γ.good P) (hI : InvB W0 F X N s β a w) {r : ResultVar} {K : AV → Prop} (h : resBK Γ s r K) : ∃ v u, K v ∧ Rel β (Own X s β) w v u ∧ (∀ n ∈ ids v, Nm s n) ∧ (resOf a.tmps r).run P w = .ok u w := by
  cases r with
  | tmp t =>
    have h : lookK s.slots t K := h
    rw [lookK_eq] at h
    exact ⟨_, _, h, hI.slots t, fun n hn => .inr (.inl ⟨t, hn⟩), rfl⟩
  | cell ad t =>
    have h : lookK s.slots ad fun p => loadVK Γ s t p K := h
    rw [lookK_eq] at h
    let o : Oper := { dst := none, op := .load t (.tmp ad), type := 0, pos := "", after := #[], guard := none }
    obtain ⟨v, u, h1, h2, h3, h4⟩ := load_ok hΓ.ok hI (o := o) (x := .tmp ad) rfl (hI.slots ad) h
    refine ⟨v, u, h1, h2, h3, ?_⟩
    have hp := hI.slots ad
    have hptr : ∃ x, a.tmps.getD ad undef = .pointer (some x) := by
      cases hv : look s.slots ad with
      | pt n off => rw [hv] at hp; obtain ⟨g, _, e⟩ := hp; exact ⟨_, e⟩
      | rp cs => rw [hv] at hp; obtain ⟨g, off, e, _⟩ := Im.inv_rp hp; exact ⟨_, e⟩
      | vp id τ l n off => rw [hv] at hp; obtain ⟨_, ⟨g, _, e⟩, _⟩ := hp; exact ⟨_, e⟩
      | _ => rw [hv] at h; exact h.elim
    obtain ⟨x, hx⟩ := hptr
    have h4' : (Instr.loadAt t (a.tmps.getD ad undef)).run P w = .ok u w := by
      simp only [execOp, o, Act.eval, Sem.run_bind] at h4
      cases hr : (Instr.loadAt t (a.tmps.getD ad undef)).run P w with
      | ok q w' => rw [hr] at h4; simp at h4; obtain ⟨e1, e2⟩ := h4; subst e1 e2; rfl
      | halt q w' => rw [hr] at h4; simp at h4
    rw [hx] at h4'
    simp only [resOf, hx]
    simpa [Instr.loadAt, Instr.sureAddr, asAddr] using h4'
theorem resBAll_ok (hΓ : Γ.good P) (hI : InvB W0 F X N s β a w) (rs : List ResultVar) : ∀ {K : List AV → Prop}, resBAllK Γ s rs K → ∃ vs us, K vs ∧ All2 (Rel β (Own X s β) w) vs us ∧ (∀ c ∈ vs, ∀ n ∈ ids c, Nm s n) ∧ (rs.mapM (resOf a.tmps)).run P w = .ok us w := by
  induction rs with
  | nil => intro K h; exact ⟨[], [], h, All2.nil _, (by intro c hc; cases hc), rfl⟩
  | cons r t ih =>
    intro K h
    obtain ⟨v, u, h, h1, h0, h2⟩ := resB_ok hΓ hI (show resBK Γ s r fun v => resBAllK Γ s t fun l => K (v :: l) from h)
    obtain ⟨vs, us, h3, h4, h6, h5⟩ := ih h
    refine ⟨v :: vs, u :: us, h3, All2.cons h1 h4, fun c hc => ?_, ?_⟩
    · rcases List.mem_cons.1 hc with rfl | hc
      · exact h0
      · exact h6 c hc
    rw [List.mapM_cons]
    simp only [Sem.run_bind, h2, Result.andThen_ok]
    rw [h5]
    rfl
theorem end_ok (hΓ : Γ.good P) (hN : 1 ≤ N) (hI : InvB W0 F X N s β a w) {fn : Func} {r : AV} {boxes' : List (Nat × List AV)} (h : endK Γ fn.results.toList r boxes' s) :
    ∃ u β', (results fn a.tmps).run P w = .ok u w ∧ InvB W0 F X 1 ⟨[(0, r)], boxes'⟩ β' ⟨#[u], []⟩ w := by
  obtain ⟨rn, h⟩ := h
  obtain ⟨s1, β1, h, hI1⟩ := renSt_ok rn hI h
  obtain ⟨vs, us, ⟨h1, hwk⟩, h3, h4, h5⟩ := resBAll_ok hΓ hI1 _ h
  obtain ⟨hnf, rfl⟩ := (chkK_iff _ _).1 h1
  have hrun : (results fn a.tmps).run P w = .ok (if h : us.toArray.size = 1 then us.toArray[0] else .tuple us.toArray) w := by
    rw [results_eq, Array.mapM_eq_mapM_toList]
    simp only [Sem.run_bind, Sem.run_map, h5, Result.andThen_ok, Sem.run_pure]
  -- the result as one value
  have hone : ∃ u, (if h : us.toArray.size = 1 then us.toArray[0] else .tuple us.toArray) = u ∧ Rel β1 (Own X s1 β1) w (oneTup vs) u ∧ ∀ n ∈ ids (oneTup vs), Nm s1 n := by
    have htup : vs.length ≠ 1 → Rel β1 (Own X s1 β1) w (.tup vs) (.tuple us.toArray) ∧ ∀ n ∈ ids (.tup vs), Nm s1 n := fun _ => by
      have hno : ∀ l : List AV, noFn l = true → ∀ v ∈ l, noFn [v] = true := by
        intro l
        induction l with
        | nil => intro _ v hv; cases hv
        | cons y r ih =>
          intro hl v hv
          have hy : noFn r = true ∧ noFn [y] = true := by cases y <;> first | exact ⟨hl, rfl⟩ | exact absurd (show false = true from hl) (by simp)
          rcases List.mem_cons.1 hv with e | hv
          · rw [e]; exact hy.2
          · exact ih hy.1 v hv
      refine ⟨⟨us, rfl, h3.1, fun j c u hc hu => ?_⟩, fun n hn => ?_⟩
      · have hr := h3.2 j c u hc hu
        have hf := hno vs hnf c (List.mem_of_getElem? hc)
        cases c <;> first | exact hr | cases hf
      · obtain ⟨c, hc, hk⟩ := List.mem_flatMap.1 hn
        refine h4 c hc n ?_
        have hf := hno vs hnf c hc
        cases c <;> first | exact hk | cases hf
    match vs, us, h3, h4, htup with
    | [], us, h3, _, htup =>
      have : us = [] := h3.nil_inv
      subst this
      exact ⟨_, rfl, htup (by simp)⟩
    | [v], us, h3, h4, _ =>
      obtain ⟨u, us', rfl, h6, h7⟩ := h3.cons_inv
      have : us' = [] := h7.nil_inv
      subst this
      exact ⟨u, rfl, h6, h4 v (List.mem_cons_self ..)⟩
    | v :: v' :: t, us, h3, _, htup =>
      have hl : us.length ≠ 1 := by have := h3.1; simp at this; omega
      exact ⟨_, by rw [dif_neg (by simpa using hl)], htup (by simp)⟩
  obtain ⟨u, hu, hr, hrn⟩ := hone
  refine ⟨u, β1, by rw [hrun, hu], ?_⟩
  have hNm : ∀ n, Nm ⟨[(0, oneTup vs)], boxes'⟩ n → Nm s1 n := by
    rintro n (⟨cs, hc⟩ | ⟨q, hq⟩ | ⟨b, cs, hb, c, hc, hn⟩)
    · obtain ⟨us', hu', _⟩ := wkB_look hwk n cs hc
      exact .inl ⟨us', hu'⟩
    · simp only [look] at hq
      cases hb : Nat.beq 0 q with
      | true => rw [hb] at hq; exact hrn n hq
      | false => rw [hb] at hq; cases hq
    · obtain ⟨us', hu', hw⟩ := wkB_look hwk b cs hb
      obtain ⟨g, us2, e, k1, k2, k3⟩ := hI1.boxes b us' hu'
      obtain ⟨u', hu2, hn'⟩ := (wkC_rel hw k3).2 c hc n hn
      exact .inr (.inr ⟨b, us', hu', u', hu2, hn'⟩)
  have hO : ∀ k, Own X ⟨[(0, oneTup vs)], boxes'⟩ β1 k → Own X s1 β1 k := fun k hk => hk.imp id fun ⟨n, hn, hb⟩ => ⟨n, hNm n hn, hb⟩
  refine ⟨hI1.ext, fun n => ?_, rfl, fun n cs hc => ?_, fun n m g hn hm => hI1.inj n m g (hNm n hn) (hNm m hm), fun n g hn hg => hI1.own n g (hNm n hn) hg, rfl, hI1.ext2, fun n cs g hc hp => ?_, fun n hn => hI1.pinN n (by omega), hI1.gl⟩
  · simp only [look]
    cases hb : Nat.beq 0 n with
    | true => have := Nat.eq_of_beq_eq_true hb; subst this; exact hr.mono hO
    | false => exact Rel.x
  · obtain ⟨us', hu', hw⟩ := wkB_look hwk n cs hc
    obtain ⟨g, us2, e, k1, k2, k3⟩ := hI1.boxes n us' hu'
    exact ⟨g, us2, e, k1, k2, (wkC_rel hw k3).1.mono fun _ _ _ _ hr => ⟨hr.1.mono hO, hr.2⟩⟩
  · obtain ⟨us', hu', _⟩ := wkB_look hwk n cs hc
    exact hI1.pin n us' g hu' hp

/-- **A CONTRACT THAT WRITES, OUT OF A VERIFICATION CONDITION.** -/
theorem cspec_of_vc (hΓ : Γ.good P) {f : FuncId} {fn : Func} {c : Code} (hf : P.funcs[f]? = some fn) (hb : fn.body = some c) (hcall : ∀ (vs : Array Value) (w : World), (callFunc f vs).run P w = .ok (.enter f vs) w)
    {rs : Array ResultVar} (hrs : fn.results = rs) (hN : fn.ntmps = N) {args : List AV} {boxes : List (Nat × List AV)} {r : AV} {boxes' : List (Nat × List AV)} {L : List Nat} (hlen : args.length ≤ N) (hN1 : 1 ≤ N)
    (hlow : (boxNames boxes).all (fun n => Nat.ble N n) = true) (hvc : vc P Γ N L c (postBK Γ rs.toList r boxes') ⟨argSlots 0 args, boxes⟩) : CSpec P f args boxes r boxes' := by
  refine ⟨hcall, fun F X β w vs hvs hpin hI0 => ?_⟩
  refine calls_of_wp hf hb ?_
  have hpad : ∀ n, (vs.toArray ++ Array.replicate (fn.ntmps - vs.toArray.size) undef).getD n undef = vs.toArray.getD n undef ∨ look (argSlots 0 args) n = .x := fun n => by
    by_cases hm : n < vs.length
    · left
      simp only [Array.getD_eq_getD_getElem?]
      rw [Array.getElem?_append_left (by simpa using hm)]
    · right
      have h1 := look_args args 0 n
      rw [Nat.zero_add] at h1
      rw [h1, List.getD_eq_getElem?_getD, List.getElem?_eq_none (by omega)]
      rfl
  have hI : InvB w F X N ⟨argSlots 0 args, boxes⟩ β { tmps := vs.toArray ++ Array.replicate (fn.ntmps - vs.toArray.size) undef, defers := [] } w := by
    refine ⟨hI0.ext, fun n => ?_, ?_, hI0.boxes, hI0.inj, hI0.own, rfl, hI0.ext2, hI0.pin, fun n hn => ?_, hI0.gl⟩
    · rcases hpad n with h1 | h1
      · show Rel _ _ _ _ ((vs.toArray ++ Array.replicate (fn.ntmps - vs.toArray.size) undef).getD n undef)
        rw [h1]; exact hI0.slots n
      · show Rel _ _ _ (look (argSlots 0 args) n) _
        rw [h1]; exact Rel.x
    · simp only [Array.size_append, List.size_toArray, Array.size_replicate, hN, hvs]
      omega
    · cases hp : F.pin n with
      | none => rfl
      | some g =>
        have h1 := boxNames_mem.2 (hpin n g hp)
        have := Nat.le_of_ble_eq_true (List.all_eq_true.1 hlow n h1)
        omega
  refine vc_ok (W0 := w) (F := F) (X := X) hΓ c _ _ _ _ _ (fun e s a w' hq ⟨β', hI'⟩ => ?_) hvc ⟨_, hI⟩
  have key : endK Γ rs.toList r boxes' s → a.defers = [] ∧ ∃ v, (results fn a.tmps).run P w' = .ok v w' ∧ ∃ v' β'', Ending.returned v = .returned v' ∧ InvB w F X 1 ⟨[(0, r)], boxes'⟩ β'' ⟨#[v'], []⟩ w' := by
    intro h
    rw [← hrs] at h
    obtain ⟨u, β'', h1, h2⟩ := end_ok hΓ hN1 hI' h
    exact ⟨hI'.defers, u, h1, u, β'', rfl, h2⟩
  cases e with
  | normal => exact key hq
  | ret => exact key hq
  | _ => exact hq.elim
end
end Go.SX
