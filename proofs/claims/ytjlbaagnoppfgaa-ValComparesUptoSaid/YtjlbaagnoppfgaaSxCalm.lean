/-
  Calm operations: those that only yield a value. What they yield is found one way only, and by their operands alone.
-/
import Derived.Test.YtjlbaagnoppfgaaSxWp
namespace Go.SX
set_option linter.unusedSectionVars false
variable [Globs]
section
/-- a condition that is asked of a thing found -/
def CP {α : Type} (f : (α → Prop) → Prop) : Prop := ∃ A : α → Prop, ∀ K, f K ↔ ∃ v, A v ∧ K v
variable {α γ : Type}
theorem CP.det {f : (α → Prop) → Prop} (h : CP f) {K : α → Prop} (hk : f K) : ∃ v, f (fun u => u = v) ∧ K v := by
  obtain ⟨A, hA⟩ := h
  obtain ⟨v, h1, h2⟩ := (hA K).1 hk
  exact ⟨v, (hA _).2 ⟨v, h1, rfl⟩, h2⟩
theorem CP.mon {f : (α → Prop) → Prop} (h : CP f) {K K' : α → Prop} (hk : f K) (hi : ∀ v, K v → K' v) : f K' := by
  obtain ⟨A, hA⟩ := h
  obtain ⟨v, h1, h2⟩ := (hA K).1 hk
  exact (hA _).2 ⟨v, h1, hi v h2⟩
theorem CP.put {f : (α → Prop) → Prop} (h : CP f) {K : α → Prop} {v : α} (hk : f (fun u => u = v)) (hv : K v) : f K := by
  obtain ⟨A, hA⟩ := h
  obtain ⟨u, h1, rfl⟩ := (hA _).1 hk
  exact (hA K).2 ⟨u, h1, hv⟩
theorem CP.pure {F : (α → Prop) → Prop} (v : α) (e : F = fun K : α → Prop => K v := by exact rfl) : CP F := ⟨fun u => u = v, fun K => by subst e; simp⟩
theorem CP.none {F : (α → Prop) → Prop} (e : F = fun _ : α → Prop => False := by exact rfl) : CP F := ⟨fun _ => False, fun K => by subst e; simp⟩
theorem CP.of_eq {f : (α → Prop) → Prop} {v : α} (h : ∀ K, f K = K v) : CP f := ⟨fun u => u = v, fun K => by rw [h]; simp⟩
theorem CP.and0 {p : Prop} {f : (α → Prop) → Prop} (h : CP f) : CP (fun K => p ∧ f K) := by
  obtain ⟨A, hA⟩ := h
  refine ⟨fun v => p ∧ A v, fun K => ?_⟩
  show p ∧ f K ↔ _
  rw [hA]
  exact ⟨fun ⟨h1, v, h2, h3⟩ => ⟨v, ⟨h1, h2⟩, h3⟩, fun ⟨v, ⟨h1, h2⟩, h3⟩ => ⟨h1, v, h2, h3⟩⟩
theorem CP.and {p : Prop} {f F : (α → Prop) → Prop} (h : CP f) (e : F = fun K => p ∧ f K := by exact rfl) : CP F := e ▸ CP.and0 h
theorem CP.chk {b : Bool} {f F : (α → Prop) → Prop} (h : CP f) (e : F = fun K => chkK b (f K) := by exact rfl) : CP F := by
  subst e
  cases b
  · exact CP.none
  · exact h
theorem CP.bif {b : Bool} {f g F : (α → Prop) → Prop} (h : CP f) (h' : CP g) (e : F = fun K => bif b then f K else g K := by exact rfl) : CP F := by
  subst e
  cases b
  · exact h'
  · exact h
theorem CP.bind0 {f : (γ → Prop) → Prop} {g : γ → (α → Prop) → Prop} (hf : CP f) (hg : ∀ x, CP (g x)) : CP (fun K => f fun x => g x K) := by
  obtain ⟨A, hA⟩ := hf
  refine ⟨fun v => ∃ x, A x ∧ g x (fun u => u = v), fun K => ?_⟩
  show (f fun x => g x K) ↔ _
  rw [hA]
  constructor
  · rintro ⟨x, h1, h2⟩
    obtain ⟨v, h3, h4⟩ := (hg x).det h2
    exact ⟨v, ⟨x, h1, h3⟩, h4⟩
  · rintro ⟨v, ⟨x, h1, h3⟩, h4⟩
    exact ⟨x, h1, (hg x).put h3 h4⟩
theorem CP.bind {f : (γ → Prop) → Prop} {g : γ → (α → Prop) → Prop} {F : (α → Prop) → Prop} (hf : CP f) (hg : ∀ x, CP (g x)) (e : F = fun K => f fun x => g x K := by exact rfl) : CP F := e ▸ CP.bind0 hf hg
theorem CP.as {f F : (α → Prop) → Prop} (h : CP f) (e : F = f := by exact rfl) : CP F := e ▸ h
theorem CP.ti (Γ : Ctx) (t : Nat) : CP (tiK Γ t) := by
  induction Γ with
  | nil => exact CP.none
  | cons p r ih => obtain ⟨m, u⟩ := p; exact CP.bif (CP.pure u) ih
theorem CP.nth {l : List α} {n : Nat} : CP (nthK l n) := ⟨fun v => l[n]? = some v, fun K => nthK_iff l n K⟩
theorem CP.take {l : List α} {n : Nat} : CP (takeK n l) := ⟨fun v => n ≤ l.length ∧ v = l.take n, fun K => by
  rw [takeK_iff]
  exact ⟨fun ⟨h1, h2⟩ => ⟨_, ⟨h1, rfl⟩, h2⟩, fun ⟨_, ⟨h1, e⟩, h2⟩ => ⟨h1, e ▸ h2⟩⟩⟩
theorem CP.evK (s : St) (x : Operand) : CP (evK s x) := CP.of_eq (evK_eq s x)
theorem CP.evsK (s : St) (l : List Operand) : CP (evsK s l) := CP.of_eq (evsK_eq s l)
theorem CP.structK (d : TD) : CP (structK d) := by cases d <;> first | exact CP.pure _ | exact CP.none
theorem CP.sliceTK (d : TD) : CP (sliceTK d) := by cases d <;> first | exact CP.pure _ | exact CP.none
theorem CP.intK (v : AV) : CP (intK v) := by cases v <;> first | exact CP.pure _ | exact CP.none
theorem CP.arith (k : IntKind) (n : Int) : CP (arithK k n) := by
  unfold arithK
  cases k.signed with
  | true => exact CP.and (CP.pure _)
  | false => exact CP.pure _
theorem CP.intBin (op : BinOp) (k : IntKind) (a c : Int) : CP (intBinK op k a c) := by
  cases op <;> first | exact CP.none | exact CP.pure _ | exact CP.arith _ _ | exact CP.and (CP.pure _) | exact CP.and (CP.and (CP.pure _))
theorem CP.strBin (op : BinOp) (a c : Str) : CP (strBinK op a c) := by
  cases op <;> first | exact CP.none | exact CP.pure _ | exact CP.and (CP.pure _)
theorem CP.bin (op : BinOp) (a c : AV) : CP (binK op a c) := by
  cases a with
  | i k n =>
    cases c with
    | i k' m => cases op <;> first | exact CP.and (CP.pure _) | exact CP.bif (CP.intBin _ _ _ _) CP.none
    | _ => exact CP.none
  | s a => cases c <;> first | exact CP.strBin _ _ _ | exact CP.none
  | _ => exact CP.none
theorem CP.boolBin (op : BinOp) (a c : Bool) : CP (boolBinK op a c) := by cases op <;> first | exact CP.none | exact CP.pure _
theorem CP.nth' {α : Type} (l : List α) : ∀ n, CP (nthK l n) := by
  induction l with
  | nil => intro n; exact CP.none
  | cons a r ih => intro n; cases n with
    | zero => exact CP.pure _
    | succ n => exact ih n
theorem CP.cellEq (k : EK) (a c : AV) : CP (cellEqK k a c) := by
  cases k <;> cases a <;> cases c <;> first | exact CP.none | exact CP.pure _ | exact CP.chk (CP.pure _)
theorem CP.aggEq (ks : List EK) : ∀ (fl : List (Nat × Nat)) (cs ds : List AV), CP (aggEqK ks fl cs ds) := by
  induction ks with
  | nil => intro fl cs ds; cases fl <;> first | exact CP.pure _ | exact CP.none
  | cons k ks ih => intro fl cs ds; cases fl with
    | nil => exact CP.none
    | cons p fl => exact CP.bind (CP.nth' _ _) fun _ => CP.bind (CP.nth' _ _) fun _ => CP.bind (CP.cellEq _ _ _) fun _ => CP.bind (ih _ _ _) fun _ => CP.pure _
theorem CP.aggBin (op : BinOp) (b : Bool) : CP (aggBinK op b) := by cases op <;> first | exact CP.pure _ | exact CP.none
theorem CP.structFK (d : TD) : CP (structFK d) := by cases d <;> first | exact CP.pure _ | exact CP.none
theorem CP.binT (Γ : Ctx) (op : BinOp) (t : TypeId) (a c : AV) : CP (binTK Γ op t a c) := by
  have h : (∀ x, a ≠ .b x) → (∀ x, a ≠ .agg x) → binTK Γ op t a c = binK op a c := by intro h h'; cases a <;> first | rfl | exact absurd rfl (h _) | exact absurd rfl (h' _)
  cases a with
  | b x =>
    cases c with
    | b y => exact CP.bind (CP.ti Γ t) fun ti => CP.chk (b := isBoolT ti.desc) (CP.boolBin op x y)
    | _ => exact CP.none
  | agg cs =>
    cases c with
    | agg ds => exact CP.bind (CP.ti Γ t) fun ti => CP.bind (CP.structFK ti.desc) fun fl => CP.chk (b := !ti.eqs.isEmpty) (CP.bind (CP.aggEq ti.eqs fl cs ds) fun b => CP.aggBin op b)
    | _ => exact CP.none
  | _ => rw [h (by intro x e; cases e) (by intro x e; cases e)]; exact CP.bin op _ _
theorem CP.un (op : UnOp) (a : AV) : CP (unK op a) := by
  cases a with
  | b x => cases op <;> first | exact CP.pure _ | exact CP.none
  | i k n => cases op <;> first | exact CP.pure _ | exact CP.none | exact CP.arith _ _
  | _ => exact CP.none
theorem CP.pick (c a b : AV) : CP (pickK c a b) := by
  cases c with
  | b x =>
    cases a <;> cases b <;> first | exact CP.pure _ | exact CP.bif (CP.pure _) (CP.pure _)
  | _ => exact CP.none
theorem CP.conv (d : TD) (a : AV) : CP (convK d a) := by
  cases d with
  | int k => cases a <;> first | exact CP.pure _ | exact CP.none
  | str => cases a <;> first | exact CP.pure _ | exact CP.none
  | _ => exact CP.none
theorem CP.forceL (l : List AV) : CP (forceL l) := CP.of_eq (forceL_eq l)
theorem CP.faddr (off : Nat) (a : AV) : CP (faddrK off a) := by
  cases a <;> first | exact CP.pure _ | exact CP.none | exact CP.bind (CP.forceL _) fun _ => CP.pure _
theorem CP.plain (l : List AV) : CP (plainCK l) := CP.of_eq (plainCK_eq l)
theorem CP.pack (b : Bool) (l : List AV) : CP (packK b l) := by
  cases b with
  | true => exact CP.bind (CP.plain l) fun _ => CP.pure _
  | false =>
    match l with
    | [] => exact CP.none
    | [v] => exact CP.pure v
    | _ :: _ :: _ => exact CP.none
theorem CP.one (l : List AV) : CP (fun K : AV → Prop => match l with
    | [v] => K v
    | _ => False) := by
  match l with
  | [] => exact CP.none
  | [v] => exact CP.pure v
  | _ :: _ :: _ => exact CP.none
theorem CP.field (off sz : Nat) (a : AV) : CP (fieldK off sz a) := by
  cases a with
  | agg cs => exact CP.bind CP.take CP.one
  | _ => exact CP.none
theorem CP.extract (i : Nat) (a : AV) : CP (extractK i a) := by cases a <;> first | exact CP.nth | exact CP.none
theorem CP.iaddr (n : Int) (c : Nat) (a : AV) : CP (iaddrK n c a) := by
  cases a <;> first | exact CP.none | exact CP.chk (CP.and (CP.bind (CP.forceL _) fun _ => CP.pure _)) | exact CP.chk (CP.and (CP.pure _))
theorem CP.arrAddr (n : Int) (l c : Nat) (a : AV) : CP (arrAddrK n l c a) := by cases a <;> first | exact CP.none | exact CP.and (CP.pure _)
theorem CP.arrIdx (n : Int) (l c : Nat) (b : Bool) (a : AV) : CP (arrIdxK n l c b a) := by cases a <;> first | exact CP.none | exact CP.chk (CP.chk (CP.and CP.nth))
theorem CP.strIndex (n : Int) (a : AV) : CP (strIndexK n a) := by cases a <;> first | exact CP.none | exact CP.and (CP.pure _)
theorem CP.nilChk (a : AV) : CP (nilChkK a) := by cases a <;> first | exact CP.none | exact CP.pure _
theorem CP.fnK (f : Fn) (n : Nat) : CP (fnK f n) := by cases f <;> cases n <;> first | exact CP.none | exact CP.pure _
theorem CP.min (l : List AV) : CP (minK l) := by
  match l with
  | [] => exact CP.none
  | [v] => cases v <;> exact CP.none
  | [a, b] => cases a <;> cases b <;> first | exact CP.none | exact CP.chk (CP.pure _)
  | a :: b :: _ :: _ => cases a <;> cases b <;> exact CP.none
theorem CP.max (l : List AV) : CP (maxK l) := by
  match l with
  | [] => exact CP.none
  | [v] => cases v <;> exact CP.none
  | [a, b] => cases a <;> cases b <;> first | exact CP.none | exact CP.chk (CP.pure _)
  | a :: b :: _ :: _ => cases a <;> cases b <;> exact CP.none
theorem CP.bound (s : St) (x : Option Operand) (d : Int) : CP (boundK s x d) := by
  cases x with
  | none => exact CP.pure _
  | some x => exact CP.bind (CP.evK s x) fun _ => CP.intK _
theorem CP.strSlice (s : St) (lo hi : Option Operand) (a : AV) : CP (strSliceK s lo hi a) := by
  cases a <;> first | exact CP.none | exact CP.bind (CP.bound _ _ _) fun _ => CP.bind (CP.bound _ _ _) fun _ => CP.and (CP.pure _)
theorem CP.rdSlice (s : St) (c : Nat) (lo hi : Option Operand) (a : AV) : CP (rdSliceK s c lo hi a) := by
  cases a with
  | rd τ l => exact CP.chk (CP.bind (CP.bound _ _ _) fun _ => CP.bind (CP.bound _ _ _) fun _ => CP.and (CP.pure _))
  | vec id τ l =>
    cases hi with
    | none => exact CP.chk (CP.bind (CP.bound _ _ _) fun _ => CP.and (CP.pure _))
    | some _ => exact CP.chk CP.none
  | vs id τ l k =>
    cases hi with
    | none => exact CP.chk (CP.bind (CP.bound _ _ _) fun _ => CP.and (CP.pure _))
    | some _ => exact CP.chk CP.none
  | _ => exact CP.none
theorem CP.vecsOf (l : List AV) : CP (vecsOfK l) := CP.of_eq (vecsOfK_eq l)
theorem CP.opVecs (s : St) (l : List (Nat × Operand)) : CP (opVecsK s l) := CP.of_eq (opVecsK_eq s l)
theorem CP.ofVals (l : List Value) : CP (ofValsK l) := CP.of_eq (ofValsK_eq l)
theorem CP.parts (s : St) (l : List (Nat × Operand)) : CP (partsK s l) := CP.of_eq (partsK_eq s l)
theorem CP.cells (a : AV) : CP (cellsK a) := by cases a <;> first | exact CP.none | exact CP.pure _
theorem CP.splice (l : List α) : ∀ (o : Nat) (v : List α), CP (spliceK l o v) := by
  induction l with
  | nil => intro o v; cases o <;> cases v <;> first | exact CP.none | exact CP.pure _
  | cons a r ih =>
    intro o v
    cases o with
    | zero =>
      cases v with
      | nil => exact CP.pure _
      | cons b vs => exact CP.bind (ih 0 vs) fun _ => CP.pure _
    | succ o => exact CP.bind (ih o v) fun _ => CP.pure _
theorem CP.fill {pl : Nat → (Nat × Nat → Prop) → Prop} (h : ∀ i, CP (pl i)) (l : List (Nat × AV)) : ∀ cells, CP (fillK pl cells l) := by
  induction l with
  | nil => intro cells; exact CP.pure _
  | cons p r ih =>
    obtain ⟨i, v⟩ := p
    intro cells
    exact CP.bind (h i) fun d => CP.bind (CP.cells v) fun cs => CP.chk (CP.bind (CP.splice _ _ _) fun c => ih c)

/-! ### the calm operations -/
def nilK (l : List Nat) (K : Prop) : Prop := match l with
  | [] => K
  | _ :: _ => False
theorem nilK_iff (l : List Nat) (K : Prop) : nilK l K ↔ l = [] ∧ K := by cases l <;> simp [nilK]
theorem CP.nil {l : List Nat} {f F : (α → Prop) → Prop} (h : CP f) (e : F = fun K => nilK l (f K) := by exact rfl) : CP F := by
  subst e
  cases l
  · exact h
  · exact CP.none
def loadCK (Γ : Ctx) (s : St) (t : TypeId) : AV → (AV → Prop) → Prop
  | .pt n o, K => lookBK s.boxes n fun cs => tiK Γ t fun ti => takeK ti.cells (cs.drop o) fun l => match isStruct ti.desc with
    | true => vecsOfK l fun ids => nilK ids (packK true l K)
    | false => packK false l K
  | .rp cs, K => tiK Γ t fun ti => takeK ti.cells cs fun l => packK (isStruct ti.desc) l K
  | .vp _ τ l n o, K => tiK Γ t fun ti => takeK ti.cells ((enc τ (l.getD n (dflt τ))).drop o) fun l => packK (isStruct ti.desc) l K
  | _, _ => False
def selK (l : List Nat) (A B : Prop) : Prop := match l with
  | [] => A
  | _ :: _ => B
theorem CP.sel {l : List Nat} {f g : (α → Prop) → Prop} (h : CP f) (k : CP g) : CP (fun K => selK l (f K) (g K)) := by
  cases l
  · exact h
  · exact k
theorem imAll_rd {b : List (Nat × List AV)} {vs : List AV} (h : imAll vs = true) : imAll (rdAll b vs) = true := by
  induction vs with
  | nil => rfl
  | cons v r ih =>
    simp only [imAll] at h
    cases hx : imB v with
    | false => rw [hx] at h; cases h
    | true =>
      rw [hx] at h
      have : imB (rdOf b v) = true := by cases v <;> first | rfl | (cases hx; done)
      simp only [rdAll, imAll, this, cond_true]
      exact ih h
def callGK (P : Program) (vs : List AV) : AV → (AV → Prop) → Prop
  | .fn g caps, K => chkK (imAll vs) (chkK (fnArgs vs) (chkK (imAll caps) (∃ r, PSpec P g (vs ++ caps) r ∧ K r)))
  | _, _ => False
def rdNeed (vs : List AV) : List Nat := bif fnArgs vs then vecsOf vs else [0]
def callCK (P : Program) (s : St) (f : Operand) (args : List Operand) (K : AV → Prop) : Prop :=
  evsK s args fun vs => selK (rdNeed vs) (evK s f fun fv => callGK P vs fv K) (evK s f fun fv => readGK P s.boxes vs fv K)
def buildCK (Γ : Ctx) (s : St) (t : TypeId) (ps : List (Nat × Operand)) (K : AV → Prop) : Prop :=
  opVecsK s ps fun ids => nilK ids (tiK Γ t fun ti => structK ti.desc fun fl => ofValsK ti.zero fun z => partsK s ps fun l => fillK (nthK fl) z l fun cs => plainCK cs fun cs => K (.agg cs))
/-- a slice literal, of which only what it reads as is kept -/
def bsliceCK (Γ : Ctx) (s : St) (t : TypeId) (len : Nat) (ps : List (Nat × Operand)) (K : AV → Prop) : Prop :=
  opVecsK s ps fun ids => nilK ids (tiK Γ t fun ti => sliceTK ti.desc fun e => tiK Γ e fun te => tyK te.ty fun τ =>
    chkK (Nat.beq te.cells (esz τ)) (chkK (Nat.ble (len * te.cells) 16777216) (partsK s ps fun l => fillK (fun i K => K (i * te.cells, te.cells)) (xs (len * te.cells)) l fun cs => plainCK cs fun cs =>
      optK (decs τ len cs) fun l => K (.rd τ l))))
def calleeCK (P : Program) (s : St) (args : List Operand) (K : AV → Prop) : Callee → Prop
  | .value f => callCK P s f args K
  | .builtin .min => evsK s args fun l => minK l K
  | .builtin .max => evsK s args fun l => maxK l K
  | _ => False
theorem CP.idxAddr (Γ : Ctx) (n : Int) (a : AV) (d : TD) : CP (fun K => idxAddrK Γ n a K d) := by
  cases d <;> first | exact CP.none | exact CP.bind (CP.ti _ _) fun _ => CP.iaddr _ _ _ | exact CP.bind (CP.ti _ _) fun _ => CP.arrAddr _ _ _ _
theorem CP.idxVal (Γ : Ctx) (n : Int) (a : AV) (d : TD) : CP (fun K => idxValK Γ n a K d) := by
  cases d <;> first | exact CP.none | exact CP.strIndex _ _ | exact CP.bind (CP.ti _ _) fun _ => CP.arrIdx _ _ _ _ _
/-- an operation that only yields a value -/
def calmK (P : Program) (Γ : Ctx) (s : St) (op : Op) (K : AV → Prop) : Prop :=
  match op with
  | .load t x => evK s x fun p => loadCK Γ s t p K
  | .build t ps => buildCK Γ s t ps.toList K
  | .buildSlice t len ps => bsliceCK Γ s t len ps.toList K
  | .call c => calleeCK P s c.args.toList K c.callee
  | .move x => evK s x K
  | .assign x => evK s x K
  | .pick c a b => evK s c fun c => evK s a fun a => evK s b fun b => pickK c a b K
  | .binOp op t x y _ => evK s x fun a => evK s y fun b => binTK Γ op t a b K
  | .unOp op _ x => evK s x fun a => unK op a K
  | .convert src dst x => evK s x fun a => tiK Γ src fun _ => tiK Γ dst fun ti => convK ti.desc a K
  | .fieldAddr t x f => evK s x fun p => tiK Γ t fun ti => structK ti.desc fun fl => nthK fl f fun d => match d with | (off, _) => faddrK off p K
  | .field t x f => evK s x fun p => tiK Γ t fun ti => structK ti.desc fun fl => nthK fl f fun d => match d with | (off, sz) => fieldK off sz p K
  | .extract x i => evK s x fun p => extractK i p K
  | .indexAddr t x i => evK s x fun a => evK s i fun n => intK n fun n => tiK Γ t fun ti => idxAddrK Γ n a K ti.desc
  | .index t x i => evK s x fun a => evK s i fun n => intK n fun n => tiK Γ t fun ti => idxValK Γ n a K ti.desc
  | .nilCheck x => evK s x fun p => nilChkK p K
  | .slice t x lo hi mx => match mx with
    | none => evK s x fun a => tiK Γ t fun ti => match isStrT ti.desc with
      | true => strSliceK s lo hi a K
      | false => sliceTK ti.desc fun e => tiK Γ e fun te => rdSliceK s te.cells lo hi a K
    | some _ => False
  | _ => False
theorem CP.lookB (l : List (Nat × List AV)) (n : Nat) : CP (lookBK l n) := ⟨fun cs => SX.lookB l n = some cs, fun K => lookBK_iff l n K⟩
theorem CP.load (Γ : Ctx) (s : St) (t : TypeId) (a : AV) : CP (loadCK Γ s t a) := by
  cases a <;> first | exact CP.none | skip
  · exact CP.bind (CP.ti _ _) fun _ => CP.bind CP.take fun _ => CP.pack _ _
  · refine CP.bind (CP.lookB _ _) fun cs => CP.bind (CP.ti _ _) fun ti => CP.bind CP.take fun l => ?_
    cases isStruct ti.desc with
    | true => exact CP.bind (CP.vecsOf l) fun ids => CP.nil (CP.pack _ _)
    | false => exact CP.pack _ _
  · exact CP.bind (CP.ti _ _) fun _ => CP.bind CP.take fun _ => CP.pack _ _
theorem CP.callG (P : Program) (vs : List AV) (f : AV) : CP (callGK P vs f) := by
  cases f <;> first | exact CP.none | exact CP.chk (CP.chk (CP.chk ⟨fun r => PSpec P _ _ r, fun K => Iff.rfl⟩))
theorem readG_iff {P : Program} {g : FuncId} {as : List AV} {K : AV → Prop} : (∃ r, PSpec P g as r ∧ chkK (grB r) (K r)) ↔ ∃ r, (PSpec P g as r ∧ grB r = true) ∧ K r := by
  constructor
  · rintro ⟨r, h1, h2⟩
    obtain ⟨h3, h4⟩ := (chkK_iff _ _).1 h2
    exact ⟨r, ⟨h1, h3⟩, h4⟩
  · rintro ⟨r, ⟨h1, h3⟩, h4⟩
    exact ⟨r, h1, (chkK_iff _ _).2 ⟨h3, h4⟩⟩
theorem CP.readG0 (P : Program) (g : FuncId) (as : List AV) : CP fun K => ∃ r, PSpec P g as r ∧ chkK (grB r) (K r) := ⟨fun r => PSpec P g as r ∧ grB r = true, fun _ => readG_iff⟩
theorem CP.readG (P : Program) (b : List (Nat × List AV)) (vs : List AV) (f : AV) : CP (readGK P b vs f) := by
  cases f with
  | fn g caps => exact CP.chk (CP.chk (CP.chk (CP.readG0 P g (rdAll b vs ++ rdBL b caps))))
  | _ => exact CP.none
theorem CP.call (P : Program) (s : St) (f : Operand) (args : List Operand) : CP (callCK P s f args) :=
  CP.bind (CP.evsK s args) fun vs => CP.sel (CP.bind (CP.evK s f) fun fv => CP.callG P vs fv) (CP.bind (CP.evK s f) fun fv => CP.readG P s.boxes vs fv)
theorem CP.build (Γ : Ctx) (s : St) (t : TypeId) (ps : List (Nat × Operand)) : CP (buildCK Γ s t ps) :=
  CP.bind (CP.opVecs s ps) fun ids => CP.nil (CP.bind (CP.ti Γ t) fun ti => CP.bind (CP.structK ti.desc) fun fl => CP.bind (CP.ofVals ti.zero) fun z => CP.bind (CP.parts s ps) fun l =>
      CP.bind (CP.fill (pl := nthK fl) (fun _ => CP.nth) l z) fun cs => CP.bind (CP.plain cs) fun cs => CP.pure (AV.agg cs))
theorem CP.opt {o : Option α} : CP (optK o) := ⟨fun v => o = some v, fun K => optK_iff o K⟩
theorem CP.ty {o : Option Ty} : CP (tyK o) := ⟨fun v => o = some v, fun K => tyK_iff o K⟩
theorem CP.bslice (Γ : Ctx) (s : St) (t : TypeId) (len : Nat) (ps : List (Nat × Operand)) : CP (bsliceCK Γ s t len ps) :=
  CP.bind (CP.opVecs s ps) fun ids => CP.nil (CP.bind (CP.ti Γ t) fun ti => CP.bind (CP.sliceTK ti.desc) fun e => CP.bind (CP.ti Γ e) fun te => CP.bind (CP.ty (o := te.ty)) fun τ =>
    CP.chk (b := Nat.beq te.cells (esz τ)) (CP.chk (b := Nat.ble (len * te.cells) 16777216) (CP.bind (CP.parts s ps) fun l => CP.bind (CP.fill (pl := fun i K => K (i * te.cells, te.cells)) (fun _ => CP.pure _) l (xs (len * te.cells))) fun cs =>
      CP.bind (CP.plain cs) fun cs => CP.bind (CP.opt (o := decs τ len cs)) fun l => CP.pure (AV.rd τ l))))
theorem CP.callee (P : Program) (s : St) (args : List Operand) (c : Callee) : CP (fun K => calleeCK P s args K c) := by
  cases c with
  | value f => exact CP.call P s f args
  | builtin b => cases b <;> first | exact CP.none | exact CP.bind (CP.evsK s args) fun _ => CP.min _ | exact CP.bind (CP.evsK s args) fun _ => CP.max _
  | invoke r m => exact CP.none
theorem calm_cp (P : Program) (Γ : Ctx) (s : St) (op : Op) : CP (calmK P Γ s op) := by
  cases op with
  | load t x => exact CP.bind (CP.evK _ _) fun _ => CP.load _ _ _ _
  | build t ps => exact CP.build _ _ _ _
  | buildSlice t len ps => exact CP.bslice _ _ _ _ _
  | call c => exact CP.callee _ _ _ _
  | move x => exact CP.evK _ _
  | assign x => exact CP.evK _ _
  | pick c a b => exact CP.bind (CP.evK _ _) fun _ => CP.bind (CP.evK _ _) fun _ => CP.bind (CP.evK _ _) fun _ => CP.pick _ _ _
  | binOp op t x y ty => exact CP.bind (CP.evK _ _) fun _ => CP.bind (CP.evK _ _) fun _ => CP.binT _ _ _ _ _
  | unOp op t x => exact CP.bind (CP.evK _ _) fun _ => CP.un _ _
  | convert a b x => exact CP.bind (CP.evK _ _) fun _ => CP.bind (CP.ti _ _) fun _ => CP.bind (CP.ti _ _) fun _ => CP.conv _ _
  | fieldAddr t x f => exact CP.bind (CP.evK _ _) fun _ => CP.bind (CP.ti _ _) fun _ => CP.bind (CP.structK _) fun _ => CP.bind CP.nth fun d => CP.faddr _ _
  | field t x f => exact CP.bind (CP.evK _ _) fun _ => CP.bind (CP.ti _ _) fun _ => CP.bind (CP.structK _) fun _ => CP.bind CP.nth fun d => CP.field _ _ _
  | extract x i => exact CP.bind (CP.evK _ _) fun _ => CP.extract _ _
  | indexAddr t x i => exact CP.bind (CP.evK _ _) fun _ => CP.bind (CP.evK _ _) fun _ => CP.bind (CP.intK _) fun _ => CP.bind (CP.ti _ _) fun _ => CP.idxAddr _ _ _ _
  | index t x i => exact CP.bind (CP.evK _ _) fun _ => CP.bind (CP.evK _ _) fun _ => CP.bind (CP.intK _) fun _ => CP.bind (CP.ti _ _) fun _ => CP.idxVal _ _ _ _
  | nilCheck x => exact CP.bind (CP.evK _ _) fun _ => CP.nilChk _
  | slice t x lo hi mx =>
    cases mx with
    | some _ => exact CP.none
    | none =>
      refine CP.bind (CP.evK _ _) fun _ => CP.bind (CP.ti _ _) fun ti => ?_
      cases isStrT ti.desc with
      | true => exact CP.strSlice _ _ _ _
      | false => exact CP.bind (CP.sliceTK _) fun _ => CP.bind (CP.ti _ _) fun _ => CP.rdSlice _ _ _ _ _
  | _ => exact CP.none

/-! ### by its operands alone -/
theorem evs_congr {s s' : St} {l : List Operand} (h : ∀ x ∈ l, ev s x = ev s' x) : evs s l = evs s' l := by
  induction l with
  | nil => rfl
  | cons x r ih => simp only [evs]; rw [h x (List.mem_cons_self ..), ih fun y hy => h y (List.mem_cons_of_mem _ hy)]
theorem parts_congr {s s' : St} {l : List (Nat × Operand)} (h : ∀ x ∈ l, ev s x.2 = ev s' x.2) : parts s l = parts s' l := by
  induction l with
  | nil => rfl
  | cons p r ih => obtain ⟨i, x⟩ := p; simp only [parts]; rw [h (i, x) (List.mem_cons_self ..), ih fun y hy => h y (List.mem_cons_of_mem _ hy)]
theorem opVecs_congr {s s' : St} {l : List (Nat × Operand)} (h : ∀ x ∈ l, ev s x.2 = ev s' x.2) : opVecs s l = opVecs s' l := by
  induction l with
  | nil => rfl
  | cons p r ih => obtain ⟨i, x⟩ := p; simp only [opVecs]; rw [h (i, x) (List.mem_cons_self ..), ih fun y hy => h y (List.mem_cons_of_mem _ hy)]
theorem load_congr {Γ : Ctx} {s s' : St} (hb : ∀ n, SX.lookB s.boxes n = SX.lookB s'.boxes n) (t : TypeId) (a : AV) (K : AV → Prop) : loadCK Γ s t a K = loadCK Γ s' t a K := by
  have h : ∀ n K, lookBK s.boxes n K = lookBK s'.boxes n K := fun n K => by rw [propext (lookBK_iff s.boxes n K), propext (lookBK_iff s'.boxes n K), hb]
  cases a <;> first | rfl | (simp only [loadCK, h])
theorem bound_congr {s s' : St} {x : Option Operand} {d : Int} (h : ∀ y ∈ x.toList, ev s y = ev s' y) (K : Int → Prop) : boundK s x d K = boundK s' x d K := by
  cases x with
  | none => rfl
  | some y => simp only [boundK, evK_eq]; rw [h y (by simp)]
theorem rdB_congr {b b' : List (Nat × List AV)} (hb : ∀ n, SX.lookB b n = SX.lookB b' n) (v : AV) : rdB b v = rdB b' v := by
  cases v with
  | pt n o =>
    cases o with
    | zero => simp only [rdB, hb n]
    | succ o => rfl
  | _ => rfl
theorem rdBL_congr {b b' : List (Nat × List AV)} (hb : ∀ n, SX.lookB b n = SX.lookB b' n) (l : List AV) : rdBL b l = rdBL b' l := by
  rw [rdBL_eq, rdBL_eq]
  exact List.map_congr_left fun v _ => rdB_congr hb v
theorem rdAll_congr {b b' : List (Nat × List AV)} (hb : ∀ n, SX.lookB b n = SX.lookB b' n) (l : List AV) : rdAll b l = rdAll b' l := by
  rw [rdAll_eq, rdAll_eq]
  refine List.map_congr_left fun v _ => ?_
  have h := rdB_congr hb v
  cases v with
  | fn g caps => simp only [rdOf, rdBL_congr hb]
  | _ => exact h
theorem readG_congr {P : Program} {b b' : List (Nat × List AV)} (hb : ∀ n, SX.lookB b n = SX.lookB b' n) (l : List AV) (f : AV) (K : AV → Prop) : readGK P b l f K = readGK P b' l f K := by
  cases f with
  | fn g caps => simp only [readGK, rdAll_congr hb, rdBL_congr hb]
  | _ => rfl
theorem calm_congr {P : Program} {Γ : Ctx} {s s' : St} (hb : ∀ n, SX.lookB s.boxes n = SX.lookB s'.boxes n) {op : Op} (h : ∀ x ∈ op.operands.toList, ev s x = ev s' x) (K : AV → Prop) : calmK P Γ s op K = calmK P Γ s' op K := by
  cases op with
  | load t x => simp only [calmK, evK_eq]; rw [h x (by simp [Op.operands]), load_congr hb]
  | build t ps =>
    have h' : ∀ x ∈ ps.toList, ev s x.2 = ev s' x.2 := fun x hx => h x.2 (by simp only [Op.operands, List.mem_map]; exact ⟨x, hx, rfl⟩)
    simp only [calmK, buildCK, opVecsK_eq, partsK_eq]
    rw [parts_congr h', opVecs_congr h']
  | buildSlice t len ps =>
    have h' : ∀ x ∈ ps.toList, ev s x.2 = ev s' x.2 := fun x hx => h x.2 (by simp only [Op.operands, List.mem_map]; exact ⟨x, hx, rfl⟩)
    simp only [calmK, bsliceCK, opVecsK_eq, partsK_eq]
    rw [parts_congr h', opVecs_congr h']
  | call c =>
    obtain ⟨callee, args, ts⟩ := c
    have h1 : ∀ x ∈ args.toList, ev s x = ev s' x := fun x hx => h x (by cases callee <;> simp [Op.operands, Call.operands] <;> simp_all)
    cases callee with
    | value f =>
      have h2 : ev s f = ev s' f := h f (by simp [Op.operands, Call.operands])
      simp only [calmK, calleeCK, callCK, evsK_eq, evK_eq, readG_congr hb]
      rw [evs_congr h1, h2]
    | builtin b => cases b <;> first | rfl | (simp only [calmK, calleeCK, evsK_eq]; rw [evs_congr h1])
    | invoke r m => rfl
  | move x => simp only [calmK, evK_eq]; rw [h x (by simp [Op.operands])]
  | assign x => simp only [calmK, evK_eq]; rw [h x (by simp [Op.operands])]
  | pick c a b => simp only [calmK, evK_eq]; rw [h c (by simp [Op.operands]), h a (by simp [Op.operands]), h b (by simp [Op.operands])]
  | binOp op t x y ty => simp only [calmK, evK_eq]; rw [h x (by simp [Op.operands]), h y (by simp [Op.operands])]
  | unOp op t x => simp only [calmK, evK_eq]; rw [h x (by simp [Op.operands])]
  | convert a b x => simp only [calmK, evK_eq]; rw [h x (by simp [Op.operands])]
  | fieldAddr t x f => simp only [calmK, evK_eq]; rw [h x (by simp [Op.operands])]
  | field t x f => simp only [calmK, evK_eq]; rw [h x (by simp [Op.operands])]
  | extract x i => simp only [calmK, evK_eq]; rw [h x (by simp [Op.operands])]
  | indexAddr t x i => simp only [calmK, evK_eq]; rw [h x (by simp [Op.operands]), h i (by simp [Op.operands])]
  | index t x i => simp only [calmK, evK_eq]; rw [h x (by simp [Op.operands]), h i (by simp [Op.operands])]
  | nilCheck x => simp only [calmK, evK_eq]; rw [h x (by simp [Op.operands])]
  | slice t x lo hi mx =>
    cases mx with
    | some _ => rfl
    | none =>
      have h1 : ∀ d K, boundK s lo d K = boundK s' lo d K := fun d K => bound_congr (fun y hy => h y (by simp [Op.operands]; simp at hy; simp [hy])) K
      have h2 : ∀ d K, boundK s hi d K = boundK s' hi d K := fun d K => bound_congr (fun y hy => h y (by simp [Op.operands]; simp at hy; simp [hy])) K
      simp only [calmK, evK_eq]
      rw [h x (by simp [Op.operands])]
      have e1 : ∀ a K, strSliceK s lo hi a K = strSliceK s' lo hi a K := fun a K => by cases a <;> first | rfl | (simp only [strSliceK, h1, h2])
      have e2 : ∀ c a K, rdSliceK s c lo hi a K = rdSliceK s' c lo hi a K := fun c a K => by cases a <;> first | rfl | (simp only [rdSliceK, h1, h2])
      simp only [e1, e2]
  | _ => rfl
/-! ### as the operation that it is -/
theorem calm_op {P : Program} {Γ : Ctx} {N : Nat} {s : St} {o : Oper} {K : St → Prop} (hnb : ∀ t len ps, o.op ≠ .buildSlice t len ps) (h : calmK P Γ s o.op fun v => stPutK N s o.dst v K) : opK P Γ N o s K := by
  unfold opK
  cases ho : o.op with
  | load t x =>
    rw [ho] at h
    have h : evK s x fun p => loadCK Γ s t p fun v => stPutK N s o.dst v K := h
    show evK s x fun p => loadFrzK Γ s t p fun s => evK s x fun p => loadVK Γ s t p fun v => stPutK N s o.dst v K
    rw [evK_eq] at h ⊢
    cases hp : ev s x with
    | pt n off =>
      rw [hp] at h
      show lookBK s.boxes n fun cs => tiK Γ t fun ti => match isStruct ti.desc with
        | true => takeK ti.cells (cs.drop off) fun l => vecsOfK l fun ids => frzAllK ids s fun s => evK s x fun p => loadVK Γ s t p fun v => stPutK N s o.dst v K
        | false => evK s x fun p => loadVK Γ s t p fun v => stPutK N s o.dst v K
      obtain ⟨cs, h1, h⟩ := (lookBK_iff _ _ _).1 (show lookBK s.boxes n fun cs => _ from h)
      refine (lookBK_iff _ _ _).2 ⟨cs, h1, ?_⟩
      obtain ⟨ti, h2, h⟩ := (CP.ti Γ t).det h
      refine (CP.ti Γ t).put h2 ?_
      have hload : ∀ K : AV → Prop, (takeK ti.cells (cs.drop off) fun l => packK (isStruct ti.desc) l K) → loadVK Γ s t (.pt n off) K := fun K hK =>
        (lookBK_iff _ _ _).2 ⟨cs, h1, (CP.ti Γ t).put h2 hK⟩
      obtain ⟨hl, h⟩ := (takeK_iff _ _ _).1 h
      cases hs : isStruct ti.desc with
      | true =>
        rw [hs] at h
        have h : vecsOfK (List.take ti.cells (List.drop off cs)) fun ids => nilK ids (packK true (List.take ti.cells (List.drop off cs)) fun v => stPutK N s o.dst v K) := h
        rw [vecsOfK_eq] at h
        obtain ⟨e, h⟩ := (nilK_iff _ _).1 h
        show takeK ti.cells (cs.drop off) fun l => vecsOfK l fun ids => frzAllK ids s fun s => evK s x fun p => loadVK Γ s t p fun v => stPutK N s o.dst v K
        rw [takeK_iff, vecsOfK_eq, e]
        refine ⟨hl, ?_⟩
        show evK s x _
        rw [evK_eq, hp]
        exact hload _ ((takeK_iff _ _ _).2 ⟨hl, by rw [hs]; exact h⟩)
      | false =>
        rw [hs] at h
        show evK s x _
        rw [evK_eq, hp]
        exact hload _ ((takeK_iff _ _ _).2 ⟨hl, by rw [hs]; exact h⟩)
    | rp cs => rw [hp] at h; show evK s x _; rw [evK_eq, hp]; exact h
    | vp id τ l n off => rw [hp] at h; show evK s x _; rw [evK_eq, hp]; exact h
    | _ => rw [hp] at h; exact h.elim
  | build t ps =>
    rw [ho] at h
    have h : buildCK Γ s t ps.toList fun v => stPutK N s o.dst v K := h
    show buildK Γ N s t ps.toList o.dst K
    unfold buildCK at h
    rw [opVecsK_eq] at h
    obtain ⟨e, h⟩ := (nilK_iff _ _).1 h
    refine buildK_of e ?_
    unfold buildFK
    rw [opVecsK_eq, e]
    exact h
  | call c =>
    rw [ho] at h
    obtain ⟨callee, args, ts⟩ := c
    cases callee with
    | value f =>
      have h : callCK P s f args.toList fun v => stPutK N s o.dst v K := h
      show evsK s args.toList fun vs => sbHeadK vs (fun id id2 o' rest => callSbK P N s f id id2 o' rest o.dst K) (callK P N s f args.toList o.dst K ∨ callBK P N s f args.toList o.dst K ∨ readK P N s f args.toList o.dst K)
      unfold callCK at h
      rw [evsK_eq] at h
      rw [evsK_eq]
      cases e : rdNeed (evs s args.toList) with
      | nil =>
        rw [e] at h
        have e : vecsOf (evs s args.toList) = [] := by
          unfold rdNeed at e
          cases hfa : fnArgs (evs s args.toList) with
          | true => rw [hfa] at e; exact e
          | false => rw [hfa] at e; cases e
        have h : evK s f fun fv => callGK P (evs s args.toList) fv fun v => stPutK N s o.dst v K := h
        have him : imAll (evs s args.toList) = true := by
          rw [evK_eq] at h
          cases hf : ev s f <;> rw [hf] at h <;> first | exact ((chkK_iff _ _).1 h).1 | exact h.elim
        refine sbHead_of (b := s.boxes) (imAll_rd him) (.inl ?_)
        unfold callK
        rw [evsK_eq, vecsOfK_eq, e]
        show evK s f fun fv => evsK s args.toList fun vs => match fv with
          | .fn g caps => chkK (imAll vs) (chkK (fnArgs vs) (chkK (imAll caps) (∃ r, PSpec P g (vs ++ caps) r ∧ stPutK N s o.dst r K)))
          | _ => False
        rw [evK_eq, evsK_eq]
        rw [evK_eq] at h
        cases hf : ev s f <;> rw [hf] at h <;> first | exact h | exact h.elim
      | cons i r =>
        rw [e] at h
        have h : evK s f fun fv => readGK P s.boxes (evs s args.toList) fv fun v => stPutK N s o.dst v K := h
        have him : imAll (rdAll s.boxes (evs s args.toList)) = true := by
          rw [evK_eq] at h
          cases hf : ev s f <;> rw [hf] at h <;> first | exact ((chkK_iff _ _).1 h).1 | exact h.elim
        refine sbHead_of him (.inr (.inr ?_))
        unfold readK
        rw [evsK_eq]
        exact h
    | builtin b => cases b <;> first | exact h | exact h.elim
    | invoke r m => exact h.elim
  | alloc _ => rw [ho] at h; exact h.elim
  | box _ _ => rw [ho] at h; exact h.elim
  | store _ _ _ => rw [ho] at h; exact h.elim
  | buildSlice t len ps => exact absurd ho (hnb t len ps)
  | slice t x lo hi mx =>
    rw [ho] at h
    cases mx with
    | some _ => exact h.elim
    | none => exact h
  | move _ => rw [ho] at h; exact h
  | assign _ => rw [ho] at h; exact h
  | pick _ _ _ => rw [ho] at h; exact h
  | binOp _ _ _ _ _ => rw [ho] at h; exact h
  | unOp _ _ _ => rw [ho] at h; exact h
  | convert src dst x =>
    rw [ho] at h
    have h : evK s x fun a => tiK Γ src fun ts => tiK Γ dst fun ti => convK ti.desc a fun v => stPutK N s o.dst v K := h
    show evK s x fun a => tiK Γ src fun ts => tiK Γ dst fun ti => convAK Γ ts.desc ti.desc a fun v => stPutK N s o.dst v K
    exact CP.mon (CP.evK s x) h fun v h => CP.mon (CP.ti Γ src) h fun ts h => CP.mon (CP.ti Γ dst) h fun ti h => convA_of h
  | fieldAddr _ _ _ => rw [ho] at h; exact h
  | field _ _ _ => rw [ho] at h; exact h
  | extract _ _ => rw [ho] at h; exact h
  | indexAddr _ _ _ => rw [ho] at h; exact h
  | index _ _ _ => rw [ho] at h; exact h
  | nilCheck _ => rw [ho] at h; exact h
  | _ => rw [ho] at h; exact h.elim

theorem frz_same {d : Nat} {v : AV} (h : d ∉ ids v) : frz d v = v := by
  cases v with
  | vec i τ l => have : i ≠ d := fun e => h (by simp [ids, ids0, e]); simp [frz, Bool.cond_eq_ite, this]
  | vp i τ l n off => have : i ≠ d := fun e => h (by simp [ids, ids0, e]); simp [frz, Bool.cond_eq_ite, this]
  | pt n o => have : n ≠ d := fun e => h (by simp [ids, ids0, e]); simp [frz, Bool.cond_eq_ite, this]
  | fn f caps =>
    have : inL d (caps.flatMap ids0) = false := by rw [← Bool.not_eq_true, inL_iff]; exact h
    simp [frz, this]
  | tup caps =>
    have : inL d (caps.flatMap ids0) = false := by rw [← Bool.not_eq_true, inL_iff]; exact h
    simp [frz, this]
  | vs i τ l n => have : i ≠ d := fun e => h (by simp [ids, ids0, e]); simp [frz, Bool.cond_eq_ite, this]
  | ag caps =>
    have : inL d (caps.flatMap ids0) = false := by rw [← Bool.not_eq_true, inL_iff]; exact h
    simp [frz, this]
  | ob i i2 o =>
    have : inL d [i, i2] = false := by rw [← Bool.not_eq_true, inL_iff]; exact h
    simp [frz, this]
  | _ => rfl
theorem kill_same {d : Nat} {v : AV} (h : d ∉ ids v) : kill d v = v := by
  have : inL d (ids v) = false := by rw [← Bool.not_eq_true, inL_iff]; exact h
  simp [kill, this]
theorem map_same {f : AV → AV} {l : List AV} (h : ∀ v ∈ l, f v = v) : mapC f l = l := by
  rw [mapC_eq]
  induction l with
  | nil => rfl
  | cons v r ih => simp only [List.map_cons]; rw [h v (List.mem_cons_self ..), ih fun u hu => h u (List.mem_cons_of_mem _ hu)]
end
end Go.SX
