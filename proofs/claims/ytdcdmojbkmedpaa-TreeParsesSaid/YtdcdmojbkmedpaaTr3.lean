/-
  A part of a proof: plain laws and walks, one after the other. No conditions.
-/
import Derived.Test.YtdcdmojbkmedpaaTr2
import Derived.Orders
import Derived.Test.YtdcdmojbkmedpaaRows
import Derived.Below
import Derived.ChangeSame
import Derived.Shelf.Strings.Builder1
import Derived.Shelf.Small.Bits
import Derived.Shelf.Small.Strs
import Derived.Shelf.Strings.BuilderF
import Derived.Shelf.Strings.Search1
import Derived.Shelf.Strings.Search2
import Derived.Shelf.Strings.Search3
import Derived.Shelf.Strings.Cut
import Derived.Shelf.LaysM
import Derived.Shelf.Strings.Shaped
import Derived.Shelf.Strings.Prefix
import Derived.Test.YtdcdmojbkmedpaaProg
import Derived.Lib.Bytealg
set_option linter.constructorNameAsVariable false
set_option linter.unusedVariables false
set_option linter.unusedSimpArgs false
set_option linter.unusedSectionVars false
section
namespace Go.SX
set_option linter.unusedSectionVars false
variable [Globs]
section
/-- a condition that is asked of a thing found -/
def CP {α : Type} (f : (α → Prop) → Prop) : Prop := ∃ A : α → Prop, ∀ K, f K ↔ ∃ v, A v ∧ K v
variable {α γ : Type}
theorem CP.det {f : (α → Prop) → Prop} (h : CP f) {K : α → Prop} (hk : f K) : ∃ v, f (fun u => u = v) ∧ K v := by
  obtain ⟨A, hA⟩ := h
  obtain ⟨v, h1, h2⟩ := (hA K).1 hk
  exact ⟨v, (hA _).2 ⟨v, h1, rfl⟩, h2⟩
theorem CP.mon {f : (α → Prop) → Prop} (h : CP f) {K K' : α → Prop} (hk : f K) (hi : ∀ v, K v → K' v) : f K' := by
  obtain ⟨A, hA⟩ := h
  obtain ⟨v, h1, h2⟩ := (hA K).1 hk
  exact (hA _).2 ⟨v, h1, hi v h2⟩
theorem CP.put {f : (α → Prop) → Prop} (h : CP f) {K : α → Prop} {v : α} (hk : f (fun u => u = v)) (hv : K v) : f K := by
  obtain ⟨A, hA⟩ := h
  obtain ⟨u, h1, rfl⟩ := (hA _).1 hk
  exact (hA K).2 ⟨u, h1, hv⟩
theorem CP.pure {F : (α → Prop) → Prop} (v : α) (e : F = fun K : α → Prop => K v := by exact rfl) : CP F := ⟨fun u => u = v, fun K => by subst e; simp⟩
theorem CP.none {F : (α → Prop) → Prop} (e : F = fun _ : α → Prop => False := by exact rfl) : CP F := ⟨fun _ => False, fun K => by subst e; simp⟩
theorem CP.of_eq {f : (α → Prop) → Prop} {v : α} (h : ∀ K, f K = K v) : CP f := ⟨fun u => u = v, fun K => by rw [h]; simp⟩
theorem CP.and0 {p : Prop} {f : (α → Prop) → Prop} (h : CP f) : CP (fun K => p ∧ f K) := by
  obtain ⟨A, hA⟩ := h
  refine ⟨fun v => p ∧ A v, fun K => ?_⟩
  show p ∧ f K ↔ _
  rw [hA]
  exact ⟨fun ⟨h1, v, h2, h3⟩ => ⟨v, ⟨h1, h2⟩, h3⟩, fun ⟨v, ⟨h1, h2⟩, h3⟩ => ⟨h1, v, h2, h3⟩⟩
theorem CP.and {p : Prop} {f F : (α → Prop) → Prop} (h : CP f) (e : F = fun K => p ∧ f K := by exact rfl) : CP F := e ▸ CP.and0 h
theorem CP.chk {b : Bool} {f F : (α → Prop) → Prop} (h : CP f) (e : F = fun K => chkK b (f K) := by exact rfl) : CP F := by
  subst e
  cases b
  · exact CP.none
  · exact h
theorem CP.bif {b : Bool} {f g F : (α → Prop) → Prop} (h : CP f) (h' : CP g) (e : F = fun K => bif b then f K else g K := by exact rfl) : CP F := by
  subst e
  cases b
  · exact h'
  · exact h
theorem CP.bind0 {f : (γ → Prop) → Prop} {g : γ → (α → Prop) → Prop} (hf : CP f) (hg : ∀ x, CP (g x)) : CP (fun K => f fun x => g x K) := by
  obtain ⟨A, hA⟩ := hf
  refine ⟨fun v => ∃ x, A x ∧ g x (fun u => u = v), fun K => ?_⟩
  show (f fun x => g x K) ↔ _
  rw [hA]
  constructor
  · rintro ⟨x, h1, h2⟩
    obtain ⟨v, h3, h4⟩ := (hg x).det h2
    exact ⟨v, ⟨x, h1, h3⟩, h4⟩
  · rintro ⟨v, ⟨x, h1, h3⟩, h4⟩
    exact ⟨x, h1, (hg x).put h3 h4⟩
theorem CP.bind {f : (γ → Prop) → Prop} {g : γ → (α → Prop) → Prop} {F : (α → Prop) → Prop} (hf : CP f) (hg : ∀ x, CP (g x)) (e : F = fun K => f fun x => g x K := by exact rfl) : CP F := e ▸ CP.bind0 hf hg
theorem CP.as {f F : (α → Prop) → Prop} (h : CP f) (e : F = f := by exact rfl) : CP F := e ▸ h
theorem CP.ti (Γ : Ctx) (t : Nat) : CP (tiK Γ t) := by
  induction Γ with
  | nil => exact CP.none
  | cons p r ih => obtain ⟨m, u⟩ := p; exact CP.bif (CP.pure u) ih
theorem CP.nth {l : List α} {n : Nat} : CP (nthK l n) := ⟨fun v => l[n]? = some v, fun K => nthK_iff l n K⟩
theorem CP.take {l : List α} {n : Nat} : CP (takeK n l) := ⟨fun v => n ≤ l.length ∧ v = l.take n, fun K => by
  rw [takeK_iff]
  exact ⟨fun ⟨h1, h2⟩ => ⟨_, ⟨h1, rfl⟩, h2⟩, fun ⟨_, ⟨h1, e⟩, h2⟩ => ⟨h1, e ▸ h2⟩⟩⟩
theorem CP.evK (s : St) (x : Operand) : CP (evK s x) := CP.of_eq (evK_eq s x)
theorem CP.evsK (s : St) (l : List Operand) : CP (evsK s l) := CP.of_eq (evsK_eq s l)
theorem CP.structK (d : TD) : CP (structK d) := by cases d <;> first | exact CP.pure _ | exact CP.none
theorem CP.sliceTK (d : TD) : CP (sliceTK d) := by cases d <;> first | exact CP.pure _ | exact CP.none
theorem CP.intK (v : AV) : CP (intK v) := by cases v <;> first | exact CP.pure _ | exact CP.none
theorem CP.arith (k : IntKind) (n : Int) : CP (arithK k n) := by
  unfold arithK
  cases k.signed with
  | true => exact CP.and (CP.pure _)
  | false => exact CP.pure _
theorem CP.intBin (op : BinOp) (k : IntKind) (a c : Int) : CP (intBinK op k a c) := by
  cases op <;> first | exact CP.none | exact CP.pure _ | exact CP.arith _ _ | exact CP.and (CP.pure _) | exact CP.and (CP.and (CP.pure _))
theorem CP.strBin (op : BinOp) (a c : Str) : CP (strBinK op a c) := by
  cases op <;> first | exact CP.none | exact CP.pure _ | exact CP.and (CP.pure _)
theorem CP.bin (op : BinOp) (a c : AV) : CP (binK op a c) := by
  cases a with
  | i k n =>
    cases c with
    | i k' m => cases op <;> first | exact CP.and (CP.pure _) | exact CP.bif (CP.intBin _ _ _ _) CP.none
    | _ => exact CP.none
  | s a => cases c <;> first | exact CP.strBin _ _ _ | exact CP.none
  | _ => exact CP.none
theorem CP.boolBin (op : BinOp) (a c : Bool) : CP (boolBinK op a c) := by cases op <;> first | exact CP.none | exact CP.pure _
theorem CP.nth' {α : Type} (l : List α) : ∀ n, CP (nthK l n) := by
  induction l with
  | nil => intro n; exact CP.none
  | cons a r ih => intro n; cases n with
    | zero => exact CP.pure _
    | succ n => exact ih n
theorem CP.cellEq (k : EK) (a c : AV) : CP (cellEqK k a c) := by
  cases k <;> cases a <;> cases c <;> first | exact CP.none | exact CP.pure _ | exact CP.chk (CP.pure _)
theorem CP.aggEq (ks : List EK) : ∀ (fl : List (Nat × Nat)) (cs ds : List AV), CP (aggEqK ks fl cs ds) := by
  induction ks with
  | nil => intro fl cs ds; cases fl <;> first | exact CP.pure _ | exact CP.none
  | cons k ks ih => intro fl cs ds; cases fl with
    | nil => exact CP.none
    | cons p fl => exact CP.bind (CP.nth' _ _) fun _ => CP.bind (CP.nth' _ _) fun _ => CP.bind (CP.cellEq _ _ _) fun _ => CP.bind (ih _ _ _) fun _ => CP.pure _
theorem CP.aggBin (op : BinOp) (b : Bool) : CP (aggBinK op b) := by cases op <;> first | exact CP.pure _ | exact CP.none
theorem CP.structFK (d : TD) : CP (structFK d) := by cases d <;> first | exact CP.pure _ | exact CP.none
theorem CP.binT (Γ : Ctx) (op : BinOp) (t : TypeId) (a c : AV) : CP (binTK Γ op t a c) := by
  have h : (∀ x, a ≠ .b x) → (∀ x, a ≠ .agg x) → binTK Γ op t a c = binK op a c := by intro h h'; cases a <;> first | rfl | exact absurd rfl (h _) | exact absurd rfl (h' _)
  cases a with
  | b x =>
    cases c with
    | b y => exact CP.bind (CP.ti Γ t) fun ti => CP.chk (b := isBoolT ti.desc) (CP.boolBin op x y)
    | _ => exact CP.none
  | agg cs =>
    cases c with
    | agg ds => exact CP.bind (CP.ti Γ t) fun ti => CP.bind (CP.structFK ti.desc) fun fl => CP.chk (b := !ti.eqs.isEmpty) (CP.bind (CP.aggEq ti.eqs fl cs ds) fun b => CP.aggBin op b)
    | _ => exact CP.none
  | _ => rw [h (by intro x e; cases e) (by intro x e; cases e)]; exact CP.bin op _ _
theorem CP.or {f g : (α → Prop) → Prop} (hf : CP f) (hg : CP g) : CP (fun K => f K ∨ g K) := by
  obtain ⟨A, hA⟩ := hf
  obtain ⟨B, hB⟩ := hg
  refine ⟨fun v => A v ∨ B v, fun K => ?_⟩
  show (f K ∨ g K) ↔ ∃ v, (A v ∨ B v) ∧ K v
  rw [hA K, hB K]
  constructor
  · rintro (⟨v, h1, h2⟩ | ⟨v, h1, h2⟩)
    · exact ⟨v, .inl h1, h2⟩
    · exact ⟨v, .inr h1, h2⟩
  · rintro ⟨v, h1 | h1, h2⟩
    · exact .inl ⟨v, h1, h2⟩
    · exact .inr ⟨v, h1, h2⟩
theorem CP.neg (k : IntKind) (n : Int) : CP (negK k n) := by
  unfold negK
  split
  · exact CP.or (CP.arith _ _) (CP.pure _)
  · exact CP.arith _ _
theorem CP.un (op : UnOp) (a : AV) : CP (unK op a) := by
  cases a with
  | b x => cases op <;> first | exact CP.pure _ | exact CP.none
  | i k n => cases op <;> first | exact CP.pure _ | exact CP.none | exact CP.neg _ _
  | _ => exact CP.none
theorem CP.pick (c a b : AV) : CP (pickK c a b) := by
  cases c with
  | b x =>
    cases a <;> cases b <;> first | exact CP.pure _ | exact CP.bif (CP.pure _) (CP.pure _)
  | _ => exact CP.none
theorem CP.conv (d : TD) (a : AV) : CP (convK d a) := by
  cases d with
  | int k => cases a <;> first | exact CP.pure _ | exact CP.none
  | str => cases a <;> first | exact CP.pure _ | exact CP.none
  | _ => exact CP.none
theorem CP.forceL (l : List AV) : CP (forceL l) := CP.of_eq (forceL_eq l)
theorem CP.faddr (off : Nat) (a : AV) : CP (faddrK off a) := by
  cases a <;> first | exact CP.pure _ | exact CP.none | exact CP.bind (CP.forceL _) fun _ => CP.pure _
theorem CP.plain (l : List AV) : CP (plainCK l) := CP.of_eq (plainCK_eq l)
theorem CP.pack (b : Bool) (l : List AV) : CP (packK b l) := by
  cases b with
  | true =>
    have e : packK true l = fun K => match anyVec l with
      | true => chkK (noFn0 l) (K (.ag 0 l))
      | false => plainCK l fun l => K (.agg l) := rfl
    rw [e]
    cases anyVec l with
    | true => exact CP.chk (CP.pure _)
    | false => exact CP.bind (CP.plain l) fun _ => CP.pure _
  | false =>
    match l with
    | [] => exact CP.none
    | [v] => exact CP.pure v
    | _ :: _ :: _ => exact CP.none
theorem CP.one (l : List AV) : CP (fun K : AV → Prop => match l with
    | [v] => K v
    | _ => False) := by
  match l with
  | [] => exact CP.none
  | [v] => exact CP.pure v
  | _ :: _ :: _ => exact CP.none
theorem CP.field (off sz : Nat) (a : AV) : CP (fieldK off sz a) := by
  cases a with
  | agg cs => exact CP.bind CP.take CP.one
  | _ => exact CP.none
theorem CP.extract (i : Nat) (a : AV) : CP (extractK i a) := by
  cases a with
  | ag k cs =>
    cases k with
    | zero => exact CP.none
    | succ k =>
      cases i with
      | zero => exact CP.bind (CP.take (l := cs) (n := k + 1)) (fun l => CP.pure (AV.ag 0 l))
      | succ i => exact CP.nth
  | tup cs => exact CP.nth
  | _ => exact CP.none
theorem CP.iaddr (n : Int) (c : Nat) (a : AV) : CP (iaddrK n c a) := by
  cases a <;> first | exact CP.none | exact CP.chk (CP.and (CP.bind (CP.forceL _) fun _ => CP.pure _)) | exact CP.chk (CP.and (CP.pure _))
theorem CP.arrAddr (n : Int) (l c : Nat) (a : AV) : CP (arrAddrK n l c a) := by cases a <;> first | exact CP.none | exact CP.and (CP.pure _) | exact CP.chk (CP.chk (CP.chk (CP.and (CP.pure _))))
theorem CP.arrIdx (n : Int) (l c : Nat) (b : Bool) (a : AV) : CP (arrIdxK n l c b a) := by cases a <;> first | exact CP.none | exact CP.chk (CP.chk (CP.and CP.nth))
theorem CP.strIndex (n : Int) (a : AV) : CP (strIndexK n a) := by cases a <;> first | exact CP.none | exact CP.and (CP.pure _)
theorem CP.nilChk (a : AV) : CP (nilChkK a) := by cases a <;> first | exact CP.none | exact CP.pure _
theorem CP.fnK (f : Fn) (n : Nat) : CP (fnK f n) := by cases f <;> cases n <;> first | exact CP.none | exact CP.pure _
theorem CP.min (l : List AV) : CP (minK l) := by
  match l with
  | [] => exact CP.none
  | [v] => cases v <;> exact CP.none
  | [a, b] => cases a <;> cases b <;> first | exact CP.none | exact CP.chk (CP.pure _)
  | a :: b :: _ :: _ => cases a <;> cases b <;> exact CP.none
theorem CP.max (l : List AV) : CP (maxK l) := by
  match l with
  | [] => exact CP.none
  | [v] => cases v <;> exact CP.none
  | [a, b] => cases a <;> cases b <;> first | exact CP.none | exact CP.chk (CP.pure _)
  | a :: b :: _ :: _ => cases a <;> cases b <;> exact CP.none
theorem CP.bound (s : St) (x : Option Operand) (d : Int) : CP (boundK s x d) := by
  cases x with
  | none => exact CP.pure _
  | some x => exact CP.bind (CP.evK s x) fun _ => CP.intK _
theorem CP.strSlice (s : St) (lo hi : Option Operand) (a : AV) : CP (strSliceK s lo hi a) := by
  cases a <;> first | exact CP.none | exact CP.bind (CP.bound _ _ _) fun _ => CP.bind (CP.bound _ _ _) fun _ => CP.and (CP.pure _)
theorem CP.rdSlice (s : St) (c : Nat) (lo hi : Option Operand) (a : AV) : CP (rdSliceK s c lo hi a) := by
  cases a with
  | rd τ l => exact CP.chk (CP.bind (CP.bound _ _ _) fun _ => CP.bind (CP.bound _ _ _) fun _ => CP.and (CP.pure _))
  | vec id τ l =>
    cases hi with
    | none => exact CP.chk (CP.bind (CP.bound _ _ _) fun _ => CP.and (CP.pure _))
    | some _ => exact CP.chk CP.none
  | vs id τ l k =>
    cases hi with
    | none => exact CP.chk (CP.bind (CP.bound _ _ _) fun _ => CP.and (CP.pure _))
    | some _ => exact CP.chk CP.none
  | _ => exact CP.none
theorem CP.vecsOf (l : List AV) : CP (vecsOfK l) := CP.of_eq (vecsOfK_eq l)
theorem CP.opVecs (s : St) (l : List (Nat × Operand)) : CP (opVecsK s l) := CP.of_eq (opVecsK_eq s l)
theorem CP.ofVals (l : List Value) : CP (ofValsK l) := CP.of_eq (ofValsK_eq l)
theorem CP.parts (s : St) (l : List (Nat × Operand)) : CP (partsK s l) := CP.of_eq (partsK_eq s l)
theorem CP.cells (a : AV) : CP (cellsK a) := by
  cases a with
  | ag k cs => cases k <;> first | exact CP.none | exact CP.pure _
  | _ => first | exact CP.none | exact CP.pure _
theorem CP.splice (l : List α) : ∀ (o : Nat) (v : List α), CP (spliceK l o v) := by
  induction l with
  | nil => intro o v; cases o <;> cases v <;> first | exact CP.none | exact CP.pure _
  | cons a r ih =>
    intro o v
    cases o with
    | zero =>
      cases v with
      | nil => exact CP.pure _
      | cons b vs => exact CP.bind (ih 0 vs) fun _ => CP.pure _
    | succ o => exact CP.bind (ih o v) fun _ => CP.pure _
theorem CP.fill {pl : Nat → (Nat × Nat → Prop) → Prop} (h : ∀ i, CP (pl i)) (l : List (Nat × AV)) : ∀ cells, CP (fillK pl cells l) := by
  induction l with
  | nil => intro cells; exact CP.pure _
  | cons p r ih =>
    obtain ⟨i, v⟩ := p
    intro cells
    exact CP.bind (h i) fun d => CP.bind (CP.cells v) fun cs => CP.chk (CP.bind (CP.splice _ _ _) fun c => ih c)

/-! ### the calm operations -/
def nilK (l : List Nat) (K : Prop) : Prop := match l with
  | [] => K
  | _ :: _ => False
theorem nilK_iff (l : List Nat) (K : Prop) : nilK l K ↔ l = [] ∧ K := by cases l <;> simp [nilK]
theorem CP.nil {l : List Nat} {f F : (α → Prop) → Prop} (h : CP f) (e : F = fun K => nilK l (f K) := by exact rfl) : CP F := by
  subst e
  cases l
  · exact h
  · exact CP.none
def loadCK (Γ : Ctx) (s : St) (t : TypeId) : AV → (AV → Prop) → Prop
  | .pt n o, K => lookBK s.boxes n fun cs => tiK Γ t fun ti => takeK ti.cells (cs.drop o) fun l => match isStruct ti.desc with
    | true => vecsOfK l fun ids => nilK ids (packK true l K)
    | false => packK false l K
  | .rp cs, K => tiK Γ t fun ti => takeK ti.cells cs fun l => packK (isStruct ti.desc) l K
  | .vp _ τ l n o, K => tiK Γ t fun ti => takeK ti.cells ((enc τ (l.getD n (dflt τ))).drop o) fun l => packK (isStruct ti.desc) l K
  | _, _ => False
def selK (l : List Nat) (A B : Prop) : Prop := match l with
  | [] => A
  | _ :: _ => B
theorem CP.sel {l : List Nat} {f g : (α → Prop) → Prop} (h : CP f) (k : CP g) : CP (fun K => selK l (f K) (g K)) := by
  cases l
  · exact h
  · exact k
theorem imAll_rd {b : List (Nat × List AV)} {vs : List AV} (h : imAll vs = true) : imAll (rdAll b vs) = true := by
  induction vs with
  | nil => rfl
  | cons v r ih =>
    simp only [imAll] at h
    cases hx : imB v with
    | false => rw [hx] at h; cases h
    | true =>
      rw [hx] at h
      have : imB (rdOf b v) = true := by cases v <;> first | rfl | (cases hx; done)
      simp only [rdAll, imAll, this, cond_true]
      exact ih h
def callGK (P : Program) (vs : List AV) : AV → (AV → Prop) → Prop
  | .fn g caps, K => chkK (imAll vs) (chkK (fnArgs vs) (chkK (imAll caps) (∃ r, PSpec P g (vs ++ caps) r ∧ K r)))
  | _, _ => False
def rdNeed (vs : List AV) : List Nat := bif fnArgs vs then vecsOf vs else [0]
def callCK (P : Program) (s : St) (f : Operand) (args : List Operand) (K : AV → Prop) : Prop :=
  evsK s args fun vs => selK (rdNeed vs) (evK s f fun fv => callGK P vs fv K) (evK s f fun fv => readGK P s.boxes vs fv K)
def buildCK (Γ : Ctx) (s : St) (t : TypeId) (ps : List (Nat × Operand)) (K : AV → Prop) : Prop :=
  opVecsK s ps fun ids => nilK ids (tiK Γ t fun ti => structK ti.desc fun fl => ofValsK ti.zero fun z => partsK s ps fun l => fillK (nthK fl) z l fun cs => plainCK cs fun cs => K (.agg cs))
/-- a slice literal, of which only what it reads as is kept -/
def bsliceCK (Γ : Ctx) (s : St) (t : TypeId) (len : Nat) (ps : List (Nat × Operand)) (K : AV → Prop) : Prop :=
  opVecsK s ps fun ids => nilK ids (tiK Γ t fun ti => sliceTK ti.desc fun e => tiK Γ e fun te => tyK te.ty fun τ =>
    chkK (Nat.beq te.cells (esz τ)) (chkK (Nat.ble (len * te.cells) 16777216) (partsK s ps fun l => fillK (fun i K => K (i * te.cells, te.cells)) (xs (len * te.cells)) l fun cs => plainCK cs fun cs =>
      optK (decs τ len cs) fun l => K (.rd τ l))))
/-- how long a slice or a text is, and no more -/
def lenCK : TD → List AV → (AV → Prop) → Prop
  | .slice _, [.nl], K => K (.i .i64 0)
  | .slice _, [.rd _ l], K => K (.i .i64 (l.length : Int))
  | .slice _, [.vec _ _ l], K => K (.i .i64 (l.length : Int))
  | .slice _, [.vs _ _ l k], K => K (.i .i64 ((l.length - k : Nat) : Int))
  | .str, [.s l], K => K (.i .i64 (l.length : Int))
  | _, _, _ => False
theorem CP.len (d : TD) (l : List AV) : CP (lenCK d l) := by
  cases d with
  | slice e =>
    cases l with
    | nil => exact CP.none
    | cons v r =>
      cases r with
      | nil => cases v <;> first | exact CP.none | exact CP.pure _
      | cons _ _ => cases v <;> exact CP.none
  | str =>
    cases l with
    | nil => exact CP.none
    | cons v r =>
      cases r with
      | nil => cases v <;> first | exact CP.none | exact CP.pure _
      | cons _ _ => cases v <;> exact CP.none
  | _ => exact CP.none
theorem len_of {d : TD} {l : List AV} {K : AV → Prop} (h : lenCK d l K) : lenVK d l K := by
  cases d with
  | slice e =>
    cases l with
    | nil => exact h.elim
    | cons v r =>
      cases r with
      | nil => cases v <;> first | exact h.elim | exact h | exact fun _ => h | exact fun _ _ => h
      | cons _ _ => cases v <;> exact h.elim
  | str =>
    cases l with
    | nil => exact h.elim
    | cons v r =>
      cases r with
      | nil => cases v <;> first | exact h.elim | exact fun _ => h
      | cons _ _ => cases v <;> exact h.elim
  | _ => exact h.elim
def calleeCK (P : Program) (Γ : Ctx) (s : St) (args : List Operand) (ts : List TypeId) (K : AV → Prop) : Callee → Prop
  | .value f => callCK P s f args K
  | .builtin .len => evsK s args fun l => nthK ts 0 fun t => tiK Γ t fun ti => lenCK ti.desc l K
  | .builtin .min => evsK s args fun l => minK l K
  | .builtin .max => evsK s args fun l => maxK l K
  | _ => False
theorem CP.idxAddr (Γ : Ctx) (n : Int) (a : AV) (d : TD) : CP (fun K => idxAddrK Γ n a K d) := by
  cases d <;> first | exact CP.none | exact CP.bind (CP.ti _ _) fun _ => CP.iaddr _ _ _ | exact CP.bind (CP.ti _ _) fun _ => CP.arrAddr _ _ _ _
theorem CP.idxVal (Γ : Ctx) (n : Int) (a : AV) (d : TD) : CP (fun K => idxValK Γ n a K d) := by
  cases d <;> first | exact CP.none | exact CP.strIndex _ _ | exact CP.bind (CP.ti _ _) fun _ => CP.arrIdx _ _ _ _ _
/-- a conversion that leaves the world as it is; bytes to a text too -/
def convCK (Γ : Ctx) : TD → TD → AV → (AV → Prop) → Prop
  | .slice e, .str, .rd .u8 l, K => tiK Γ e fun te => chkK (isU8T te.desc) (K (.s (l.map ofB)))
  | _, d, a, K => convK d a K
theorem CP.convC (Γ : Ctx) (sd d : TD) (a : AV) : CP (convCK Γ sd d a) := by
  by_cases h : ∃ e l, sd = .slice e ∧ d = .str ∧ a = .rd .u8 l
  · obtain ⟨e, l, rfl, rfl, rfl⟩ := h
    exact CP.bind (CP.ti Γ e) fun te => CP.chk (CP.pure _)
  · have e : convCK Γ sd d a = convK d a := by
      funext K
      unfold convCK
      split
      · exact absurd ⟨_, _, rfl, rfl, rfl⟩ h
      · rfl
    rw [e]; exact CP.conv d a
theorem convC_of {Γ : Ctx} {sd d : TD} {a : AV} {K : AV → Prop} (h : convCK Γ sd d a K) : convAK Γ sd d a K := by
  unfold convCK at h
  split at h
  · exact h
  · exact convA_of h
/-- an operation that only yields a value -/
def calmK (P : Program) (Γ : Ctx) (s : St) (op : Op) (K : AV → Prop) : Prop :=
  match op with
  | .load t x => evK s x fun p => loadCK Γ s t p K
  | .build t ps => buildCK Γ s t ps.toList K
  | .buildSlice t len ps => bsliceCK Γ s t len ps.toList K
  | .call c => calleeCK P Γ s c.args.toList c.argTypes.toList K c.callee
  | .move x => evK s x K
  | .assign x => evK s x K
  | .pick c a b => evK s c fun c => evK s a fun a => evK s b fun b => pickK c a b K
  | .binOp op t x y _ => evK s x fun a => evK s y fun b => binTK Γ op t a b K
  | .unOp op _ x => evK s x fun a => unK op a K
  | .convert src dst x => evK s x fun a => tiK Γ src fun ts => tiK Γ dst fun ti => convCK Γ ts.desc ti.desc a K
  | .fieldAddr t x f => evK s x fun p => tiK Γ t fun ti => structK ti.desc fun fl => nthK fl f fun d => match d with | (off, _) => faddrK off p K
  | .field t x f => evK s x fun p => tiK Γ t fun ti => structK ti.desc fun fl => nthK fl f fun d => match d with | (off, sz) => fieldK off sz p K
  | .extract x i => evK s x fun p => extractK i p K
  | .indexAddr t x i => evK s x fun a => evK s i fun n => intK n fun n => tiK Γ t fun ti => idxAddrK Γ n a K ti.desc
  | .index t x i => evK s x fun a => evK s i fun n => intK n fun n => tiK Γ t fun ti => idxValK Γ n a K ti.desc
  | .nilCheck x => evK s x fun p => nilChkK p K
  | .slice t x lo hi mx => match mx with
    | none => evK s x fun a => tiK Γ t fun ti => match isStrT ti.desc with
      | true => strSliceK s lo hi a K
      | false => sliceTK ti.desc fun e => tiK Γ e fun te => rdSliceK s te.cells lo hi a K
    | some _ => False
  | _ => False
theorem CP.lookB (l : List (Nat × List AV)) (n : Nat) : CP (lookBK l n) := ⟨fun cs => SX.lookB l n = some cs, fun K => lookBK_iff l n K⟩
theorem CP.load (Γ : Ctx) (s : St) (t : TypeId) (a : AV) : CP (loadCK Γ s t a) := by
  cases a <;> first | exact CP.none | skip
  · exact CP.bind (CP.ti _ _) fun _ => CP.bind CP.take fun _ => CP.pack _ _
  · refine CP.bind (CP.lookB _ _) fun cs => CP.bind (CP.ti _ _) fun ti => CP.bind CP.take fun l => ?_
    cases isStruct ti.desc with
    | true => exact CP.bind (CP.vecsOf l) fun ids => CP.nil (CP.pack _ _)
    | false => exact CP.pack _ _
  · exact CP.bind (CP.ti _ _) fun _ => CP.bind CP.take fun _ => CP.pack _ _
theorem CP.callG (P : Program) (vs : List AV) (f : AV) : CP (callGK P vs f) := by
  cases f <;> first | exact CP.none | exact CP.chk (CP.chk (CP.chk ⟨fun r => PSpec P _ _ r, fun K => Iff.rfl⟩))
theorem readG_iff {P : Program} {g : FuncId} {asg : List AV} {K : AV → Prop} : (∃ r, PSpec P g asg r ∧ chkK (grB r) (K r)) ↔ ∃ r, (PSpec P g asg r ∧ grB r = true) ∧ K r := by
  constructor
  · rintro ⟨r, h1, h2⟩
    obtain ⟨h3, h4⟩ := (chkK_iff _ _).1 h2
    exact ⟨r, ⟨h1, h3⟩, h4⟩
  · rintro ⟨r, ⟨h1, h3⟩, h4⟩
    exact ⟨r, h1, (chkK_iff _ _).2 ⟨h3, h4⟩⟩
theorem CP.readG0 (P : Program) (g : FuncId) (asg : List AV) : CP fun K => ∃ r, PSpec P g asg r ∧ chkK (grB r) (K r) := ⟨fun r => PSpec P g asg r ∧ grB r = true, fun _ => readG_iff⟩
theorem CP.readG (P : Program) (b : List (Nat × List AV)) (vs : List AV) (f : AV) : CP (readGK P b vs f) := by
  cases f with
  | fn g caps => exact CP.chk (CP.chk (CP.chk (CP.readG0 P g (rdAll b vs ++ rdBL b caps))))
  | _ => exact CP.none
theorem CP.call (P : Program) (s : St) (f : Operand) (args : List Operand) : CP (callCK P s f args) :=
  CP.bind (CP.evsK s args) fun vs => CP.sel (CP.bind (CP.evK s f) fun fv => CP.callG P vs fv) (CP.bind (CP.evK s f) fun fv => CP.readG P s.boxes vs fv)
theorem CP.build (Γ : Ctx) (s : St) (t : TypeId) (ps : List (Nat × Operand)) : CP (buildCK Γ s t ps) :=
  CP.bind (CP.opVecs s ps) fun ids => CP.nil (CP.bind (CP.ti Γ t) fun ti => CP.bind (CP.structK ti.desc) fun fl => CP.bind (CP.ofVals ti.zero) fun z => CP.bind (CP.parts s ps) fun l =>
      CP.bind (CP.fill (pl := nthK fl) (fun _ => CP.nth) l z) fun cs => CP.bind (CP.plain cs) fun cs => CP.pure (AV.agg cs))
theorem CP.opt {o : Option α} : CP (optK o) := ⟨fun v => o = some v, fun K => optK_iff o K⟩
theorem CP.ty {o : Option Ty} : CP (tyK o) := ⟨fun v => o = some v, fun K => tyK_iff o K⟩
theorem CP.bslice (Γ : Ctx) (s : St) (t : TypeId) (len : Nat) (ps : List (Nat × Operand)) : CP (bsliceCK Γ s t len ps) :=
  CP.bind (CP.opVecs s ps) fun ids => CP.nil (CP.bind (CP.ti Γ t) fun ti => CP.bind (CP.sliceTK ti.desc) fun e => CP.bind (CP.ti Γ e) fun te => CP.bind (CP.ty (o := te.ty)) fun τ =>
    CP.chk (b := Nat.beq te.cells (esz τ)) (CP.chk (b := Nat.ble (len * te.cells) 16777216) (CP.bind (CP.parts s ps) fun l => CP.bind (CP.fill (pl := fun i K => K (i * te.cells, te.cells)) (fun _ => CP.pure _) l (xs (len * te.cells))) fun cs =>
      CP.bind (CP.plain cs) fun cs => CP.bind (CP.opt (o := decs τ len cs)) fun l => CP.pure (AV.rd τ l))))
theorem CP.callee (P : Program) (Γ : Ctx) (s : St) (args : List Operand) (ts : List TypeId) (c : Callee) : CP (fun K => calleeCK P Γ s args ts K c) := by
  cases c with
  | value f => exact CP.call P s f args
  | builtin b => cases b <;> first | exact CP.none | exact CP.bind (CP.evsK s args) fun _ => CP.min _ | exact CP.bind (CP.evsK s args) fun _ => CP.max _ | exact CP.bind (CP.evsK s args) fun _ => CP.bind CP.nth fun t => CP.bind (CP.ti Γ t) fun _ => CP.len _ _
  | invoke r m => exact CP.none
theorem calm_cp (P : Program) (Γ : Ctx) (s : St) (op : Op) : CP (calmK P Γ s op) := by
  cases op with
  | load t x => exact CP.bind (CP.evK _ _) fun _ => CP.load _ _ _ _
  | build t ps => exact CP.build _ _ _ _
  | buildSlice t len ps => exact CP.bslice _ _ _ _ _
  | call c => exact CP.callee _ _ _ _ _ _
  | move x => exact CP.evK _ _
  | assign x => exact CP.evK _ _
  | pick c a b => exact CP.bind (CP.evK _ _) fun _ => CP.bind (CP.evK _ _) fun _ => CP.bind (CP.evK _ _) fun _ => CP.pick _ _ _
  | binOp op t x y ty => exact CP.bind (CP.evK _ _) fun _ => CP.bind (CP.evK _ _) fun _ => CP.binT _ _ _ _ _
  | unOp op t x => exact CP.bind (CP.evK _ _) fun _ => CP.un _ _
  | convert a b x => exact CP.bind (CP.evK _ _) fun _ => CP.bind (CP.ti _ _) fun _ => CP.bind (CP.ti _ _) fun _ => CP.convC _ _ _ _
  | fieldAddr t x f => exact CP.bind (CP.evK _ _) fun _ => CP.bind (CP.ti _ _) fun _ => CP.bind (CP.structK _) fun _ => CP.bind CP.nth fun d => CP.faddr _ _
  | field t x f => exact CP.bind (CP.evK _ _) fun _ => CP.bind (CP.ti _ _) fun _ => CP.bind (CP.structK _) fun _ => CP.bind CP.nth fun d => CP.field _ _ _
  | extract x i => exact CP.bind (CP.evK _ _) fun _ => CP.extract _ _
  | indexAddr t x i => exact CP.bind (CP.evK _ _) fun _ => CP.bind (CP.evK _ _) fun _ => CP.bind (CP.intK _) fun _ => CP.bind (CP.ti _ _) fun _ => CP.idxAddr _ _ _ _
  | index t x i => exact CP.bind (CP.evK _ _) fun _ => CP.bind (CP.evK _ _) fun _ => CP.bind (CP.intK _) fun _ => CP.bind (CP.ti _ _) fun _ => CP.idxVal _ _ _ _
  | nilCheck x => exact CP.bind (CP.evK _ _) fun _ => CP.nilChk _
  | slice t x lo hi mx =>
    cases mx with
    | some _ => exact CP.none
    | none =>
      refine CP.bind (CP.evK _ _) fun _ => CP.bind (CP.ti _ _) fun ti => ?_
      cases isStrT ti.desc with
      | true => exact CP.strSlice _ _ _ _
      | false => exact CP.bind (CP.sliceTK _) fun _ => CP.bind (CP.ti _ _) fun _ => CP.rdSlice _ _ _ _ _
  | _ => exact CP.none

/-! ### by its operands alone -/
theorem evs_congr {s s' : St} {l : List Operand} (h : ∀ x ∈ l, ev s x = ev s' x) : evs s l = evs s' l := by
  induction l with
  | nil => rfl
  | cons x r ih => simp only [evs]; rw [h x (List.mem_cons_self ..), ih fun y hy => h y (List.mem_cons_of_mem _ hy)]
theorem parts_congr {s s' : St} {l : List (Nat × Operand)} (h : ∀ x ∈ l, ev s x.2 = ev s' x.2) : parts s l = parts s' l := by
  induction l with
  | nil => rfl
  | cons p r ih => obtain ⟨i, x⟩ := p; simp only [parts]; rw [h (i, x) (List.mem_cons_self ..), ih fun y hy => h y (List.mem_cons_of_mem _ hy)]
theorem opVecs_congr {s s' : St} {l : List (Nat × Operand)} (h : ∀ x ∈ l, ev s x.2 = ev s' x.2) : opVecs s l = opVecs s' l := by
  induction l with
  | nil => rfl
  | cons p r ih => obtain ⟨i, x⟩ := p; simp only [opVecs]; rw [h (i, x) (List.mem_cons_self ..), ih fun y hy => h y (List.mem_cons_of_mem _ hy)]
theorem load_congr {Γ : Ctx} {s s' : St} (hb : ∀ n, SX.lookB s.boxes n = SX.lookB s'.boxes n) (t : TypeId) (a : AV) (K : AV → Prop) : loadCK Γ s t a K = loadCK Γ s' t a K := by
  have h : ∀ n K, lookBK s.boxes n K = lookBK s'.boxes n K := fun n K => by rw [propext (lookBK_iff s.boxes n K), propext (lookBK_iff s'.boxes n K), hb]
  cases a <;> first | rfl | (simp only [loadCK, h])
theorem bound_congr {s s' : St} {x : Option Operand} {d : Int} (h : ∀ y ∈ x.toList, ev s y = ev s' y) (K : Int → Prop) : boundK s x d K = boundK s' x d K := by
  cases x with
  | none => rfl
  | some y => simp only [boundK, evK_eq]; rw [h y (by simp)]
theorem rdB_congr {b b' : List (Nat × List AV)} (hb : ∀ n, SX.lookB b n = SX.lookB b' n) (v : AV) : rdB b v = rdB b' v := by
  cases v with
  | pt n o =>
    cases o with
    | zero => simp only [rdB, hb n]
    | succ o => rfl
  | _ => rfl
theorem rdBL_congr {b b' : List (Nat × List AV)} (hb : ∀ n, SX.lookB b n = SX.lookB b' n) (l : List AV) : rdBL b l = rdBL b' l := by
  rw [rdBL_eq, rdBL_eq]
  exact List.map_congr_left fun v _ => rdB_congr hb v
theorem rdAll_congr {b b' : List (Nat × List AV)} (hb : ∀ n, SX.lookB b n = SX.lookB b' n) (l : List AV) : rdAll b l = rdAll b' l := by
  rw [rdAll_eq, rdAll_eq]
  refine List.map_congr_left fun v _ => ?_
  have h := rdB_congr hb v
  cases v with
  | fn g caps => simp only [rdOf, rdBL_congr hb]
  | _ => exact h
theorem readG_congr {P : Program} {b b' : List (Nat × List AV)} (hb : ∀ n, SX.lookB b n = SX.lookB b' n) (l : List AV) (f : AV) (K : AV → Prop) : readGK P b l f K = readGK P b' l f K := by
  cases f with
  | fn g caps => simp only [readGK, rdAll_congr hb, rdBL_congr hb]
  | _ => rfl
theorem calm_congr {P : Program} {Γ : Ctx} {s s' : St} (hb : ∀ n, SX.lookB s.boxes n = SX.lookB s'.boxes n) {op : Op} (h : ∀ x ∈ op.operands.toList, ev s x = ev s' x) (K : AV → Prop) : calmK P Γ s op K = calmK P Γ s' op K := by
  cases op with
  | load t x => simp only [calmK, evK_eq]; rw [h x (by simp [Op.operands]), load_congr hb]
  | build t ps =>
    have h' : ∀ x ∈ ps.toList, ev s x.2 = ev s' x.2 := fun x hx => h x.2 (by simp only [Op.operands, List.mem_map]; exact ⟨x, hx, rfl⟩)
    simp only [calmK, buildCK, opVecsK_eq, partsK_eq]
    rw [parts_congr h', opVecs_congr h']
  | buildSlice t len ps =>
    have h' : ∀ x ∈ ps.toList, ev s x.2 = ev s' x.2 := fun x hx => h x.2 (by simp only [Op.operands, List.mem_map]; exact ⟨x, hx, rfl⟩)
    simp only [calmK, bsliceCK, opVecsK_eq, partsK_eq]
    rw [parts_congr h', opVecs_congr h']
  | call c =>
    obtain ⟨callee, args, ts⟩ := c
    have h1 : ∀ x ∈ args.toList, ev s x = ev s' x := fun x hx => h x (by cases callee <;> simp [Op.operands, Call.operands] <;> simp_all)
    cases callee with
    | value f =>
      have h2 : ev s f = ev s' f := h f (by simp [Op.operands, Call.operands])
      simp only [calmK, calleeCK, callCK, evsK_eq, evK_eq, readG_congr hb]
      rw [evs_congr h1, h2]
    | builtin b => cases b <;> first | rfl | (simp only [calmK, calleeCK, evsK_eq]; rw [evs_congr h1])
    | invoke r m => rfl
  | move x => simp only [calmK, evK_eq]; rw [h x (by simp [Op.operands])]
  | assign x => simp only [calmK, evK_eq]; rw [h x (by simp [Op.operands])]
  | pick c a b => simp only [calmK, evK_eq]; rw [h c (by simp [Op.operands]), h a (by simp [Op.operands]), h b (by simp [Op.operands])]
  | binOp op t x y ty => simp only [calmK, evK_eq]; rw [h x (by simp [Op.operands]), h y (by simp [Op.operands])]
  | unOp op t x => simp only [calmK, evK_eq]; rw [h x (by simp [Op.operands])]
  | convert a b x => simp only [calmK, evK_eq]; rw [h x (by simp [Op.operands])]
  | fieldAddr t x f => simp only [calmK, evK_eq]; rw [h x (by simp [Op.operands])]
  | field t x f => simp only [calmK, evK_eq]; rw [h x (by simp [Op.operands])]
  | extract x i => simp only [calmK, evK_eq]; rw [h x (by simp [Op.operands])]
  | indexAddr t x i => simp only [calmK, evK_eq]; rw [h x (by simp [Op.operands]), h i (by simp [Op.operands])]
  | index t x i => simp only [calmK, evK_eq]; rw [h x (by simp [Op.operands]), h i (by simp [Op.operands])]
  | nilCheck x => simp only [calmK, evK_eq]; rw [h x (by simp [Op.operands])]
  | slice t x lo hi mx =>
    cases mx with
    | some _ => rfl
    | none =>
      have h1 : ∀ d K, boundK s lo d K = boundK s' lo d K := fun d K => bound_congr (fun y hy => h y (by simp [Op.operands]; simp at hy; simp [hy])) K
      have h2 : ∀ d K, boundK s hi d K = boundK s' hi d K := fun d K => bound_congr (fun y hy => h y (by simp [Op.operands]; simp at hy; simp [hy])) K
      simp only [calmK, evK_eq]
      rw [h x (by simp [Op.operands])]
      have e1 : ∀ a K, strSliceK s lo hi a K = strSliceK s' lo hi a K := fun a K => by cases a <;> first | rfl | (simp only [strSliceK, h1, h2])
      have e2 : ∀ c a K, rdSliceK s c lo hi a K = rdSliceK s' c lo hi a K := fun c a K => by cases a <;> first | rfl | (simp only [rdSliceK, h1, h2])
      simp only [e1, e2]
  | _ => rfl
/-! ### as the operation that it is -/
theorem calm_op {P : Program} {Γ : Ctx} {N : Nat} {s : St} {o : Oper} {K : St → Prop} (hnb : ∀ t len ps, o.op ≠ .buildSlice t len ps) (h : calmK P Γ s o.op fun v => stPutK N s o.dst v K) : opK P Γ N o s K := by
  unfold opK
  cases ho : o.op with
  | load t x =>
    rw [ho] at h
    have h : evK s x fun p => loadCK Γ s t p fun v => stPutK N s o.dst v K := h
    show evK s x fun p => loadFrzK Γ s t p fun s => evK s x fun p => loadVK Γ s t p fun v => stPutK N s o.dst v K
    rw [evK_eq] at h ⊢
    cases hp : ev s x with
    | pt n off =>
      rw [hp] at h
      show bif twiceB Γ t then (evK s x fun p => loadVK Γ s t p fun v => stPutK N s o.dst v K) else lookBK s.boxes n fun cs => tiK Γ t fun ti => match isStruct ti.desc with
        | true => takeK ti.cells (cs.drop off) fun l => vecsOfK l fun ids => frzAllK ids s fun s => evK s x fun p => loadVK Γ s t p fun v => stPutK N s o.dst v K
        | false => evK s x fun p => loadVK Γ s t p fun v => stPutK N s o.dst v K
      obtain ⟨cs, h1, h⟩ := (lookBK_iff _ _ _).1 (show lookBK s.boxes n fun cs => _ from h)
      cases htw : twiceB Γ t with
      | true =>
        rw [cond_true, evK_eq, hp]
        obtain ⟨ti, h2, h⟩ := (CP.ti Γ t).det h
        refine (lookBK_iff _ _ _).2 ⟨cs, h1, (CP.ti Γ t).put h2 ?_⟩
        obtain ⟨hl, h⟩ := (takeK_iff _ _ _).1 h
        refine (takeK_iff _ _ _).2 ⟨hl, ?_⟩
        cases hs : isStruct ti.desc with
        | true =>
          rw [hs] at h
          have h : vecsOfK (List.take ti.cells (List.drop off cs)) fun ids => nilK ids (packK true (List.take ti.cells (List.drop off cs)) fun v => stPutK N s o.dst v K) := h
          rw [vecsOfK_eq] at h
          exact ((nilK_iff _ _).1 h).2
        | false => rw [hs] at h; exact h
      | false =>
      rw [cond_false]
      refine (lookBK_iff _ _ _).2 ⟨cs, h1, ?_⟩
      obtain ⟨ti, h2, h⟩ := (CP.ti Γ t).det h
      refine (CP.ti Γ t).put h2 ?_
      have hload : ∀ K : AV → Prop, (takeK ti.cells (cs.drop off) fun l => packK (isStruct ti.desc) l K) → loadVK Γ s t (.pt n off) K := fun K hK =>
        (lookBK_iff _ _ _).2 ⟨cs, h1, (CP.ti Γ t).put h2 hK⟩
      obtain ⟨hl, h⟩ := (takeK_iff _ _ _).1 h
      cases hs : isStruct ti.desc with
      | true =>
        rw [hs] at h
        have h : vecsOfK (List.take ti.cells (List.drop off cs)) fun ids => nilK ids (packK true (List.take ti.cells (List.drop off cs)) fun v => stPutK N s o.dst v K) := h
        rw [vecsOfK_eq] at h
        obtain ⟨e, h⟩ := (nilK_iff _ _).1 h
        show takeK ti.cells (cs.drop off) fun l => vecsOfK l fun ids => frzAllK ids s fun s => evK s x fun p => loadVK Γ s t p fun v => stPutK N s o.dst v K
        rw [takeK_iff, vecsOfK_eq, e]
        refine ⟨hl, ?_⟩
        show evK s x _
        rw [evK_eq, hp]
        exact hload _ ((takeK_iff _ _ _).2 ⟨hl, by rw [hs]; exact h⟩)
      | false =>
        rw [hs] at h
        show evK s x _
        rw [evK_eq, hp]
        exact hload _ ((takeK_iff _ _ _).2 ⟨hl, by rw [hs]; exact h⟩)
    | rp cs => rw [hp] at h; show evK s x _; rw [evK_eq, hp]; exact h
    | vp id τ l n off => rw [hp] at h; show evK s x _; rw [evK_eq, hp]; exact h
    | _ => rw [hp] at h; exact h.elim
  | build t ps =>
    rw [ho] at h
    have h : buildCK Γ s t ps.toList fun v => stPutK N s o.dst v K := h
    show buildK Γ N s t ps.toList o.dst K
    unfold buildCK at h
    rw [opVecsK_eq] at h
    obtain ⟨e, h⟩ := (nilK_iff _ _).1 h
    refine buildK_of e ?_
    unfold buildFK
    rw [opVecsK_eq, e]
    exact h
  | call c =>
    rw [ho] at h
    obtain ⟨callee, args, ts⟩ := c
    cases callee with
    | value f =>
      have h : callCK P s f args.toList fun v => stPutK N s o.dst v K := h
      show evsK s args.toList fun vs => sbHeadK vs (fun id id2 o' rest => callSbK P N s f id id2 o' rest o.dst K) (callK P N s f args.toList o.dst K ∨ callBK P N s f args.toList o.dst K ∨ readK P N s f args.toList o.dst K ∨ callFK P N s f args.toList o.dst K ∨ callXK P N s f args.toList o.dst K)
      unfold callCK at h
      rw [evsK_eq] at h
      rw [evsK_eq]
      cases e : rdNeed (evs s args.toList) with
      | nil =>
        rw [e] at h
        have e : vecsOf (evs s args.toList) = [] := by
          unfold rdNeed at e
          cases hfa : fnArgs (evs s args.toList) with
          | true => rw [hfa] at e; exact e
          | false => rw [hfa] at e; cases e
        have h : evK s f fun fv => callGK P (evs s args.toList) fv fun v => stPutK N s o.dst v K := h
        have him : imAll (evs s args.toList) = true := by
          rw [evK_eq] at h
          cases hf : ev s f <;> rw [hf] at h <;> first | exact ((chkK_iff _ _).1 h).1 | exact h.elim
        refine sbHead_of (b := s.boxes) (imAll_rd him) (.inl ?_)
        unfold callK
        rw [evsK_eq, vecsOfK_eq, e]
        show evK s f fun fv => evsK s args.toList fun vs => match fv with
          | .fn g caps => chkK (imAll vs) (chkK (fnArgs vs) (chkK (imAll caps) (∃ r, PSpec P g (vs ++ caps) r ∧ stPutK N s o.dst r K)))
          | _ => False
        rw [evK_eq, evsK_eq]
        rw [evK_eq] at h
        cases hf : ev s f <;> rw [hf] at h <;> first | exact h | exact h.elim
      | cons i r =>
        rw [e] at h
        have h : evK s f fun fv => readGK P s.boxes (evs s args.toList) fv fun v => stPutK N s o.dst v K := h
        have him : imAll (rdAll s.boxes (evs s args.toList)) = true := by
          rw [evK_eq] at h
          cases hf : ev s f <;> rw [hf] at h <;> first | exact ((chkK_iff _ _).1 h).1 | exact h.elim
        refine sbHead_of him (.inr (.inr (.inl ?_)))
        unfold readK
        rw [evsK_eq]
        exact h
    | builtin b =>
      by_cases hb : b = .len
      · subst hb
        have h : evsK s args.toList fun l => nthK ts.toList 0 fun t => tiK Γ t fun ti => lenCK ti.desc l fun v => stPutK N s o.dst v K := h
        show evsK s args.toList fun l => nthK ts.toList 0 fun t => tiK Γ t fun ti => lenVK ti.desc l fun v => stPutK N s o.dst v K
        rw [evsK_eq] at h ⊢
        obtain ⟨t, h1, h⟩ := (nthK_iff _ _ _).1 h
        refine (nthK_iff _ _ _).2 ⟨t, h1, ?_⟩
        exact CP.mon (CP.ti Γ t) h fun ti h => len_of h
      · cases b <;> first | exact h | exact absurd rfl hb | exact h.elim
    | invoke r m => exact h.elim
  | alloc _ => rw [ho] at h; exact h.elim
  | box _ _ => rw [ho] at h; exact h.elim
  | store _ _ _ => rw [ho] at h; exact h.elim
  | buildSlice t len ps => exact absurd ho (hnb t len ps)
  | slice t x lo hi mx =>
    rw [ho] at h
    cases mx with
    | some _ => exact h.elim
    | none =>
      show evK s x fun a => arrCutK Γ N s t lo hi none o.dst K (valK Γ s (.slice t x lo hi none) fun v => stPutK N s o.dst v K) a
      rw [evK_eq]
      exact arrCut_of h
  | move _ => rw [ho] at h; exact h
  | assign _ => rw [ho] at h; exact h
  | pick _ _ _ => rw [ho] at h; exact h
  | binOp op t x y ty =>
    rw [ho] at h
    have h : evK s x fun a => evK s y fun b => binTK Γ op t a b fun v => stPutK N s o.dst v K := h
    show evK s x fun a => evK s y fun b => binNK Γ op t a b fun v => stPutK N s o.dst v K
    simp only [evK_eq] at h ⊢
    exact binT_of h
  | unOp _ _ _ => rw [ho] at h; exact h
  | convert src dst x =>
    rw [ho] at h
    have h : evK s x fun a => tiK Γ src fun ts => tiK Γ dst fun ti => convCK Γ ts.desc ti.desc a fun v => stPutK N s o.dst v K := h
    show evK s x fun a => tiK Γ src fun ts => tiK Γ dst fun ti => convAK Γ ts.desc ti.desc a fun v => stPutK N s o.dst v K
    exact CP.mon (CP.evK s x) h fun v h => CP.mon (CP.ti Γ src) h fun ts h => CP.mon (CP.ti Γ dst) h fun ti h => convC_of h
  | fieldAddr _ _ _ => rw [ho] at h; exact h
  | field _ _ _ => rw [ho] at h; exact h
  | extract _ _ => rw [ho] at h; exact h
  | indexAddr _ _ _ => rw [ho] at h; exact h
  | index _ _ _ => rw [ho] at h; exact h
  | nilCheck _ => rw [ho] at h; exact h
  | _ => rw [ho] at h; exact h.elim

theorem frz_same {d : Nat} {v : AV} (h : d ∉ ids v) : frz d v = v := by
  cases v with
  | vec i τ l => have : i ≠ d := fun e => h (by simp [ids, ids0, e]); simp [frz, Bool.cond_eq_ite, this]
  | vp i τ l n off => have : i ≠ d := fun e => h (by simp [ids, ids0, e]); simp [frz, Bool.cond_eq_ite, this]
  | pt n o => have : n ≠ d := fun e => h (by simp [ids, ids0, e]); simp [frz, Bool.cond_eq_ite, this]
  | fn f caps =>
    have : inL d (caps.flatMap ids0) = false := by rw [← Bool.not_eq_true, inL_iff]; exact h
    simp [frz, this]
  | tup caps =>
    have : inL d (caps.flatMap ids0) = false := by rw [← Bool.not_eq_true, inL_iff]; exact h
    simp [frz, this]
  | vs i τ l n => have : i ≠ d := fun e => h (by simp [ids, ids0, e]); simp [frz, Bool.cond_eq_ite, this]
  | ag k caps =>
    have : inL d (caps.flatMap ids0) = false := by rw [← Bool.not_eq_true, inL_iff]; exact h
    simp [frz, this]
  | ob i i2 o =>
    have : inL d [i, i2] = false := by rw [← Bool.not_eq_true, inL_iff]; exact h
    simp [frz, this]
  | _ => rfl
theorem kill_same {d : Nat} {v : AV} (h : d ∉ ids v) : kill d v = v := by
  have : inL d (ids v) = false := by rw [← Bool.not_eq_true, inL_iff]; exact h
  simp [kill, this]
theorem map_same {f : AV → AV} {l : List AV} (h : ∀ v ∈ l, f v = v) : mapC f l = l := by
  rw [mapC_eq]
  induction l with
  | nil => rfl
  | cons v r ih => simp only [List.map_cons]; rw [h v (List.mem_cons_self ..), ih fun u hu => h u (List.mem_cons_of_mem _ hu)]
end
end Go.SX
end
section
namespace Go.SX
set_option linter.unusedSectionVars false
variable [Globs]
section
variable {P : Program} {N : Nat} {Γ : Ctx} {W0 : World} {F : Fr} {X : Nat → Prop} {s : St} {β : Nat → Option Nat} {a : Act} {w : World}

/-- one value for another: the same, or less -/
def WkV (v t : AV) : Prop := v = t ∨ (v = .nl ∧ ∃ τ, t = .rd τ []) ∨ t = .x ∨ ∃ id τ l, v = .vec id τ l ∧ t = .vs id τ l 0
def wkS (s : St) : List (Nat × AV) → Prop
  | [] => True
  | (n, v) :: r => lookK s.slots n (fun u => WkV u v) ∧ wkS s r
def wkC : List AV → List AV → Prop
  | [], [] => True
  | u :: r, v :: t => WkV u v ∧ wkC r t
  | _, _ => False
def wkB (s : St) : List (Nat × List AV) → Prop
  | [] => True
  | (n, cs) :: r => lookBK s.boxes n (fun us => wkC us cs) ∧ wkB s r
/-- the state t knows no more than s -/
def Wk (s t : St) : Prop := wkS s t.slots ∧ wkB s t.boxes

theorem WkV.rel {u v : AV} {O : Nat → Prop} {x : Value} (h : WkV u v) (hr : Rel β O w u x) : Rel β O w v x := by
  rcases h with rfl | ⟨rfl, τ, rfl⟩ | rfl | ⟨id, τ, l, rfl, rfl⟩
  · exact hr
  · have : x = .slice none 0 0 := by cases (show Im _ _ _ _ from hr); rfl
    subst this
    exact Im.rd0 τ none 0 (Nat.zero_le _)
  · exact Rel.x
  · exact ⟨Nat.zero_le _, x, hr, .inl ⟨rfl, rfl⟩⟩
theorem WkV.ids {u v : AV} (h : WkV u v) : ∀ n ∈ ids v, n ∈ ids u := by
  rcases h with rfl | ⟨rfl, τ, rfl⟩ | rfl | ⟨id, τ, l, rfl, rfl⟩
  · exact fun _ h => h
  · intro n hn; cases hn
  · intro n hn; cases hn
  · exact fun _ h => h
theorem wkS_look {t : List (Nat × AV)} (h : wkS s t) : ∀ n, WkV (look s.slots n) (look t n) := by
  induction t with
  | nil => intro n; exact .inr (.inr (.inl rfl))
  | cons p r ih =>
    obtain ⟨m, v⟩ := p
    obtain ⟨h1, h2⟩ := h
    rw [lookK_eq] at h1
    intro n
    simp only [look]
    cases hb : Nat.beq m n with
    | true => have := Nat.eq_of_beq_eq_true hb; subst this; exact h1
    | false => exact ih h2 n
theorem wkB_look {t : List (Nat × List AV)} (h : wkB s t) : ∀ n cs, lookB t n = some cs → ∃ us, lookB s.boxes n = some us ∧ wkC us cs := by
  induction t with
  | nil => intro n cs hn; cases hn
  | cons p r ih =>
    obtain ⟨m, v⟩ := p
    obtain ⟨h1, h2⟩ := h
    intro n cs hn
    simp only [lookB] at hn
    cases hb : Nat.beq m n with
    | true => rw [hb] at hn; injection hn with hn; subst hn; have := Nat.eq_of_beq_eq_true hb; subst this; exact (lookBK_iff _ _ _).1 h1
    | false => rw [hb] at hn; exact ih h2 n cs hn
theorem wkC_rel {us cs : List AV} {vs : List Value} {O : Nat → Prop} (h : wkC us cs) (hr : All2 (RelC β O w) us vs) : All2 (RelC β O w) cs vs ∧ ∀ c ∈ cs, ∀ n ∈ ids c, ∃ u ∈ us, n ∈ ids u := by
  induction us generalizing cs vs with
  | nil => cases cs with
    | nil => exact ⟨hr, by intro c hc; cases hc⟩
    | cons _ _ => exact h.elim
  | cons u r ih => cases cs with
    | nil => exact h.elim
    | cons c t =>
      obtain ⟨v, vs', rfl, h1, h2⟩ := hr.cons_inv
      obtain ⟨h3, h4⟩ := ih h.2 h2
      refine ⟨All2.cons ⟨h.1.rel h1.1, h1.2⟩ h3, fun c' hc' n hn => ?_⟩
      rcases List.mem_cons.1 hc' with rfl | hc'
      · exact ⟨u, List.mem_cons_self .., h.1.ids n hn⟩
      · obtain ⟨u', hu', hn'⟩ := h4 c' hc' n hn
        exact ⟨u', List.mem_cons_of_mem _ hu', hn'⟩
theorem InvB.wk (hI : InvB W0 F X N s β a w) {t : St} (h : Wk s t) : InvB W0 F X N t β a w := by
  have hNm : ∀ n, Nm t n → Nm s n := by
    rintro n (⟨cs, hc⟩ | ⟨m, hm⟩ | ⟨b, cs, hb, c, hc, hn⟩)
    · obtain ⟨us, hu, _⟩ := wkB_look h.2 n cs hc
      exact .inl ⟨us, hu⟩
    · exact .inr (.inl ⟨m, (wkS_look h.1 m).ids n hm⟩)
    · obtain ⟨us, hu, hw⟩ := wkB_look h.2 b cs hb
      obtain ⟨g, us', e, h1, h2, h3⟩ := hI.boxes b us hu
      obtain ⟨u, hu', hn'⟩ := (wkC_rel hw h3).2 c hc n hn
      exact .inr (.inr ⟨b, us, hu, u, hu', hn'⟩)
  have hO : ∀ k, Own X t β k → Own X s β k := fun k hk => hk.imp id fun ⟨n, hn, hb⟩ => ⟨n, hNm n hn, hb⟩
  refine hI.upd (Stp.refl (fun _ => False) w) (fun _ _ h => h.elim) (fun n => ?_) (fun n cs hcs => ?_) (fun n m g hn hm => hI.inj n m g (hNm n hn) (hNm m hm)) (fun n g hn hg => hI.own n g (hNm n hn) hg) rfl rfl (fun n cs g hc hp => by
    obtain ⟨us, hu, _⟩ := wkB_look h.2 n cs hc
    exact hI.pin n us g hu hp)
  · exact ((wkS_look h.1 n).rel (hI.slots n)).mono hO
  · obtain ⟨us, hu, hw⟩ := wkB_look h.2 n cs hcs
    obtain ⟨g, us', e, h1, h2, h3⟩ := hI.boxes n us hu
    exact ⟨g, us', e, h1, h2, (wkC_rel hw h3).1.mono fun _ _ _ _ hr => ⟨hr.1.mono hO, hr.2⟩⟩
end
end Go.SX
end
section
namespace Go.SX
set_option linter.unusedSectionVars false
variable [Globs]
section
variable {P : Program} {N : Nat} {Γ : Ctx} {W0 : World} {F : Fr} {X : Nat → Prop} {s : St} {β : Nat → Option Nat} {a : Act} {w : World} {ops : Array Oper}

def Eqv (s s' : St) : Prop := (∀ n, look s.slots n = look s'.slots n) ∧ ∀ n, lookB s.boxes n = lookB s'.boxes n
theorem Eqv.refl (s : St) : Eqv s s := ⟨fun _ => rfl, fun _ => rfl⟩
theorem Eqv.trans {a b c : St} (h : Eqv a b) (h' : Eqv b c) : Eqv a c := ⟨fun n => (h.1 n).trans (h'.1 n), fun n => (h.2 n).trans (h'.2 n)⟩
theorem Eqv.symm {a b : St} (h : Eqv a b) : Eqv b a := ⟨fun n => (h.1 n).symm, fun n => (h.2 n).symm⟩
theorem Eqv.ev {a b : St} (h : Eqv a b) (x : Operand) : ev a x = ev b x := by cases x <;> first | rfl | exact h.1 _
theorem Eqv.inv (hI : InvB W0 F X N s β a w) {s' : St} (h : Eqv s s') : InvB W0 F X N s' β a w := by
  refine hI.less (Stp.refl _ _) ?_ (fun n => ⟨n, .inl ⟨(h.1 n).symm, rfl⟩⟩) (fun n cs hc => by rw [h.2]; exact hc) rfl rfl
  rintro n (⟨cs, hc⟩ | ⟨m, hm⟩ | ⟨k, cs, hk, c, hc, hn⟩)
  · exact .inl ⟨cs, by rw [h.2]; exact hc⟩
  · exact .inr (.inl ⟨m, by rw [h.1]; exact hm⟩)
  · exact .inr (.inr ⟨k, cs, by rw [h.2]; exact hk, c, hc, hn⟩)
theorem Eqv.putO {s s' : St} (h : Eqv s s') (d : Option Nat) (v : AV) : Eqv (putO s d v) (SX.putO s' d v) := by
  refine ⟨fun n => ?_, fun n => by rw [boxes_putO, boxes_putO, h.2]⟩
  rw [look_putO, look_putO, h.1]
theorem frz_eqv {d : Nat} (h : ¬ Nm s d) : Eqv (s.frz d) s := by
  refine ⟨fun n => ?_, fun n => ?_⟩
  · show look (mapV (SX.frz d) s.slots) n = _
    rw [look_mapV _ (show SX.frz d .x = .x from rfl)]
    exact frz_same fun hd => h (.inr (.inl ⟨n, hd⟩))
  · simp only [St.frz, St.delBox, St.map, lookB_delL, lookB_mapB]
    by_cases e : d = n
    · rw [if_pos e]
      cases hl : lookB s.boxes n with
      | none => rfl
      | some cs => exact absurd (.inl ⟨cs, e ▸ hl⟩) h
    · rw [if_neg e]
      cases hl : lookB s.boxes n with
      | none => rfl
      | some cs => rw [Option.map_some, map_same fun v hv => frz_same fun hd => h (.inr (.inr ⟨n, cs, hl, v, hv, hd⟩))]
theorem kill_eqv {d : Nat} (h : ¬ Nm s d) : Eqv (s.kill d) s := by
  refine ⟨fun n => ?_, fun n => ?_⟩
  · show look (mapV (SX.kill d) s.slots) n = _
    rw [look_mapV _ (kill_x d)]
    exact kill_same fun hd => h (.inr (.inl ⟨n, hd⟩))
  · simp only [St.kill, St.delBox, St.map, lookB_delL, lookB_mapB]
    by_cases e : d = n
    · rw [if_pos e]
      cases hl : lookB s.boxes n with
      | none => rfl
      | some cs => exact absurd (.inl ⟨cs, e ▸ hl⟩) h
    · rw [if_neg e]
      cases hl : lookB s.boxes n with
      | none => rfl
      | some cs => rw [Option.map_some, map_same fun v hv => kill_same fun hd => h (.inr (.inr ⟨n, cs, hl, v, hv, hd⟩))]
/-- a new variable is made like a calm operation: it stays as it was made till the block's end -/
def calmD (P : Program) (Γ : Ctx) (s : St) (o : Oper) (K : AV → Prop) : Prop :=
  match o.op with
  | .alloc t => match o.dst with
    | some d => tiK Γ t fun ti => chkK ti.sb.isNone (K (.ob d d (.nw ti.zero)))
    | none => False
  | op => calmK P Γ s op K
theorem calmD_of {o : Oper} (h : ∀ t, o.op ≠ .alloc t) {K : AV → Prop} : calmD P Γ s o K = calmK P Γ s o.op K := by
  unfold calmD
  cases ho : o.op <;> first | rfl | exact absurd ho (h _)
theorem calmD_cp (o : Oper) : CP (calmD P Γ s o) := by
  by_cases h : ∃ t, o.op = .alloc t
  · obtain ⟨t, ho⟩ := h
    cases hd : o.dst with
    | none =>
      have e : calmD P Γ s o = fun _ => False := by funext K; simp only [calmD, ho, hd]
      rw [e]; exact CP.none
    | some d =>
      have e : calmD P Γ s o = fun K => tiK Γ t fun ti => chkK ti.sb.isNone (K (.ob d d (.nw ti.zero))) := by funext K; simp only [calmD, ho, hd]
      rw [e]; exact CP.bind (CP.ti Γ t) fun ti => CP.chk (CP.pure _)
  · have e : calmD P Γ s o = calmK P Γ s o.op := by funext K; exact calmD_of fun t ht => h ⟨t, ht⟩
    rw [e]; exact calm_cp P Γ s o.op
theorem calmD_congr {s s' : St} (hb : ∀ n, lookB s.boxes n = lookB s'.boxes n) {o : Oper} (h : ∀ x ∈ o.op.operands.toList, ev s x = ev s' x) (K : AV → Prop) : calmD P Γ s o K = calmD P Γ s' o K := by
  by_cases hal : ∃ t, o.op = .alloc t
  · obtain ⟨t, ho⟩ := hal
    simp only [calmD, ho]
  · rw [calmD_of fun t ht => hal ⟨t, ht⟩, calmD_of fun t ht => hal ⟨t, ht⟩]
    exact calm_congr hb h K
/-- a calm operation is carried out -/
theorem calm_wp (hΓ : Γ.good P) (hI : InvB W0 F X N s β a w) {o : Oper} {v : AV} (hfree : ((∃ t len ps, o.op = .buildSlice t len ps) ∨ ∃ t, o.op = .alloc t) → ∃ d, o.dst = some d ∧ ¬ Nm s d) (hd : ∀ d, o.dst = some d → d < N)
    (h : calmD P Γ s o (fun u => u = v)) {next : Act → World → Prop} {Q : Exit → Act → World → Prop} (hn : ∀ a' w', Inv W0 F X N (putO s o.dst v) a' w' → next a' w') : o.wp P a w next Q := by
  by_cases hal : ∃ t, o.op = .alloc t
  · obtain ⟨d, hdst, hNd⟩ := hfree (.inr hal)
    obtain ⟨t, ho⟩ := hal
    have h : tiK Γ t fun ti => chkK ti.sb.isNone (AV.ob d d (.nw ti.zero) = v) := by simpa only [calmD, ho, hdst] using h
    obtain ⟨ti, hmem, h⟩ := tiK_mem h
    obtain ⟨_, rfl⟩ := (chkK_iff _ _).1 h
    obtain ⟨z, hz, hzc⟩ := (hΓ.ok _ hmem).zeroValue w
    have hI2 := hI.newOb (hd d hdst) hNd hNd (Stp.alloc w (.cells z.cells t)) (Nat.le_refl _) (by simp) (o := .nw ti.zero) (u := .pointer (some ⟨w.heap.size, 0, none⟩)) (fun O' =>
      ⟨w.heap.size, t, by simp [setβ], rfl, by rw [heap_alloc_new, hzc], (hΓ.one _ hmem).1⟩)
    refine wp_val (u := .pointer (some ⟨w.heap.size, 0, none⟩)) (w' := w.alloc (.cells z.cells t)) ?_ (hn _ _ (by rw [hdst]; exact ⟨_, hI2⟩))
    simp [execOp, ho, Instr.alloc, hz, newVar_run]
  rw [calmD_of fun t ht => hal ⟨t, ht⟩] at h
  have hfree : (∃ t len ps, o.op = .buildSlice t len ps) → ∃ d, o.dst = some d ∧ ¬ Nm s d := fun h => hfree (.inl h)
  by_cases hb : ∃ t len ps, o.op = .buildSlice t len ps
  · obtain ⟨d, hdst, hNd⟩ := hfree hb
    obtain ⟨t, len, ps, ho⟩ := hb
    rw [ho] at h
    have h : bsliceCK Γ s t len ps.toList (fun u => u = v) := h
    unfold bsliceCK at h
    rw [opVecsK_eq] at h
    obtain ⟨e, h⟩ := (nilK_iff _ _).1 h
    refine bslice_ok hΓ.ok hΓ.one hI ho (K := fun s2 => ∃ τ l, v = .rd τ l ∧ Eqv (s2.frz d) (putO s (some d) v)) ?_ fun s' a' w' hK ⟨β', hI'⟩ => ?_
    · unfold bsliceK
      rw [opVecsK_eq, e, hdst, frzAllK_eq]
      refine (optK_iff _ _).2 ⟨d, rfl, ?_⟩
      simp only [frzAll]
      rw [stFrzK_eq]
      have hfe := frz_eqv hNd
      obtain ⟨ti, h1, h⟩ := (CP.ti Γ t).det h
      refine (CP.ti Γ t).put h1 ?_
      obtain ⟨el, h2, h⟩ := (CP.sliceTK ti.desc).det h
      refine (CP.sliceTK ti.desc).put h2 ?_
      obtain ⟨te, h3, h⟩ := (CP.ti Γ el).det h
      refine (CP.ti Γ el).put h3 ?_
      obtain ⟨τ, h4, h⟩ := (tyK_iff _ _).1 h
      refine (tyK_iff _ _).2 ⟨τ, h4, ?_⟩
      obtain ⟨h5, h⟩ := (chkK_iff _ _).1 h
      obtain ⟨h6, h⟩ := (chkK_iff _ _).1 h
      refine (chkK_iff _ _).2 ⟨h5, (chkK_iff _ _).2 ⟨h6, ?_⟩⟩
      rw [partsK_eq] at h ⊢
      rw [parts_congr (s' := s) fun x _ => hfe.ev x.2]
      obtain ⟨cs, h7, h⟩ := (CP.fill (pl := fun i K => K (i * te.cells, te.cells)) (fun _ => CP.pure _) _ _).det h
      refine (CP.fill (pl := fun i K => K (i * te.cells, te.cells)) (fun _ => CP.pure _) _ _).put h7 ?_
      rw [plainCK_eq] at h ⊢
      obtain ⟨l, h8, rfl⟩ := (optK_iff _ _).1 h
      refine (optK_iff _ _).2 ⟨l, h8, ?_⟩
      rw [stKillK_eq]
      refine stPut_mk (fun d' e' => by injection e' with e'; subst e'; exact hd _ hdst) ⟨τ, l, rfl, ?_⟩
      have hNd1 : ¬ Nm (s.frz d) d := not_frz s d
      have hke := (kill_eqv hNd1).trans hfe
      have hNk : ¬ Nm ((s.frz d).kill d) d := fun hm => (Nm.of_kill hm).2 rfl
      refine ⟨fun n => ?_, fun n => ?_⟩
      · show look (mapV (SX.frz d) (((s.frz d).kill d).put d (.vec d τ l)).slots) n = _
        rw [look_mapV _ (show SX.frz d .x = .x from rfl), look_putO]
        show SX.frz d (look (setL ((s.frz d).kill d).slots d (.vec d τ l)) n) = _
        rw [look_setL]
        by_cases e' : d = n
        · rw [if_pos e', if_pos (by rw [e'])]; simp [SX.frz]
        · rw [if_neg e', if_neg (fun h => e' (by injection h)), hke.1 n]
          exact frz_same fun hd' => hNd (.inr (.inl ⟨n, hd'⟩))
      · have h9 := (frz_eqv hNk).2 n
        exact h9.trans (hke.2 n)
    · obtain ⟨τ, l, _, he⟩ := hK
      rw [hdst] at hn
      exact hn _ _ ⟨β', Eqv.inv (hI'.frz d) he⟩
  · exact op_ok hΓ hI (calm_op (fun t len ps e => hb ⟨t, len, ps, e⟩) ((calm_cp P Γ s o.op).put h (stPut_mk (K := fun s' => s' = putO s o.dst v) hd rfl))) fun s' a' w' hs' hI' => hn a' w' (hs' ▸ hI')

/-! ### the values that a block yields in the order of the text -/
abbrev Item := Nat × Oper × AV
def StepV (P : Program) (Γ : Ctx) (ops : List Oper) (o : Oper) (s : St) (v : AV) : Prop :=
  match o.guard with
  | none => calmD P Γ s o (fun u => u = v)
  | some (j, want) => ∃ oj d, ops[j]? = some oj ∧ oj.dst = some d ∧
    ((look s.slots d = .b want ∧ calmD P Γ s o (fun u => u = v)) ∨ ((look s.slots d = .b (!want) ∨ look s.slots d = .tup []) ∧ v = .tup []))
def dstB (o : Oper) (d : Nat) : Bool := match o.dst with | some d' => Nat.beq d' d | none => false
theorem dstB_iff {o : Oper} {d : Nat} : dstB o d = true ↔ o.dst = some d := by
  unfold dstB
  cases o.dst with
  | none => simp
  | some d' => simp
/-- new names are met in no other operation's value -/
def fzB (fz : List Nat) (o : Oper) (v : AV) : Bool := fz.all fun d => !(inB d (ids v)) || dstB o d
theorem fzB_iff {fz : List Nat} {o : Oper} {v : AV} : fzB fz o v = true ↔ ∀ d ∈ fz, d ∈ ids v → o.dst = some d := by
  simp only [fzB, List.all_eq_true, Bool.or_eq_true, Bool.not_eq_true', ← Bool.not_eq_true, inB_iff, dstB_iff]
  constructor
  · exact fun h d hd hi => (h d hd).resolve_left fun hn => hn hi
  · exact fun h d hd => (Classical.em (d ∈ ids v)).elim (fun hi => .inr (h d hd hi)) .inl
def Chain (P : Program) (Γ : Ctx) (N : Nat) (fz : List Nat) (ops : List Oper) : List Item → St → Prop
  | [], _ => True
  | (_, o, v) :: r, s => StepV P Γ ops o s v ∧ (∀ d, o.dst = some d → d < N) ∧ (∀ d ∈ fz, d ∈ ids v → o.dst = some d) ∧ Chain P Γ N fz ops r (putO s o.dst v)
def runI : List Item → St → St
  | [], s => s
  | (_, o, v) :: r, s => runI r (putO s o.dst v)
def blkStepK (P : Program) (Γ : Ctx) (N : Nat) (fz : List Nat) (ops : List Oper) (i : Nat) (known : List Nat) (s : St) (K : List Nat → St → Prop) : Prop :=
  nthK ops i fun o =>
    match o.guard with
    | none => calmD P Γ s o fun v => chkK (fzB fz o v) (stPutK N s o.dst v fun s => K known s)
    | some (j, want) => nthK ops j fun oj => optK oj.dst fun d =>
      guardK N (inB j known) s d want (fun s => calmD P Γ s o fun v => chkK (fzB fz o v) (stPutK N s o.dst v fun s => K (j :: known) s))
        (fun s => stPutK N s o.dst (.tup []) fun s => K (j :: known) s)
def vcBlk (P : Program) (Γ : Ctx) (N : Nat) (fz : List Nat) (ops : List Oper) : List Nat → List Nat → St → (St → Prop) → Prop
  | [], _, s, Q => Q s
  | i :: r, known, s, Q => blkStepK P Γ N fz ops i known s fun known s => vcBlk P Γ N fz ops r known s Q
theorem guard_cases {d : Nat} {known want : Bool} {run skip : St → Prop} (h : guardK N known s d want run skip) :
    (look s.slots d = .b want ∧ ∃ s', Eqv s s' ∧ run s') ∨ ((look s.slots d = .b (!want) ∨ look s.slots d = .tup []) ∧ ∃ s', Eqv s s' ∧ skip s') := by
  have hput : ∀ t (K : St → Prop), look s.slots d = .b t → stPutK N s (some d) (.b t) K → ∃ s', Eqv s s' ∧ K s' := fun t K hv hK =>
    ⟨putO s (some d) (.b t), ⟨fun n => by
      rw [look_putO]
      split
      · rename_i e; injection e with e; rw [← e, hv]
      · rfl, fun _ => rfl⟩, (stPut_inv hK).1⟩
  unfold guardK at h
  rw [lookK_eq] at h
  cases known with
  | true =>
    cases hv : look s.slots d with
    | b t =>
      rw [hv] at h
      cases t <;> cases want
      · exact .inl ⟨rfl, s, Eqv.refl s, h⟩
      · exact .inr ⟨.inl rfl, s, Eqv.refl s, h⟩
      · exact .inr ⟨.inl rfl, s, Eqv.refl s, h⟩
      · exact .inl ⟨rfl, s, Eqv.refl s, h⟩
    | tup l =>
      rw [hv] at h
      cases l with
      | nil => exact .inr ⟨.inr rfl, s, Eqv.refl s, h⟩
      | cons _ _ => exact h.elim
    | _ => rw [hv] at h; exact h.elim
  | false =>
    cases hv : look s.slots d with
    | b t =>
      rw [hv] at h
      by_cases ht : t = want
      · subst ht; exact .inl ⟨rfl, hput t run hv (h.1 rfl)⟩
      · have ht' : t = !want := by cases t <;> cases want <;> simp_all
        subst ht'
        exact .inr ⟨.inl rfl, hput _ skip hv (h.2 rfl)⟩
    | tup l =>
      rw [hv] at h
      cases l with
      | nil => exact .inr ⟨.inr rfl, s, Eqv.refl s, h⟩
      | cons _ _ => exact h.elim
    | _ => rw [hv] at h; exact h.elim
theorem blk_chain {fz : List Nat} {opl : List Oper} {K : St → Prop} (B : List Nat) : ∀ (known : List Nat) (s : St), vcBlk P Γ N fz opl B known s K → ∀ s0, Eqv s0 s →
    ∃ its : List Item, its.map (·.1) = B ∧ (∀ it ∈ its, opl[it.1]? = some it.2.1) ∧ Chain P Γ N fz opl its s0 ∧ ∃ t, Eqv (runI its s0) t ∧ K t := by
  induction B with
  | nil => intro known s h s0 he; exact ⟨[], rfl, (by intro it hit; cases hit), trivial, s, he, h⟩
  | cons i r ih =>
    intro known s h s0 he
    obtain ⟨o, ho, h⟩ := (nthK_iff _ _ _).1 h
    have run : ∀ {known' : List Nat} {s1 : St}, Eqv s0 s1 → (calmD P Γ s1 o fun v => chkK (fzB fz o v) (stPutK N s1 o.dst v fun s => vcBlk P Γ N fz opl r known' s K)) →
        ∃ v, calmD P Γ s0 o (fun u => u = v) ∧ (∀ d, o.dst = some d → d < N) ∧ (∀ d ∈ fz, d ∈ ids v → o.dst = some d) ∧ vcBlk P Γ N fz opl r known' (putO s1 o.dst v) K := by
      intro known' s1 he1 h1
      obtain ⟨v, h2, h3⟩ := (calmD_cp (s := s1) o).det h1
      obtain ⟨h6, h3⟩ := (chkK_iff _ _).1 h3
      obtain ⟨h4, h5⟩ := stPut_inv h3
      exact ⟨v, by rw [calmD_congr he1.2 fun x _ => he1.ev x]; exact h2, h5, fzB_iff.1 h6, h4⟩
    have fin : ∀ {v : AV} {known' : List Nat} {s1 : St}, Eqv s0 s1 → StepV P Γ opl o s0 v → (∀ d, o.dst = some d → d < N) → (∀ d ∈ fz, d ∈ ids v → o.dst = some d) → vcBlk P Γ N fz opl r known' (putO s1 o.dst v) K →
        ∃ its : List Item, its.map (·.1) = i :: r ∧ (∀ it ∈ its, opl[it.1]? = some it.2.1) ∧ Chain P Γ N fz opl its s0 ∧ ∃ t, Eqv (runI its s0) t ∧ K t := by
      intro v known' s1 he1 h1 h2 h2' h3
      obtain ⟨its, k1, k2, k3, k4⟩ := ih _ _ h3 (putO s0 o.dst v) (he1.putO o.dst v)
      refine ⟨(i, o, v) :: its, by simp [k1], fun it hit => ?_, ⟨h1, h2, h2', k3⟩, k4⟩
      rcases List.mem_cons.1 hit with rfl | hit
      · exact ho
      · exact k2 it hit
    cases hg : o.guard with
    | none =>
      rw [hg] at h
      obtain ⟨v, h1, h2, h2', h3⟩ := run he h
      exact fin he (by unfold StepV; rw [hg]; exact h1) h2 h2' h3
    | some p =>
      obtain ⟨j, want⟩ := p
      rw [hg] at h
      obtain ⟨oj, hj, h⟩ := (nthK_iff _ _ _).1 h
      obtain ⟨d, hd, h⟩ := (optK_iff _ _).1 h
      rcases guard_cases h with ⟨h1, s1, he1, h⟩ | ⟨h1, s1, he1, h⟩
      · obtain ⟨v, h2, h3, h3', h4⟩ := run (he.trans he1) h
        exact fin (he.trans he1) (by unfold StepV; rw [hg]; exact ⟨oj, d, hj, hd, .inl ⟨by rw [he.1]; exact h1, h2⟩⟩) h3 h3' h4
      · obtain ⟨h4, h5⟩ := stPut_inv h
        exact fin (he.trans he1) (by unfold StepV; rw [hg]; exact ⟨oj, d, hj, hd, .inr ⟨by rw [he.1]; exact h1, rfl⟩⟩) h5 (by intro _ _ h; cases h) h4

/-! ### what is read after a part of the block -/
def selL : List Item → (Nat → Bool) → Nat → AV → AV
  | [], _, _, base => base
  | (i, o, v) :: r, p, x, base => if p i = true ∧ o.dst = some x then v else selL r p x base
theorem selL_append (l l' : List Item) (p : Nat → Bool) (x : Nat) (base : AV) : selL (l ++ l') p x base = selL l p x (selL l' p x base) := by
  induction l with
  | nil => rfl
  | cons q r ih => obtain ⟨i, o, v⟩ := q; simp only [List.cons_append, selL, ih]
theorem selL_skip {l : List Item} {p : Nat → Bool} {x : Nat} {base : AV} (h : ∀ q ∈ l, p q.1 = true → q.2.1.dst ≠ some x) : selL l p x base = base := by
  induction l with
  | nil => rfl
  | cons q r ih =>
    obtain ⟨i, o, v⟩ := q
    simp only [selL]
    rw [if_neg fun ⟨h1, h2⟩ => h _ (List.mem_cons_self ..) h1 h2]
    exact ih fun q hq => h q (List.mem_cons_of_mem _ hq)
theorem selL_same {l : List Item} {p p' : Nat → Bool} {x : Nat} {base : AV} (h : ∀ q ∈ l, q.2.1.dst = some x → p q.1 = p' q.1) : selL l p x base = selL l p' x base := by
  induction l with
  | nil => rfl
  | cons q r ih =>
    obtain ⟨i, o, v⟩ := q
    simp only [selL]
    rw [ih fun q hq => h q (List.mem_cons_of_mem _ hq)]
    by_cases hd : o.dst = some x
    · rw [h _ (List.mem_cons_self ..) hd]
    · simp [hd]
def aft (o : Oper) (i : Nat) : Bool := o.after.any fun e => Region.binds .any e && Nat.beq e.on i
theorem aft_spec {o : Oper} {i : Nat} (h : aft o i = true) : ∃ e ∈ o.after, Region.binds .any e = true ∧ e.on = i := by
  obtain ⟨e, h1, h2⟩ := Array.any_eq_true'.1 h
  simp only [Bool.and_eq_true] at h2
  exact ⟨e, h1, h2.1, Nat.eq_of_beq_eq_true h2.2⟩
/-- an earlier and a later item of a block -/
def PairOK (ops : Array Oper) (e t : Item) : Prop :=
  e.1 ≠ t.1 ∧ (∀ d, e.2.1.dst = some d → t.2.1.dst ≠ some d) ∧ (aft t.2.1 e.1 = true ∨ ((∀ d, e.2.1.dst = some d → d ∉ t.2.1.looksAt ops) ∧ ∀ d, t.2.1.dst = some d → d ∉ e.2.1.looksAt ops))
theorem look_runI (l : List Item) (h : l.Pairwise (PairOK ops)) : ∀ (s : St) (x : Nat), look (runI l s).slots x = selL l (fun _ => true) x (look s.slots x) := by
  induction l with
  | nil => intro s x; rfl
  | cons q r ih =>
    obtain ⟨i, o, v⟩ := q
    intro s x
    rw [List.pairwise_cons] at h
    simp only [runI, selL]
    rw [ih h.2, look_putO]
    by_cases hd : o.dst = some x
    · rw [if_pos hd, if_pos ⟨trivial, hd⟩]
      exact selL_skip fun q hq _ => (h.1 q hq).2.1 x hd
    · rw [if_neg hd, if_neg fun h => hd h.2]
theorem boxes_runI (l : List Item) : ∀ s, (runI l s).boxes = s.boxes := by
  induction l with
  | nil => intro s; rfl
  | cons q r ih => obtain ⟨i, o, v⟩ := q; intro s; simp only [runI]; rw [ih, boxes_putO]
theorem chain_at {fz : List Nat} {opl : List Oper} (pre : List Item) {i : Nat} {o : Oper} {v : AV} {post : List Item} : ∀ s, Chain P Γ N fz opl (pre ++ (i, o, v) :: post) s → StepV P Γ opl o (runI pre s) v ∧ ∀ d, o.dst = some d → d < N := by
  induction pre with
  | nil => intro s h; exact ⟨h.1, h.2.1⟩
  | cons q r ih => obtain ⟨i', o', v'⟩ := q; intro s h; exact ih _ h.2.2.2
theorem chain_ids {fz : List Nat} {opl : List Oper} (l : List Item) : ∀ s, Chain P Γ N fz opl l s → ∀ q ∈ l, ∀ d ∈ fz, d ∈ ids q.2.2 → q.2.1.dst = some d := by
  induction l with
  | nil => intro _ _ q hq; cases hq
  | cons q' r ih =>
    obtain ⟨i, o, v⟩ := q'
    intro s h q hq
    rcases List.mem_cons.1 hq with rfl | hq
    · exact h.2.2.1
    · exact ih _ h.2.2.2 q hq
theorem selL_or {l : List Item} {p : Nat → Bool} {x : Nat} {base : AV} : selL l p x base = base ∨ ∃ q ∈ l, p q.1 = true ∧ selL l p x base = q.2.2 := by
  induction l with
  | nil => exact .inl rfl
  | cons q r ih =>
    obtain ⟨i, o, v⟩ := q
    simp only [selL]
    split
    · rename_i hp; exact .inr ⟨_, List.mem_cons_self .., hp.1, rfl⟩
    · exact ih.imp id fun ⟨q, hq, e⟩ => ⟨q, List.mem_cons_of_mem _ hq, e⟩

/-! ### the block, in any order -/
def cnt : List Item → (Nat → Bool) → Nat
  | [], _ => 0
  | q :: r, p => (if p q.1 = true then 0 else 1) + cnt r p
theorem cnt_le {l : List Item} {p p' : Nat → Bool} (h : ∀ i, p i = true → p' i = true) : cnt l p' ≤ cnt l p := by
  induction l with
  | nil => exact Nat.le_refl _
  | cons q r ih =>
    simp only [cnt]
    by_cases h1 : p q.1 = true
    · rw [if_pos h1, if_pos (h _ h1)]; omega
    · rw [if_neg h1]; split <;> omega
theorem cnt_lt {l : List Item} {p p' : Nat → Bool} (h : ∀ i, p i = true → p' i = true) {q : Item} (hq : q ∈ l) (h1 : p q.1 ≠ true) (h2 : p' q.1 = true) : cnt l p' < cnt l p := by
  induction l with
  | nil => cases hq
  | cons q' r ih =>
    simp only [cnt]
    rcases List.mem_cons.1 hq with rfl | hq
    · rw [if_pos h2, if_neg h1]; have := cnt_le (l := r) h; omega
    · have := ih hq
      by_cases h3 : p q'.1 = true
      · rw [if_pos h3, if_pos (h _ h3)]; omega
      · rw [if_neg h3]; split <;> omega
theorem cnt_all {l : List Item} {p : Nat → Bool} (h : cnt l p = 0) : ∀ q ∈ l, p q.1 = true := by
  induction l with
  | nil => intro q hq; cases hq
  | cons q' r ih =>
    simp only [cnt] at h
    intro q hq
    rcases List.mem_cons.1 hq with rfl | hq
    · by_cases h3 : p q.1 = true
      · exact h3
      · rw [if_neg h3] at h; omega
    · exact ih (by omega) q hq
theorem first_not {l : List Item} {p : Nat → Bool} (h : cnt l p ≠ 0) : ∃ pre q post, l = pre ++ q :: post ∧ (∀ r ∈ pre, p r.1 = true) ∧ p q.1 ≠ true := by
  induction l with
  | nil => exact absurd rfl h
  | cons q' r ih =>
    by_cases h3 : p q'.1 = true
    · simp only [cnt, if_pos h3] at h
      obtain ⟨pre, q, post, rfl, h4, h5⟩ := ih (by omega)
      exact ⟨q' :: pre, q, post, rfl, fun x hx => by rcases List.mem_cons.1 hx with rfl | hx; exact h3; exact h4 x hx, h5⟩
    · exact ⟨[], q', r, rfl, (by intro x hx; cases hx), h3⟩
def setAll (listed : Array Bool) (B : List Nat) : Array Bool := B.foldl (fun l i => l.setIfInBounds i true) listed
theorem setAll_size (B : List Nat) : ∀ listed : Array Bool, (setAll listed B).size = listed.size := by
  induction B with
  | nil => intro l; rfl
  | cons i r ih => intro l; simp only [setAll, List.foldl_cons]; exact (ih _).trans (by simp)
theorem setAll_get (B : List Nat) : ∀ (listed : Array Bool) (j : Nat), j < listed.size → (setAll listed B).getD j false = (decide (j ∈ B) || listed.getD j false) := by
  induction B with
  | nil => intro l j _; simp [setAll]
  | cons i r ih =>
    intro l j hj
    have h1 := ih (l.setIfInBounds i true) j (by simpa using hj)
    simp only [setAll, List.foldl_cons] at h1 ⊢
    rw [h1]
    by_cases hij : i = j
    · subst hij; simp [hj]
    · have hji : j ≠ i := fun e => hij e.symm
      simp [Array.getElem?_setIfInBounds_ne hij, hji]

/-- each of a list comes before o, by a chain within it -/
def lastB (oj : Oper) : List Item → Prop
  | [] => True
  | q :: r => (aft oj q.1 = true ∨ ∃ q' ∈ r, aft q'.2.1 q.1 = true) ∧ lastB oj r

structure BlkOK (ops : Array Oper) (listed : Array Bool) (its : List Item) : Prop where
  size : listed.size = ops.size
  un : ∀ q ∈ its, listed.getD q.1 true = false
  at' : ∀ q ∈ its, ops[q.1]? = some q.2.1
  pairs : its.Pairwise (PairOK ops)
  prev : ∀ pre q post, its = pre ++ q :: post → ∀ e ∈ q.2.1.after, Region.binds .any e = true → listed.getD e.on false = true ∨ ∃ r ∈ pre, r.1 = e.on
  last : ∀ j oj, ops[j]? = some oj → listed.getD j true = false → (∀ q ∈ its, q.1 ≠ j) → lastB oj its ∨ ∃ j', aft oj j' = true ∧ listed.getD j' false = false ∧ ∀ q ∈ its, q.1 ≠ j'

theorem getD_dflt {l : Array Bool} {i : Nat} (h : i < l.size) (d d' : Bool) : l.getD i d = l.getD i d' := by simp [h]

theorem blk_ok (hΓ : Γ.good P) {Q : Exit → Act → World → Prop} {its : List Item} {listed0 : Array Bool} (hb : BlkOK ops listed0 its) {s0 : St} {fz : List Nat} (hc : Chain P Γ N fz ops.toList its s0)
    (hfz : ∀ q ∈ its, ((∃ t len ps, q.2.1.op = .buildSlice t len ps) ∨ ∃ t, q.2.1.op = .alloc t) → ∃ d, q.2.1.dst = some d ∧ d ∈ fz) (hN0 : ∀ d ∈ fz, ¬ Nm s0 d) {f : Nat}
    (hend : ∀ fuel a w, f ≤ fuel → Inv W0 F X N (runI its s0) a w → wpAny P .any ops Q fuel (setAll listed0 (its.map (·.1))) a w) :
    ∀ (n fuel : Nat) (listed : Array Bool) (s : St) (a : Act) (w : World), cnt its (fun i => listed.getD i false) ≤ n → n + f ≤ fuel → listed.size = ops.size →
      (∀ j, (∀ q ∈ its, q.1 ≠ j) → listed.getD j false = listed0.getD j false) →
      (∀ q ∈ its, listed.getD q.1 false = true → ∀ e ∈ q.2.1.after, Region.binds .any e = true → listed.getD e.on false = true) →
      s.boxes = s0.boxes → (∀ x, look s.slots x = selL its (fun i => listed.getD i false) x (look s0.slots x)) → Inv W0 F X N s a w → wpAny P .any ops Q fuel listed a w := by
  intro n
  induction n with
  | zero =>
    intro fuel listed s a w hn hf hsz h1 h2 hbx hlk ⟨β, hI⟩
    have hall := cnt_all (Nat.le_zero.1 hn)
    have e : listed = setAll listed0 (its.map (·.1)) := by
      apply Array.ext
      · rw [setAll_size, hsz, hb.size]
      · intro j hj hj'
        have hj0 : j < listed0.size := by rw [hb.size, ← hsz]; exact hj
        have h3 := setAll_get (its.map (·.1)) listed0 j hj0
        have h4 : listed.getD j false = (setAll listed0 (its.map (·.1))).getD j false := by
          rw [h3]
          by_cases hm : j ∈ its.map (·.1)
          · obtain ⟨q, hq, rfl⟩ := List.mem_map.1 hm
            rw [hall q hq]; simp [hm]
          · rw [h1 j fun q hq e => hm (List.mem_map.2 ⟨q, hq, e⟩)]; simp only [hm, decide_false, Bool.false_or]
        simpa [hj, hj'] using h4
    rw [e]
    refine hend fuel a w (by omega) ⟨β, Eqv.inv hI ⟨fun x => ?_, fun _ => by rw [boxes_runI, hbx]⟩⟩
    rw [hlk, look_runI its hb.pairs]
    exact selL_same fun q hq _ => hall q hq
  | succ n ih =>
    intro fuel listed s a w hn hf hsz h1 h2 hbx hlk hInv
    by_cases hz : cnt its (fun i => listed.getD i false) = 0
    · exact ih fuel listed s a w (by omega) (by omega) hsz h1 h2 hbx hlk hInv
    obtain ⟨fuel, rfl⟩ : ∃ k, fuel = k + 1 := ⟨fuel - 1, by omega⟩
    -- the first that is not there yet can be taken
    obtain ⟨pre, q, post, e, hpre, hq⟩ := first_not hz
    have hlt : ∀ q ∈ its, q.1 < ops.size := fun q hq => (Array.getElem?_eq_some_iff.1 (hb.at' q hq)).1
    have hunb : ∀ q ∈ its, listed.getD q.1 false ≠ true → listed.getD q.1 true = false := fun q hq h => by
      rw [getD_dflt (by rw [hsz]; exact hlt q hq) true false]; simpa using h
    have hready : q.1 ∈ Region.ready .any ops listed := by
      have hqm : q ∈ its := by rw [e]; simp
      refine mem_ready.2 ⟨hunb q hqm hq, q.2.1, hb.at' q hqm, fun ed hed hbd => ?_⟩
      rcases hb.prev pre q post e ed hed hbd with h | ⟨r, hr, hre⟩
      · by_cases hm : ∃ q' ∈ its, q'.1 = ed.on
        · obtain ⟨q', hq', hqe⟩ := hm
          exfalso
          have := hb.un q' hq'
          rw [hqe, getD_dflt (by rw [hb.size, ← hqe]; exact hlt q' hq') true false, h] at this
          cases this
        · rw [h1 _ fun q' hq' he => hm ⟨q', hq', he⟩]; exact h
      · rw [← hre]; exact hpre r hr
    refine ⟨fun h => (by rw [h] at hready; cases hready), fun j hj => ?_⟩
    obtain ⟨hjun, oj, hoj, hjall⟩ := mem_ready.1 hj
    have hjun' : listed.getD j false ≠ true := by
      intro h
      have hjs : j < listed.size := by rw [hsz]; exact (Array.getElem?_eq_some_iff.1 hoj).1
      rw [getD_dflt hjs true false, h] at hjun; cases hjun
    -- it is one of the block
    obtain ⟨it, hit, hitj⟩ : ∃ it ∈ its, it.1 = j := by
      by_cases hm : ∃ it ∈ its, it.1 = j
      · exact hm
      · exfalso
        have hno : ∀ q ∈ its, q.1 ≠ j := fun q hq e => hm ⟨q, hq, e⟩
        have hj0 : listed0.getD j true = false := by
          have hjs : j < listed0.size := by rw [hb.size]; exact (Array.getElem?_eq_some_iff.1 hoj).1
          rw [getD_dflt hjs true false, ← h1 j hno]; simpa using hjun'
        rcases hb.last j oj hoj hj0 hno with hl | ⟨j', hl1, hl2, hl3⟩
        case inr =>
          obtain ⟨ed, h3, h4, h5⟩ := aft_spec hl1
          have h6 := hjall ed h3 h4
          rw [h5, h1 j' hl3, hl2] at h6
          cases h6
        have key : ∀ l : List Item, (∀ q ∈ l, q ∈ its) → lastB oj l → ∀ q ∈ l, listed.getD q.1 false = true := by
          intro l
          induction l with
          | nil => intro _ _ q hq; cases hq
          | cons q r ihl =>
            intro hsub ⟨hl1, hl2⟩
            have hr := ihl (fun q hq => hsub q (List.mem_cons_of_mem _ hq)) hl2
            intro q' hq'
            rcases List.mem_cons.1 hq' with rfl | hq'
            · rcases hl1 with h | ⟨q'', hq'', h⟩
              · obtain ⟨ed, h3, h4, h5⟩ := aft_spec h
                rw [← h5]; exact hjall ed h3 h4
              · obtain ⟨ed, h3, h4, h5⟩ := aft_spec h
                rw [← h5]; exact h2 q'' (hsub q'' (List.mem_cons_of_mem _ hq'')) (hr q'' hq'') ed h3 h4
            · exact hr q' hq'
        exact hq (key its (fun _ h => h) hl q (by rw [e]; simp))
    subst hitj
    obtain ⟨pre', post', e'⟩ := List.append_of_mem hit
    obtain ⟨i, o, v⟩ := it
    have hoj' := hb.at' _ hit
    rw [hoj] at hoj'; injection hoj' with hoj'
    have hoj'' := hoj'.symm
    subst hoj''
    obtain ⟨hstep, hdN⟩ := chain_at pre' s0 (by rw [← e']; exact hc)
    have hpw := hb.pairs
    rw [e'] at hpw
    obtain ⟨hpw1, hpw2, hpw3⟩ := List.pairwise_append.1 hpw
    rw [List.pairwise_cons] at hpw2
    have hread : ∀ x ∈ o.looksAt ops, look s.slots x = look (runI pre' s0).slots x := fun x hx => by
      rw [hlk, look_runI pre' hpw1, e', selL_append]
      have h3 : selL ((i, o, v) :: post') (fun i => listed.getD i false) x (look s0.slots x) = look s0.slots x := by
        refine selL_skip fun q hq hlq hdq => ?_
        rcases List.mem_cons.1 hq with rfl | hq
        · exact hjun' hlq
        · obtain ⟨_, _, h5⟩ := hpw2.1 q hq
          rcases h5 with h5 | ⟨_, h5⟩
          · obtain ⟨ed, h6, h7, h8⟩ := aft_spec h5
            have := h2 q (by rw [e']; simp [hq]) hlq ed h6 h7
            rw [h8] at this
            exact hjun' this
          · exact h5 x hdq hx
      rw [h3]
      refine selL_same fun q hq hdq => ?_
      obtain ⟨_, _, h5⟩ := hpw3 q hq (i, o, v) (List.mem_cons_self ..)
      rcases h5 with h5 | ⟨h5, _⟩
      · obtain ⟨ed, h6, h7, h8⟩ := aft_spec h5
        rw [← h8]; exact hjall ed h6 h7
      · exact absurd hx (h5 x hdq)
    have hbx' : s.boxes = (runI pre' s0).boxes := by rw [boxes_runI, hbx]
    have hcongr : ∀ K, calmD P Γ s o K = calmD P Γ (runI pre' s0) o K := calmD_congr (fun _ => by rw [hbx']) fun x hx => by
      cases x with
      | tmp t => exact hread t (by simp only [Oper.looksAt, List.mem_append, List.mem_filterMap]; exact .inl ⟨_, hx, rfl⟩)
      | _ => rfl
    -- and what comes after it is known
    have hnext : ∀ a' w', Inv W0 F X N (putO s o.dst v) a' w' → wpAny P .any ops Q fuel (listed.setIfInBounds i true) a' w' := by
      intro a' w' hI'
      have hset : ∀ k, (listed.setIfInBounds i true).getD k false = (decide (k = i) || listed.getD k false) := fun k => by
        by_cases hk : i = k
        · subst hk
          have : i < listed.size := by rw [hsz]; exact hlt _ hit
          simp [this]
        · have hk' : k ≠ i := fun e => hk e.symm
          simp [Array.getElem?_setIfInBounds_ne hk, hk']
      have huniq : ∀ q ∈ its, q.1 = i → q = (i, o, v) := fun q hq hqi => by
        rw [e'] at hq
        rcases List.mem_append.1 hq with hq | hq
        · exact absurd hqi (hpw3 q hq (i, o, v) (List.mem_cons_self ..)).1
        · rcases List.mem_cons.1 hq with rfl | hq
          · rfl
          · exact absurd hqi.symm (hpw2.1 q hq).1
      refine ih fuel _ (putO s o.dst v) a' w' ?_ (by omega) (by simpa using hsz) (fun k hk => ?_) (fun q hq hl ed hed hbd => ?_) (by rw [boxes_putO, hbx]) (fun x => ?_) hI'
      · have := cnt_lt (l := its) (p := fun i => listed.getD i false) (p' := fun k => (listed.setIfInBounds i true).getD k false) (fun k hk => by rw [hset, hk]; simp) hit hjun' (by rw [hset]; simp)
        omega
      · rw [hset, h1 k hk]
        have : k ≠ i := fun e => hk _ hit e.symm
        simp [this]
      · rw [hset] at hl ⊢
        by_cases hqi : q.1 = i
        · have := huniq q hq hqi
          subst this
          rw [hjall ed hed hbd]; simp
        · have hlq : listed.getD q.1 false = true := by simpa [hqi] using hl
          rw [h2 q hq hlq ed hed hbd]; simp
      · rw [look_putO]
        by_cases hd : o.dst = some x
        · rw [if_pos hd, e', selL_append]
          have h3 : selL ((i, o, v) :: post') (fun k => (listed.setIfInBounds i true).getD k false) x (look s0.slots x) = v := by
            simp only [selL]
            rw [if_pos ⟨by rw [hset]; simp, hd⟩]
          rw [h3]
          exact (selL_skip fun q hq _ hdq => (hpw3 q hq (i, o, v) (List.mem_cons_self ..)).2.1 x hdq hd).symm
        · rw [if_neg hd, hlk]
          refine selL_same fun q hq hdq => ?_
          show listed.getD q.1 false = (listed.setIfInBounds i true).getD q.1 false
          rw [hset]
          by_cases hqi : q.1 = i
          · have := huniq q hq hqi
            subst this
            exact absurd hdq hd
          · simp [hqi]
    obtain ⟨β, hI⟩ := hInv
    have hrun : calmD P Γ (runI pre' s0) o (fun u => u = v) → o.wp P a w (wpAny P .any ops Q fuel (listed.setIfInBounds i true)) Q := fun h => by
      rw [← hcongr] at h
      refine calm_wp hΓ hI (fun hb' => ?_) hdN h hnext
      obtain ⟨d, h1, h2⟩ := hfz _ hit hb'
      refine ⟨d, h1, ?_⟩
      rintro (⟨cs, hcs⟩ | ⟨n, hn⟩ | ⟨k, cs, hk, c, hc', hn⟩)
      · exact hN0 d h2 (.inl ⟨cs, by rw [← hbx]; exact hcs⟩)
      · rw [hlk] at hn
        rcases selL_or (l := its) (p := fun i => listed.getD i false) (x := n) (base := look s0.slots n) with h3 | ⟨q, hq, hlq, h3⟩
        · rw [h3] at hn; exact hN0 d h2 (.inr (.inl ⟨n, hn⟩))
        · rw [h3] at hn
          have hqd := chain_ids its s0 hc q hq d h2 hn
          rw [e'] at hq
          rcases List.mem_append.1 hq with hq | hq
          · exact (hpw3 q hq (i, o, v) (List.mem_cons_self ..)).2.1 d hqd h1
          · rcases List.mem_cons.1 hq with rfl | hq
            · exact hjun' hlq
            · exact (hpw2.1 q hq).2.1 d h1 hqd
      · exact hN0 d h2 (.inr (.inr ⟨k, cs, by rw [← hbx]; exact hk, c, hc', hn⟩))
    unfold wpOp
    rw [hoj]
    show if _ then _ else _
    cases hg : o.guard with
    | none =>
      unfold StepV at hstep
      rw [hg] at hstep
      rw [if_pos (by simp [Region.wanted, hg])]
      exact .inl (hrun hstep)
    | some p =>
      obtain ⟨gj, want⟩ := p
      unfold StepV at hstep
      rw [hg] at hstep
      obtain ⟨og, d, hgj, hgd, hstep⟩ := hstep
      have hd : look s.slots d = look (runI pre' s0).slots d := hread d (by
        simp only [Oper.looksAt, hg, List.mem_append]
        refine .inr ?_
        have : ops[gj]? = some og := by simpa using hgj
        simp [this, hgd])
      rcases hstep with ⟨h3, h4⟩ | ⟨h3, h4⟩
      · have hgk : guardK N true s d want (fun _ => True) (fun _ => False) := by
          unfold guardK; rw [lookK_eq, hd, h3]
          cases want <;> trivial
        rcases guard_ok hI hgj hgd hgk with ⟨_, _, hy, _⟩ | ⟨_, _, _, h⟩
        · rw [if_pos (by simp [Region.wanted, hg]; exact hy)]
          exact .inl (hrun h4)
        · exact h.elim
      · have hgk : guardK N true s d want (fun _ => False) (fun _ => True) := by
          unfold guardK; rw [lookK_eq, hd]
          rcases h3 with h3 | h3
          · rw [h3]; cases want <;> trivial
          · rw [h3]; trivial
        rcases guard_ok hI hgj hgd hgk with ⟨_, _, _, h⟩ | ⟨_, _, hy, _⟩
        · exact h.elim
        · rw [if_neg (by simp [Region.wanted, hg]; exact hy)]
          subst h4
          obtain ⟨s2, k1, k2⟩ := putIm_ok hI (Stp.refl _ w) (stPut_mk (K := fun s' => s' = putO s o.dst (.tup [])) hdN rfl) (undef_rel _ _)
          exact hnext _ _ (k1 ▸ ⟨β, k2⟩)

/-! ### a region's plan -/
/-- the orders of some operations: at each step one of those that are ready -/
inductive OT where
  | fin
  | non
  | opt (i : Nat) (k alt : OT)
inductive Ph where
  | tree (n : Nat) (S : List Nat) (t : OT)
  | take (i : Nat)
  | one (i : Nat)
  | blk (B : List Nat) (fz : List Nat := [])
  | two (i j : Nat)
  | twoT (i j t : Nat)
def phLen : Ph → Nat
  | .tree n _ _ => n
  | .blk B _ => B.length
  | .two _ _ => 2
  | .twoT _ _ _ => 3
  | _ => 1
def gStepK (N : Nat) (ops : List Oper) (o : Oper) (known : List Nat) (s : St) (run : (List Nat) → St → Prop) (skip : (List Nat) → St → Prop) : Prop :=
  match o.guard with
  | none => run known s
  | some (j, want) => nthK ops j fun oj => optK oj.dst fun d => guardK N (inB j known) s d want (run (j :: known)) (skip (j :: known))
def noGuard (o : Oper) (K : Prop) : Prop := match o.guard with
  | none => K
  | some _ => False
/-- each order of a tree comes to the state T -/
def vcOT (P : Program) (Γ : Ctx) (N : Nat) (ops : List Oper) (T : St) : OT → St → Prop
  | .fin, s => Wk s T
  | .non, _ => True
  | .opt i k alt, s => (nthK ops i fun o => noGuard o (opK P Γ N o s fun s => vcOT P Γ N ops T k s)) ∧ vcOT P Γ N ops T alt s
def heads : OT → List Nat
  | .opt i _ alt => i :: heads alt
  | _ => []
def eqL : List Nat → List Nat → Bool
  | [], [] => true
  | a :: r, b :: r' => Nat.beq a b && eqL r r'
  | _, _ => false
theorem eqL_eq : ∀ {l m : List Nat}, eqL l m = true → l = m
  | [], [], _ => rfl
  | [], _ :: _, h => nomatch h
  | _ :: _, [], h => nomatch h
  | a :: r, b :: r', h => by
    simp only [eqL, Bool.and_eq_true] at h
    rw [Nat.eq_of_beq_eq_true h.1, eqL_eq h.2]
def headOT (ops : Array Oper) (listed : Array Bool) : OT → Bool
  | .fin => true
  | .non => false
  | t => eqL (Region.ready .any ops listed) (heads t)
def okOT (ops : Array Oper) (full : Array Bool) : Nat → Array Bool → OT → Bool
  | n, listed, .fin => Nat.beq n 0 && decide (listed = full)
  | _, _, .non => true
  | n, listed, .opt i k alt => (match n with
    | 0 => false
    | m + 1 => headOT ops (listed.setIfInBounds i true) k && okOT ops full m (listed.setIfInBounds i true) k) && okOT ops full n listed alt
/-- a new variable is taken for a box -/
def unnwK (N : Nat) (d : Nat) (s : St) (K : St → Prop) : Prop := lookK s.slots d fun v => match v with
  | .ob i j (.nw zs) => chkK (Nat.beq i d) (chkK (Nat.beq j d) (chkK (Nat.blt d N) (ofValsK zs fun cs => mapVK (killK d) s.slots fun sl => mapBK (killK d) s.boxes fun b => setLK b d cs fun b => setLK sl d (.pt d 0) fun sl => K ⟨sl, b⟩)))
  | _ => K s
def unnwAllK (N : Nat) : List Nat → St → (St → Prop) → Prop
  | [], s, K => K s
  | d :: r, s, K => unnwK N d s fun s => unnwAllK N r s K
theorem InvB.unnw (h : InvB W0 F X N s β a w) {d : Nat} {zs : List Value} (hd : d < N) (hv : look s.slots d = .ob d d (.nw zs)) : InvB W0 F X N (((s.map (SX.kill d)).setBox d (ofVals zs)).put d (.pt d 0)) β a w := by
  obtain ⟨b, T, h1, h2, h3, h4⟩ : ObAt β (Own X s β) w d d (.nw zs) (a.tmps.getD d undef) := by have := h.slots d; rw [hv] at this; exact this
  have hdN : Nm s d := .inr (.inl ⟨d, by rw [hv]; simp [ids, ids0]⟩)
  have hNm : ∀ m, Nm (((s.map (SX.kill d)).setBox d (ofVals zs)).put d (.pt d 0)) m → Nm s m := by
    rintro m (⟨cs, hc⟩ | ⟨q, hq⟩ | ⟨k, cs, hk, c, hc, hm⟩)
    · simp only [St.put, St.setBox, lookB_setL, St.map, lookB_mapB] at hc
      split at hc
      · rename_i e; exact e ▸ hdN
      · obtain ⟨cs0, k1, _⟩ := Option.map_eq_some_iff.1 hc
        exact .inl ⟨cs0, k1⟩
    · simp only [St.put, St.setBox, look_setL] at hq
      split at hq
      · have : m = d := by simpa [ids, ids0] using hq
        exact this ▸ hdN
      · simp only [St.map, look_mapV _ (kill_x d)] at hq
        exact .inr (.inl ⟨q, (kill_ids d _ m hq).1⟩)
    · simp only [St.put, St.setBox, lookB_setL, St.map, lookB_mapB] at hk
      split at hk
      · injection hk with hk
        subst hk
        rw [ofVals_ids zs c hc] at hm; cases hm
      · obtain ⟨cs0, k1, rfl⟩ := Option.map_eq_some_iff.1 hk
        rw [mapC_eq] at hc
        obtain ⟨c', hc', rfl⟩ := List.mem_map.1 hc
        exact .inr (.inr ⟨k, cs0, k1, c', hc', (kill_ids d _ m hm).1⟩)
  have hO : ∀ k, Own X (((s.map (SX.kill d)).setBox d (ofVals zs)).put d (.pt d 0)) β k → Own X s β k := fun k hk => hk.imp id fun ⟨n, hn, hb⟩ => ⟨n, hNm n hn, hb⟩
  have key : ∀ {v : AV} {u : Value}, Rel β (Own X s β) w v u → Rel β (Own X (((s.map (SX.kill d)).setBox d (ofVals zs)).put d (.pt d 0)) β) w (SX.kill d v) u := fun {v u} hr => by
    rcases (kill_cases d v).1 with e | e
    · rw [e]; exact hr.mono hO
    · rw [e]; exact Rel.x
  refine h.upd (Stp.refl (fun _ => False) w) (fun _ _ h => h.elim) (fun m => ?_) (fun m cs hcs => ?_) (fun k m g hk hm => h.inj k m g (hNm k hk) (hNm m hm)) (fun m g hm hg => h.own m g (hNm m hm) hg) rfl rfl (fun m cs g hc hp => ?_)
  · simp only [St.put, look_setL]
    split
    · rename_i e
      subst e
      exact Rel.rel0 (v := a.tmps.getD d undef) (av := .pt d 0) ⟨b, h1, h2⟩
    · simp only [St.setBox, St.map, look_mapV _ (kill_x d)]
      exact key (h.slots m)
  · simp only [St.put, St.setBox, lookB_setL, St.map, lookB_mapB] at hcs
    split at hcs
    · rename_i e
      subst e
      injection hcs with hcs
      subst hcs
      exact ⟨b, zs.toArray, T, h1, h3, ofVals_all2 _ _ h4⟩
    · obtain ⟨cs0, k1, rfl⟩ := Option.map_eq_some_iff.1 hcs
      obtain ⟨g, us, e, k2, k3, k4⟩ := h.boxes m cs0 k1
      refine ⟨g, us, e, k2, k3, ?_⟩
      rw [mapC_eq]
      refine ⟨by simpa using k4.1, fun j c v hc hv => ?_⟩
      rw [List.getElem?_map, Option.map_eq_some_iff] at hc
      obtain ⟨c', hc', rfl⟩ := hc
      exact ⟨key (k4.2 j c' v hc' hv).1, (k4.2 j c' v hc' hv).2⟩
  · simp only [St.put, St.setBox, lookB_setL, St.map, lookB_mapB] at hc
    split at hc
    · rename_i e
      subst e
      rw [h.pinN d hd] at hp; cases hp
    · obtain ⟨cs0, k1, _⟩ := Option.map_eq_some_iff.1 hc
      exact h.pin m cs0 g k1 hp
theorem unnwAll_ok (l : List Nat) : ∀ {s : St} {K : St → Prop}, InvB W0 F X N s β a w → unnwAllK N l s K → ∃ s', K s' ∧ InvB W0 F X N s' β a w := by
  induction l with
  | nil => intro s K hI h; exact ⟨s, h, hI⟩
  | cons d r ih =>
    intro s K hI h
    simp only [unnwAllK, unnwK, lookK_eq] at h
    split at h
    · rename_i i j zs hv
      obtain ⟨h1, h⟩ := (chkK_iff _ _).1 h
      obtain ⟨h2, h⟩ := (chkK_iff _ _).1 h
      obtain ⟨h3, h⟩ := (chkK_iff _ _).1 h
      have h1 := Nat.eq_of_beq_eq_true h1
      have h2 := Nat.eq_of_beq_eq_true h2
      subst h1
      subst h2
      rw [ofValsK_eq, mapVK_eq (killK_eq _), mapBK_eq (killK_eq _)] at h
      simp only [setLK_eq] at h
      exact ih (hI.unnw (by rw [Nat.blt_eq] at h3; exact h3) hv) h
    · exact ih hI h
def vcPlan (P : Program) (Γ : Ctx) (N : Nat) (ops : List Oper) : List Ph → List Nat → St → (St → Prop) → Prop
  | [], _, s, Q => Q s
  | .tree _ _ t :: r, known, s, Q => ∃ T : St, vcOT P Γ N ops T t s ∧ vcPlan P Γ N ops r known T Q
  | .take i :: r, known, s, Q => nthK ops i fun o => gStepK N ops o known s (fun known s => valK Γ s o.op fun v => stPutK N s o.dst v fun s => vcPlan P Γ N ops r known s Q)
      (fun known s => stPutK N s o.dst (.tup []) fun s => vcPlan P Γ N ops r known s Q)
  | .one i :: r, known, s, Q => nthK ops i fun o => gStepK N ops o known s (fun known s => opK P Γ N o s fun s => vcPlan P Γ N ops r known s Q)
      (fun known s => stPutK N s o.dst (.tup []) fun s => vcPlan P Γ N ops r known s Q)
  | .two i j :: r, known, s, Q => ∃ T : St,
      (nthK ops i fun o => nthK ops j fun o' => noGuard o (noGuard o' (opK P Γ N o s fun s => opK P Γ N o' s fun s => Wk s T))) ∧
      (nthK ops j fun o => nthK ops i fun o' => noGuard o (noGuard o' (opK P Γ N o s fun s => opK P Γ N o' s fun s => Wk s T))) ∧ vcPlan P Γ N ops r known T Q
  | .twoT i j t :: r, known, s, Q => ∃ T : St,
      (nthK ops i fun o => nthK ops j fun o' => nthK ops t fun ot => noGuard o (noGuard o' (noGuard ot (opK P Γ N o s fun s => valK Γ s ot.op fun v => stPutK N s ot.dst v fun s => opK P Γ N o' s fun s => Wk s T)))) ∧
      (nthK ops i fun o => nthK ops j fun o' => nthK ops t fun ot => noGuard o (noGuard o' (noGuard ot (opK P Γ N o' s fun s => opK P Γ N o s fun s => valK Γ s ot.op fun v => stPutK N s ot.dst v fun s => Wk s T)))) ∧ vcPlan P Γ N ops r known T Q
  | .blk B fz :: r, known, s, Q => frzAllK fz s fun s => vcBlk P Γ N fz ops B known s fun s => unnwAllK N fz s fun s => vcPlan P Γ N ops r known s Q

def ppairB (ops : Array Oper) (e t : Nat × Oper) : Bool :=
  !(Nat.beq e.1 t.1) && (match e.2.dst with
    | some d => !(match t.2.dst with | some d' => Nat.beq d d' | none => false)
    | none => true) &&
  (aft t.2 e.1 || ((match e.2.dst with
    | some d => !(inB d (t.2.looksAt ops))
    | none => true) && (match t.2.dst with
    | some d => !(inB d (e.2.looksAt ops))
    | none => true)))
def pairsB (ops : Array Oper) : List (Nat × Oper) → Bool
  | [] => true
  | e :: r => r.all (ppairB ops e) && pairsB ops r
def prevB (listed : Array Bool) : List Nat → List (Nat × Oper) → Bool
  | _, [] => true
  | seen, (i, o) :: r => (o.after.all fun e => !Region.binds .any e || listed.getD e.on false || inB e.on seen) && prevB listed (i :: seen) r
def lastBB (oj : Oper) : List (Nat × Oper) → Bool
  | [] => true
  | q :: r => (aft oj q.1 || r.any fun q' => aft q'.2 q.1) && lastBB oj r
def pick (ops : Array Oper) : List Nat → Option (List (Nat × Oper))
  | [] => some []
  | i :: r => match ops[i]?, pick ops r with
    | some o, some l => some ((i, o) :: l)
    | _, _ => none
def blkB (ops : Array Oper) (listed : Array Bool) (B : List Nat) : Bool :=
  match pick ops B with
  | none => false
  | some l => (B.all fun i => !(listed.getD i true)) && pairsB ops l && prevB listed [] l &&
    (List.range ops.size).all fun j => listed.getD j true || inB j B || match ops[j]? with
      | some oj => lastBB oj l || (List.range ops.size).any fun j' => aft oj j' && !(listed.getD j' false) && !(inB j' B)
      | none => true
def fzOK (fz : List Nat) (o : Oper) : Bool := match o.op with
  | .buildSlice _ _ _ => match o.dst with | some d => inB d fz | none => false
  | .alloc _ => match o.dst with | some d => inB d fz | none => false
  | _ => true
def planB (ops : Array Oper) : Array Bool → List Ph → Bool
  | listed, [] => (Region.ready .any ops listed).isEmpty
  | listed, .tree n S t :: r => headOT ops listed t && okOT ops (setAll listed S) n listed t && planB ops (setAll listed S) r
  | listed, .take i :: r => (Region.ready .any ops listed).contains i && Region.free .any ops listed i && planB ops (listed.setIfInBounds i true) r
  | listed, .one i :: r => (match Region.ready .any ops listed with
    | [j] => Nat.beq i j
    | _ => false) && planB ops (listed.setIfInBounds i true) r
  | listed, .two i j :: r => (match Region.ready .any ops listed with
    | [i', j'] => Nat.beq i i' && Nat.beq j j'
    | _ => false) && (match Region.ready .any ops (listed.setIfInBounds i true) with
    | [j'] => Nat.beq j j'
    | _ => false) && (match Region.ready .any ops (listed.setIfInBounds j true) with
    | [i'] => Nat.beq i i'
    | _ => false) && planB ops ((listed.setIfInBounds i true).setIfInBounds j true) r
  | listed, .twoT i j t :: r => (match Region.ready .any ops listed with
    | [i', j'] => Nat.beq i i' && Nat.beq j j'
    | _ => false) && ((Region.ready .any ops (listed.setIfInBounds i true)).contains t && Region.free .any ops (listed.setIfInBounds i true) t) &&
    (match Region.ready .any ops ((listed.setIfInBounds i true).setIfInBounds t true) with
    | [j'] => Nat.beq j j'
    | _ => false) && (match Region.ready .any ops (listed.setIfInBounds j true) with
    | [i'] => Nat.beq i i'
    | _ => false) && ((Region.ready .any ops ((listed.setIfInBounds j true).setIfInBounds i true)).contains t && Region.free .any ops ((listed.setIfInBounds j true).setIfInBounds i true) t) &&
    decide (((listed.setIfInBounds i true).setIfInBounds t true).setIfInBounds j true = ((listed.setIfInBounds j true).setIfInBounds i true).setIfInBounds t true) && planB ops (((listed.setIfInBounds i true).setIfInBounds t true).setIfInBounds j true) r
  | listed, .blk B fz :: r => (blkB ops listed B && B.all fun i => match ops[i]? with | some o => fzOK fz o | none => false) && planB ops (setAll listed B) r
def planOK (ops : Array Oper) (pl : List Ph) : Bool := Region.noSelect ops && planB ops (Array.replicate ops.size false) pl && decide ((pl.map phLen).sum ≤ ops.size)

theorem pick_spec {B : List Nat} : ∀ {l : List (Nat × Oper)}, pick ops B = some l → ∀ its : List Item, its.map (·.1) = B → (∀ it ∈ its, ops[it.1]? = some it.2.1) → its.map (fun q => (q.1, q.2.1)) = l := by
  induction B with
  | nil =>
    intro l h its h1 _
    injection h with h; subst h
    cases its with
    | nil => rfl
    | cons _ _ => cases h1
  | cons i r ih =>
    intro l h its h1 h2
    cases its with
    | nil => cases h1
    | cons q t =>
      obtain ⟨i', o, v⟩ := q
      simp only [List.map_cons, List.cons.injEq] at h1
      obtain ⟨rfl, h1⟩ := h1
      have h3 := h2 _ (List.mem_cons_self ..)
      have h3' : ops[i']? = some o := h3
      simp only [pick, h3'] at h
      cases hp : pick ops r with
      | none => rw [hp] at h; cases h
      | some l' =>
        rw [hp] at h
        injection h with h
        subst h
        simp only [List.map_cons]
        rw [ih hp t h1 fun it hit => h2 it (List.mem_cons_of_mem _ hit)]
theorem pairs_spec {its : List Item} (h : pairsB ops (its.map fun q => (q.1, q.2.1)) = true) : its.Pairwise (PairOK ops) := by
  induction its with
  | nil => exact List.Pairwise.nil
  | cons e r ih =>
    simp only [List.map_cons, pairsB, Bool.and_eq_true, List.all_eq_true] at h
    refine List.Pairwise.cons (fun t ht => ?_) (ih h.2)
    have := h.1 (t.1, t.2.1) (List.mem_map.2 ⟨t, ht, rfl⟩)
    simp only [ppairB, Bool.and_eq_true, Bool.or_eq_true] at this
    obtain ⟨⟨h1, h2⟩, h3⟩ := this
    refine ⟨fun e' => by rw [e'] at h1; simp at h1, fun d hd hd' => by rw [hd, hd'] at h2; simp at h2, h3.imp id fun h4 => ⟨fun d hd hm => ?_, fun d hd hm => ?_⟩⟩
    · have := h4.1; rw [hd] at this; simp only [Bool.not_eq_true'] at this
      rw [inB_iff.2 hm] at this; cases this
    · have := h4.2; rw [hd] at this; simp only [Bool.not_eq_true'] at this
      rw [inB_iff.2 hm] at this; cases this
theorem prev_spec {listed : Array Bool} (its : List Item) : ∀ seen, prevB listed seen (its.map fun q => (q.1, q.2.1)) = true →
    ∀ pre q post, its = pre ++ q :: post → ∀ e ∈ q.2.1.after, Region.binds .any e = true → listed.getD e.on false = true ∨ e.on ∈ seen ∨ ∃ r ∈ pre, r.1 = e.on := by
  induction its with
  | nil => intro seen _ pre q post e; cases pre <;> cases e
  | cons t r ih =>
    intro seen h pre q post e ed hed hbd
    simp only [List.map_cons, prevB, Bool.and_eq_true] at h
    cases pre with
    | nil =>
      simp only [List.nil_append, List.cons.injEq] at e
      obtain ⟨rfl, rfl⟩ := e
      have := Array.all_eq_true_iff_forall_mem.1 h.1 ed hed
      simp only [Bool.or_eq_true, Bool.not_eq_true', hbd, Bool.true_eq_false, false_or] at this
      rcases this with h1 | h1
      · exact .inl h1
      · exact .inr (.inl (inB_iff.1 h1))
    | cons p pre =>
      simp only [List.cons_append, List.cons.injEq] at e
      obtain ⟨rfl, e⟩ := e
      rcases ih _ h.2 pre q post e ed hed hbd with h1 | h1 | ⟨r', h1, h2⟩
      · exact .inl h1
      · rcases List.mem_cons.1 h1 with h1 | h1
        · exact .inr (.inr ⟨t, List.mem_cons_self .., h1.symm⟩)
        · exact .inr (.inl h1)
      · exact .inr (.inr ⟨r', List.mem_cons_of_mem _ h1, h2⟩)
theorem last_spec {oj : Oper} {its : List Item} (h : lastBB oj (its.map fun q => (q.1, q.2.1)) = true) : lastB oj its := by
  induction its with
  | nil => trivial
  | cons q r ih =>
    simp only [List.map_cons, lastBB, Bool.and_eq_true, Bool.or_eq_true] at h
    refine ⟨h.1.imp id fun h1 => ?_, ih h.2⟩
    obtain ⟨x, h2, h3⟩ := List.any_eq_true.1 h1
    obtain ⟨q', h4, rfl⟩ := List.mem_map.1 h2
    exact ⟨q', h4, h3⟩
theorem blkB_spec {listed : Array Bool} {B : List Nat} (hsz : listed.size = ops.size) (h : blkB ops listed B = true) {its : List Item} (h1 : its.map (·.1) = B) (h2 : ∀ it ∈ its, ops[it.1]? = some it.2.1) : BlkOK ops listed its := by
  unfold blkB at h
  cases hp : pick ops B with
  | none => rw [hp] at h; cases h
  | some l =>
    rw [hp] at h
    have e := pick_spec hp its h1 h2
    subst e
    simp only [Bool.and_eq_true, List.all_eq_true, List.mem_range] at h
    obtain ⟨⟨⟨h3, h4⟩, h5⟩, h6⟩ := h
    refine ⟨hsz, fun q hq => ?_, h2, pairs_spec h4, fun pre q post e ed hed hbd => ?_, fun j oj hoj hun hno => ?_⟩
    · have := h3 q.1 (by rw [← h1]; exact List.mem_map.2 ⟨q, hq, rfl⟩)
      simpa using this
    · rcases prev_spec its [] h5 pre q post e ed hed hbd with h | h | h
      · exact .inl h
      · cases h
      · exact .inr h
    · have := h6 j (Array.getElem?_eq_some_iff.1 hoj).1
      simp only [Bool.or_eq_true, hun, Bool.false_eq_true, false_or, hoj] at this
      rcases this with h7 | h7
      · rw [← h1] at h7
        obtain ⟨q, hq, hqe⟩ := List.mem_map.1 (inB_iff.1 h7)
        exact absurd hqe (hno q hq)
      · rcases h7 with h7 | h7
        · exact .inl (last_spec h7)
        · obtain ⟨j', _, h8⟩ := List.any_eq_true.1 h7
          simp only [Bool.and_eq_true, Bool.not_eq_true'] at h8
          refine .inr ⟨j', h8.1.1, h8.1.2, fun q hq e => ?_⟩
          have := inB_iff (j := j') (l := B)
          rw [h8.2] at this
          have h9 : j' ∈ B := by rw [← h1, ← e]; exact List.mem_map.2 ⟨q, hq, rfl⟩
          exact absurd (this.2 h9) (by simp)

theorem gStep_cases {o : Oper} {opl : List Oper} {known : List Nat} {run skip : List Nat → St → Prop} (hI : InvB W0 F X N s β a w) (h : gStepK N opl o known s run skip) :
    (∃ k s', InvB W0 F X N s' β a w ∧ Region.wanted o (yielded opl.toArray a.tmps) = true ∧ run k s') ∨ (∃ k s', InvB W0 F X N s' β a w ∧ Region.wanted o (yielded opl.toArray a.tmps) = false ∧ skip k s') := by
  unfold gStepK at h
  cases hg : o.guard with
  | none => rw [hg] at h; exact .inl ⟨known, s, hI, by simp [Region.wanted, hg], h⟩
  | some p =>
    obtain ⟨j, want⟩ := p
    rw [hg] at h
    obtain ⟨oj, hj, h⟩ := (nthK_iff _ _ _).1 h
    obtain ⟨d, hd, h⟩ := (optK_iff _ _).1 h
    rcases guard_ok hI hj hd h with ⟨s', h1, h2, h3⟩ | ⟨s', h1, h2, h3⟩
    · exact .inl ⟨_, s', h1, by simp [Region.wanted, hg, h2], h3⟩
    · exact .inr ⟨_, s', h1, by simp [Region.wanted, hg]; exact h2, h3⟩

theorem of_frzAll (fz : List Nat) : ∀ (s : St) (d : Nat), Nm (frzAll fz s) d → Nm s d := by
  induction fz with
  | nil => intro s d h; exact h
  | cons n r ih => intro s d h; exact (Nm.of_frz (ih _ _ h)).1
theorem not_frzAll (fz : List Nat) : ∀ (s : St) (d : Nat), d ∈ fz → ¬ Nm (frzAll fz s) d := by
  induction fz with
  | nil => intro s d h; cases h
  | cons n r ih =>
    intro s d h
    rcases List.mem_cons.1 h with rfl | h
    · intro hm; exact not_frz s d (of_frzAll r _ _ hm)
    · exact ih _ d h

theorem ot_ok (hΓ : Γ.good P) {Q' : Exit → Act → World → Prop} {full : Array Bool} {T : St} {fuel : Nat} (hfin : ∀ a w, Inv W0 F X N T a w → wpAny P .any ops Q' fuel full a w) (t : OT) :
    ∀ (n : Nat) (listed : Array Bool) (s : St) (a : Act) (w : World), okOT ops full n listed t = true → vcOT P Γ N ops.toList T t s → Inv W0 F X N s a w →
      (t = .fin → wpAny P .any ops Q' (fuel + n) listed a w) ∧ ∀ i ∈ heads t, ∃ m, n = m + 1 ∧ wpOp P ops Q' i (wpAny P .any ops Q' (fuel + m) (listed.setIfInBounds i true)) a w := by
  induction t with
  | fin =>
    intro n listed s a w h1 h ⟨β, hI⟩
    refine ⟨fun _ => ?_, fun i hi => nomatch hi⟩
    simp only [okOT, Bool.and_eq_true, decide_eq_true_eq] at h1
    have hn := Nat.eq_of_beq_eq_true h1.1
    subst hn
    rw [h1.2]
    exact hfin a w ⟨β, hI.wk h⟩
  | non =>
    intro n listed s a w h1 h hI
    exact ⟨(fun e => nomatch e), fun i hi => nomatch hi⟩
  | opt i k alt ihk iha =>
    intro n listed s a w h1 h hI
    refine ⟨(fun e => nomatch e), fun j hj => ?_⟩
    simp only [okOT, Bool.and_eq_true] at h1
    obtain ⟨hK, hA⟩ := h
    rcases List.mem_cons.1 hj with rfl | hj
    · cases n with
      | zero => exact absurd h1.1 Bool.false_ne_true
      | succ m =>
        refine ⟨m, rfl, ?_⟩
        have h1 := h1.1
        simp only [Bool.and_eq_true] at h1
        obtain ⟨o, ho, hK⟩ := (nthK_iff _ _ _).1 hK
        have ho' : ops[j]? = some o := by simpa using ho
        cases hg : o.guard with
        | some _ => unfold noGuard at hK; rw [hg] at hK; exact hK.elim
        | none =>
          unfold noGuard at hK
          rw [hg] at hK
          obtain ⟨β, hI⟩ := hI
          unfold wpOp
          rw [ho']
          show if _ then _ else _
          rw [if_pos (by simp [Region.wanted, hg])]
          refine .inl (op_ok hΓ hI hK fun s1 a1 w1 k1 hI1 => ?_)
          obtain ⟨q1, q2⟩ := ihk m _ s1 a1 w1 h1.2 k1 hI1
          cases k with
          | fin => exact q1 rfl
          | non => exact absurd h1.1 Bool.false_ne_true
          | opt i' k' alt' =>
            have hr : Region.ready .any ops (listed.setIfInBounds j true) = heads (.opt i' k' alt') := eqL_eq h1.1
            obtain ⟨m', hm, _⟩ := q2 i' (List.mem_cons_self ..)
            subst hm
            rw [← Nat.add_assoc]
            refine wpAny_all hr (by simp [heads]) fun p hp => ?_
            obtain ⟨m2, hm2, hw⟩ := q2 p hp
            obtain rfl : m' = m2 := by omega
            exact hw
    · exact (iha n listed s a w h1.2 hA hI).2 j hj
theorem plan_ok (hΓ : Γ.good P) {Q : St → Prop} {Q' : Exit → Act → World → Prop} (hQ : ∀ s a w, Q s → Inv W0 F X N s a w → Q' .normal a w) (hpan : ∀ c a a' w, Q' (.panic c) a w → Q' (.panic c) a' w) (hsel : Region.noSelect ops = true) (pl : List Ph) :
    ∀ (listed : Array Bool) (known : List Nat) (s : St) (fuel : Nat) (a : Act) (w : World), listed.size = ops.size → planB ops listed pl = true → (pl.map phLen).sum ≤ fuel →
      vcPlan P Γ N ops.toList pl known s Q → Inv W0 F X N s a w → wpAny P .any ops Q' fuel listed a w := by
  induction pl with
  | nil =>
    intro listed known s fuel a w _ h1 _ h hI
    exact wpAny_done (List.isEmpty_iff.1 h1) (hQ s a w h hI) fuel
  | cons ph r ih =>
    intro listed known s fuel a w hsz h1 h2 h ⟨β, hI⟩
    cases ph with
    | tree n S t =>
      simp only [List.map_cons, List.sum_cons, phLen] at h2
      simp only [planB, Bool.and_eq_true] at h1
      obtain ⟨T, hT, hrest⟩ := (show ∃ T : St, vcOT P Γ N ops.toList T t s ∧ vcPlan P Γ N ops.toList r known T Q from h)
      have q := ot_ok hΓ (Q' := Q') (fuel := fuel - n) (fun a w hI => ih _ _ _ _ _ _ ((setAll_size _ _).trans hsz) h1.2 (by omega) hrest hI) t n listed s a w h1.1.2 hT ⟨β, hI⟩
      rw [show fuel = fuel - n + n by omega]
      cases t with
      | fin => exact q.1 rfl
      | non => exact absurd h1.1.1 Bool.false_ne_true
      | opt i k alt =>
        have hr : Region.ready .any ops listed = heads (.opt i k alt) := eqL_eq h1.1.1
        obtain ⟨m, hm, _⟩ := q.2 i (List.mem_cons_self ..)
        rw [show fuel - n + n = (fuel - n + m) + 1 by omega]
        refine wpAny_all hr (by simp [heads]) fun p hp => ?_
        obtain ⟨m2, hm2, hw⟩ := q.2 p hp
        obtain rfl : m = m2 := by omega
        exact hw
    | take i =>
      simp only [List.map_cons, List.sum_cons, phLen] at h2
      obtain ⟨fuel, rfl⟩ : ∃ k, fuel = k + 1 := ⟨fuel - 1, by omega⟩
      simp only [planB, Bool.and_eq_true] at h1
      obtain ⟨o, ho, h⟩ := (nthK_iff _ _ _).1 h
      have ho' : ops[i]? = some o := by simpa using ho
      have go : ∀ {v u : _} {known' : List Nat} {s1 : St}, InvB W0 F X N s1 β a w → Rel β (Own X s1 β) w v u → (∀ n ∈ ids v, Nm s1 n) → stPutK N s1 o.dst v (fun s => vcPlan P Γ N ops.toList r known' s Q) → Yields P ops o u a → wpAny P .any ops Q' (fuel + 1) listed a w := by
        intro v u known' s1 hI1 hr hids hK hy
        obtain ⟨s2, k1, k2⟩ := put_ok hI1 hK hr hids
        exact wpAny_take ho' hsel h1.1.2 h1.1.1 (fun c a w h => hpan c _ _ w h) hy (ih _ _ _ _ _ _ (by simpa using hsz) h1.2 (by omega) k1 ⟨β, k2⟩)
      rcases gStep_cases hI h with ⟨k, s1, hI1, hw, h⟩ | ⟨k, s1, hI1, hw, h⟩
      · obtain ⟨v, u, k1, k2, k3, k4⟩ := val_ok_all hΓ hI1 h
        exact go hI1 k2 k3 k1 (.inl ⟨by simpa using hw, k4⟩)
      · exact go hI1 (Rel.im (undef_rel _ _)) (by intro n hn; cases hn) h (.inr ⟨by simpa using hw, rfl⟩)
    | one i =>
      simp only [List.map_cons, List.sum_cons, phLen] at h2
      obtain ⟨fuel, rfl⟩ : ∃ k, fuel = k + 1 := ⟨fuel - 1, by omega⟩
      simp only [planB, Bool.and_eq_true] at h1
      obtain ⟨o, ho, h⟩ := (nthK_iff _ _ _).1 h
      have ho' : ops[i]? = some o := by simpa using ho
      have hr : Region.ready .any ops listed = [i] := by
        have h3 := h1.1
        generalize Region.ready .any ops listed = rd at h3
        match rd with
        | [] => cases h3
        | [j] => rw [Nat.eq_of_beq_eq_true h3]
        | _ :: _ :: _ => cases h3
      refine wpAny_all hr (by simp) fun j hj => ?_
      rw [List.mem_singleton] at hj
      rw [hj]
      unfold wpOp
      rw [ho']
      show if _ then _ else _
      rcases gStep_cases hI h with ⟨k, s1, hI1, hw, h⟩ | ⟨k, s1, hI1, hw, h⟩
      · rw [if_pos (by simpa using hw)]
        exact .inl (op_ok hΓ hI1 h fun s' a' w' k1 k2 => ih _ _ _ _ _ _ (by simpa using hsz) h1.2 (by omega) k1 k2)
      · rw [if_neg (by simpa using hw)]
        obtain ⟨s2, k1, k2⟩ := putIm_ok hI1 (Stp.refl _ w) h (undef_rel _ _)
        exact ih _ _ _ _ _ _ (by simpa using hsz) h1.2 (by omega) k1 ⟨β, k2⟩
    | two i j =>
      simp only [List.map_cons, List.sum_cons, phLen] at h2
      obtain ⟨fuel, rfl⟩ : ∃ k, fuel = k + 2 := ⟨fuel - 2, by omega⟩
      simp only [planB, Bool.and_eq_true] at h1
      obtain ⟨⟨⟨hr, hri⟩, hrj⟩, h1⟩ := h1
      have hr : Region.ready .any ops listed = [i, j] := by
        generalize Region.ready .any ops listed = rd at hr
        match rd with
        | [] => cases hr
        | [_] => cases hr
        | [a, b] => simp only [Bool.and_eq_true] at hr; rw [Nat.eq_of_beq_eq_true hr.1, Nat.eq_of_beq_eq_true hr.2]
        | _ :: _ :: _ :: _ => cases hr
      have hri : Region.ready .any ops (listed.setIfInBounds i true) = [j] := by
        generalize Region.ready .any ops (listed.setIfInBounds i true) = rd at hri
        match rd with
        | [] => cases hri
        | [a] => rw [Nat.eq_of_beq_eq_true hri]
        | _ :: _ :: _ => cases hri
      have hrj : Region.ready .any ops (listed.setIfInBounds j true) = [i] := by
        generalize Region.ready .any ops (listed.setIfInBounds j true) = rd at hrj
        match rd with
        | [] => cases hrj
        | [a] => rw [Nat.eq_of_beq_eq_true hrj]
        | _ :: _ :: _ => cases hrj
      obtain ⟨T, hij, hji, hrest⟩ := (show ∃ T : St, _ ∧ _ ∧ vcPlan P Γ N ops.toList r known T Q from h)
      have hcomm : (listed.setIfInBounds j true).setIfInBounds i true = (listed.setIfInBounds i true).setIfInBounds j true := by
        by_cases hne : j = i
        · rw [hne]
        · exact Array.setIfInBounds_comm _ _ hne
      have go : ∀ {p q : Nat}, (nthK ops.toList p fun o => nthK ops.toList q fun o' => noGuard o (noGuard o' (opK P Γ N o s fun s => opK P Γ N o' s fun s => Wk s T))) →
          Region.ready .any ops (listed.setIfInBounds p true) = [q] → (listed.setIfInBounds p true).setIfInBounds q true = (listed.setIfInBounds i true).setIfInBounds j true → wpOp P ops Q' p (wpAny P .any ops Q' (fuel + 1) (listed.setIfInBounds p true)) a w := by
        intro p q hK hrq hcm
        obtain ⟨o, ho, hK⟩ := (nthK_iff _ _ _).1 hK
        obtain ⟨o', ho2, hK⟩ := (nthK_iff _ _ _).1 hK
        have ho' : ops[p]? = some o := by simpa using ho
        have ho2' : ops[q]? = some o' := by simpa using ho2
        cases hg : o.guard with
        | some _ => unfold noGuard at hK; rw [hg] at hK; exact hK.elim
        | none =>
          cases hg2 : o'.guard with
          | some _ => unfold noGuard at hK; rw [hg, hg2] at hK; exact hK.elim
          | none =>
            unfold noGuard at hK
            rw [hg, hg2] at hK
            unfold wpOp
            rw [ho']
            show if _ then _ else _
            rw [if_pos (by simp [Region.wanted, hg])]
            refine .inl (op_ok hΓ hI hK fun s1 a1 w1 k1 ⟨β1, hI1⟩ => ?_)
            refine wpAny_all hrq (by simp) fun k hk => ?_
            rw [List.mem_singleton] at hk
            subst hk
            unfold wpOp
            rw [ho2']
            show if _ then _ else _
            rw [if_pos (by simp [Region.wanted, hg2])]
            refine .inl (op_ok hΓ hI1 k1 fun s2 a2 w2 k2 ⟨β2, hI2⟩ => ?_)
            rw [hcm]
            exact ih _ _ _ _ _ _ (by simpa using hsz) h1 (by omega) hrest ⟨β2, hI2.wk k2⟩
      refine wpAny_all hr (by simp) fun k hk => ?_
      rcases List.mem_cons.1 hk with rfl | hk
      · exact go hij hri rfl
      · rw [List.mem_singleton] at hk
        subst hk
        exact go hji hrj hcomm
    | twoT i j t =>
      simp only [List.map_cons, List.sum_cons, phLen] at h2
      obtain ⟨fuel, rfl⟩ : ∃ k, fuel = k + 3 := ⟨fuel - 3, by omega⟩
      simp only [planB, Bool.and_eq_true, decide_eq_true_eq] at h1
      obtain ⟨⟨⟨⟨⟨⟨hr, ht1⟩, hr2⟩, hr3⟩, ht2⟩, hcm⟩, h1⟩ := h1
      have one : ∀ {rd : List Nat} {q : Nat}, (match rd with | [q'] => Nat.beq q q' | _ => false) = true → rd = [q] := by
        intro rd q h
        match rd with
        | [] => cases h
        | [a] => rw [Nat.eq_of_beq_eq_true h]
        | _ :: _ :: _ => cases h
      have hr : Region.ready .any ops listed = [i, j] := by
        generalize Region.ready .any ops listed = rd at hr
        match rd with
        | [] => cases hr
        | [_] => cases hr
        | [a, b] => simp only [Bool.and_eq_true] at hr; rw [Nat.eq_of_beq_eq_true hr.1, Nat.eq_of_beq_eq_true hr.2]
        | _ :: _ :: _ :: _ => cases hr
      have hr2 := one hr2
      have hr3 := one hr3
      obtain ⟨T, hA, hB, hrest⟩ := (show ∃ T : St, _ ∧ _ ∧ vcPlan P Γ N ops.toList r known T Q from h)
      have ung : ∀ {K : Oper → Oper → Oper → Prop}, (nthK ops.toList i fun o => nthK ops.toList j fun o' => nthK ops.toList t fun ot => noGuard o (noGuard o' (noGuard ot (K o o' ot)))) →
          ∃ o o' ot, ops[i]? = some o ∧ ops[j]? = some o' ∧ ops[t]? = some ot ∧ o.guard = none ∧ o'.guard = none ∧ ot.guard = none ∧ K o o' ot := by
        intro K hK
        obtain ⟨o, ho, hK⟩ := (nthK_iff _ _ _).1 hK
        obtain ⟨o', ho2, hK⟩ := (nthK_iff _ _ _).1 hK
        obtain ⟨ot, ho3, hK⟩ := (nthK_iff _ _ _).1 hK
        unfold noGuard at hK
        cases hg : o.guard with
        | some _ => rw [hg] at hK; exact hK.elim
        | none => cases hg2 : o'.guard with
          | some _ => rw [hg, hg2] at hK; exact hK.elim
          | none => cases hg3 : ot.guard with
            | some _ => rw [hg, hg2, hg3] at hK; exact hK.elim
            | none => rw [hg, hg2, hg3] at hK; exact ⟨o, o', ot, by simpa using ho, by simpa using ho2, by simpa using ho3, by first | exact hg | rfl, by first | exact hg2 | rfl, by first | exact hg3 | rfl, hK⟩
      have run : ∀ {p : Nat} {o : Oper} {s : St} {β : Nat → Option Nat} {a : Act} {w : World} {K : St → Prop} {nx : Act → World → Prop}, ops[p]? = some o → o.guard = none → InvB W0 F X N s β a w → opK P Γ N o s K → (∀ s' a' w', K s' → Inv W0 F X N s' a' w' → nx a' w') → wpOp P ops Q' p nx a w := by
        intro p o s β a w K nx ho hg hI hK hn
        unfold wpOp
        rw [ho]
        show if _ then _ else _
        rw [if_pos (by simp [Region.wanted, hg])]
        exact .inl (op_ok hΓ hI hK hn)
      have tak : ∀ {li : Array Bool} {ot : Oper} {s : St} {a : Act} {w : World} {f : Nat} {K : St → Prop}, ops[t]? = some ot → ot.guard = none → Region.free .any ops li t = true → (Region.ready .any ops li).contains t = true → Inv W0 F X N s a w →
          (valK Γ s ot.op fun v => stPutK N s ot.dst v K) → (∀ s' a' w', K s' → Inv W0 F X N s' a' w' → wpAny P .any ops Q' f (li.setIfInBounds t true) a' w') → wpAny P .any ops Q' (f + 1) li a w := by
        intro li ot s a w f K ho hg hfr hrd ⟨β, hI⟩ hK hn
        obtain ⟨v, u, k1, k2, k3, k4⟩ := val_ok_all hΓ hI hK
        obtain ⟨s2, k5, k6⟩ := put_ok hI k1 k2 k3
        exact wpAny_take ho hsel hfr hrd (fun c a w h => hpan c _ _ w h) (.inl ⟨by simp [Region.wanted, hg], k4⟩) (hn _ _ _ k5 ⟨β, k6⟩)
      have fin : ∀ s' a' w', Wk s' T → Inv W0 F X N s' a' w' → wpAny P .any ops Q' fuel (((listed.setIfInBounds i true).setIfInBounds t true).setIfInBounds j true) a' w' := fun s' a' w' k2 ⟨β2, hI2⟩ =>
        ih _ _ _ _ _ _ (by simpa using hsz) h1 (by omega) hrest ⟨β2, hI2.wk k2⟩
      refine wpAny_all hr (by simp) fun k hk => ?_
      rcases List.mem_cons.1 hk with rfl | hk
      · obtain ⟨o, o', ot, e1, e2, e3, g1, g2, g3, hK⟩ := ung hA
        refine run e1 g1 hI hK fun s1 a1 w1 k1 hI1 => ?_
        refine tak e3 g3 ht1.2 ht1.1 hI1 k1 fun s2 a2 w2 k2 ⟨β2, hI2⟩ => ?_
        refine wpAny_all hr2 (by simp) fun k hk => ?_
        rw [List.mem_singleton] at hk
        subst hk
        exact run e2 g2 hI2 k2 fun s3 a3 w3 k3 hI3 => fin _ _ _ k3 hI3
      · rw [List.mem_singleton] at hk
        subst hk
        obtain ⟨o, o', ot, e1, e2, e3, g1, g2, g3, hK⟩ := ung hB
        refine run e2 g2 hI hK fun s1 a1 w1 k1 ⟨β1, hI1⟩ => ?_
        refine wpAny_all hr3 (by simp) fun k hk => ?_
        rw [List.mem_singleton] at hk
        subst hk
        refine run e1 g1 hI1 k1 fun s2 a2 w2 k2 hI2 => ?_
        refine tak e3 g3 ht2.2 ht2.1 hI2 k2 fun s3 a3 w3 k3 hI3 => ?_
        rw [← hcm]
        exact fin _ _ _ k3 hI3
    | blk B fz =>
      simp only [List.map_cons, List.sum_cons, phLen] at h2
      simp only [planB, Bool.and_eq_true] at h1
      have h : frzAllK fz s fun s => vcBlk P Γ N fz ops.toList B known s fun s => unnwAllK N fz s fun s => vcPlan P Γ N ops.toList r known s Q := h
      rw [frzAllK_eq] at h
      have hI := hI.frzAll fz
      have hN0 : ∀ d ∈ fz, ¬ Nm (frzAll fz s) d := fun d hd hm => not_frzAll fz s d hd hm
      obtain ⟨its, k1, k2, k3, t, k4, k5⟩ := blk_chain B known _ h _ (Eqv.refl _)
      have hb := blkB_spec hsz h1.1.1 k1 (fun it hit => by simpa using k2 it hit)
      have hlen : its.length = B.length := by rw [← k1]; simp
      refine blk_ok hΓ hb k3 (fun q hq ho => ?_) hN0 (f := (r.map phLen).sum) (fun fuel a w hf hI => ?_) its.length fuel listed _ a w ?_ (by omega) hsz (fun _ _ => rfl) (fun q hq hl => ?_) rfl (fun x => ?_) ⟨β, hI⟩
      · have h3 := List.all_eq_true.1 h1.1.2 q.1 (by rw [← k1]; exact List.mem_map.2 ⟨q, hq, rfl⟩)
        rcases ho with ⟨tt, len, ps, ho⟩ | ⟨tt, ho⟩
        all_goals simp only [hb.at' q hq, fzOK, ho] at h3
        all_goals cases hd : q.2.1.dst with
        | none => rw [hd] at h3; cases h3
        | some d => rw [hd] at h3; exact ⟨d, rfl, inB_iff.1 h3⟩
      · rw [k1]
        obtain ⟨β, hI⟩ := hI
        obtain ⟨s9, k6, hI9⟩ := unnwAll_ok fz (Eqv.inv hI k4) k5
        exact ih _ _ _ _ _ _ ((setAll_size _ _).trans hsz) h1.2 hf k6 ⟨β, hI9⟩
      · have : ∀ (l : List Item) p, cnt l p ≤ l.length := by
          intro l p
          induction l with
          | nil => exact Nat.le_refl _
          | cons q r ih => simp only [cnt, List.length_cons]; split <;> omega
        exact this _ _
      · have := hb.un q hq
        rw [getD_dflt (by rw [hsz]; exact (Array.getElem?_eq_some_iff.1 (hb.at' q hq)).1) true false, hl] at this
        cases this
      · refine (selL_skip fun q hq hl => ?_).symm
        have := hb.un q hq
        rw [getD_dflt (by rw [hsz]; exact (Array.getElem?_eq_some_iff.1 (hb.at' q hq)).1) true false] at this
        rw [show listed.getD q.1 false = true from hl] at this
        cases this

/-- A REGION THAT DRAWS ITS ORDER -/
theorem draw_ok (hΓ : Γ.good P) {Q : St → Prop} {Q' : Exit → Act → World → Prop} (hQ : ∀ s a w, Q s → Inv W0 F X N s a w → Q' .normal a w) {pl : List Ph} (hpl : planOK ops pl = true) {id : Nat}
    (h : vcPlan P Γ N ops.toList pl [] s Q) (hI : Inv W0 F X N s a w) : (Code.region id ops true).wp P Q' a w := by
  simp only [planOK, Bool.and_eq_true, decide_eq_true_eq] at hpl
  obtain ⟨⟨h1, h2⟩, h3⟩ := hpl
  obtain ⟨β, hI⟩ := hI
  have hdr : Inv W0 F X N s a { w with drawn := w.drawn + 1 } := ⟨β, hI.grow ⟨rfl, rfl, rfl, Nat.le_refl _, fun _ _ _ => rfl⟩⟩
  refine wp_mono (Q := fun e a w => e = .normal ∧ Q' .normal a w) (wp_region_any hΓ.mixed (plan_ok hΓ (fun s a w h hI => ⟨rfl, hQ s a w h hI⟩) (fun c a a' w h => by cases h.1) h1 pl _ [] s ops.size a _ (by simp) h2 h3 h hdr)) fun e a w ⟨e1, e2⟩ => by subst e1; exact e2
end
end Go.SX
end
section
namespace Go.SX
set_option linter.unusedSectionVars false
variable [Globs]
section
variable {P : Program} {N : Nat} {Γ : Ctx} {W0 : World} {F : Fr} {X : Nat → Prop} {s : St} {β : Nat → Option Nat} {a : Act} {w : World}

/-- a nil slice in a slot is taken for an own one -/
def nlVecK (N : Nat) : List (Nat × Nat × Ty) → St → (St → Prop) → Prop
  | [], s, K => K s
  | (n, id, τ) :: r, s, K => stFrzK id s fun s => lookK s.slots n fun v => match v with
    | .nl => stPutK N s (some n) (.vec id τ []) fun s => nlVecK N r s K
    | .vec id' τ' l => bif Nat.beq id' id then stPutK N s (some n) (.vec id' τ' l) fun s => nlVecK N r s K else False
    | _ => False
theorem InvB.nlVec (hI : InvB W0 F X N s β a w) {n id : Nat} (hv : look s.slots n = .nl) (hfree : ¬ Nm s id) (τ : Ty) : InvB W0 F X N (s.put n (.vec id τ [])) (setβ β id none) a w := by
  have hNm : ∀ m, Nm (s.put n (.vec id τ [])) m → m = id ∨ (Nm s m ∧ m ≠ id) := by
    intro m hm
    by_cases e : m = id
    · exact .inl e
    · refine .inr ⟨?_, e⟩
      rcases hm with ⟨cs, h⟩ | ⟨q, h⟩ | ⟨b, cs, h, c, hc, hk⟩
      · exact .inl ⟨cs, h⟩
      · simp only [St.put, look_setL] at h
        split at h
        · simp [SX.ids, ids0] at h; exact absurd h e
        · exact .inr (.inl ⟨q, h⟩)
      · exact .inr (.inr ⟨b, cs, h, c, hc, hk⟩)
  have hβ : ∀ m, Nm s m → setβ β id none m = β m := fun m hm => by unfold setβ; rw [if_neg]; rintro rfl; exact hfree hm
  have hO : ∀ k, k < w.heap.size → Own X (s.put n (.vec id τ [])) (setβ β id none) k → Own X s β k := by
    rintro k _ (hX | ⟨m, hm, hb⟩)
    · exact .inl hX
    rcases hNm m hm with rfl | ⟨hm, _⟩
    · simp [setβ] at hb
    · exact .inr ⟨m, hm, (hβ m hm) ▸ hb⟩
  have hk : ∀ {av : AV} {v : Value}, (∀ m ∈ SX.ids av, Nm s m) → Rel β (Own X s β) w av v → Rel (setβ β id none) (Own X (s.put n (.vec id τ [])) (setβ β id none)) w av v := fun hav hrel =>
    hI.keep (Stp.refl (fun _ => False) w) (fun _ _ h => h.elim) hO hrel (fun m hm => hβ m (hav m hm)) (fun _ _ _ _ => rfl)
  refine hI.upd (Stp.refl (fun _ => False) w) (fun _ _ h => h.elim) (fun m => ?_) (fun m cs hcs => ?_) (fun m k g hm hk h1 h2 => ?_) (fun m g hm hg => ?_) rfl rfl (fun m cs g hc hp => (hβ m (.inl ⟨cs, hc⟩)).trans (hI.pin m cs g hc hp))
  · simp only [St.put, look_setL]
    by_cases e : n = m
    · subst e
      simp only [if_true]
      have := hI.slots n
      rw [hv] at this
      exact .inl ⟨rfl, this.inv_nl, by simp [setβ]⟩
    · simp only [e, if_false]
      exact hk (fun k hk => .inr (.inl ⟨m, hk⟩)) (hI.slots m)
  · obtain ⟨g, us, e, h1, h2, h3⟩ := hI.boxes m cs hcs
    exact ⟨g, us, e, (hβ m (.inl ⟨cs, hcs⟩)).trans h1, h2, h3.mono fun j c v hc hr => ⟨hk (fun k hk => .inr (.inr ⟨m, cs, hcs, c, List.mem_of_getElem? hc, hk⟩)) hr.1, hr.2⟩⟩
  · rcases hNm m hm with rfl | ⟨hm, _⟩
    · simp [setβ] at h1
    · rcases hNm k hk with rfl | ⟨hk, _⟩
      · simp [setβ] at h2
      · rw [hβ m hm] at h1; rw [hβ k hk] at h2; exact hI.inj m k g hm hk h1 h2
  · rcases hNm m hm with rfl | ⟨hm, _⟩
    · simp [setβ] at hg
    · rw [hβ m hm] at hg; exact hI.own m g hm hg

/-! ### the code -/
/-- a loop: σ tells what its state holds, S the abstract state, μ falls -/
def LoopVC (N : Nat) (body : (Exit → St → Prop) → St → Prop) (Q : Exit → St → Prop) (s : St) : Prop :=
  ∃ (cv : List (Nat × Nat × Ty)) (cb : List (Nat × Nat × Nat × Ty)) (rn : List (Nat × Nat)), nlVecK N cv s fun s => nlBoxK cb s fun s => renStK rn s fun s => ∃ (σ : Type) (I : σ → Prop) (S : σ → St) (μ : σ → Nat) (x : σ), I x ∧ Wk s (S x) ∧
    ∀ x, I x → body (fun e s' => match e with
      | .normal => ∃ (rn : List (Nat × Nat)), renStK rn s' fun s' => ∃ x', I x' ∧ Wk s' (S x') ∧ μ x' < μ x
      | e => Q e s') (S x)
/-- only the slots and boxes of a list are kept -/
def keepL {α : Type} (L : List Nat) : List (Nat × α) → List (Nat × α)
  | [] => []
  | (n, v) :: r => bif inB n L then (n, v) :: keepL L r else keepL L r
def keepLK {α : Type} (L : List Nat) : List (Nat × α) → (List (Nat × α) → Prop) → Prop
  | [], K => K []
  | (n, v) :: r, K => bif inB n L then keepLK L r fun r' => K ((n, v) :: r') else keepLK L r K
theorem keepLK_eq {α : Type} (L : List Nat) (l : List (Nat × α)) : ∀ K, keepLK L l K = K (keepL L l) := by
  induction l with
  | nil => intro K; rfl
  | cons p r ih => intro K; obtain ⟨n, v⟩ := p; simp only [keepLK, keepL]; cases inB n L <;> simp [ih]
theorem look_keepL (L : List Nat) (l : List (Nat × AV)) (n : Nat) : look (keepL L l) n = look l n ∨ look (keepL L l) n = .x := by
  induction l with
  | nil => exact .inl rfl
  | cons p r ih =>
    obtain ⟨m, v⟩ := p
    simp only [keepL]
    cases hL : inB m L with
    | true =>
      simp only [cond_true, look]
      cases hb : Nat.beq m n with
      | true => exact .inl rfl
      | false => exact ih
    | false =>
      simp only [cond_false, look]
      cases hb : Nat.beq m n with
      | true =>
        have := Nat.eq_of_beq_eq_true hb
        subst this
        refine .inr ?_
        clear ih hb
        induction r with
        | nil => rfl
        | cons q t ih =>
          obtain ⟨k, u⟩ := q
          simp only [keepL]
          cases hk : inB k L with
          | true =>
            have hne : k ≠ m := fun e => by rw [e, hL] at hk; cases hk
            simp only [cond_true, look, nbeq_ne hne, cond_false]
            exact ih
          | false => exact ih
      | false => exact ih
theorem lookB_keepL (L : List Nat) (l : List (Nat × List AV)) (n : Nat) (cs : List AV) (h : lookB (keepL L l) n = some cs) : lookB l n = some cs := by
  have key : inB n L = true → lookB (keepL L l) n = lookB l n := by
    intro hn
    induction l with
    | nil => rfl
    | cons p r ih =>
      obtain ⟨m, v⟩ := p
      simp only [keepL]
      cases hb : Nat.beq m n with
      | true =>
        have := Nat.eq_of_beq_eq_true hb
        subst this
        simp [hn, lookB]
      | false =>
        have ih' := ih (by
          cases hL : inB m L with
          | true => rw [keepL, hL, cond_true] at h; simp only [lookB, hb, cond_false] at h; exact h
          | false => rw [keepL, hL, cond_false] at h; exact h)
        cases hL : inB m L with
        | true => simp only [cond_true, lookB, hb, cond_false]; exact ih'
        | false => simp only [cond_false, lookB, hb]; exact ih'
  cases hn : inB n L with
  | true => rw [← key hn]; exact h
  | false =>
    exfalso
    clear key
    induction l with
    | nil => cases h
    | cons p r ih =>
      obtain ⟨m, v⟩ := p
      simp only [keepL] at h
      cases hL : inB m L with
      | true =>
        have hne : m ≠ n := fun e => by rw [e, hn] at hL; cases hL
        rw [hL, cond_true] at h
        simp only [lookB, nbeq_ne hne, cond_false] at h
        exact ih h
      | false => rw [hL, cond_false] at h; exact ih h
def stKeepK (L : List Nat) (s : St) (K : St → Prop) : Prop := match s with | ⟨sl, b⟩ => keepLK L sl fun sl => keepLK L b fun b => K ⟨sl, b⟩
theorem keep_ok (hI : InvB W0 F X N s β a w) {L : List Nat} {K : St → Prop} (h : stKeepK L s K) : ∃ s', K s' ∧ InvB W0 F X N s' β a w := by
  obtain ⟨sl, b⟩ := s
  simp only [stKeepK, keepLK_eq] at h
  refine ⟨_, h, hI.less (Stp.refl _ _) ?_ (fun n => ?_) (fun n cs => lookB_keepL L b n cs) rfl rfl⟩
  · rintro n (⟨cs, hc⟩ | ⟨m, hm⟩ | ⟨k, cs, hk, c, hc, hn⟩)
    · exact .inl ⟨cs, lookB_keepL L b n cs hc⟩
    · rcases look_keepL L sl m with h1 | h1
      · exact .inr (.inl ⟨m, by rw [← h1]; exact hm⟩)
      · rw [h1] at hm; cases hm
    · exact .inr (.inr ⟨k, cs, lookB_keepL L b k cs hk, c, hc, hn⟩)
  · rcases look_keepL L sl n with h1 | h1
    · exact ⟨n, .inl ⟨h1, rfl⟩⟩
    · exact ⟨n, .inr (.inl (by rw [h1]; exact .x _))⟩

def vc (P : Program) (Γ : Ctx) (N : Nat) (L : List Nat) : Code → (Exit → St → Prop) → St → Prop
  | .skip, Q, s => Q .normal s
  | .region _ ops draw, Q, s => match draw with
    | false => vcOps P Γ N ops.toList ops.toList [] s fun s => stKeepK L s (Q .normal)
    | true => ∃ pl, planOK ops pl = true ∧ vcPlan P Γ N ops.toList pl [] s fun s => stKeepK L s (Q .normal)
  | .seq x y, Q, s => vc P Γ N L x (fun e s' => match e with
    | .normal => vc P Γ N L y Q s'
    | e => Q e s') s
  | .cond c x y, Q, s => evK s c fun v => match v with
    | .b t => (t = true → vc P Γ N L x Q s) ∧ (t = false → vc P Γ N L y Q s)
    | _ => False
  | .block id c, Q, s => vc P Γ N L c (fun e s' => match e with
    | .exit id' => bif Nat.beq id' id then Q .normal s' else Q (.exit id') s'
    | e => Q e s') s
  | .exit id, Q, s => Q (.exit id) s
  | .ret, Q, s => Q .ret s
  | .label _, Q, s => Q .normal s
  | .loop c, Q, s => LoopVC N (vc P Γ N L c) Q s
  | _, _, _ => False

/-- the least number of a kind -/
theorem lub (p : Nat → Prop) (h : ∃ n, p n) : ∃ n, p n ∧ ∀ m, p m → n ≤ m := by
  obtain ⟨n, hn⟩ := h
  induction n using Nat.strongRecOn with
  | _ n ih =>
    by_cases hex : ∃ m, m < n ∧ p m
    · obtain ⟨m, hm, hpm⟩ := hex
      exact ih m hm hpm
    · exact ⟨n, hn, fun m hm => Nat.le_of_not_lt fun hlt => hex ⟨m, hlt, hm⟩⟩
open Classical in
noncomputable def sInfN (p : Nat → Prop) : Nat := if h : ∃ n, p n then Classical.choose (lub p h) else 0
theorem sInfN_mem {p : Nat → Prop} (h : ∃ n, p n) : p (sInfN p) := by
  unfold sInfN; rw [dif_pos h]; exact (Classical.choose_spec (lub p h)).1
theorem sInfN_le {p : Nat → Prop} {n : Nat} (h : p n) : sInfN p ≤ n := by
  unfold sInfN; rw [dif_pos ⟨n, h⟩]; exact (Classical.choose_spec (lub p ⟨n, h⟩)).2 n h
/-- the loop's rule by what every round lowers -/
theorem wp_loop' {P : Program} {c : Code} {Q : Exit → Act → World → Prop} {σ : Type} (A : σ → Act → World → Prop) (μ : σ → Nat)
    (round : ∀ x a w, A x a w → c.wp P (Exit.then (fun a' w' => ∃ x', A x' a' w' ∧ μ x' < μ x) Q) a w) {x : σ} {a : Act} {w : World} (h : A x a w) : (Code.loop c).wp P Q a w := by
  let I : Act → World → Prop := fun a w => ∃ x, A x a w
  let least : Act → World → Nat := fun a w => sInfN fun n => ∃ x, A x a w ∧ μ x = n
  exact wp_loop I least ⟨x, h⟩ fun a w hI => by
    obtain ⟨y, hy, hmin⟩ : ∃ y, A y a w ∧ μ y = least a w := by
      obtain ⟨x, hx⟩ := hI
      have := sInfN_mem (p := fun n => ∃ x, A x a w ∧ μ x = n) ⟨μ x, x, hx, rfl⟩
      exact this
    refine wp_mono (round y a w hy) fun e a' w' hq => ?_
    cases e with
    | normal =>
      obtain ⟨x', h1, h2⟩ := hq
      refine ⟨⟨x', h1⟩, ?_⟩
      have h3 : least a' w' ≤ μ x' := sInfN_le (p := fun n => ∃ x, A x a' w' ∧ μ x = n) ⟨x', h1, rfl⟩
      show least a' w' < least a w
      omega
    | _ => exact hq
theorem nlVec_ok (cv : List (Nat × Nat × Ty)) : ∀ {s : St} {β : Nat → Option Nat} {K : St → Prop}, InvB W0 F X N s β a w → nlVecK N cv s K → ∃ s' β', K s' ∧ InvB W0 F X N s' β' a w := by
  induction cv with
  | nil => intro s β K hI h; exact ⟨s, β, h, hI⟩
  | cons p r ih =>
    intro s β K hI h
    obtain ⟨n, id, τ⟩ := p
    have h : stFrzK id s fun s => lookK s.slots n fun v => match v with
      | .nl => stPutK N s (some n) (.vec id τ []) fun s => nlVecK N r s K
      | .vec id' τ' l => bif Nat.beq id' id then stPutK N s (some n) (.vec id' τ' l) fun s => nlVecK N r s K else False
      | _ => False := h
    rw [stFrzK_eq, lookK_eq] at h
    have hI1 := hI.frz id
    cases hv : look (s.frz id).slots n with
    | nl =>
      rw [hv] at h
      have h : stPutK N (s.frz id) (some n) (.vec id τ []) fun s => nlVecK N r s K := h
      rw [stPutK_some] at h
      cases hb : Nat.blt n N with
      | false => rw [hb] at h; exact h.elim
      | true =>
        rw [hb, cond_true] at h
        exact ih (hI1.nlVec hv (not_frz s id) τ) h
    | vec id' τ' l =>
      rw [hv] at h
      have h : bif Nat.beq id' id then stPutK N (s.frz id) (some n) (.vec id' τ' l) fun s => nlVecK N r s K else False := h
      cases hb : Nat.beq id' id with
      | false => rw [hb] at h; exact h.elim
      | true =>
        have := Nat.eq_of_beq_eq_true hb
        subst this
        exfalso
        exact not_frz s id' (.inr (.inl ⟨n, by rw [hv]; simp [SX.ids, ids0]⟩))
    | _ => rw [hv] at h; exact h.elim

theorem vc_ok (hΓ : Γ.good P) {L : List Nat} (c : Code) : ∀ (Q : Exit → St → Prop) (Q' : Exit → Act → World → Prop) (s : St) (a : Act) (w : World), (∀ e s a w, Q e s → Inv W0 F X N s a w → Q' e a w) → vc P Γ N L c Q s → Inv W0 F X N s a w → c.wp P Q' a w := by
  induction c with
  | skip => intro Q Q' s a w hQ h hI; exact wp_skip (hQ _ _ _ _ h hI)
  | region id ops draw =>
    intro Q Q' s a w hQ h hI
    cases draw with
    | true =>
      obtain ⟨pl, hpl, h⟩ := (show ∃ pl, planOK ops pl = true ∧ vcPlan P Γ N ops.toList pl [] s fun s => stKeepK L s (Q .normal) from h)
      exact draw_ok hΓ (fun s a w hk ⟨β, hI⟩ => by
        obtain ⟨s', h1, h2⟩ := keep_ok hI hk
        exact hQ .normal s' a w h1 ⟨β, h2⟩) hpl h hI
    | false => exact wp_region_list (by
      have := vcOps_ok hΓ (Q' := Q') (fun s a w hk ⟨β, hI⟩ => by
        obtain ⟨s', h1, h2⟩ := keep_ok hI hk
        exact hQ .normal s' a w h1 ⟨β, h2⟩) ops.toList [] s a w h hI
      simpa using this)
  | seq x y ihx ihy =>
    intro Q Q' s a w hQ h hI
    refine wp_seq (ihx _ _ s a w (fun e s' a' w' hq hI' => ?_) h hI)
    cases e with
    | normal => exact ihy Q Q' s' a' w' hQ hq hI'
    | _ => exact hQ _ _ _ _ hq hI'
  | cond c x y ihx ihy =>
    intro Q Q' s a w hQ h hI
    have h : evK s c fun v => match v with
      | .b t => (t = true → vc P Γ N L x Q s) ∧ (t = false → vc P Γ N L y Q s)
      | _ => False := h
    rw [evK_eq] at h
    obtain ⟨β, hI⟩ := hI
    have hr := (ev_rel hI c).1
    cases hv : ev s c with
    | b t =>
      rw [hv] at h hr
      exact wp_cond_split hr.inv_b (fun ht => ihx Q Q' s a w hQ (h.1 ht) ⟨β, hI⟩) (fun ht => ihy Q Q' s a w hQ (h.2 ht) ⟨β, hI⟩)
    | _ => rw [hv] at h; exact h.elim
  | block id c ih =>
    intro Q Q' s a w hQ h hI
    refine wp_block (ih _ _ s a w (fun e s' a' w' hq hI' => ?_) h hI)
    cases e with
    | exit id' =>
      have hq : bif Nat.beq id' id then Q .normal s' else Q (.exit id') s' := hq
      cases hb : Nat.beq id' id with
      | true =>
        rw [hb] at hq
        have hq1 : Q .normal s' := hq
        have e := Nat.eq_of_beq_eq_true hb
        subst e
        simp only [Exit.inBlock, if_true]
        exact hQ _ _ _ _ hq1 hI'
      | false =>
        rw [hb] at hq
        have hne : id' ≠ id := fun e => by subst e; rw [Nat.beq_refl] at hb; cases hb
        simp only [Exit.inBlock, hne, if_false]; exact hQ _ _ _ _ hq hI'
    | _ => exact hQ _ _ _ _ hq hI'
  | loop c ih =>
    intro Q Q' s a w hQ h ⟨β, hI⟩
    obtain ⟨cv, cb, rn, h⟩ := (show LoopVC N (vc P Γ N L c) Q s from h)
    obtain ⟨s00, β00, h, hI00⟩ := nlVec_ok cv hI h
    obtain ⟨s0, β0, h, hI0⟩ := nlBox_ok cb hI00 h
    obtain ⟨s1, β1, ⟨σ, I, S, μ, x, hix, hwk, hround⟩, hI1⟩ := renSt_ok rn hI0 h
    refine wp_loop' (fun x a w => I x ∧ Inv W0 F X N (S x) a w) μ (fun x a w hIx => ?_) (x := x) ⟨hix, β1, hI1.wk hwk⟩
    refine ih _ _ (S x) a w (fun e s' a' w' hq hI' => ?_) (hround x hIx.1) hIx.2
    cases e with
    | normal =>
      obtain ⟨rn, hq⟩ := hq
      obtain ⟨β', hI'⟩ := hI'
      obtain ⟨s2, β2, ⟨x', h0, h1, h2⟩, hI2⟩ := renSt_ok rn hI' hq
      exact ⟨x', ⟨h0, β2, hI2.wk h1⟩, h2⟩
    | _ => exact hQ _ _ _ _ hq hI'
  | exit id => intro Q Q' s a w hQ h hI; exact wp_exit (hQ _ _ _ _ h hI)
  | ret => intro Q Q' s a w hQ h hI; exact wp_ret (hQ _ _ _ _ h hI)
  | label l => intro Q Q' s a w hQ h hI; exact wp_label (hQ _ _ _ _ h hI)
  | _ => intro Q Q' s a w hQ h hI; exact h.elim
end
end Go.SX
end
section
namespace Go.SX
set_option linter.unusedSectionVars false
variable [Globs]
section
variable {P : Program} {N : Nat} {Γ : Ctx} {W0 : World} {F : Fr} {X : Nat → Prop} {s : St} {β : Nat → Option Nat} {a : Act} {w : World}

def slotVals : List (Nat × AV) → List AV
  | [] => []
  | (_, v) :: r => v :: slotVals r
def boxVals : List (Nat × List AV) → List AV
  | [] => []
  | (_, l) :: r => l ++ boxVals r
def slotVecsK : List (Nat × AV) → (List Nat → Prop) → Prop
  | [], K => K []
  | (_, .vec id _ _) :: r, K => slotVecsK r fun l => K (id :: l)
  | (_, .vs id _ _ _) :: r, K => slotVecsK r fun l => K (id :: l)
  | _ :: r, K => slotVecsK r K
def slotVecs : List (Nat × AV) → List Nat
  | [] => []
  | (_, .vec id _ _) :: r => id :: slotVecs r
  | (_, .vs id _ _ _) :: r => id :: slotVecs r
  | _ :: r => slotVecs r
theorem slotVecsK_eq (l : List (Nat × AV)) : ∀ K, slotVecsK l K = K (slotVecs l) := by
  induction l with
  | nil => intro K; rfl
  | cons p r ih => intro K; obtain ⟨n, v⟩ := p; cases v <;> simp [slotVecsK, slotVecs, ih]
def boxVecsK : List (Nat × List AV) → (List Nat → Prop) → Prop
  | [], K => K []
  | (_, l) :: r, K => vecsOfK l fun ids => boxVecsK r fun l => K (ids ++ l)
def boxVecs : List (Nat × List AV) → List Nat
  | [] => []
  | (_, l) :: r => vecsOf l ++ boxVecs r
theorem boxVecsK_eq (l : List (Nat × List AV)) : ∀ K, boxVecsK l K = K (boxVecs l) := by
  induction l with
  | nil => intro K; rfl
  | cons p r ih => intro K; obtain ⟨n, v⟩ := p; simp [boxVecsK, boxVecs, vecsOfK_eq, ih]

/-- one result -/
def resK (Γ : Ctx) (s : St) : ResultVar → (AV → Prop) → Prop
  | .tmp t, K => lookK s.slots t fun v => chkK (imB v) (chkK (fnArgs [v]) (K v))
  | .cell a t, K => lookK s.slots a fun p => loadVK Γ s t p fun v => chkK (imB v) (chkK (fnArgs [v]) (K v))
def resAllK (Γ : Ctx) (s : St) : List ResultVar → (List AV → Prop) → Prop
  | [], K => K []
  | r :: t, K => resK Γ s r fun v => resAllK Γ s t fun l => K (v :: l)
def oneTup : List AV → AV
  | [v] => v
  | l => .tup l
def retK (Γ : Ctx) (s : St) (rs : List ResultVar) (K : AV → Prop) : Prop :=
  slotVecsK s.slots fun i1 => boxVecsK s.boxes fun i2 => frzAllK (i1 ++ i2) s fun s => resAllK Γ s rs fun l => K (oneTup l)

def resOf (tmps : Array Value) : ResultVar → Sem Value
  | .tmp t => pure (tmps.getD t undef)
  | .cell a t => do loadVar t (← asAddr (tmps.getD a undef))
theorem res_ok (hΓ : Γ.good P) (hI : InvB W0 F X N s β a w) {r : ResultVar} {K : AV → Prop} (h : resK Γ s r K) : ∃ v u, K v ∧ Im (Own X s β) w v u ∧ (resOf a.tmps r).run P w = .ok u w := by
  cases r with
  | tmp t =>
    have h : lookK s.slots t fun v => chkK (imB v) (chkK (fnArgs [v]) (K v)) := h
    rw [lookK_eq] at h
    obtain ⟨h1, h⟩ := (chkK_iff _ _).1 h
    obtain ⟨h2, h⟩ := (chkK_iff _ _).1 h
    exact ⟨_, _, h, im_of_rel (hI.slots t) h1 h2, rfl⟩
  | cell ad t =>
    have h : lookK s.slots ad fun p => loadVK Γ s t p fun v => chkK (imB v) (chkK (fnArgs [v]) (K v)) := h
    rw [lookK_eq] at h
    let o : Oper := { dst := none, op := .load t (.tmp ad), type := 0, pos := "", after := #[], guard := none }
    obtain ⟨v, u, h1, h2, _, h4⟩ := load_ok hΓ.ok hI (o := o) (x := .tmp ad) rfl (hI.slots ad) h
    obtain ⟨h5, h1⟩ := (chkK_iff _ _).1 h1
    obtain ⟨h6, h1⟩ := (chkK_iff _ _).1 h1
    refine ⟨v, u, h1, im_of_rel h2 h5 h6, ?_⟩
    have hp := hI.slots ad
    -- a pointer lies there
    have hptr : ∃ x, a.tmps.getD ad undef = .pointer (some x) := by
      cases hv : look s.slots ad with
      | pt n off => rw [hv] at hp; obtain ⟨g, _, e⟩ := hp; exact ⟨_, e⟩
      | rp cs => rw [hv] at hp; obtain ⟨g, off, e, _⟩ := Im.inv_rp hp; exact ⟨_, e⟩
      | vp id τ l n off => rw [hv] at hp; obtain ⟨_, ⟨g, _, e⟩, _⟩ := hp; exact ⟨_, e⟩
      | _ => rw [hv] at h; exact h.elim
    obtain ⟨x, hx⟩ := hptr
    have h4' : (Instr.loadAt t (a.tmps.getD ad undef)).run P w = .ok u w := by
      simp only [execOp, o, Act.eval, Sem.run_bind] at h4
      cases hr : (Instr.loadAt t (a.tmps.getD ad undef)).run P w with
      | ok q w' => rw [hr] at h4; simp at h4; obtain ⟨e1, e2⟩ := h4; subst e1 e2; rfl
      | halt q w' => rw [hr] at h4; simp at h4
    rw [hx] at h4'
    simp only [resOf, hx]
    simpa [Instr.loadAt, Instr.sureAddr, asAddr] using h4'
theorem resAll_ok (hΓ : Γ.good P) (hI : InvB W0 F X N s β a w) (rs : List ResultVar) : ∀ {K : List AV → Prop}, resAllK Γ s rs K → ∃ vs us, K vs ∧ All2 (Im (Own X s β) w) vs us ∧ (rs.mapM (resOf a.tmps)).run P w = .ok us w := by
  induction rs with
  | nil => intro K h; exact ⟨[], [], h, All2.nil _, rfl⟩
  | cons r t ih =>
    intro K h
    obtain ⟨v, u, h, h1, h2⟩ := res_ok hΓ hI (show resK Γ s r fun v => resAllK Γ s t fun l => K (v :: l) from h)
    obtain ⟨vs, us, h3, h4, h5⟩ := ih h
    refine ⟨v :: vs, u :: us, h3, All2.cons h1 h4, ?_⟩
    rw [List.mapM_cons]
    simp only [Sem.run_bind, h2, Result.andThen_ok]
    rw [h5]
    rfl
theorem results_eq (fn : Func) (tmps : Array Value) : results fn tmps = (do let vs ← fn.results.mapM (resOf tmps); pure (if h : vs.size = 1 then vs[0] else .tuple vs)) := by
  unfold results
  congr 1
theorem ret_ok (hΓ : Γ.good P) (hI : InvB W0 F X N s β a w) {fn : Func} {K : AV → Prop} (h : retK Γ s fn.results.toList K) : ∃ v u, K v ∧ Im X w v u ∧ (results fn a.tmps).run P w = .ok u w := by
  unfold retK at h
  rw [slotVecsK_eq, boxVecsK_eq, frzAllK_eq] at h
  have hI1 := hI.frzAll (slotVecs s.slots ++ boxVecs s.boxes)
  obtain ⟨vs, us, h1, h2, h3⟩ := resAll_ok hΓ hI1 _ h
  have hX : ∀ {v u}, Im (Own X (frzAll (slotVecs s.slots ++ boxVecs s.boxes) s) β) w v u → Im X w v u := fun h => h.mono fun k hk => .inl hk
  have hrun : (results fn a.tmps).run P w = .ok (if h : us.toArray.size = 1 then us.toArray[0] else .tuple us.toArray) w := by
    rw [results_eq, Array.mapM_eq_mapM_toList]
    simp only [Sem.run_bind, Sem.run_map, h3, Result.andThen_ok, Sem.run_pure]
  rcases us with _ | ⟨u, _ | ⟨u', r⟩⟩
  · have := h2.1
    have hv : vs = [] := List.eq_nil_of_length_eq_zero (by simpa using this)
    subst hv
    exact ⟨.tup [], .tuple #[], h1, .tup [] [] rfl (by simp), by rw [hrun]; rfl⟩
  · obtain ⟨v, rfl⟩ : ∃ v, vs = [v] := by
      have := h2.1
      match vs, this with
      | [v], _ => exact ⟨v, rfl⟩
    exact ⟨v, u, h1, hX h2.head, by rw [hrun]; rfl⟩
  · obtain ⟨v, v', t, rfl⟩ : ∃ v v' t, vs = v :: v' :: t := by
      have := h2.1
      match vs, this with
      | v :: v' :: t, _ => exact ⟨v, v', t, rfl⟩
    refine ⟨.tup (v :: v' :: t), .tuple (u :: u' :: r).toArray, h1, hX (.tup _ _ h2.1 h2.2), ?_⟩
    rw [hrun, dif_neg (by simp)]

/-- the post of a function's code -/
def postK (Γ : Ctx) (rs : List ResultVar) (R : AV → Prop) (e : Exit) (s : St) : Prop :=
  match e with
  | .normal => retK Γ s rs R
  | .ret => retK Γ s rs R
  | _ => False

/-- **A CONTRACT OUT OF A VERIFICATION CONDITION.** -/
theorem pspec_of_vc (hΓ : Γ.good P) {f : FuncId} {fn : Func} {c : Code} (hf : P.funcs[f]? = some fn) (hb : fn.body = some c) (hcall : ∀ (vs : Array Value) (w : World), (callFunc f vs).run P w = .ok (.enter f vs) w)
    {rs : Array ResultVar} (hrs : fn.results = rs) (hN : fn.ntmps = N) {args : List AV} {r : AV} {L : List Nat} (hlen : args.length ≤ N)
    (hvc : vc P Γ N L c (postK Γ rs.toList (fun v => v = r)) ⟨argSlots 0 args, []⟩) : PSpec P f args r := by
  refine ⟨hcall, fun O w vs hO hG hargs => ?_⟩
  refine calls_of_wp hf hb ?_
  have hsz : vs.length = args.length := hargs.1.symm
  have hI : InvB w Fr.none O N ⟨argSlots 0 args, []⟩ (fun _ => none) { tmps := vs.toArray ++ Array.replicate (fn.ntmps - vs.toArray.size) undef, defers := [] } w := by
    have hNm : ∀ n, ¬ Nm ⟨argSlots 0 args, []⟩ n := by
      rintro n (⟨cs, h⟩ | ⟨m, h⟩ | ⟨b, cs, h, _⟩)
      · cases h
      · have := look_args args 0 m
        rw [Nat.zero_add] at this
        simp only [this] at h
        by_cases hm : m < args.length
        · rw [List.getD_eq_getElem?_getD, List.getElem?_eq_getElem hm] at h
          have := (hargs.2 m _ _ (List.getElem?_eq_getElem hm) (List.getElem?_eq_getElem (by rw [hsz]; exact hm))).ids_nil
          rw [show (some args[m]).getD AV.x = args[m] from rfl, this] at h
          cases h
        · rw [List.getD_eq_getElem?_getD, List.getElem?_eq_none (by omega)] at h
          simp [ids, ids0] at h
      · cases h
    refine ⟨Stp.refl _ _, fun n => ?_, ?_, fun n cs h => (by cases h), fun n m g hn => absurd hn (hNm n), fun n g hn => absurd hn (hNm n), rfl, fun k hk => ⟨hO k hk, id⟩, fun n cs g h => (by cases h), fun _ _ => rfl, hG.step (Stp.refl (fun _ => False) w) (fun _ _ h => h.elim) fun k _ hk => hk.elim id fun h => h.elim⟩
    · have h1 := look_args args 0 n
      rw [Nat.zero_add] at h1
      show Rel _ _ _ (look (argSlots 0 args) n) _
      rw [h1]
      by_cases hm : n < args.length
      · have hmv : n < vs.length := by rw [hsz]; exact hm
        have h2 := hargs.2 n _ _ (List.getElem?_eq_getElem hm) (List.getElem?_eq_getElem hmv)
        rw [List.getD_eq_getElem?_getD, List.getElem?_eq_getElem hm]
        have h3 : (vs.toArray ++ Array.replicate (fn.ntmps - vs.toArray.size) undef).getD n undef = vs[n] := by
          rw [Array.getD_eq_getD_getElem?, Array.getElem?_append_left (by simpa using hmv)]
          simp [hmv]
        rw [h3]
        refine Rel.im (h2.mono fun k hk => ?_)
        rcases hk with hk | ⟨m, hm', _⟩
        · exact hk
        · exact absurd hm' (hNm m)
      · rw [List.getD_eq_getElem?_getD, List.getElem?_eq_none (by omega)]
        exact Rel.x
    · show (vs.toArray ++ Array.replicate (fn.ntmps - vs.toArray.size) undef).size = N
      simp only [Array.size_append, List.size_toArray, Array.size_replicate, hN, hsz]
      omega
  refine vc_ok (W0 := w) (F := Fr.none) (X := O) hΓ c _ _ _ _ _ (fun e s a w' hq ⟨β, hI'⟩ => ?_) hvc ⟨_, hI⟩
  have key : retK Γ s rs.toList (fun v => v = r) → a.defers = [] ∧ ∃ v, (results fn a.tmps).run P w' = .ok v w' ∧ ∃ v', Ending.returned v = .returned v' ∧ Stp (fun _ => False) w w' ∧ Im O w' r v' := by
    intro h
    rw [← hrs] at h
    obtain ⟨v, u, rfl, h1, h2⟩ := ret_ok hΓ hI' h
    exact ⟨hI'.defers, u, h2, u, rfl, hI'.ext, h1⟩
  cases e with
  | normal => exact key hq
  | ret => exact key hq
  | _ => exact hq.elim

/-! ### contracts that write what they are handed -/
def resBK (Γ : Ctx) (s : St) : ResultVar → (AV → Prop) → Prop
  | .tmp t, K => lookK s.slots t K
  | .cell a t, K => lookK s.slots a fun p => loadVK Γ s t p K
def resBAllK (Γ : Ctx) (s : St) : List ResultVar → (List AV → Prop) → Prop
  | [], K => K []
  | r :: t, K => resBK Γ s r fun v => resBAllK Γ s t fun l => K (v :: l)
/-- results as one value: a struct with own slices may stand ahead of the others -/
def oneTupB : List AV → AV
  | .ag 0 (c :: cs) :: v :: r => .ag (cs.length + 1) (c :: cs ++ v :: r)
  | l => oneTup l
def okR : List AV → Bool
  | .ag 0 (_ :: _) :: v :: r => gr0All (v :: r)
  | [.ag 0 _] => true
  | l => noFn l
theorem okR_cases {vs : List AV} (h : okR vs = true) : (∃ c cs v r, vs = .ag 0 (c :: cs) :: v :: r ∧ gr0All (v :: r) = true) ∨ (oneTupB vs = oneTup vs ∧ (vs.length ≠ 1 → noFn vs = true)) := by
  unfold okR at h
  split at h
  · exact .inl ⟨_, _, _, _, rfl, h⟩
  · rename_i cs
    exact .inr ⟨by cases cs <;> rfl, fun h => absurd rfl h⟩
  · rename_i h1 _
    refine .inr ⟨?_, fun _ => h⟩
    unfold oneTupB
    split
    · exact absurd rfl (h1 _ _ _ _)
    · rfl
/-- the end of a function that hands back own memory: names are turned, then the results and the boxes are as told -/
def endK (Γ : Ctx) (rs : List ResultVar) (r : AV) (boxes' : List (Nat × List AV)) (s : St) : Prop :=
  ∃ rn, renStK rn s fun s => resBAllK Γ s rs fun l => chkK (okR l) (oneTupB l = r) ∧ wkB s boxes'
def postBK (Γ : Ctx) (rs : List ResultVar) (r : AV) (boxes' : List (Nat × List AV)) (e : Exit) (s : St) : Prop :=
  match e with
  | .normal => endK Γ rs r boxes' s
  | .ret => endK Γ rs r boxes' s
  | _ => False

theorem resB_ok (hΓ : Γ.good P) (hI : InvB W0 F X N s β a w) {r : ResultVar} {K : AV → Prop} (h : resBK Γ s r K) : ∃ v u, K v ∧ Rel β (Own X s β) w v u ∧ (∀ n ∈ ids v, Nm s n) ∧ (resOf a.tmps r).run P w = .ok u w := by
  cases r with
  | tmp t =>
    have h : lookK s.slots t K := h
    rw [lookK_eq] at h
    exact ⟨_, _, h, hI.slots t, fun n hn => .inr (.inl ⟨t, hn⟩), rfl⟩
  | cell ad t =>
    have h : lookK s.slots ad fun p => loadVK Γ s t p K := h
    rw [lookK_eq] at h
    let o : Oper := { dst := none, op := .load t (.tmp ad), type := 0, pos := "", after := #[], guard := none }
    obtain ⟨v, u, h1, h2, h3, h4⟩ := load_ok hΓ.ok hI (o := o) (x := .tmp ad) rfl (hI.slots ad) h
    refine ⟨v, u, h1, h2, h3, ?_⟩
    have hp := hI.slots ad
    have hptr : ∃ x, a.tmps.getD ad undef = .pointer (some x) := by
      cases hv : look s.slots ad with
      | pt n off => rw [hv] at hp; obtain ⟨g, _, e⟩ := hp; exact ⟨_, e⟩
      | rp cs => rw [hv] at hp; obtain ⟨g, off, e, _⟩ := Im.inv_rp hp; exact ⟨_, e⟩
      | vp id τ l n off => rw [hv] at hp; obtain ⟨_, ⟨g, _, e⟩, _⟩ := hp; exact ⟨_, e⟩
      | _ => rw [hv] at h; exact h.elim
    obtain ⟨x, hx⟩ := hptr
    have h4' : (Instr.loadAt t (a.tmps.getD ad undef)).run P w = .ok u w := by
      simp only [execOp, o, Act.eval, Sem.run_bind] at h4
      cases hr : (Instr.loadAt t (a.tmps.getD ad undef)).run P w with
      | ok q w' => rw [hr] at h4; simp at h4; obtain ⟨e1, e2⟩ := h4; subst e1 e2; rfl
      | halt q w' => rw [hr] at h4; simp at h4
    rw [hx] at h4'
    simp only [resOf, hx]
    simpa [Instr.loadAt, Instr.sureAddr, asAddr] using h4'
theorem resBAll_ok (hΓ : Γ.good P) (hI : InvB W0 F X N s β a w) (rs : List ResultVar) : ∀ {K : List AV → Prop}, resBAllK Γ s rs K → ∃ vs us, K vs ∧ All2 (Rel β (Own X s β) w) vs us ∧ (∀ c ∈ vs, ∀ n ∈ ids c, Nm s n) ∧ (rs.mapM (resOf a.tmps)).run P w = .ok us w := by
  induction rs with
  | nil => intro K h; exact ⟨[], [], h, All2.nil _, (by intro c hc; cases hc), rfl⟩
  | cons r t ih =>
    intro K h
    obtain ⟨v, u, h, h1, h0, h2⟩ := resB_ok hΓ hI (show resBK Γ s r fun v => resBAllK Γ s t fun l => K (v :: l) from h)
    obtain ⟨vs, us, h3, h4, h6, h5⟩ := ih h
    refine ⟨v :: vs, u :: us, h3, All2.cons h1 h4, fun c hc => ?_, ?_⟩
    · rcases List.mem_cons.1 hc with rfl | hc
      · exact h0
      · exact h6 c hc
    rw [List.mapM_cons]
    simp only [Sem.run_bind, h2, Result.andThen_ok]
    rw [h5]
    rfl
theorem end_ok (hΓ : Γ.good P) (hN : 1 ≤ N) (hI : InvB W0 F X N s β a w) {fn : Func} {r : AV} {boxes' : List (Nat × List AV)} (h : endK Γ fn.results.toList r boxes' s) :
    ∃ u β', (results fn a.tmps).run P w = .ok u w ∧ InvB W0 { F with dfr := [] } X 1 ⟨[(0, r)], boxes'⟩ β' ⟨#[u], []⟩ w := by
  obtain ⟨rn, h⟩ := h
  obtain ⟨s1, β1, h, hI1⟩ := renSt_ok rn hI h
  obtain ⟨vs, us, ⟨h1, hwk⟩, h3, h4, h5⟩ := resBAll_ok hΓ hI1 _ h
  obtain ⟨hnf, rfl⟩ := (chkK_iff _ _).1 h1
  have hrun : (results fn a.tmps).run P w = .ok (if h : us.toArray.size = 1 then us.toArray[0] else .tuple us.toArray) w := by
    rw [results_eq, Array.mapM_eq_mapM_toList]
    simp only [Sem.run_bind, Sem.run_map, h5, Result.andThen_ok, Sem.run_pure]
  -- the result as one value
  have hone : ∃ u, (if h : us.toArray.size = 1 then us.toArray[0] else .tuple us.toArray) = u ∧ Rel β1 (Own X s1 β1) w (oneTupB vs) u ∧ ∀ n ∈ ids (oneTupB vs), Nm s1 n := by
    rcases okR_cases hnf with ⟨c, cs, v, r, rfl, hnf⟩ | ⟨he, hnf⟩
    · obtain ⟨u0, us0, rfl, ⟨ws, hw, hw2, hw3⟩, h6⟩ := h3.cons_inv
      have hl : us0.length = (v :: r).length := h6.1.symm
      have hg : ∀ (j : Nat) d u, (v :: r)[j]? = some d → us0[j]? = some u → Rel0 β1 (Own X s1 β1) w d u ∧ u.oneCell' = true := fun j d u hd hu => by
        have hr := h6.2 j d u hd hu
        have hg0 := gr0All_mem hnf (List.mem_of_getElem? hd)
        cases d <;> first | (cases hg0; done) | exact ⟨hr, by first | (obtain rfl := hr.inv_i; rfl) | (obtain rfl := hr.inv_b; rfl) | (obtain ⟨rfl, _⟩ := hr.inv_s; rfl)⟩
      have hwl : ws.length = cs.length + 1 := by have := hw2.1; simpa using this.symm
      refine ⟨_, rfl, ⟨ws ++ us0, ?_, ⟨by rw [List.length_append, List.length_append, hw2.1, hl], fun j d u hd hu => ?_⟩, fun u hu => ?_⟩, fun n hn => ?_⟩
      · have hl2 : us0.length = r.length + 1 := by rw [hl, List.length_cons]
        rw [dif_neg (by simp only [List.size_toArray, List.length_cons]; omega), hw]
        simp [shape, ← hwl]
      · by_cases hj : j < ws.length
        · rw [List.getElem?_append_left hj] at hu
          rw [List.getElem?_append_left (by rw [hw2.1]; exact hj)] at hd
          exact hw2.2 j d u hd hu
        · rw [List.getElem?_append_right (by omega)] at hu
          rw [List.getElem?_append_right (by rw [hw2.1]; omega), hw2.1] at hd
          exact (hg _ d u hd hu).1
      · rcases List.mem_append.1 hu with hu | hu
        · exact hw3 u hu
        · obtain ⟨j, hj, rfl⟩ := List.getElem_of_mem hu
          exact (hg j _ _ (List.getElem?_eq_getElem (by rw [← hl]; exact hj)) (List.getElem?_eq_getElem hj)).2
      · obtain ⟨d, hd, hdn⟩ := List.mem_flatMap.1 (show n ∈ (c :: cs ++ v :: r).flatMap ids0 from hn)
        rcases List.mem_append.1 hd with hd | hd
        · exact h4 _ (List.mem_cons_self ..) n (List.mem_flatMap.2 ⟨d, hd, hdn⟩)
        · have hg0 := gr0All_mem hnf hd
          cases d <;> first | (cases hg0; done) | (cases hdn; done)
    rw [he]
    have htup : vs.length ≠ 1 → Rel β1 (Own X s1 β1) w (.tup vs) (.tuple us.toArray) ∧ ∀ n ∈ ids (.tup vs), Nm s1 n := fun hl1 => by
      have hnf := hnf hl1
      have hno : ∀ l : List AV, noFn l = true → ∀ v ∈ l, noFn [v] = true := by
        intro l
        induction l with
        | nil => intro _ v hv; cases hv
        | cons y r ih =>
          intro hl v hv
          have hy : noFn r = true ∧ noFn [y] = true := by cases y <;> first | exact ⟨hl, rfl⟩ | exact absurd (show false = true from hl) (by simp)
          rcases List.mem_cons.1 hv with e | hv
          · rw [e]; exact hy.2
          · exact ih hy.1 v hv
      refine ⟨⟨us, rfl, h3.1, fun j c u hc hu => ?_⟩, fun n hn => ?_⟩
      · have hr := h3.2 j c u hc hu
        have hf := hno vs hnf c (List.mem_of_getElem? hc)
        cases c <;> first | exact hr | cases hf
      · obtain ⟨c, hc, hk⟩ := List.mem_flatMap.1 hn
        refine h4 c hc n ?_
        have hf := hno vs hnf c hc
        cases c <;> first | exact hk | cases hf
    match vs, us, h3, h4, htup with
    | [], us, h3, _, htup =>
      have : us = [] := h3.nil_inv
      subst this
      exact ⟨_, rfl, htup (by simp)⟩
    | [v], us, h3, h4, _ =>
      obtain ⟨u, us', rfl, h6, h7⟩ := h3.cons_inv
      have : us' = [] := h7.nil_inv
      subst this
      exact ⟨u, rfl, h6, h4 v (List.mem_cons_self ..)⟩
    | v :: v' :: t, us, h3, _, htup =>
      have hl : us.length ≠ 1 := by have := h3.1; simp at this; omega
      exact ⟨_, by rw [dif_neg (by simpa using hl)], htup (by simp)⟩
  obtain ⟨u, hu, hr, hrn⟩ := hone
  refine ⟨u, β1, by rw [hrun, hu], ?_⟩
  have hNm : ∀ n, Nm ⟨[(0, oneTupB vs)], boxes'⟩ n → Nm s1 n := by
    rintro n (⟨cs, hc⟩ | ⟨q, hq⟩ | ⟨b, cs, hb, c, hc, hn⟩)
    · obtain ⟨us', hu', _⟩ := wkB_look hwk n cs hc
      exact .inl ⟨us', hu'⟩
    · simp only [look] at hq
      cases hb : Nat.beq 0 q with
      | true => rw [hb] at hq; exact hrn n hq
      | false => rw [hb] at hq; cases hq
    · obtain ⟨us', hu', hw⟩ := wkB_look hwk b cs hb
      obtain ⟨g, us2, e, k1, k2, k3⟩ := hI1.boxes b us' hu'
      obtain ⟨u', hu2, hn'⟩ := (wkC_rel hw k3).2 c hc n hn
      exact .inr (.inr ⟨b, us', hu', u', hu2, hn'⟩)
  have hO : ∀ k, Own X ⟨[(0, oneTupB vs)], boxes'⟩ β1 k → Own X s1 β1 k := fun k hk => hk.imp id fun ⟨n, hn, hb⟩ => ⟨n, hNm n hn, hb⟩
  refine ⟨hI1.ext, fun n => ?_, rfl, fun n cs hc => ?_, fun n m g hn hm => hI1.inj n m g (hNm n hn) (hNm m hm), fun n g hn hg => hI1.own n g (hNm n hn) hg, rfl, hI1.ext2, fun n cs g hc hp => ?_, fun n hn => hI1.pinN n (by omega), hI1.gl⟩
  · simp only [look]
    cases hb : Nat.beq 0 n with
    | true => have := Nat.eq_of_beq_eq_true hb; subst this; exact hr.mono hO
    | false => exact Rel.x
  · obtain ⟨us', hu', hw⟩ := wkB_look hwk n cs hc
    obtain ⟨g, us2, e, k1, k2, k3⟩ := hI1.boxes n us' hu'
    exact ⟨g, us2, e, k1, k2, (wkC_rel hw k3).1.mono fun _ _ _ _ hr => ⟨hr.1.mono hO, hr.2⟩⟩
  · obtain ⟨us', hu', _⟩ := wkB_look hwk n cs hc
    exact hI1.pin n us' g hu' hp

/-- **A CONTRACT THAT WRITES, OUT OF A VERIFICATION CONDITION.** -/
theorem cspec_of_vc (hΓ : Γ.good P) {f : FuncId} {fn : Func} {c : Code} (hf : P.funcs[f]? = some fn) (hb : fn.body = some c) (hcall : ∀ (vs : Array Value) (w : World), (callFunc f vs).run P w = .ok (.enter f vs) w)
    {rs : Array ResultVar} (hrs : fn.results = rs) (hN : fn.ntmps = N) {args : List AV} {boxes : List (Nat × List AV)} {r : AV} {boxes' : List (Nat × List AV)} {L : List Nat} (hlen : args.length ≤ N) (hN1 : 1 ≤ N)
    (hlow : (boxNames boxes).all (fun n => Nat.ble N n) = true) (hvc : vc P Γ N L c (postBK Γ rs.toList r boxes') ⟨argSlots 0 args, boxes⟩) : CSpec P f args boxes r boxes' := by
  refine ⟨hcall, fun F X β w vs hvs hpin hI0 => ?_⟩
  refine calls_of_wp hf hb ?_
  have hpad : ∀ n, (vs.toArray ++ Array.replicate (fn.ntmps - vs.toArray.size) undef).getD n undef = vs.toArray.getD n undef ∨ look (argSlots 0 args) n = .x := fun n => by
    by_cases hm : n < vs.length
    · left
      simp only [Array.getD_eq_getD_getElem?]
      rw [Array.getElem?_append_left (by simpa using hm)]
    · right
      have h1 := look_args args 0 n
      rw [Nat.zero_add] at h1
      rw [h1, List.getD_eq_getElem?_getD, List.getElem?_eq_none (by omega)]
      rfl
  have hI : InvB w F X N ⟨argSlots 0 args, boxes⟩ β { tmps := vs.toArray ++ Array.replicate (fn.ntmps - vs.toArray.size) undef, defers := [] } w := by
    refine ⟨hI0.ext, fun n => ?_, ?_, hI0.boxes, hI0.inj, hI0.own, hI0.defers, hI0.ext2, hI0.pin, fun n hn => ?_, hI0.gl⟩
    · rcases hpad n with h1 | h1
      · show Rel _ _ _ _ ((vs.toArray ++ Array.replicate (fn.ntmps - vs.toArray.size) undef).getD n undef)
        rw [h1]; exact hI0.slots n
      · show Rel _ _ _ (look (argSlots 0 args) n) _
        rw [h1]; exact Rel.x
    · simp only [Array.size_append, List.size_toArray, Array.size_replicate, hN, hvs]
      omega
    · cases hp : F.pin n with
      | none => rfl
      | some g =>
        have h1 := boxNames_mem.2 (hpin n g hp)
        have := Nat.le_of_ble_eq_true (List.all_eq_true.1 hlow n h1)
        omega
  refine vc_ok (W0 := w) (F := F) (X := X) hΓ c _ _ _ _ _ (fun e s a w' hq ⟨β', hI'⟩ => ?_) hvc ⟨_, hI⟩
  have key : endK Γ rs.toList r boxes' s → a.defers = [] ∧ ∃ v, (results fn a.tmps).run P w' = .ok v w' ∧ ∃ v' β'', Ending.returned v = .returned v' ∧ InvB w F X 1 ⟨[(0, r)], boxes'⟩ β'' ⟨#[v'], []⟩ w' := by
    intro h
    rw [← hrs] at h
    obtain ⟨u, β'', h1, h2⟩ := end_ok hΓ hN1 hI' h
    have hd : F.dfr = [] := hI0.defers.symm
    have hF : { F with dfr := [] } = F := by cases F; simp only at hd; subst hd; rfl
    rw [hF] at h2
    exact ⟨hI'.defers.trans hd, u, h1, u, β'', rfl, h2⟩
  cases e with
  | normal => exact key hq
  | ret => exact key hq
  | _ => exact hq.elim
end
end Go.SX
end
section
namespace Go.Proofs.Ytdcdmojbkmedpaa
open Go.SX
set_option maxRecDepth 100000
instance noGlobs : Globs := ⟨[]⟩
def ti2 : TI := ⟨1, 8, [.int .i64 0], .int .i64, some .i64, [], none⟩
theorem ti2_ok : ti2.ok Try.prog 2 := ⟨⟨Try.t2, .int .i64 0, by kernel_rfl, rfl, rfl, rfl, rfl⟩, ⟨_, Try.underlying2, rfl⟩, rfl, fun _ => ⟨Try.t2, by kernel_rfl, rfl⟩⟩
def ti3 : TI := ⟨1, 8, [.int .i64 0], .int .i64, some .int, [], none⟩
theorem ti3_ok : ti3.ok Try.prog 3 := ⟨⟨Try.t3, .int .i64 0, by kernel_rfl, rfl, rfl, rfl, rfl⟩, ⟨_, Try.underlying3, rfl⟩, rfl, fun _ => ⟨Try.t3, by kernel_rfl, rfl⟩⟩
def ti4 : TI := ⟨1, 1, [.bool false], .bool, some .bool, [], none⟩
theorem ti4_ok : ti4.ok Try.prog 4 := ⟨⟨Try.t4, .bool false, by kernel_rfl, rfl, rfl, rfl, rfl⟩, ⟨_, Try.underlying4, rfl⟩, rfl, fun _ => ⟨Try.t4, by kernel_rfl, rfl⟩⟩
def ti5 : TI := ⟨1, 1, [.int .u8 0], .int .u8, some .u8, [], none⟩
theorem ti5_ok : ti5.ok Try.prog 5 := ⟨⟨Try.t5, .int .u8 0, by kernel_rfl, rfl, rfl, rfl, rfl⟩, ⟨_, Try.underlying5, rfl⟩, rfl, fun _ => ⟨Try.t5, by kernel_rfl, rfl⟩⟩
def ti6 : TI := ⟨1, 1, [.int .u8 0], .int .u8, none, [], none⟩
theorem ti6_ok : ti6.ok Try.prog 6 := ⟨⟨Try.t6, .int .u8 0, by kernel_rfl, rfl, rfl, rfl, rfl⟩, ⟨_, Try.underlying6, rfl⟩, rfl, fun _ => ⟨Try.t6, by kernel_rfl, rfl⟩⟩
def ti7 : TI := ⟨4, 24, [.int .i64 0, .int .i64 0, .bool false, .int .u8 0], .struct [(0, 1), (1, 1), (2, 1), (3, 1)], none, [], none⟩
theorem ti7_ok : ti7.ok Try.prog 7 := ⟨⟨Try.t7, .agg #[.int .i64 0, .int .i64 0, .bool false, .int .u8 0], by kernel_rfl, rfl, rfl, rfl, rfl⟩, ⟨_, Try.underlying7, ⟨_, rfl, by kernel_rfl, by kernel_rfl⟩⟩, rfl, fun h => nomatch h⟩
def ti8 : TI := ⟨4, 24, [.int .i64 0, .int .i64 0, .bool false, .int .u8 0], .struct [(0, 1), (1, 1), (2, 1), (3, 1)], none, [], none⟩
theorem ti8_ok : ti8.ok Try.prog 8 := ⟨⟨Try.t8, .agg #[.int .i64 0, .int .i64 0, .bool false, .int .u8 0], by kernel_rfl, rfl, rfl, rfl, rfl⟩, ⟨_, Try.underlying8, ⟨_, rfl, by kernel_rfl, by kernel_rfl⟩⟩, rfl, fun h => nomatch h⟩
def ti9 : TI := ⟨1, 16, [.string ⟨#[]⟩], .str, some .str, [], none⟩
theorem ti9_ok : ti9.ok Try.prog 9 := ⟨⟨Try.t9, .string ⟨#[]⟩, by kernel_rfl, rfl, rfl, rfl, rfl⟩, ⟨_, Try.underlying9, rfl⟩, rfl, fun _ => ⟨Try.t9, by kernel_rfl, rfl⟩⟩
def ti10 : TI := ⟨1, 16, [.string ⟨#[]⟩], .str, none, [], none⟩
theorem ti10_ok : ti10.ok Try.prog 10 := ⟨⟨Try.t10, .string ⟨#[]⟩, by kernel_rfl, rfl, rfl, rfl, rfl⟩, ⟨_, Try.underlying10, rfl⟩, rfl, fun _ => ⟨Try.t10, by kernel_rfl, rfl⟩⟩
def ti11 : TI := ⟨1, 16, [.string ⟨#[]⟩], .str, none, [], none⟩
theorem ti11_ok : ti11.ok Try.prog 11 := ⟨⟨Try.t11, .string ⟨#[]⟩, by kernel_rfl, rfl, rfl, rfl, rfl⟩, ⟨_, Try.underlying11, rfl⟩, rfl, fun _ => ⟨Try.t11, by kernel_rfl, rfl⟩⟩
def ti12 : TI := ⟨1, 8, [.int .u64 0], .int .u64, none, [], none⟩
theorem ti12_ok : ti12.ok Try.prog 12 := ⟨⟨Try.t12, .int .u64 0, by kernel_rfl, rfl, rfl, rfl, rfl⟩, ⟨_, Try.underlying12, rfl⟩, rfl, fun _ => ⟨Try.t12, by kernel_rfl, rfl⟩⟩
def ti13 : TI := ⟨2, 24, [.string ⟨#[]⟩, .int .u64 0], .struct [(0, 1), (1, 1)], none, [], none⟩
theorem ti13_ok : ti13.ok Try.prog 13 := ⟨⟨Try.t13, .agg #[.string ⟨#[]⟩, .int .u64 0], by kernel_rfl, rfl, rfl, rfl, rfl⟩, ⟨_, Try.underlying13, ⟨_, rfl, by kernel_rfl, by kernel_rfl⟩⟩, rfl, fun h => nomatch h⟩
def ti14 : TI := ⟨2, 24, [.string ⟨#[]⟩, .int .u64 0], .struct [(0, 1), (1, 1)], none, [], none⟩
theorem ti14_ok : ti14.ok Try.prog 14 := ⟨⟨Try.t14, .agg #[.string ⟨#[]⟩, .int .u64 0], by kernel_rfl, rfl, rfl, rfl, rfl⟩, ⟨_, Try.underlying14, ⟨_, rfl, by kernel_rfl, by kernel_rfl⟩⟩, rfl, fun h => nomatch h⟩
def ti15 : TI := ⟨1, 8, [.pointer none], .other, none, [], none⟩
theorem ti15_ok : ti15.ok Try.prog 15 := ⟨⟨Try.t15, .pointer none, by kernel_rfl, rfl, rfl, rfl, rfl⟩, ⟨_, Try.underlying15, ⟨fun _ h => (nomatch h), fun _ _ h => (nomatch h)⟩⟩, rfl, fun _ => ⟨Try.t15, by kernel_rfl, rfl⟩⟩
def ti16 : TI := ⟨1, 8, [.pointer none], .other, none, [], none⟩
theorem ti16_ok : ti16.ok Try.prog 16 := ⟨⟨Try.t16, .pointer none, by kernel_rfl, rfl, rfl, rfl, rfl⟩, ⟨_, Try.underlying16, ⟨fun _ h => (nomatch h), fun _ _ h => (nomatch h)⟩⟩, rfl, fun _ => ⟨Try.t16, by kernel_rfl, rfl⟩⟩
def ti17 : TI := ⟨1, 8, [.pointer none], .other, none, [], none⟩
theorem ti17_ok : ti17.ok Try.prog 17 := ⟨⟨Try.t17, .pointer none, by kernel_rfl, rfl, rfl, rfl, rfl⟩, ⟨_, Try.underlying17, ⟨fun _ h => (nomatch h), fun _ _ h => (nomatch h)⟩⟩, rfl, fun _ => ⟨Try.t17, by kernel_rfl, rfl⟩⟩
def ti18 : TI := ⟨1, 8, [.pointer none], .struct [(0, 1)], none, [], none⟩
theorem ti18_ok : ti18.ok Try.prog 18 := ⟨⟨Try.t18, .agg #[.pointer none], by kernel_rfl, rfl, rfl, rfl, rfl⟩, ⟨_, Try.underlying18, ⟨_, rfl, by kernel_rfl, by kernel_rfl⟩⟩, rfl, fun h => nomatch h⟩
def ti19 : TI := ⟨1, 8, [.pointer none], .struct [(0, 1)], none, [], none⟩
theorem ti19_ok : ti19.ok Try.prog 19 := ⟨⟨Try.t19, .agg #[.pointer none], by kernel_rfl, rfl, rfl, rfl, rfl⟩, ⟨_, Try.underlying19, ⟨_, rfl, by kernel_rfl, by kernel_rfl⟩⟩, rfl, fun h => nomatch h⟩
def ti21 : TI := ⟨1, 4, [.int .i32 0], .int .i32, some .rune, [], none⟩
theorem ti21_ok : ti21.ok Try.prog 21 := ⟨⟨Try.t21, .int .i32 0, by kernel_rfl, rfl, rfl, rfl, rfl⟩, ⟨_, Try.underlying21, rfl⟩, rfl, fun _ => ⟨Try.t21, by kernel_rfl, rfl⟩⟩
def ti22 : TI := ⟨1, 24, [.slice none 0 0], .slice 27, none, [], none⟩
theorem ti22_ok : ti22.ok Try.prog 22 := ⟨⟨Try.t22, .slice none 0 0, by kernel_rfl, rfl, rfl, rfl, rfl⟩, ⟨_, Try.underlying22, rfl⟩, rfl, fun _ => ⟨Try.t22, by kernel_rfl, rfl⟩⟩
def ti23 : TI := ⟨1, 24, [.slice none 0 0], .slice 3, some .ints, [], none⟩
theorem ti23_ok : ti23.ok Try.prog 23 := ⟨⟨Try.t23, .slice none 0 0, by kernel_rfl, rfl, rfl, rfl, rfl⟩, ⟨_, Try.underlying23, rfl⟩, rfl, fun _ => ⟨Try.t23, by kernel_rfl, rfl⟩⟩
def ti24 : TI := ⟨1, 24, [.slice none 0 0], .slice 3, some .ints, [], none⟩
theorem ti24_ok : ti24.ok Try.prog 24 := ⟨⟨Try.t24, .slice none 0 0, by kernel_rfl, rfl, rfl, rfl, rfl⟩, ⟨_, Try.underlying24, rfl⟩, rfl, fun _ => ⟨Try.t24, by kernel_rfl, rfl⟩⟩
def ti27 : TI := ⟨1, 4, [.int .u32 0], .int .u32, some .u32, [], none⟩
theorem ti27_ok : ti27.ok Try.prog 27 := ⟨⟨Try.t27, .int .u32 0, by kernel_rfl, rfl, rfl, rfl, rfl⟩, ⟨_, Try.underlying27, rfl⟩, rfl, fun _ => ⟨Try.t27, by kernel_rfl, rfl⟩⟩
def ti36 : TI := ⟨1, 8, [.int .i64 0], .int .i64, some .errno, [], none⟩
theorem ti36_ok : ti36.ok Try.prog 36 := ⟨⟨Try.t36, .int .i64 0, by kernel_rfl, rfl, rfl, rfl, rfl⟩, ⟨_, Try.underlying36, rfl⟩, rfl, fun _ => ⟨Try.t36, by kernel_rfl, rfl⟩⟩
def ti43 : TI := ⟨1, 8, [.int .u64 0], .int .u64, some .u64, [], none⟩
theorem ti43_ok : ti43.ok Try.prog 43 := ⟨⟨Try.t43, .int .u64 0, by kernel_rfl, rfl, rfl, rfl, rfl⟩, ⟨_, Try.underlying43, rfl⟩, rfl, fun _ => ⟨Try.t43, by kernel_rfl, rfl⟩⟩
def ti48 : TI := ⟨1, 24, [.slice none 0 0], .slice 50, none, [], none⟩
theorem ti48_ok : ti48.ok Try.prog 48 := ⟨⟨Try.t48, .slice none 0 0, by kernel_rfl, rfl, rfl, rfl, rfl⟩, ⟨_, Try.underlying48, rfl⟩, rfl, fun _ => ⟨Try.t48, by kernel_rfl, rfl⟩⟩
def ti49 : TI := ⟨4, 48, [.int .i64 0, .int .i64 0, .int .i64 0, .slice none 0 0], .struct [(0, 1), (1, 1), (2, 1), (3, 1)], none, [], none⟩
theorem ti49_ok : ti49.ok Try.prog 49 := ⟨⟨Try.t49, .agg #[.int .i64 0, .int .i64 0, .int .i64 0, .slice none 0 0], by kernel_rfl, rfl, rfl, rfl, rfl⟩, ⟨_, Try.underlying49, ⟨_, rfl, by kernel_rfl, by kernel_rfl⟩⟩, rfl, fun h => nomatch h⟩
def ti50 : TI := ⟨4, 48, [.int .i64 0, .int .i64 0, .int .i64 0, .slice none 0 0], .struct [(0, 1), (1, 1), (2, 1), (3, 1)], some .node, [], none⟩
theorem ti50_ok : ti50.ok Try.prog 50 := ⟨⟨Try.t50, .agg #[.int .i64 0, .int .i64 0, .int .i64 0, .slice none 0 0], by kernel_rfl, rfl, rfl, rfl, rfl⟩, ⟨_, Try.underlying50, ⟨_, rfl, by kernel_rfl, by kernel_rfl⟩⟩, rfl, fun h => nomatch h⟩
def ti55 : TI := ⟨1, 24, [.slice none 0 0], .slice 63, none, [], none⟩
theorem ti55_ok : ti55.ok Try.prog 55 := ⟨⟨Try.t55, .slice none 0 0, by kernel_rfl, rfl, rfl, rfl, rfl⟩, ⟨_, Try.underlying55, rfl⟩, rfl, fun _ => ⟨Try.t55, by kernel_rfl, rfl⟩⟩
def ti56 : TI := ⟨1, 8, [.pointer none], .other, none, [], none⟩
theorem ti56_ok : ti56.ok Try.prog 56 := ⟨⟨Try.t56, .pointer none, by kernel_rfl, rfl, rfl, rfl, rfl⟩, ⟨_, Try.underlying56, ⟨fun _ h => (nomatch h), fun _ _ h => (nomatch h)⟩⟩, rfl, fun _ => ⟨Try.t56, by kernel_rfl, rfl⟩⟩
def ti59 : TI := ⟨1, 8, [.pointer none], .other, none, [], none⟩
theorem ti59_ok : ti59.ok Try.prog 59 := ⟨⟨Try.t59, .pointer none, by kernel_rfl, rfl, rfl, rfl, rfl⟩, ⟨_, Try.underlying59, ⟨fun _ h => (nomatch h), fun _ _ h => (nomatch h)⟩⟩, rfl, fun _ => ⟨Try.t59, by kernel_rfl, rfl⟩⟩
def ti61 : TI := ⟨1, 24, [.slice none 0 0], .slice 140, none, [], none⟩
theorem ti61_ok : ti61.ok Try.prog 61 := ⟨⟨Try.t61, .slice none 0 0, by kernel_rfl, rfl, rfl, rfl, rfl⟩, ⟨_, Try.underlying61, rfl⟩, rfl, fun _ => ⟨Try.t61, by kernel_rfl, rfl⟩⟩
def ti62 : TI := ⟨3, 40, [.int .i64 0, .int .i64 0, .slice none 0 0], .struct [(0, 1), (1, 1), (2, 1)], none, [], none⟩
theorem ti62_ok : ti62.ok Try.prog 62 := ⟨⟨Try.t62, .agg #[.int .i64 0, .int .i64 0, .slice none 0 0], by kernel_rfl, rfl, rfl, rfl, rfl⟩, ⟨_, Try.underlying62, ⟨_, rfl, by kernel_rfl, by kernel_rfl⟩⟩, rfl, fun h => nomatch h⟩
def ti63 : TI := ⟨3, 40, [.int .i64 0, .int .i64 0, .slice none 0 0], .struct [(0, 1), (1, 1), (2, 1)], none, [], none⟩
theorem ti63_ok : ti63.ok Try.prog 63 := ⟨⟨Try.t63, .agg #[.int .i64 0, .int .i64 0, .slice none 0 0], by kernel_rfl, rfl, rfl, rfl, rfl⟩, ⟨_, Try.underlying63, ⟨_, rfl, by kernel_rfl, by kernel_rfl⟩⟩, rfl, fun h => nomatch h⟩
def ti67 : TI := ⟨1, 24, [.slice none 0 0], .slice 61, none, [], none⟩
theorem ti67_ok : ti67.ok Try.prog 67 := ⟨⟨Try.t67, .slice none 0 0, by kernel_rfl, rfl, rfl, rfl, rfl⟩, ⟨_, Try.underlying67, rfl⟩, rfl, fun _ => ⟨Try.t67, by kernel_rfl, rfl⟩⟩
def ti68 : TI := ⟨1, 24, [.slice none 0 0], .slice 73, none, [], none⟩
theorem ti68_ok : ti68.ok Try.prog 68 := ⟨⟨Try.t68, .slice none 0 0, by kernel_rfl, rfl, rfl, rfl, rfl⟩, ⟨_, Try.underlying68, rfl⟩, rfl, fun _ => ⟨Try.t68, by kernel_rfl, rfl⟩⟩
def ti69 : TI := ⟨4, 88, [.string ⟨#[]⟩, .slice none 0 0, .slice none 0 0, .slice none 0 0], .struct [(0, 1), (1, 1), (2, 1), (3, 1)], none, [], none⟩
theorem ti69_ok : ti69.ok Try.prog 69 := ⟨⟨Try.t69, .agg #[.string ⟨#[]⟩, .slice none 0 0, .slice none 0 0, .slice none 0 0], by kernel_rfl, rfl, rfl, rfl, rfl⟩, ⟨_, Try.underlying69, ⟨_, rfl, by kernel_rfl, by kernel_rfl⟩⟩, rfl, fun h => nomatch h⟩
def ti70 : TI := ⟨4, 88, [.string ⟨#[]⟩, .slice none 0 0, .slice none 0 0, .slice none 0 0], .struct [(0, 1), (1, 1), (2, 1), (3, 1)], none, [], none⟩
theorem ti70_ok : ti70.ok Try.prog 70 := ⟨⟨Try.t70, .agg #[.string ⟨#[]⟩, .slice none 0 0, .slice none 0 0, .slice none 0 0], by kernel_rfl, rfl, rfl, rfl, rfl⟩, ⟨_, Try.underlying70, ⟨_, rfl, by kernel_rfl, by kernel_rfl⟩⟩, rfl, fun h => nomatch h⟩
def ti72 : TI := ⟨6, 80, [.string ⟨#[]⟩, .int .i64 0, .slice none 0 0, .slice none 0 0, .bool false, .bool false], .struct [(0, 1), (1, 1), (2, 1), (3, 1), (4, 1), (5, 1)], none, [], none⟩
theorem ti72_ok : ti72.ok Try.prog 72 := ⟨⟨Try.t72, .agg #[.string ⟨#[]⟩, .int .i64 0, .slice none 0 0, .slice none 0 0, .bool false, .bool false], by kernel_rfl, rfl, rfl, rfl, rfl⟩, ⟨_, Try.underlying72, ⟨_, rfl, by kernel_rfl, by kernel_rfl⟩⟩, rfl, fun h => nomatch h⟩
def ti73 : TI := ⟨6, 80, [.string ⟨#[]⟩, .int .i64 0, .slice none 0 0, .slice none 0 0, .bool false, .bool false], .struct [(0, 1), (1, 1), (2, 1), (3, 1), (4, 1), (5, 1)], none, [], none⟩
theorem ti73_ok : ti73.ok Try.prog 73 := ⟨⟨Try.t73, .agg #[.string ⟨#[]⟩, .int .i64 0, .slice none 0 0, .slice none 0 0, .bool false, .bool false], by kernel_rfl, rfl, rfl, rfl, rfl⟩, ⟨_, Try.underlying73, ⟨_, rfl, by kernel_rfl, by kernel_rfl⟩⟩, rfl, fun h => nomatch h⟩
def ti87 : TI := ⟨1, 8, [.int .u64 0], .int .u64, none, [], none⟩
theorem ti87_ok : ti87.ok Try.prog 87 := ⟨⟨Try.t87, .int .u64 0, by kernel_rfl, rfl, rfl, rfl, rfl⟩, ⟨_, Try.underlying87, rfl⟩, rfl, fun _ => ⟨Try.t87, by kernel_rfl, rfl⟩⟩
def ti96 : TI := ⟨1, 24, [.slice none 0 0], .slice 108, none, [], none⟩
theorem ti96_ok : ti96.ok Try.prog 96 := ⟨⟨Try.t96, .slice none 0 0, by kernel_rfl, rfl, rfl, rfl, rfl⟩, ⟨_, Try.underlying96, rfl⟩, rfl, fun _ => ⟨Try.t96, by kernel_rfl, rfl⟩⟩
def ti99 : TI := ⟨1, 8, [.pointer none], .other, none, [], none⟩
theorem ti99_ok : ti99.ok Try.prog 99 := ⟨⟨Try.t99, .pointer none, by kernel_rfl, rfl, rfl, rfl, rfl⟩, ⟨_, Try.underlying99, ⟨fun _ h => (nomatch h), fun _ _ h => (nomatch h)⟩⟩, rfl, fun _ => ⟨Try.t99, by kernel_rfl, rfl⟩⟩
def ti100 : TI := ⟨5, 64, [.string ⟨#[]⟩, .slice none 0 0, .int .i64 0, .int .i64 0, .int .i64 0], .struct [(0, 1), (1, 1), (2, 1), (3, 1), (4, 1)], none, [], none⟩
theorem ti100_ok : ti100.ok Try.prog 100 := ⟨⟨Try.t100, .agg #[.string ⟨#[]⟩, .slice none 0 0, .int .i64 0, .int .i64 0, .int .i64 0], by kernel_rfl, rfl, rfl, rfl, rfl⟩, ⟨_, Try.underlying100, ⟨_, rfl, by kernel_rfl, by kernel_rfl⟩⟩, rfl, fun h => nomatch h⟩
def ti101 : TI := ⟨5, 64, [.string ⟨#[]⟩, .slice none 0 0, .int .i64 0, .int .i64 0, .int .i64 0], .struct [(0, 1), (1, 1), (2, 1), (3, 1), (4, 1)], none, [], none⟩
theorem ti101_ok : ti101.ok Try.prog 101 := ⟨⟨Try.t101, .agg #[.string ⟨#[]⟩, .slice none 0 0, .int .i64 0, .int .i64 0, .int .i64 0], by kernel_rfl, rfl, rfl, rfl, rfl⟩, ⟨_, Try.underlying101, ⟨_, rfl, by kernel_rfl, by kernel_rfl⟩⟩, rfl, fun h => nomatch h⟩
def ti104 : TI := ⟨1, 8, [.pointer none], .other, none, [], none⟩
theorem ti104_ok : ti104.ok Try.prog 104 := ⟨⟨Try.t104, .pointer none, by kernel_rfl, rfl, rfl, rfl, rfl⟩, ⟨_, Try.underlying104, ⟨fun _ h => (nomatch h), fun _ _ h => (nomatch h)⟩⟩, rfl, fun _ => ⟨Try.t104, by kernel_rfl, rfl⟩⟩
def ti105 : TI := ⟨6, 88, [.string ⟨#[]⟩, .slice none 0 0, .slice none 0 0, .int .i64 0, .int .i64 0, .int .i64 0], .struct [(0, 1), (1, 1), (2, 1), (3, 1), (4, 1), (5, 1)], none, [], none⟩
theorem ti105_ok : ti105.ok Try.prog 105 := ⟨⟨Try.t105, .agg #[.string ⟨#[]⟩, .slice none 0 0, .slice none 0 0, .int .i64 0, .int .i64 0, .int .i64 0], by kernel_rfl, rfl, rfl, rfl, rfl⟩, ⟨_, Try.underlying105, ⟨_, rfl, by kernel_rfl, by kernel_rfl⟩⟩, rfl, fun h => nomatch h⟩
def ti106 : TI := ⟨6, 88, [.string ⟨#[]⟩, .slice none 0 0, .slice none 0 0, .int .i64 0, .int .i64 0, .int .i64 0], .struct [(0, 1), (1, 1), (2, 1), (3, 1), (4, 1), (5, 1)], none, [], none⟩
theorem ti106_ok : ti106.ok Try.prog 106 := ⟨⟨Try.t106, .agg #[.string ⟨#[]⟩, .slice none 0 0, .slice none 0 0, .int .i64 0, .int .i64 0, .int .i64 0], by kernel_rfl, rfl, rfl, rfl, rfl⟩, ⟨_, Try.underlying106, ⟨_, rfl, by kernel_rfl, by kernel_rfl⟩⟩, rfl, fun h => nomatch h⟩
def ti107 : TI := ⟨3, 24, [.int .i64 0, .int .i64 0, .int .i64 0], .struct [(0, 1), (1, 1), (2, 1)], none, [], none⟩
theorem ti107_ok : ti107.ok Try.prog 107 := ⟨⟨Try.t107, .agg #[.int .i64 0, .int .i64 0, .int .i64 0], by kernel_rfl, rfl, rfl, rfl, rfl⟩, ⟨_, Try.underlying107, ⟨_, rfl, by kernel_rfl, by kernel_rfl⟩⟩, rfl, fun h => nomatch h⟩
def ti108 : TI := ⟨3, 24, [.int .i64 0, .int .i64 0, .int .i64 0], .struct [(0, 1), (1, 1), (2, 1)], some .token, [.int, .int, .int], none⟩
theorem ti108_ok : ti108.ok Try.prog 108 := ⟨⟨Try.t108, .agg #[.int .i64 0, .int .i64 0, .int .i64 0], by kernel_rfl, rfl, rfl, rfl, rfl⟩, ⟨_, Try.underlying108, ⟨_, rfl, by kernel_rfl, by kernel_rfl⟩⟩, by kernel_rfl, fun h => nomatch h⟩
def ti109 : TI := ⟨1, 24, [.slice none 0 0], .slice 130, none, [], none⟩
theorem ti109_ok : ti109.ok Try.prog 109 := ⟨⟨Try.t109, .slice none 0 0, by kernel_rfl, rfl, rfl, rfl, rfl⟩, ⟨_, Try.underlying109, rfl⟩, rfl, fun _ => ⟨Try.t109, by kernel_rfl, rfl⟩⟩
def ti110 : TI := ⟨1, 24, [.slice none 0 0], .slice 116, none, [], none⟩
theorem ti110_ok : ti110.ok Try.prog 110 := ⟨⟨Try.t110, .slice none 0 0, by kernel_rfl, rfl, rfl, rfl, rfl⟩, ⟨_, Try.underlying110, rfl⟩, rfl, fun _ => ⟨Try.t110, by kernel_rfl, rfl⟩⟩
def ti111 : TI := ⟨3, 64, [.string ⟨#[]⟩, .slice none 0 0, .slice none 0 0], .struct [(0, 1), (1, 1), (2, 1)], none, [], none⟩
theorem ti111_ok : ti111.ok Try.prog 111 := ⟨⟨Try.t111, .agg #[.string ⟨#[]⟩, .slice none 0 0, .slice none 0 0], by kernel_rfl, rfl, rfl, rfl, rfl⟩, ⟨_, Try.underlying111, ⟨_, rfl, by kernel_rfl, by kernel_rfl⟩⟩, rfl, fun h => nomatch h⟩
def ti112 : TI := ⟨3, 64, [.string ⟨#[]⟩, .slice none 0 0, .slice none 0 0], .struct [(0, 1), (1, 1), (2, 1)], none, [], none⟩
theorem ti112_ok : ti112.ok Try.prog 112 := ⟨⟨Try.t112, .agg #[.string ⟨#[]⟩, .slice none 0 0, .slice none 0 0], by kernel_rfl, rfl, rfl, rfl, rfl⟩, ⟨_, Try.underlying112, ⟨_, rfl, by kernel_rfl, by kernel_rfl⟩⟩, rfl, fun h => nomatch h⟩
def ti113 : TI := ⟨2, 32, [.bool false, .slice none 0 0], .struct [(0, 1), (1, 1)], none, [], none⟩
theorem ti113_ok : ti113.ok Try.prog 113 := ⟨⟨Try.t113, .agg #[.bool false, .slice none 0 0], by kernel_rfl, rfl, rfl, rfl, rfl⟩, ⟨_, Try.underlying113, ⟨_, rfl, by kernel_rfl, by kernel_rfl⟩⟩, rfl, fun h => nomatch h⟩
def ti114 : TI := ⟨2, 32, [.bool false, .slice none 0 0], .struct [(0, 1), (1, 1)], none, [], none⟩
theorem ti114_ok : ti114.ok Try.prog 114 := ⟨⟨Try.t114, .agg #[.bool false, .slice none 0 0], by kernel_rfl, rfl, rfl, rfl, rfl⟩, ⟨_, Try.underlying114, ⟨_, rfl, by kernel_rfl, by kernel_rfl⟩⟩, rfl, fun h => nomatch h⟩
def ti115 : TI := ⟨6, 88, [.string ⟨#[]⟩, .int .i64 0, .bool false, .slice none 0 0, .bool false, .slice none 0 0], .struct [(0, 1), (1, 1), (2, 2), (4, 2)], none, [], none⟩
theorem ti115_ok : ti115.ok Try.prog 115 := ⟨⟨Try.t115, .agg #[.string ⟨#[]⟩, .int .i64 0, .bool false, .slice none 0 0, .bool false, .slice none 0 0], by kernel_rfl, rfl, rfl, rfl, rfl⟩, ⟨_, Try.underlying115, ⟨_, rfl, by kernel_rfl, by kernel_rfl⟩⟩, rfl, fun h => nomatch h⟩
def ti116 : TI := ⟨6, 88, [.string ⟨#[]⟩, .int .i64 0, .bool false, .slice none 0 0, .bool false, .slice none 0 0], .struct [(0, 1), (1, 1), (2, 2), (4, 2)], none, [], none⟩
theorem ti116_ok : ti116.ok Try.prog 116 := ⟨⟨Try.t116, .agg #[.string ⟨#[]⟩, .int .i64 0, .bool false, .slice none 0 0, .bool false, .slice none 0 0], by kernel_rfl, rfl, rfl, rfl, rfl⟩, ⟨_, Try.underlying116, ⟨_, rfl, by kernel_rfl, by kernel_rfl⟩⟩, rfl, fun h => nomatch h⟩
def ti118 : TI := ⟨1, 8, [.pointer none], .other, none, [], none⟩
theorem ti118_ok : ti118.ok Try.prog 118 := ⟨⟨Try.t118, .pointer none, by kernel_rfl, rfl, rfl, rfl, rfl⟩, ⟨_, Try.underlying118, ⟨fun _ h => (nomatch h), fun _ _ h => (nomatch h)⟩⟩, rfl, fun _ => ⟨Try.t118, by kernel_rfl, rfl⟩⟩
def ti122 : TI := ⟨1, 8, [.pointer none], .other, none, [], none⟩
theorem ti122_ok : ti122.ok Try.prog 122 := ⟨⟨Try.t122, .pointer none, by kernel_rfl, rfl, rfl, rfl, rfl⟩, ⟨_, Try.underlying122, ⟨fun _ h => (nomatch h), fun _ _ h => (nomatch h)⟩⟩, rfl, fun _ => ⟨Try.t122, by kernel_rfl, rfl⟩⟩
def ti129 : TI := ⟨2, 32, [.int .i64 0, .slice none 0 0], .struct [(0, 1), (1, 1)], none, [], none⟩
theorem ti129_ok : ti129.ok Try.prog 129 := ⟨⟨Try.t129, .agg #[.int .i64 0, .slice none 0 0], by kernel_rfl, rfl, rfl, rfl, rfl⟩, ⟨_, Try.underlying129, ⟨_, rfl, by kernel_rfl, by kernel_rfl⟩⟩, rfl, fun h => nomatch h⟩
def ti130 : TI := ⟨2, 32, [.int .i64 0, .slice none 0 0], .struct [(0, 1), (1, 1)], none, [], none⟩
theorem ti130_ok : ti130.ok Try.prog 130 := ⟨⟨Try.t130, .agg #[.int .i64 0, .slice none 0 0], by kernel_rfl, rfl, rfl, rfl, rfl⟩, ⟨_, Try.underlying130, ⟨_, rfl, by kernel_rfl, by kernel_rfl⟩⟩, rfl, fun h => nomatch h⟩
def ti139 : TI := ⟨3, 32, [.int .i64 0, .int .i64 0, .string ⟨#[]⟩], .struct [(0, 1), (1, 1), (2, 1)], none, [], none⟩
theorem ti139_ok : ti139.ok Try.prog 139 := ⟨⟨Try.t139, .agg #[.int .i64 0, .int .i64 0, .string ⟨#[]⟩], by kernel_rfl, rfl, rfl, rfl, rfl⟩, ⟨_, Try.underlying139, ⟨_, rfl, by kernel_rfl, by kernel_rfl⟩⟩, rfl, fun h => nomatch h⟩
def ti140 : TI := ⟨3, 32, [.int .i64 0, .int .i64 0, .string ⟨#[]⟩], .struct [(0, 1), (1, 1), (2, 1)], some .part, [.int, .int, .str], none⟩
theorem ti140_ok : ti140.ok Try.prog 140 := ⟨⟨Try.t140, .agg #[.int .i64 0, .int .i64 0, .string ⟨#[]⟩], by kernel_rfl, rfl, rfl, rfl, rfl⟩, ⟨_, Try.underlying140, ⟨_, rfl, by kernel_rfl, by kernel_rfl⟩⟩, by kernel_rfl, fun h => nomatch h⟩
def ti153 : TI := ⟨8, 64, [.int .i64 0, .int .i64 0, .int .i64 0, .int .i64 0, .int .i64 0, .int .i64 0, .int .i64 0, .int .i64 0], .arr 8 3, none, [], none⟩
theorem ti153_ok : ti153.ok Try.prog 153 := ⟨⟨Try.t153, .agg #[.int .i64 0, .int .i64 0, .int .i64 0, .int .i64 0, .int .i64 0, .int .i64 0, .int .i64 0, .int .i64 0], by kernel_rfl, rfl, rfl, rfl, rfl⟩, ⟨_, Try.underlying153, rfl⟩, rfl, fun h => nomatch h⟩
def ti156 : TI := ⟨1, 8, [.pointer none], .other, none, [], none⟩
theorem ti156_ok : ti156.ok Try.prog 156 := ⟨⟨Try.t156, .pointer none, by kernel_rfl, rfl, rfl, rfl, rfl⟩, ⟨_, Try.underlying156, ⟨fun _ h => (nomatch h), fun _ _ h => (nomatch h)⟩⟩, rfl, fun _ => ⟨Try.t156, by kernel_rfl, rfl⟩⟩
def ti157 : TI := ⟨1, 24, [.slice none 0 0], .slice 5, none, [], none⟩
theorem ti157_ok : ti157.ok Try.prog 157 := ⟨⟨Try.t157, .slice none 0 0, by kernel_rfl, rfl, rfl, rfl, rfl⟩, ⟨_, Try.underlying157, rfl⟩, rfl, fun _ => ⟨Try.t157, by kernel_rfl, rfl⟩⟩
def ti158 : TI := ⟨2, 32, [.pointer none, .slice none 0 0], .struct [(0, 1), (1, 1)], none, [], none⟩
theorem ti158_ok : ti158.ok Try.prog 158 := ⟨⟨Try.t158, .agg #[.pointer none, .slice none 0 0], by kernel_rfl, rfl, rfl, rfl, rfl⟩, ⟨_, Try.underlying158, ⟨_, rfl, by kernel_rfl, by kernel_rfl⟩⟩, rfl, fun h => nomatch h⟩
def ti159 : TI := ⟨2, 32, [.pointer none, .slice none 0 0], .struct [(0, 1), (1, 1)], none, [], some 5⟩
theorem ti159_ok : ti159.ok Try.prog 159 := ⟨⟨Try.t159, .agg #[.pointer none, .slice none 0 0], by kernel_rfl, rfl, rfl, rfl, rfl⟩, ⟨_, Try.underlying159, ⟨_, rfl, by kernel_rfl, by kernel_rfl⟩⟩, rfl, fun h => nomatch h⟩
def ti167 : TI := ⟨1, 24, [.slice none 0 0], .slice 171, none, [], none⟩
theorem ti167_ok : ti167.ok Try.prog 167 := ⟨⟨Try.t167, .slice none 0 0, by kernel_rfl, rfl, rfl, rfl, rfl⟩, ⟨_, Try.underlying167, rfl⟩, rfl, fun _ => ⟨Try.t167, by kernel_rfl, rfl⟩⟩
def ti170 : TI := ⟨2, 16, [.int .i64 0, .int .u8 0], .struct [(0, 1), (1, 1)], none, [], none⟩
theorem ti170_ok : ti170.ok Try.prog 170 := ⟨⟨Try.t170, .agg #[.int .i64 0, .int .u8 0], by kernel_rfl, rfl, rfl, rfl, rfl⟩, ⟨_, Try.underlying170, ⟨_, rfl, by kernel_rfl, by kernel_rfl⟩⟩, rfl, fun h => nomatch h⟩
def ti171 : TI := ⟨2, 16, [.int .i64 0, .int .u8 0], .struct [(0, 1), (1, 1)], some .atom, [.int, .int], none⟩
theorem ti171_ok : ti171.ok Try.prog 171 := ⟨⟨Try.t171, .agg #[.int .i64 0, .int .u8 0], by kernel_rfl, rfl, rfl, rfl, rfl⟩, ⟨_, Try.underlying171, ⟨_, rfl, by kernel_rfl, by kernel_rfl⟩⟩, by kernel_rfl, fun h => nomatch h⟩
def ti172 : TI := ⟨1, 8, [.pointer none], .other, none, [], none⟩
theorem ti172_ok : ti172.ok Try.prog 172 := ⟨⟨Try.t172, .pointer none, by kernel_rfl, rfl, rfl, rfl, rfl⟩, ⟨_, Try.underlying172, ⟨fun _ h => (nomatch h), fun _ _ h => (nomatch h)⟩⟩, rfl, fun _ => ⟨Try.t172, by kernel_rfl, rfl⟩⟩
def ti175 : TI := ⟨3, 48, [.slice none 0 0, .int .i64 0, .string ⟨#[]⟩], .struct [(0, 1), (1, 1), (2, 1)], none, [], none⟩
theorem ti175_ok : ti175.ok Try.prog 175 := ⟨⟨Try.t175, .agg #[.slice none 0 0, .int .i64 0, .string ⟨#[]⟩], by kernel_rfl, rfl, rfl, rfl, rfl⟩, ⟨_, Try.underlying175, ⟨_, rfl, by kernel_rfl, by kernel_rfl⟩⟩, rfl, fun h => nomatch h⟩
def ti176 : TI := ⟨3, 48, [.slice none 0 0, .int .i64 0, .string ⟨#[]⟩], .struct [(0, 1), (1, 1), (2, 1)], none, [], none⟩
theorem ti176_ok : ti176.ok Try.prog 176 := ⟨⟨Try.t176, .agg #[.slice none 0 0, .int .i64 0, .string ⟨#[]⟩], by kernel_rfl, rfl, rfl, rfl, rfl⟩, ⟨_, Try.underlying176, ⟨_, rfl, by kernel_rfl, by kernel_rfl⟩⟩, rfl, fun h => nomatch h⟩
def ti182 : TI := ⟨1, 24, [.slice none 0 0], .slice 9, none, [], none⟩
theorem ti182_ok : ti182.ok Try.prog 182 := ⟨⟨Try.t182, .slice none 0 0, by kernel_rfl, rfl, rfl, rfl, rfl⟩, ⟨_, Try.underlying182, rfl⟩, rfl, fun _ => ⟨Try.t182, by kernel_rfl, rfl⟩⟩
def ti183 : TI := ⟨1, 24, [.slice none 0 0], .slice 4, none, [], none⟩
theorem ti183_ok : ti183.ok Try.prog 183 := ⟨⟨Try.t183, .slice none 0 0, by kernel_rfl, rfl, rfl, rfl, rfl⟩, ⟨_, Try.underlying183, rfl⟩, rfl, fun _ => ⟨Try.t183, by kernel_rfl, rfl⟩⟩
def ti194 : TI := ⟨1, 8, [.pointer none], .other, none, [], none⟩
theorem ti194_ok : ti194.ok Try.prog 194 := ⟨⟨Try.t194, .pointer none, by kernel_rfl, rfl, rfl, rfl, rfl⟩, ⟨_, Try.underlying194, ⟨fun _ h => (nomatch h), fun _ _ h => (nomatch h)⟩⟩, rfl, fun _ => ⟨Try.t194, by kernel_rfl, rfl⟩⟩
def ti196 : TI := ⟨1, 24, [.slice none 0 0], .struct [(0, 1)], none, [], none⟩
theorem ti196_ok : ti196.ok Try.prog 196 := ⟨⟨Try.t196, .agg #[.slice none 0 0], by kernel_rfl, rfl, rfl, rfl, rfl⟩, ⟨_, Try.underlying196, ⟨_, rfl, by kernel_rfl, by kernel_rfl⟩⟩, rfl, fun h => nomatch h⟩
def ti197 : TI := ⟨1, 24, [.slice none 0 0], .struct [(0, 1)], none, [], none⟩
theorem ti197_ok : ti197.ok Try.prog 197 := ⟨⟨Try.t197, .agg #[.slice none 0 0], by kernel_rfl, rfl, rfl, rfl, rfl⟩, ⟨_, Try.underlying197, ⟨_, rfl, by kernel_rfl, by kernel_rfl⟩⟩, rfl, fun h => nomatch h⟩
def ti198 : TI := ⟨1, 8, [.pointer none], .other, none, [], none⟩
theorem ti198_ok : ti198.ok Try.prog 198 := ⟨⟨Try.t198, .pointer none, by kernel_rfl, rfl, rfl, rfl, rfl⟩, ⟨_, Try.underlying198, ⟨fun _ h => (nomatch h), fun _ _ h => (nomatch h)⟩⟩, rfl, fun _ => ⟨Try.t198, by kernel_rfl, rfl⟩⟩
def ti207 : TI := ⟨1, 8, [.pointer none], .other, none, [], none⟩
theorem ti207_ok : ti207.ok Try.prog 207 := ⟨⟨Try.t207, .pointer none, by kernel_rfl, rfl, rfl, rfl, rfl⟩, ⟨_, Try.underlying207, ⟨fun _ h => (nomatch h), fun _ _ h => (nomatch h)⟩⟩, rfl, fun _ => ⟨Try.t207, by kernel_rfl, rfl⟩⟩
def ti208 : TI := ⟨4, 40, [.pointer none, .pointer none, .pointer none, .string ⟨#[]⟩], .struct [(0, 1), (1, 1), (2, 1), (3, 1)], none, [], none⟩
theorem ti208_ok : ti208.ok Try.prog 208 := ⟨⟨Try.t208, .agg #[.pointer none, .pointer none, .pointer none, .string ⟨#[]⟩], by kernel_rfl, rfl, rfl, rfl, rfl⟩, ⟨_, Try.underlying208, ⟨_, rfl, by kernel_rfl, by kernel_rfl⟩⟩, rfl, fun h => nomatch h⟩
def ti209 : TI := ⟨4, 40, [.pointer none, .pointer none, .pointer none, .string ⟨#[]⟩], .struct [(0, 1), (1, 1), (2, 1), (3, 1)], none, [], none⟩
theorem ti209_ok : ti209.ok Try.prog 209 := ⟨⟨Try.t209, .agg #[.pointer none, .pointer none, .pointer none, .string ⟨#[]⟩], by kernel_rfl, rfl, rfl, rfl, rfl⟩, ⟨_, Try.underlying209, ⟨_, rfl, by kernel_rfl, by kernel_rfl⟩⟩, rfl, fun h => nomatch h⟩
def ti213 : TI := ⟨1, 1, [.int .u8 0], .int .u8, none, [], none⟩
theorem ti213_ok : ti213.ok Try.prog 213 := ⟨⟨Try.t213, .int .u8 0, by kernel_rfl, rfl, rfl, rfl, rfl⟩, ⟨_, Try.underlying213, rfl⟩, rfl, fun _ => ⟨Try.t213, by kernel_rfl, rfl⟩⟩
def ti214 : TI := ⟨1, 1, [.int .u8 0], .int .u8, none, [], none⟩
theorem ti214_ok : ti214.ok Try.prog 214 := ⟨⟨Try.t214, .int .u8 0, by kernel_rfl, rfl, rfl, rfl, rfl⟩, ⟨_, Try.underlying214, rfl⟩, rfl, fun _ => ⟨Try.t214, by kernel_rfl, rfl⟩⟩
def ti216 : TI := ⟨1, 4, [.int .i32 0], .int .i32, none, [], none⟩
theorem ti216_ok : ti216.ok Try.prog 216 := ⟨⟨Try.t216, .int .i32 0, by kernel_rfl, rfl, rfl, rfl, rfl⟩, ⟨_, Try.underlying216, rfl⟩, rfl, fun _ => ⟨Try.t216, by kernel_rfl, rfl⟩⟩
def ti217 : TI := ⟨1, 4, [.int .i32 0], .int .i32, none, [], none⟩
theorem ti217_ok : ti217.ok Try.prog 217 := ⟨⟨Try.t217, .int .i32 0, by kernel_rfl, rfl, rfl, rfl, rfl⟩, ⟨_, Try.underlying217, rfl⟩, rfl, fun _ => ⟨Try.t217, by kernel_rfl, rfl⟩⟩
def ti220 : TI := ⟨1, 16, [.string ⟨#[]⟩], .struct [(0, 1)], none, [], none⟩
theorem ti220_ok : ti220.ok Try.prog 220 := ⟨⟨Try.t220, .agg #[.string ⟨#[]⟩], by kernel_rfl, rfl, rfl, rfl, rfl⟩, ⟨_, Try.underlying220, ⟨_, rfl, by kernel_rfl, by kernel_rfl⟩⟩, rfl, fun h => nomatch h⟩
def ti221 : TI := ⟨1, 16, [.string ⟨#[]⟩], .struct [(0, 1)], none, [], none⟩
theorem ti221_ok : ti221.ok Try.prog 221 := ⟨⟨Try.t221, .agg #[.string ⟨#[]⟩], by kernel_rfl, rfl, rfl, rfl, rfl⟩, ⟨_, Try.underlying221, ⟨_, rfl, by kernel_rfl, by kernel_rfl⟩⟩, rfl, fun h => nomatch h⟩
def Γ : Ctx := [(2, ti2), (3, ti3), (4, ti4), (5, ti5), (6, ti6), (7, ti7), (8, ti8), (9, ti9), (10, ti10), (11, ti11), (12, ti12), (13, ti13), (14, ti14), (15, ti15), (16, ti16), (17, ti17), (18, ti18), (19, ti19), (21, ti21), (22, ti22), (23, ti23), (24, ti24), (27, ti27), (36, ti36), (43, ti43), (48, ti48), (49, ti49), (50, ti50), (55, ti55), (56, ti56), (59, ti59), (61, ti61), (62, ti62), (63, ti63), (67, ti67), (68, ti68), (69, ti69), (70, ti70), (72, ti72), (73, ti73), (87, ti87), (96, ti96), (99, ti99), (100, ti100), (101, ti101), (104, ti104), (105, ti105), (106, ti106), (107, ti107), (108, ti108), (109, ti109), (110, ti110), (111, ti111), (112, ti112), (113, ti113), (114, ti114), (115, ti115), (116, ti116), (118, ti118), (122, ti122), (129, ti129), (130, ti130), (139, ti139), (140, ti140), (153, ti153), (156, ti156), (157, ti157), (158, ti158), (159, ti159), (167, ti167), (170, ti170), (171, ti171), (172, ti172), (175, ti175), (176, ti176), (182, ti182), (183, ti183), (194, ti194), (196, ti196), (197, ti197), (198, ti198), (207, ti207), (208, ti208), (209, ti209), (213, ti213), (214, ti214), (216, ti216), (217, ti217), (220, ti220), (221, ti221)]
theorem Γ_ok : Γ.ok Try.prog := by
  unfold Ctx.ok Γ
  simp only [List.forall_mem_cons]
  exact ⟨ti2_ok, ti3_ok, ti4_ok, ti5_ok, ti6_ok, ti7_ok, ti8_ok, ti9_ok, ti10_ok, ti11_ok, ti12_ok, ti13_ok, ti14_ok, ti15_ok, ti16_ok, ti17_ok, ti18_ok, ti19_ok, ti21_ok, ti22_ok, ti23_ok, ti24_ok, ti27_ok, ti36_ok, ti43_ok, ti48_ok, ti49_ok, ti50_ok, ti55_ok, ti56_ok, ti59_ok, ti61_ok, ti62_ok, ti63_ok, ti67_ok, ti68_ok, ti69_ok, ti70_ok, ti72_ok, ti73_ok, ti87_ok, ti96_ok, ti99_ok, ti100_ok, ti101_ok, ti104_ok, ti105_ok, ti106_ok, ti107_ok, ti108_ok, ti109_ok, ti110_ok, ti111_ok, ti112_ok, ti113_ok, ti114_ok, ti115_ok, ti116_ok, ti118_ok, ti122_ok, ti129_ok, ti130_ok, ti139_ok, ti140_ok, ti153_ok, ti156_ok, ti157_ok, ti158_ok, ti159_ok, ti167_ok, ti170_ok, ti171_ok, ti172_ok, ti175_ok, ti176_ok, ti182_ok, ti183_ok, ti194_ok, ti196_ok, ti197_ok, ti198_ok, ti207_ok, ti208_ok, ti209_ok, ti213_ok, ti214_ok, ti216_ok, ti217_ok, ti220_ok, ti221_ok, fun _ h => nomatch h⟩
theorem Γ_one : ∀ p ∈ Γ, (∀ v ∈ p.2.zero, v.oneCell' = true) ∧ p.2.zero.length = p.2.cells := by
  unfold Γ
  simp only [List.forall_mem_cons]
  exact ⟨by simp [ti2, Value.oneCell'], by simp [ti3, Value.oneCell'], by simp [ti4, Value.oneCell'], by simp [ti5, Value.oneCell'], by simp [ti6, Value.oneCell'], by simp [ti7, Value.oneCell'], by simp [ti8, Value.oneCell'], by simp [ti9, Value.oneCell'], by simp [ti10, Value.oneCell'], by simp [ti11, Value.oneCell'], by simp [ti12, Value.oneCell'], by simp [ti13, Value.oneCell'], by simp [ti14, Value.oneCell'], by simp [ti15, Value.oneCell'], by simp [ti16, Value.oneCell'], by simp [ti17, Value.oneCell'], by simp [ti18, Value.oneCell'], by simp [ti19, Value.oneCell'], by simp [ti21, Value.oneCell'], by simp [ti22, Value.oneCell'], by simp [ti23, Value.oneCell'], by simp [ti24, Value.oneCell'], by simp [ti27, Value.oneCell'], by simp [ti36, Value.oneCell'], by simp [ti43, Value.oneCell'], by simp [ti48, Value.oneCell'], by simp [ti49, Value.oneCell'], by simp [ti50, Value.oneCell'], by simp [ti55, Value.oneCell'], by simp [ti56, Value.oneCell'], by simp [ti59, Value.oneCell'], by simp [ti61, Value.oneCell'], by simp [ti62, Value.oneCell'], by simp [ti63, Value.oneCell'], by simp [ti67, Value.oneCell'], by simp [ti68, Value.oneCell'], by simp [ti69, Value.oneCell'], by simp [ti70, Value.oneCell'], by simp [ti72, Value.oneCell'], by simp [ti73, Value.oneCell'], by simp [ti87, Value.oneCell'], by simp [ti96, Value.oneCell'], by simp [ti99, Value.oneCell'], by simp [ti100, Value.oneCell'], by simp [ti101, Value.oneCell'], by simp [ti104, Value.oneCell'], by simp [ti105, Value.oneCell'], by simp [ti106, Value.oneCell'], by simp [ti107, Value.oneCell'], by simp [ti108, Value.oneCell'], by simp [ti109, Value.oneCell'], by simp [ti110, Value.oneCell'], by simp [ti111, Value.oneCell'], by simp [ti112, Value.oneCell'], by simp [ti113, Value.oneCell'], by simp [ti114, Value.oneCell'], by simp [ti115, Value.oneCell'], by simp [ti116, Value.oneCell'], by simp [ti118, Value.oneCell'], by simp [ti122, Value.oneCell'], by simp [ti129, Value.oneCell'], by simp [ti130, Value.oneCell'], by simp [ti139, Value.oneCell'], by simp [ti140, Value.oneCell'], by simp [ti153, Value.oneCell'], by simp [ti156, Value.oneCell'], by simp [ti157, Value.oneCell'], by simp [ti158, Value.oneCell'], by simp [ti159, Value.oneCell'], by simp [ti167, Value.oneCell'], by simp [ti170, Value.oneCell'], by simp [ti171, Value.oneCell'], by simp [ti172, Value.oneCell'], by simp [ti175, Value.oneCell'], by simp [ti176, Value.oneCell'], by simp [ti182, Value.oneCell'], by simp [ti183, Value.oneCell'], by simp [ti194, Value.oneCell'], by simp [ti196, Value.oneCell'], by simp [ti197, Value.oneCell'], by simp [ti198, Value.oneCell'], by simp [ti207, Value.oneCell'], by simp [ti208, Value.oneCell'], by simp [ti209, Value.oneCell'], by simp [ti213, Value.oneCell'], by simp [ti214, Value.oneCell'], by simp [ti216, Value.oneCell'], by simp [ti217, Value.oneCell'], by simp [ti220, Value.oneCell'], by simp [ti221, Value.oneCell'], fun _ h => nomatch h⟩
theorem Γ_good : Γ.good Try.prog := ⟨Γ_ok, Γ_one, by kernel_rfl⟩
end Go.Proofs.Ytdcdmojbkmedpaa
end
section
namespace Go.SX
open Go.RowKit Go.WideShapes Go.ChangeShapes
theorem Stp.below {w w' : World} (h : Stp (fun _ => False) w w') : Below w.heap.size w w' := ⟨h.os, h.tape, h.output, h.size, fun k hk => h.block k hk (fun f => f)⟩
section
variable {H : Type} {enc : TypeId × Value → H} {P : Program}
theorem post_of_below {f : Func} {s : ChangeSpec} {apart fresh handsOn again : Bool} {W W' : World} {args : Array Value} {v : Value} {ds gs : List (DataW H)} {before pa pv : List MemPlace}
    (hW : DataW.Whole enc P f.params.toList s.vars apart W args.toList ds gs before)
    (hres : ∀ (b : Nat) (sp : Nat → Bool) (hd : Bool), DataW.TrodAll enc P W' b sp hd f.resultTypes.toList (v.resultList f.resultTypes.size) (s.fn H (ds ++ gs)).results [])
    (hargs : ∀ sp : Nat → Bool, (∀ p ∈ before, sp p.block = true) → DataW.TrodAll enc P W' 0 sp true f.params.toList args.toList (s.fn H (ds ++ gs)).args pa)
    (hvars : ∀ sp : Nat → Bool, (∀ p ∈ before, sp p.block = true) → DataW.TrodVars enc P W' sp s.vars (s.fn H (ds ++ gs)).vars pv)
    (hps : before = pa ++ pv) (hb : Below W.heap.size W W')
    (hok : ∀ (j : Nat) (t : TypeId) (r : Value), f.resultTypes[j]? = some t → (v.resultList f.resultTypes.size)[j]? = some r → Value.okWide P W' .any 0 t r) :
    s.post enc P f apart fresh handsOn again W args v W' := by
  have hlt : ∀ p ∈ before, p.block < W.heap.size := fun p hp => hW.lt p hp
  have hold : ∀ p ∈ before, (fun b => decide (b < W.heap.size)) p.block = true := fun p hp => by simpa using hlt p hp
  refine ⟨ds, gs, before, [], pa, pv, hW, hres _ _ _, hargs _ hold, hvars _ hold, World.keptBut_mono (fun p hp => ⟨hp, ?_⟩) (hb.frame (· ∈ before)), fun _ => ?_⟩
  · rw [hps, List.mem_append] at hp
    exact Or.inr hp
  · obtain ⟨_, _, _, _, _, hz, hn⟩ := hW
    refine ⟨hok, _, _, ([] ++ pa) ++ pv, ⟨[] ++ pa, pv, trodAll_append (hargs _ (fun _ _ => rfl)) (hres _ _ _), hvars _ (fun _ _ => rfl), rfl, ?_, ?_⟩, ?_⟩
    · intro b off hp
      have hin : MemPlace.cell b off ∈ before := by rw [hps]; simpa using hp
      rw [hb.frozen (hlt _ hin)]
      exact hz b off hin
    · intro ha
      have := hn ha
      rw [hps] at this
      simpa using this
    · intro p hp _
      rw [hps]
      simpa using hp
end
end Go.SX
end
section
namespace Go.Proofs
set_option linter.unusedSectionVars false
set_option linter.unusedSimpArgs false
set_option linter.unusedVariables false
open Go.Shelf
def Try.lays137_ren : Go.Shelf.Ren := ⟨fun | 137 => 133 | 217 => 138 | 266 => 142 | n => n, fun | 9 => 9 | 5 => 5 | 3 => 3 | n => n, fun | n => n⟩
theorem Try.lays137 : Go.Proofs.Lays.n137 Try.prog Try.lays137_ren := {
  mixed := by kernel_rfl
  f137 := Try.func133.trans (congrArg some (by kernel_rfl))
  f217 := Try.func138.trans (congrArg some (by kernel_rfl))
  f266 := Try.func142.trans (congrArg some (by kernel_rfl))
  t3 := Try.underlying3
  a3 := Try.isAgg3
  z3 := Try.sizeOf3
  v3 := Try.zeroValue3
  t5 := Try.underlying5
  a5 := Try.isAgg5
  z5 := Try.sizeOf5
  v5 := Try.zeroValue5
  t9 := Try.underlying9
  a9 := Try.isAgg9
  z9 := Try.sizeOf9
  v9 := Try.zeroValue9 }
open Go.RowKit in
/-- strings.IndexByte: "IndexByte returns the index of the first instance of c in s, or -1 if c is not present in s.": IT RETURNS 'Lib.indexByte s c'; the world is as it was. (LAID: no walk: one application.) -/
theorem Try.strings_IndexByte (s : ByteArray) (c : Int) (w : World) :
    Calls Try.prog 133 #[.string s, .int .u8 c] w fun e w' => e = .returned (.int .i64 (Lib.indexByte s.data.toList c.toNat.toUInt8)) ∧ w' = w := Any.strings_IndexByte Try.lays137 s c w
def Try.lays217_ren : Go.Shelf.Ren := ⟨fun | 217 => 138 | 266 => 142 | n => n, fun | 9 => 9 | 5 => 5 | 3 => 3 | n => n, fun | n => n⟩
theorem Try.lays217 : Go.Proofs.Lays.n217 Try.prog Try.lays217_ren := {
  mixed := by kernel_rfl
  f217 := Try.func138.trans (congrArg some (by kernel_rfl))
  f266 := Try.func142.trans (congrArg some (by kernel_rfl))
  t3 := Try.underlying3
  a3 := Try.isAgg3
  z3 := Try.sizeOf3
  v3 := Try.zeroValue3
  t5 := Try.underlying5
  a5 := Try.isAgg5
  z5 := Try.sizeOf5
  v5 := Try.zeroValue5
  t9 := Try.underlying9
  a9 := Try.isAgg9
  z9 := Try.sizeOf9
  v9 := Try.zeroValue9 }
open Go.RowKit Go.Lib in
/-- internal/stringslite.IndexByte (what strings.IndexByte calls): IT RETURNS 'Lib.indexByte s c'; the world is as it was. (LAID: no walk: one application.) -/
theorem Try.stringslite_IndexByte (s : ByteArray) (c : Int) (w : World) :
    Calls Try.prog 138 #[.string s, .int .u8 c] w fun e w' => e = .returned (.int .i64 (Lib.indexByte s.data.toList c.toNat.toUInt8)) ∧ w' = w := Any.stringslite_IndexByte Try.lays217 s c w
def Try.lays143_ren : Go.Shelf.Ren := ⟨fun | 143 => 136 | 219 => 141 | 217 => 138 | 225 => 143 | 224 => 144 | 267 => 145 | 266 => 142 | 314 => 146 | n => n, fun | 9 => 9 | 3 => 3 | 4 => 4 | 5 => 5 | 46 => 87 | 146 => 85 | 51 => 27 | n => n, fun | 1 => 1 | n => n⟩
theorem Try.lays143 : Go.Proofs.Lays.n143 Try.prog Try.lays143_ren := {
  mixed := by kernel_rfl
  f143 := Try.func136.trans (congrArg some (by kernel_rfl))
  f217 := Try.func138.trans (congrArg some (by kernel_rfl))
  f219 := Try.func141.trans (congrArg some (by kernel_rfl))
  f224 := Try.func144.trans (congrArg some (by kernel_rfl))
  f225 := Try.func143.trans (congrArg some (by kernel_rfl))
  f266 := Try.func142.trans (congrArg some (by kernel_rfl))
  f267 := Try.func145.trans (congrArg some (by kernel_rfl))
  f314 := Try.func146.trans (congrArg some (by kernel_rfl))
  t3 := Try.underlying3
  a3 := Try.isAgg3
  z3 := Try.sizeOf3
  v3 := Try.zeroValue3
  t4 := Try.underlying4
  a4 := Try.isAgg4
  z4 := Try.sizeOf4
  v4 := Try.zeroValue4
  t5 := Try.underlying5
  a5 := Try.isAgg5
  z5 := Try.sizeOf5
  v5 := Try.zeroValue5
  t9 := Try.underlying9
  a9 := Try.isAgg9
  z9 := Try.sizeOf9
  v9 := Try.zeroValue9
  t46 := Try.underlying87
  a46 := Try.isAgg87
  z46 := Try.sizeOf87
  v46 := Try.zeroValue87
  t51 := Try.underlying27
  a51 := Try.isAgg27
  z51 := Try.sizeOf27
  v51 := Try.zeroValue27
  t146 := Try.underlying85
  a146 := Try.isAgg85
  z146 := Try.sizeOf85
  v146 := Try.zeroValue85
  g1 := by kernel_rfl }
open Go.RowKit Go.Lib in
/-- strings.Index: "Index returns the index of the first instance of substr in s, or -1 if substr is not present in s.": IT RETURNS 'Lib.index s substr'; the world is as it was. (LAID: no walk: one application.) -/
theorem Try.strings_Index (s sub : ByteArray) (m : Int) (w : World) (hs : s.size < 4294967281) (hm : w.cell? ⟨1, 0, none⟩ = some (.int .i64 m)) :
    Calls Try.prog 136 #[.string s, .string sub] w fun e w' => e = .returned (.int .i64 (Lib.index s.data.toList sub.data.toList)) ∧ w' = w := Any.strings_Index Try.lays143 s sub m w hs hm
def Try.laysM143_ren : Go.Shelf.Ren := ⟨fun | 143 => 136 | 219 => 141 | 217 => 138 | 225 => 143 | 224 => 144 | 267 => 145 | 266 => 142 | 314 => 146 | n => n, fun | 9 => 9 | 3 => 3 | 4 => 4 | 5 => 5 | 46 => 87 | 146 => 85 | 51 => 27 | n => n, fun | 1 => 1 | n => n⟩
theorem Try.laysM143 : Go.Proofs.LaysM.n143 Try.prog Try.laysM143_ren := {
  mixed := by kernel_rfl
  f143 := Try.func136.trans (congrArg some (by kernel_rfl))
  f217 := Try.func138.trans (congrArg some (by kernel_rfl))
  f219 := Try.func141.trans (congrArg some (by kernel_rfl))
  f224 := Try.func144.trans (congrArg some (by kernel_rfl))
  f225 := Try.func143.trans (congrArg some (by kernel_rfl))
  f266 := Try.func142.trans (congrArg some (by kernel_rfl))
  f267 := Try.func145.trans (congrArg some (by kernel_rfl))
  f314 := Try.func146.trans (congrArg some (by kernel_rfl))
  t3 := Try.underlying3
  a3 := Try.isAgg3
  z3 := Try.sizeOf3
  v3 := Try.zeroValue3
  t4 := Try.underlying4
  a4 := Try.isAgg4
  z4 := Try.sizeOf4
  v4 := Try.zeroValue4
  t5 := Try.underlying5
  a5 := Try.isAgg5
  z5 := Try.sizeOf5
  v5 := Try.zeroValue5
  t9 := Try.underlying9
  a9 := Try.isAgg9
  z9 := Try.sizeOf9
  v9 := Try.zeroValue9
  t46 := Try.underlying87
  a46 := Try.isAgg87
  z46 := Try.sizeOf87
  v46 := Try.zeroValue87
  t51 := Try.underlying27
  a51 := Try.isAgg27
  z51 := Try.sizeOf27
  v51 := Try.zeroValue27
  t146 := Try.underlying85
  a146 := Try.isAgg85
  z146 := Try.sizeOf85
  v146 := Try.zeroValue85
  g1 := by kernel_rfl
  i3 := by kernel_rfl
  i4 := by kernel_rfl
  i5 := by kernel_rfl
  i9 := by kernel_rfl
  i46 := by kernel_rfl
  i51 := by kernel_rfl
  i146 := by kernel_rfl
  m1 := by kernel_rfl
  s1_3 := fun w h => Go.Proofs.cell_of_shapedOpen_int (zero := #[.int .i64 0]) (t := 3) h (of_decide_eq_true (by kernel_rfl)) (by kernel_rfl) rfl (by kernel_rfl) (by kernel_rfl) Try.underlying3 }
end Go.Proofs
end
section
namespace Go.Proofs.Ytdcdmojbkmedpaa
set_option linter.unusedSectionVars false
set_option linter.unusedSimpArgs false
set_option linter.unusedVariables false
open Go Go.SX Go.Tk
set_option maxRecDepth 100000
set_option maxHeartbeats 0
/-- what needs no package-level variable holds beside any -/
theorem lift {P : Program} {f : FuncId} {a : List AV} {r : AV} [G : Globs] (h : @PSpec noGlobs P f a r) : PSpec P f a r :=
  ⟨h.1, fun O w vs hO _ hargs => h.2 O w vs hO (fun _ hp => nomatch hp) hargs⟩
section
variable [G : Globs]
theorem s_IndexByte (s : Str) (n : Int) : PSpec Try.prog 133 [.s s, .i .u8 n] (.i .i64 (Lib.indexByte s n.toNat.toUInt8)) := by
  refine ⟨Try.call133, fun O w vs hO _ hargs => ?_⟩
  obtain ⟨v0, vs0, rfl, h0, h⟩ := hargs.cons_inv
  obtain ⟨v1, vs1, rfl, h1, h⟩ := h.cons_inv
  obtain rfl := h.nil_inv
  cases h0
  cases h1
  refine (Try.strings_IndexByte ⟨s.toArray⟩ n w).mono fun e w' ⟨he, hw⟩ => ?_
  subst he hw
  exact ⟨_, rfl, Stp.refl _ _, .i _ _⟩
theorem idx_word {n : Int} (h0 : 0 ≤ n) (h1 : n ≤ 255) : (0 ≤ Lib.indexByte [95, 45, 43, 46] n.toNat.toUInt8) = (n = 95 ∨ n = 45 ∨ n = 43 ∨ n = 46) := by
  obtain ⟨k, rfl⟩ : ∃ k : Nat, n = k := ⟨n.toNat, by omega⟩
  have hk : k < 256 := by omega
  have : ∀ k : Fin 256, (0 ≤ Lib.indexByte [95, 45, 43, 46] ((k.val : Int)).toNat.toUInt8) = ((k.val : Int) = 95 ∨ (k.val : Int) = 45 ∨ (k.val : Int) = 43 ∨ (k.val : Int) = 46) := by
    intro k
    exact propext (by revert k; decide +kernel)
  exact this ⟨k, hk⟩
theorem idx_mark {n : Int} (h0 : 0 ≤ n) (h1 : n ≤ 255) : (0 ≤ Lib.indexByte [123, 125, 91, 93, 58, 61, 44] n.toNat.toUInt8) = markc n := by
  obtain ⟨k, rfl⟩ : ∃ k : Nat, n = k := ⟨n.toNat, by omega⟩
  have hk : k < 256 := by omega
  have : ∀ k : Fin 256, (0 ≤ Lib.indexByte [123, 125, 91, 93, 58, 61, 44] ((k.val : Int)).toNat.toUInt8) = markc (k.val : Int) := by
    intro k
    exact propext (by revert k; decide +kernel)
  exact this ⟨k, hk⟩
theorem w_cls (n : Int) (h0 : 0 ≤ n) (h1 : n ≤ 255) : vc Try.prog Γ 53 [0, 2, 3, 14, 17, 24, 46, 49] (Try.f120.body.getD .skip) (postK Γ [.tmp 2] (fun v => v = .i .i64 (cls n))) ⟨argSlots 0 [.i .u8 n], []⟩ := by
  obtain ⟨iw, qw, hw⟩ : ∃ iw : Int, PSpec Try.prog 133 [.s [95, 45, 43, 46], .i .u8 n] (.i .i64 iw) ∧ (0 ≤ iw ↔ (n = 95 ∨ n = 45 ∨ n = 43 ∨ n = 46)) := ⟨_, s_IndexByte _ _, by rw [idx_word h0 h1]⟩
  obtain ⟨im, qm, hm⟩ : ∃ im : Int, PSpec Try.prog 133 [.s [123, 125, 91, 93, 58, 61, 44], .i .u8 n] (.i .i64 im) ∧ (0 ≤ im ↔ markc n) := ⟨_, s_IndexByte _ _, by rw [idx_mark h0 h1]⟩
  unfold markc at hm
  repeat' (first | (refine And.intro (fun h => ?_) (fun h => ?_) <;> (try simp [-List.getD_eq_getElem?_getD, -Int.pred_toNat] at h) <;> (try (exfalso; first | omega | contradiction))) | (refine Or.inl (Exists.intro _ (And.intro qw ?_))) | (refine Or.inl (Exists.intro _ (And.intro qm ?_))))
  all_goals
    refine congrArg (AV.i .i64) ?_
    unfold cls blankc wordc markc
    (repeat' split) <;> omega
theorem s_cls (n : Int) (h0 : 0 ≤ n) (h1 : n ≤ 255) : PSpec Try.prog 120 [.i .u8 n] (.i .i64 (cls n)) :=
  pspec_of_vc Γ_good Try.func120 rfl Try.call120 Try.results120 Try.ntmps120 (Nat.le_of_ble_eq_true rfl) (w_cls n h0 h1)
end
end Go.Proofs.Ytdcdmojbkmedpaa
end
section
namespace Go.Proofs.Ytdcdmojbkmedpaa
set_option linter.unusedSectionVars false
set_option linter.unusedSimpArgs false
set_option linter.unusedVariables false
open Go Go.SX Go.Tk
set_option maxRecDepth 100000
set_option maxHeartbeats 0
def oneN (n : Int) : Str → Bool
  | [] => false
  | x :: r => decide (by8 x = n) || oneN n r
theorem oneN_step {n : Int} {s : Str} {k : Nat} (hk : k < s.length) : oneN n (s.drop k) = (decide (by8 (s.getD k 0) = n) || oneN n (s.drop (k + 1))) := by
  rw [List.drop_eq_getElem_cons hk, oneN]
  simp [List.getD_eq_getElem?_getD, List.getElem?_eq_getElem hk]
theorem oneN_blank (n : Int) : oneN n [32, 9, 13] = decide (blankc n) := by
  have h1 : by8 32 = 32 := rfl
  have h2 : by8 9 = 9 := rfl
  have h3 : by8 13 = 13 := rfl
  rw [Bool.eq_iff_iff]
  simp only [oneN, Bool.or_eq_true, decide_eq_true_eq, Bool.false_eq_true, or_false]
  unfold blankc
  (constructor <;> intro h9 <;> (try (exfalso; exact h9)) <;> omega)
theorem oneN_mark (n : Int) : oneN n [123, 125, 91, 93, 58, 61, 44] = decide (markc n) := by
  have h1 : by8 123 = 123 := rfl
  have h2 : by8 125 = 125 := rfl
  have h3 : by8 91 = 91 := rfl
  have h4 : by8 93 = 93 := rfl
  have h5 : by8 58 = 58 := rfl
  have h6 : by8 61 = 61 := rfl
  have h7 : by8 44 = 44 := rfl
  rw [Bool.eq_iff_iff]
  simp only [oneN, Bool.or_eq_true, decide_eq_true_eq, Bool.false_eq_true, or_false]
  unfold markc
  (constructor <;> intro h9 <;> (try (exfalso; exact h9)) <;> omega)
theorem oneN_word (n : Int) : oneN n [95, 45, 43, 46] = decide (n = 95 ∨ n = 45 ∨ n = 43 ∨ n = 46) := by
  have h1 : by8 95 = 95 := rfl
  have h2 : by8 45 = 45 := rfl
  have h3 : by8 43 = 43 := rfl
  have h4 : by8 46 = 46 := rfl
  rw [Bool.eq_iff_iff]
  simp only [oneN, Bool.or_eq_true, decide_eq_true_eq, Bool.false_eq_true, or_false]
  (constructor <;> intro h9 <;> (try (exfalso; exact h9)) <;> omega)
section
variable [G : Globs]
theorem w_oneOf (n : Int) (l : Str) (hl : l.length ≤ 1000000) : vc Try.prog Γ 17 [0, 1, 4, 5, 9, 16] (Try.f125.body.getD .skip) (postK Γ [.tmp 4] (fun v => v = .b (oneN n l))) ⟨argSlots 0 [.i .u8 n, .s l], []⟩ := by
  refine Exists.intro [] (Exists.intro [] (Exists.intro [] (Exists.intro Nat (Exists.intro (fun k => k ≤ l.length ∧ oneN n (l.drop k) = oneN n l) (Exists.intro (fun k => ⟨[(0, .i .u8 n), (1, .s l), (5, .i .i64 k)], []⟩) (Exists.intro (fun k => l.length - k) (Exists.intro 0 (And.intro ⟨Nat.zero_le _, rfl⟩ (And.intro ?_ ?_)))))))))
  · (repeat' (first | exact trivial | exact Or.inl rfl | exact Or.inr (Or.inl ⟨rfl, _, rfl⟩) | exact Or.inr (Or.inr (Or.inr ⟨_, _, _, rfl, rfl⟩)) | refine And.intro ?_ ?_))
  · rintro k ⟨hk0, heq⟩
    intro _
    refine And.intro (fun hc => ?_) (fun hc => ?_)
    · have hk : k < l.length := by have : (k : Int) < l.length := of_decide_eq_true hc; omega
      rw [oneN_step hk] at heq
      refine And.intro ⟨by omega, by omega⟩ ?_
      refine And.intro (fun hq => ?_) (fun hq => ?_)
      · have hq : by8 (l.getD k 0) = n := by simpa [by8] using hq
        refine congrArg AV.b ?_
        rw [← heq, decide_eq_true hq]
        rfl
      · have hq : ¬ by8 (l.getD k 0) = n := by simpa [by8] using hq
        refine And.intro ⟨by omega, by omega⟩ ?_
        refine Exists.intro [] (Exists.intro (k + 1) (And.intro ⟨hk, by rw [← heq, decide_eq_false hq]; rfl⟩ (And.intro ?_ ?_)))
        · (repeat' (first | exact trivial | exact Or.inl rfl | exact Or.inr (Or.inl ⟨rfl, _, rfl⟩) | exact Or.inr (Or.inr (Or.inr ⟨_, _, _, rfl, rfl⟩)) | refine And.intro ?_ ?_))
        · show l.length - (k + 1) < l.length - k
          omega
    · have hk : k = l.length := by have : ¬ (k : Int) < l.length := of_decide_eq_false hc; omega
      subst hk
      rw [List.drop_length, oneN] at heq
      exact congrArg AV.b heq
theorem s_oneOf (n : Int) (l : Str) (hl : l.length ≤ 1000000) : PSpec Try.prog 125 [.i .u8 n, .s l] (.b (oneN n l)) :=
  pspec_of_vc Γ_good Try.func125 rfl Try.call125 Try.results125 Try.ntmps125 (Nat.le_of_ble_eq_true rfl) (w_oneOf n l hl)
theorem w_run (s : Str) (g : Nat) (p : Int → Bool) (hs : s.length ≤ 1000000) (hg : ∀ x : Int, 0 ≤ x → x ≤ 255 → PSpec Try.prog g [.i .u8 x] (.b (p x))) : vc Try.prog Γ 20 [0, 1, 4, 5, 16] (Try.f123.body.getD .skip) (postK Γ [.tmp 4] (fun v => v = .i .i64 (frontN p s))) ⟨argSlots 0 [.s s, .fn g []], []⟩ := by
  refine Exists.intro [] (Exists.intro [] (Exists.intro [] (Exists.intro Nat (Exists.intro (fun k => k ≤ s.length ∧ k + frontN p (s.drop k) = frontN p s) (Exists.intro (fun k => ⟨[(0, .s s), (1, .fn g []), (5, .i .i64 k)], []⟩) (Exists.intro (fun k => s.length - k) (Exists.intro 0 (And.intro ⟨Nat.zero_le _, by simp⟩ (And.intro ?_ ?_)))))))))
  · (repeat' (first | exact trivial | exact Or.inl rfl | exact Or.inr (Or.inl ⟨rfl, _, rfl⟩) | exact Or.inr (Or.inr (Or.inr ⟨_, _, _, rfl, rfl⟩)) | refine And.intro ?_ ?_))
  · rintro k ⟨hk0, heq⟩
    intro _
    refine And.intro (fun hc => ?_) (fun hc => ?_)
    · have hk : k < s.length := by have : (k : Int) < s.length := of_decide_eq_true hc; omega
      rw [frontN_step hk] at heq
      refine And.intro ⟨by omega, by omega⟩ ?_
      have hb := by8_rng (s.getD k 0)
      refine Or.inl (Exists.intro _ (And.intro (hg (by8 (s.getD k 0)) hb.1 hb.2) ?_))
      refine And.intro (fun hq => ?_) (fun hq => ?_)
      · have hq : p (by8 (s.getD k 0)) = true := by simpa [hc] using hq
        rw [if_pos hq] at heq
        refine And.intro ⟨by omega, by omega⟩ ?_
        refine Exists.intro [] (Exists.intro (k + 1) (And.intro ⟨hk, by omega⟩ (And.intro ?_ ?_)))
        · (repeat' (first | exact trivial | exact Or.inl rfl | exact Or.inr (Or.inl ⟨rfl, _, rfl⟩) | exact Or.inr (Or.inr (Or.inr ⟨_, _, _, rfl, rfl⟩)) | refine And.intro ?_ ?_))
        · show s.length - (k + 1) < s.length - k
          omega
      · have hq : p (by8 (s.getD k 0)) = false := by simpa [hc] using hq
        rw [if_neg (by rw [hq]; decide)] at heq
        refine congrArg (AV.i .i64) ?_
        omega
    · have hk : k = s.length := by have : ¬ (k : Int) < s.length := of_decide_eq_false hc; omega
      subst hk
      rw [frontN_end (Nat.le_refl _)] at heq
      refine And.intro (fun h9 => absurd h9 (by simp)) (fun _ => ?_)
      refine congrArg (AV.i .i64) ?_
      omega
theorem s_run (s : Str) (g : Nat) (p : Int → Bool) (hs : s.length ≤ 1000000) (hg : ∀ x : Int, 0 ≤ x → x ≤ 255 → PSpec Try.prog g [.i .u8 x] (.b (p x))) : PSpec Try.prog 123 [.s s, .fn g []] (.i .i64 (frontN p s)) :=
  pspec_of_vc Γ_good Try.func123 rfl Try.call123 Try.results123 Try.ntmps123 (Nat.le_of_ble_eq_true rfl) (w_run s g p hs hg)
def lett (n : Int) : Prop := (97 ≤ n ∧ n ≤ 122) ∨ (65 ≤ n ∧ n ≤ 90)
instance (n : Int) : Decidable (lett n) := by unfold lett; infer_instance
theorem w_letter (n : Int) : vc Try.prog Γ 17 [0, 2] (Try.f128.body.getD .skip) (postK Γ [.tmp 2] (fun v => v = .b (decide (lett n)))) ⟨argSlots 0 [.i .u8 n], []⟩ := by
  repeat' (refine And.intro (fun h => ?_) (fun h => ?_) <;> (try simp [-List.getD_eq_getElem?_getD, -Int.pred_toNat] at h))
  all_goals
    refine congrArg AV.b ?_
    rw [Bool.eq_iff_iff]
    simp only [cond_true, cond_false, decide_eq_true_eq, Bool.false_eq_true, true_iff, false_iff]
    unfold lett
    first | omega | (constructor <;> intro h9 <;> (try (exfalso; exact h9)) <;> omega)
theorem s_letter (n : Int) : PSpec Try.prog 128 [.i .u8 n] (.b (decide (lett n))) :=
  pspec_of_vc Γ_good Try.func128 rfl Try.call128 Try.results128 Try.ntmps128 (Nat.le_of_ble_eq_true rfl) (w_letter n)
theorem w_f1 (n : Int) : vc Try.prog Γ 5 [0, 2] (Try.f124.body.getD .skip) (postK Γ [.tmp 2] (fun v => v = .b (decide (blankc n)))) ⟨argSlots 0 [.i .u8 n], []⟩ := by
  have h := s_oneOf n [32, 9, 13] (by decide)
  rw [oneN_blank] at h
  refine Or.inl (Exists.intro _ (And.intro (h) ?_))
  show _ = _
  rfl
theorem s_f1 (n : Int) : PSpec Try.prog 124 [.i .u8 n] (.b (decide (blankc n))) :=
  pspec_of_vc Γ_good Try.func124 rfl Try.call124 Try.results124 Try.ntmps124 (Nat.le_of_ble_eq_true rfl) (w_f1 n)
theorem w_f2 (n : Int) : vc Try.prog Γ 5 [0, 2] (Try.f126.body.getD .skip) (postK Γ [.tmp 2] (fun v => v = .b (decide (n ≠ 10)))) ⟨argSlots 0 [.i .u8 n], []⟩ := by
  show _ = _
  refine congrArg AV.b ?_
  rw [Bool.eq_iff_iff]
  simp
theorem s_f2 (n : Int) : PSpec Try.prog 126 [.i .u8 n] (.b (decide (n ≠ 10))) :=
  pspec_of_vc Γ_good Try.func126 rfl Try.call126 Try.results126 Try.ntmps126 (Nat.le_of_ble_eq_true rfl) (w_f2 n)
theorem w_f3 (n : Int) : vc Try.prog Γ 17 [0, 2] (Try.f127.body.getD .skip) (postK Γ [.tmp 2] (fun v => v = .b (decide (wordc n)))) ⟨argSlots 0 [.i .u8 n], []⟩ := by
  have q0 := s_oneOf n [95, 45, 43, 46] (by decide)
  rw [oneN_word] at q0
  refine Or.inl (Exists.intro _ (And.intro (s_letter n) ?_))
  repeat' (first | (refine And.intro (fun h => ?_) (fun h => ?_) <;> (try simp [-List.getD_eq_getElem?_getD, -Int.pred_toNat] at h)) | (refine Or.inl (Exists.intro _ (And.intro q0 ?_))))
  all_goals
    refine congrArg AV.b ?_
    rw [Bool.eq_iff_iff]
    simp only [cond_true, cond_false, decide_eq_true_eq, Bool.false_eq_true, true_iff, false_iff]
    unfold lett at *
    unfold wordc
    first | omega | (constructor <;> intro h9 <;> (try (exfalso; exact h9)) <;> omega)
theorem s_f3 (n : Int) : PSpec Try.prog 127 [.i .u8 n] (.b (decide (wordc n))) :=
  pspec_of_vc Γ_good Try.func127 rfl Try.call127 Try.results127 Try.ntmps127 (Nat.le_of_ble_eq_true rfl) (w_f3 n)
end
end Go.Proofs.Ytdcdmojbkmedpaa
end
section
namespace Go.Spl
set_option linter.unusedSectionVars false
set_option linter.unusedSimpArgs false
set_option linter.unusedVariables false
open Go.SX
set_option linter.unusedVariables false
def startsFrom : Nat → Str → List Int
  | _, [] => []
  | i, b :: s => if b = 10 then ((i + 1 : Nat) : Int) :: startsFrom (i + 1) s else startsFrom (i + 1) s
def starts (s : Str) : List Int := 0 :: startsFrom 0 s
theorem startsFrom_snoc (b : UInt8) : ∀ (s : Str) (i : Nat), startsFrom i (s ++ [b]) = startsFrom i s ++ (if b = 10 then [((i + s.length + 1 : Nat) : Int)] else [])
  | [], i => by simp only [List.nil_append, startsFrom, List.length_nil]
  | c :: s, i => by
    simp only [List.cons_append, startsFrom, List.length_cons]
    rw [startsFrom_snoc b s (i + 1)]
    have e : i + 1 + s.length + 1 = i + (s.length + 1) + 1 := by omega
    rw [e]
    split <;> split <;> simp
theorem starts_snoc (s : Str) (b : UInt8) : starts (s ++ [b]) = starts s ++ (if b = 10 then [((s.length + 1 : Nat) : Int)] else []) := by
  rw [starts, startsFrom_snoc, starts]; simp
def lineStep (acc : List Str) (b : UInt8) : List Str := if b = 10 then acc ++ [[]] else acc.set (acc.length - 1) (acc.getD (acc.length - 1) [] ++ [b])
def lines (s : Str) : List Str := s.foldl lineStep [[]]
theorem lines_snoc (s : Str) (b : UInt8) : lines (s ++ [b]) = lineStep (lines s) b := by simp [lines]
def lineP (b : UInt8) : Bool := b != 10
theorem tw_snoc {l : Str} (h : (10 : UInt8) ∈ l) (b : UInt8) : (l ++ [b]).takeWhile lineP = l.takeWhile lineP := by
  induction l with
  | nil => cases h
  | cons x l ih =>
    simp only [List.cons_append, List.takeWhile_cons]
    by_cases hx : x = 10
    · subst hx; rfl
    · have : lineP x = true := by simp [lineP, hx]
      rw [this]
      simp only [if_true]
      rw [ih (by rcases List.mem_cons.1 h with h | h; exact absurd h.symm hx; exact h)]
theorem tw_nl (l : Str) : (l ++ [10]).takeWhile lineP = l.takeWhile lineP := by
  induction l with
  | nil => rfl
  | cons x l ih => simp only [List.cons_append, List.takeWhile_cons, ih]
theorem tw_all {l : Str} (h : (10 : UInt8) ∉ l) : l.takeWhile lineP = l := by
  induction l with
  | nil => rfl
  | cons x l ih =>
    have hx : x ≠ 10 := fun e => h (by rw [e]; exact List.mem_cons_self ..)
    have : lineP x = true := by simp [lineP, hx]
    simp only [List.takeWhile_cons, this, if_true]
    rw [ih fun h' => h (List.mem_cons_of_mem _ h')]
/-- all that the law needs of lines -/
structure LOK (s : Str) : Prop where
  len : (lines s).length = (starts s).length
  le : ∀ x ∈ starts s, 0 ≤ x ∧ x ≤ s.length
  inc : (starts s).Pairwise (· < ·)
  say : ∀ k x, (starts s)[k]? = some x → (lines s)[k]? = some ((s.drop x.toNat).takeWhile lineP) ∧ ((10 : UInt8) ∈ s.drop x.toNat ↔ k + 1 < (starts s).length)
theorem starts_pos (s : Str) : 0 < (starts s).length := by simp [starts]
theorem lok_nil : LOK [] := by
  refine ⟨rfl, fun x hx => ?_, ?_, fun k x h => ?_⟩
  · simp only [starts, startsFrom, List.mem_singleton] at hx; subst hx; exact ⟨by decide, by decide⟩
  · simp [starts, startsFrom]
  · cases k with
    | zero => simp [starts, startsFrom] at h; subst h; exact ⟨rfl, by simp [starts, startsFrom]⟩
    | succ k => simp [starts, startsFrom] at h
theorem lok_snoc {s : Str} (h : LOK s) (b : UInt8) : LOK (s ++ [b]) := by
  have hp := starts_pos s
  by_cases hb : b = 10
  · subst hb
    have es : starts (s ++ [10]) = starts s ++ [((s.length + 1 : Nat) : Int)] := by rw [starts_snoc, if_pos rfl]
    have el : lines (s ++ [10]) = lines s ++ [[]] := by rw [lines_snoc, lineStep, if_pos rfl]
    refine ⟨by rw [es, el]; simp [h.len], fun x hx => ?_, ?_, fun k x hk => ?_⟩
    · rw [es] at hx
      rcases List.mem_append.1 hx with hx | hx
      · have := h.le x hx; simp only [List.length_append, List.length_singleton]; omega
      · simp only [List.mem_singleton] at hx; subst hx; simp only [List.length_append, List.length_singleton]; omega
    · rw [es, List.pairwise_append]
      refine ⟨h.inc, by simp, fun x hx y hy => ?_⟩
      simp only [List.mem_singleton] at hy
      have := h.le x hx
      omega
    · rw [es] at hk ⊢
      rw [el]
      rcases Nat.lt_or_ge k (starts s).length with hlt | hge
      · rw [List.getElem?_append_left hlt] at hk
        obtain ⟨h1, h2⟩ := h.say k x hk
        have hx := h.le x (List.mem_of_getElem? hk)
        rw [List.getElem?_append_left (by rw [h.len]; exact hlt), h1]
        have ed : (s ++ [10]).drop x.toNat = s.drop x.toNat ++ [10] := List.drop_append_of_le_length (by omega)
        rw [ed, tw_nl]
        refine ⟨rfl, ?_⟩
        simp only [List.length_append, List.length_singleton, List.mem_append, List.mem_singleton, or_true, true_iff]
        omega
      · rw [List.getElem?_append_right hge] at hk
        have hk0 : k - (starts s).length = 0 := by
          cases hq : k - (starts s).length with
          | zero => rfl
          | succ q => rw [hq] at hk; simp at hk
        rw [hk0] at hk
        simp only [List.getElem?_cons_zero, Option.some.injEq] at hk
        subst hk
        rw [List.getElem?_append_right (by rw [h.len]; exact hge), h.len, hk0]
        have ed : (s ++ [10]).drop (((s.length + 1 : Nat) : Int)).toNat = [] := List.drop_of_length_le (by simp)
        rw [ed]
        refine ⟨rfl, ?_⟩
        simp only [List.not_mem_nil, false_iff, List.length_append, List.length_singleton]
        omega
  · have es : starts (s ++ [b]) = starts s := by rw [starts_snoc, if_neg hb]; simp
    have el : lines (s ++ [b]) = (lines s).set ((lines s).length - 1) ((lines s).getD ((lines s).length - 1) [] ++ [b]) := by rw [lines_snoc, lineStep, if_neg hb]
    refine ⟨by rw [es, el]; simp [h.len], fun x hx => ?_, by rw [es]; exact h.inc, fun k x hk => ?_⟩
    · rw [es] at hx
      have := h.le x hx; simp only [List.length_append, List.length_singleton]; omega
    · rw [es] at hk ⊢
      rw [el]
      obtain ⟨h1, h2⟩ := h.say k x hk
      have hx := h.le x (List.mem_of_getElem? hk)
      have hlt := (List.getElem?_eq_some_iff.1 hk).1
      have ed : (s ++ [b]).drop x.toNat = s.drop x.toNat ++ [b] := List.drop_append_of_le_length (by omega)
      rw [ed]
      have hmem : (10 : UInt8) ∈ s.drop x.toNat ++ [b] ↔ (10 : UInt8) ∈ s.drop x.toNat := by
        simp only [List.mem_append, List.mem_singleton]
        exact ⟨fun h => h.elim id (fun h => absurd h.symm hb), .inl⟩
      rw [hmem]
      refine ⟨?_, h2⟩
      by_cases hlast : k + 1 < (starts s).length
      · rw [List.getElem?_set_ne (by rw [h.len]; omega), h1, tw_snoc (h2.2 hlast)]
      · have hk : k = (lines s).length - 1 := by rw [h.len]; omega
        subst hk
        have hn : (10 : UInt8) ∉ s.drop x.toNat := fun h => hlast (h2.1 h)
        rw [List.getElem?_set_self (by rw [h.len]; omega), List.getD_eq_getElem?_getD, h1, tw_all hn, tw_all (by rw [hmem]; exact hn)]
        rfl
theorem lok_go : ∀ (t s : Str), LOK s → LOK (s ++ t)
  | [], s, h => by simpa using h
  | b :: t, s, h => by have := lok_go t (s ++ [b]) (lok_snoc h b); simpa using this
theorem lok (s : Str) : LOK s := by simpa using lok_go s [] lok_nil

/-- how many begin no later -/
def upTo (l : List Int) (at' : Int) : Nat := (l.takeWhile fun x => decide (x ≤ at')).length
theorem upTo_le (l : List Int) (a : Int) : upTo l a ≤ l.length := (List.takeWhile_sublist _).length_le
theorem upTo_eq {a : Int} : ∀ {l : List Int} {i : Nat}, i ≤ l.length → (∀ (m : Nat) x, m < i → l[m]? = some x → x ≤ a) → (∀ x, l[i]? = some x → a < x) → upTo l a = i
  | [], i, h, _, _ => by simp at h; subst h; rfl
  | x :: l, 0, h, h1, h2 => by
    have := h2 x rfl
    have hd : decide (x ≤ a) = false := by simp; omega
    simp [upTo, List.takeWhile_cons, hd]
  | x :: l, i + 1, h, h1, h2 => by
    have := h1 0 x (Nat.zero_lt_succ _) rfl
    have hd : decide (x ≤ a) = true := by simpa using this
    have ih := upTo_eq (a := a) (l := l) (i := i) (by simpa using h) (fun m y hm hy => h1 (m + 1) y (by omega) (by simpa using hy)) (fun y hy => h2 y (by simpa using hy))
    simp only [upTo, List.takeWhile_cons, hd, if_true, List.length_cons] at ih ⊢
    rw [ih]
theorem upTo_lt {a : Int} : ∀ {l : List Int} {m : Nat} {x : Int}, l[m]? = some x → m < upTo l a → x ≤ a
  | [], m, x, h, _ => by simp at h
  | y :: l, m, x, h, hm => by
    by_cases hd : y ≤ a
    · have hd' : decide (y ≤ a) = true := by simpa using hd
      simp only [upTo, List.takeWhile_cons, hd', if_true, List.length_cons] at hm
      cases m with
      | zero => simp at h; omega
      | succ m => exact upTo_lt (l := l) (m := m) (by simpa using h) (by unfold upTo; omega)
    · have hd' : decide (y ≤ a) = false := by simpa using hd
      simp [upTo, List.takeWhile_cons, hd'] at hm
theorem inc_lt {l : List Int} (h : l.Pairwise (· < ·)) {i j : Nat} {x y : Int} (hx : l[i]? = some x) (hy : l[j]? = some y) (hij : i < j) : x < y := by
  obtain ⟨hi, rfl⟩ := List.getElem?_eq_some_iff.1 hx
  obtain ⟨hj, rfl⟩ := List.getElem?_eq_some_iff.1 hy
  exact List.pairwise_iff_getElem.1 h i j hi hj hij
theorem upTo_ge {a : Int} {l : List Int} (hs : l.Pairwise (· < ·)) {m : Nat} {x : Int} (h : l[m]? = some x) (hm : upTo l a ≤ m) : a < x := by
  have hml := (List.getElem?_eq_some_iff.1 h).1
  have hu : upTo l a < l.length := by omega
  have hstop : ∀ {l : List Int}, upTo l a < l.length → ∀ y, l[upTo l a]? = some y → a < y := by
    intro l
    induction l with
    | nil => intro h; simp at h
    | cons z l ih =>
      intro h y hy
      by_cases hd : z ≤ a
      · have hd' : decide (z ≤ a) = true := by simpa using hd
        have e : upTo (z :: l) a = upTo l a + 1 := by simp [upTo, List.takeWhile_cons, hd']
        rw [e] at h hy
        exact ih (by simpa using h) y (by simpa using hy)
      · have hd' : decide (z ≤ a) = false := by simpa using hd
        have e : upTo (z :: l) a = 0 := by simp [upTo, List.takeWhile_cons, hd']
        rw [e] at hy
        simp at hy
        omega
  have h0 := hstop hu _ (List.getElem?_eq_getElem hu)
  rcases Nat.lt_or_ge (upTo l a) m with hlt | hge
  · have := inc_lt hs (List.getElem?_eq_getElem hu) h hlt
    omega
  · have he : upTo l a = m := by omega
    exact hstop hu x (by rw [he]; exact h)

/-- a text, cut at its first line's end -/
theorem indexByte_tw (s : Str) : (Lib.indexByte s 10 = -1 ∧ s.takeWhile lineP = s) ∨ (0 ≤ Lib.indexByte s 10 ∧ Lib.indexByte s 10 < s.length ∧ s.takeWhile lineP = s.take (Lib.indexByte s 10).toNat) := by
  induction s with
  | nil => exact .inl ⟨rfl, rfl⟩
  | cons b s ih =>
    by_cases hb : b = 10
    · subst hb
      right
      have e : Lib.indexByte (10 :: s) 10 = 0 := by simp [Lib.indexByte]
      rw [e]
      refine ⟨by decide, by simp only [List.length_cons]; omega, rfl⟩
    · have hb' : (b == 10) = false := by simpa using hb
      have hl : lineP b = true := by simp [lineP, hb]
      rcases ih with ⟨h1, h2⟩ | ⟨h1, h2, h3⟩
      · left
        refine ⟨by simp [Lib.indexByte, hb', h1], ?_⟩
        rw [List.takeWhile_cons, hl, if_pos rfl, h2]
      · right
        have hne : (Lib.indexByte s 10 == -1) = false := by rw [beq_eq_false_iff_ne]; omega
        have e : Lib.indexByte (b :: s) 10 = Lib.indexByte s 10 + 1 := by simp [Lib.indexByte, hb', hne]
        rw [e]
        refine ⟨by omega, by simp only [List.length_cons]; omega, ?_⟩
        rw [List.takeWhile_cons, hl, if_pos rfl, h3]
        have : (Lib.indexByte s 10 + 1).toNat = (Lib.indexByte s 10).toNat + 1 := by omega
        rw [this, List.take_succ_cons]
end Go.Spl
end
section
namespace Go.Proofs.Ytdcdmojbkmedpaa
set_option linter.unusedSectionVars false
set_option linter.unusedSimpArgs false
set_option linter.unusedVariables false
open Go Go.SX Go.Spl
set_option maxRecDepth 100000
set_option maxHeartbeats 1000000
def cutRes (s : Str) : AV := if Lib.indexByte s 10 < 0 then .tup [.s s, .s [], .b false] else .tup [.s (s.take (Lib.indexByte s 10).toNat), .s (s.drop ((Lib.indexByte s 10) + 1).toNat), .b true]
section
variable [G : Globs]
theorem s_sIdxB (s : Str) (n : Int) : PSpec Try.prog 138 [.s s, .i .u8 n] (.i .i64 (Lib.indexByte s n.toNat.toUInt8)) := by
  refine ⟨Try.call138, fun O w vs hO _ hargs => ?_⟩
  obtain ⟨v0, vs0, rfl, h0, h⟩ := hargs.cons_inv
  obtain ⟨v1, vs1, rfl, h1, h⟩ := h.cons_inv
  obtain rfl := h.nil_inv
  cases h0
  cases h1
  refine (Try.stringslite_IndexByte ⟨s.toArray⟩ n w).mono fun e w' ⟨he, hw⟩ => ?_
  subst he hw
  exact ⟨_, rfl, Stp.refl _ _, .i _ _⟩
theorem w_idx10 (s : Str) : vc Try.prog Γ 143 [0, 1, 4, 5, 6, 7, 8, 9, 10, 11, 12, 13, 16, 24, 31, 36, 59, 64, 73, 93, 107, 114, 132, 139] (Try.f141.body.getD .skip) (postK Γ [.tmp 4] (fun v => v = .i .i64 (Lib.indexByte s 10))) ⟨argSlots 0 [.s s, .s [10]], []⟩ := by
  intro _
  refine And.intro (fun h => ?_) (fun h => absurd h (by decide))
  refine And.intro (fun h => ?_) (fun h => ?_)
  · have e : s = [10] := by have : ([10] : Str) = s := by simpa using h
                            exact this.symm
    show AV.i .i64 0 = AV.i .i64 (Lib.indexByte s 10)
    rw [e]
    rfl
  · refine And.intro (fun h => ?_) (fun h => absurd h (by decide))
    refine And.intro ⟨by decide, by decide⟩ ?_
    refine Or.inl (Exists.intro _ (And.intro (s_sIdxB s 10) ?_))
    show _ = _
    rfl
theorem s_idx10 (s : Str) : PSpec Try.prog 141 [.s s, .s [10]] (.i .i64 (Lib.indexByte s 10)) :=
  pspec_of_vc Γ_good Try.func141 rfl Try.call141 Try.results141 Try.ntmps141 (Nat.le_of_ble_eq_true rfl) (w_idx10 s)
theorem w_cut10 (s : Str) (hs : s.length ≤ 1048576) : vc Try.prog Γ 23 [0, 1, 4, 5, 6, 7, 12] (Try.f139.body.getD .skip) (postK Γ [.tmp 4, .tmp 5, .tmp 6] (fun v => v = cutRes s)) ⟨argSlots 0 [.s s, .s [10]], []⟩ := by
  have hr := indexByte_tw s
  refine Or.inl (Exists.intro _ (And.intro (s_idx10 s) ?_))
  refine And.intro (fun h => ?_) (fun h => ?_)
  · have h0 : 0 ≤ Lib.indexByte s 10 := of_decide_eq_true h
    have h1 : Lib.indexByte s 10 < s.length := by rcases hr with ⟨h1, _⟩ | ⟨_, h1, _⟩; omega; exact h1
    refine Exists.intro [.take 0, .take 1, .take 2, .take 3, .take 4, .take 5, .take 6, .blk [7, 8, 9, 10, 11]] (And.intro (by kernel_rfl) ?_)
    refine And.intro ⟨by omega, by omega, by omega⟩ ?_
    intro _
    refine And.intro ⟨by show (-9223372036854775808 : Int) ≤ Lib.indexByte s 10 + 1; omega, by show Lib.indexByte s 10 + 1 ≤ (9223372036854775807 : Int); omega⟩ ?_
    refine And.intro ⟨by show 0 ≤ Lib.indexByte s 10 + 1; omega, by show Lib.indexByte s 10 + 1 ≤ (s.length : Int); omega, by omega⟩ ?_
    show AV.tup [AV.s ((s.take (Lib.indexByte s 10).toNat).drop (Int.toNat 0)), AV.s ((s.take ((s.length : Int)).toNat).drop (Lib.indexByte s 10 + 1).toNat), AV.b true] = cutRes s
    rw [cutRes, if_neg (by omega)]
    have e : (s.take ((s.length : Int)).toNat) = s := by rw [Int.toNat_natCast, List.take_length]
    rw [e]
    rfl
  · have h0 : ¬ 0 ≤ Lib.indexByte s 10 := of_decide_eq_false h
    show AV.tup [AV.s s, AV.s [], AV.b false] = cutRes s
    rw [cutRes, if_pos (by omega)]
theorem s_cut10 (s : Str) (hs : s.length ≤ 1048576) : PSpec Try.prog 139 [.s s, .s [10]] (cutRes s) :=
  pspec_of_vc Γ_good Try.func139 rfl Try.call139 Try.results139 Try.ntmps139 (Nat.le_of_ble_eq_true rfl) (w_cut10 s hs)
theorem w_cutNl (s : Str) (hs : s.length ≤ 1048576) : vc Try.prog Γ 13 [0, 1, 4, 5, 6] (Try.f134.body.getD .skip) (postK Γ [.tmp 4, .tmp 5, .tmp 6] (fun v => v = cutRes s)) ⟨argSlots 0 [.s s, .s [10]], []⟩ := by
  refine Or.inl (Exists.intro _ (And.intro (s_cut10 s hs) ?_))
  by_cases h : Lib.indexByte s 10 < 0
  · rw [cutRes, if_pos h]
    rfl
  · rw [cutRes, if_neg h]
    rfl
theorem s_cutNl (s : Str) (hs : s.length ≤ 1048576) : PSpec Try.prog 134 [.s s, .s [10]] (cutRes s) :=
  pspec_of_vc Γ_good Try.func134 rfl Try.call134 Try.results134 Try.ntmps134 (Nat.le_of_ble_eq_true rfl) (w_cutNl s hs)
end
end Go.Proofs.Ytdcdmojbkmedpaa
end
section
namespace Go.Proofs.Ytdcdmojbkmedpaa
set_option linter.unusedSectionVars false
set_option linter.unusedSimpArgs false
set_option linter.unusedVariables false
open Go Go.SX Go.Tk
set_option maxRecDepth 100000
set_option maxHeartbeats 0
/-- what is said of internal/bytealg.MaxLen: it holds some number -/
def HasML [G : Globs] : Prop := ∃ (m : Int) (cur : Array Value) (e : TypeId) (fz : Nat × Nat), (1, Obj.cells cur e fz) ∈ G.gl ∧ cur[0]? = some (.int .i64 m)
theorem index_sc (s : Str) : Lib.index s [42, 47] = match findSC s with | none => -1 | some n => (n : Int) := by
  induction s with
  | nil => rfl
  | cons c r ih =>
    unfold Lib.index
    cases r with
    | nil =>
      have h1 : List.isPrefixOf [(42 : UInt8), 47] [c] = false := by simp [List.isPrefixOf]
      rw [h1]
      rfl
    | cons d r =>
      have h1 : List.isPrefixOf [(42 : UInt8), 47] (c :: d :: r) = (c == 42 && d == 47) := by
        simp only [List.isPrefixOf, Bool.and_true]
        rw [BEq.comm (a := (42 : UInt8)), BEq.comm (a := (47 : UInt8))]
      rw [h1, ih]
      simp only [findSC]
      by_cases hc : c = 42 ∧ d = 47
      · rw [if_pos (by simp [hc]), if_pos hc]
        rfl
      · rw [if_neg (by simpa using hc), if_neg hc]
        cases hf : findSC (d :: r) with
        | none => simp
        | some n =>
          simp only [Option.map_some]
          have h2 : ((n : Int) == -1) = false := beq_false_of_ne (by omega)
          rw [h2]
          rfl
theorem front_line (s : Str) : (frontN (fun n => decide (n ≠ 10)) s : Int) = if Lib.indexByte s 10 < 0 then (s.length : Int) else Lib.indexByte s 10 := by
  induction s with
  | nil => rfl
  | cons c r ih =>
    have hge := Lib.indexByte_ge r 10
    unfold Lib.indexByte
    simp only [frontN]
    by_cases hc : c = 10
    · subst hc
      rfl
    · have h1 : decide (by8 c ≠ 10) = true := by
        refine decide_eq_true ?_
        unfold by8
        intro e
        refine hc ?_
        have : c.toNat = 10 := by omega
        exact UInt8.toNat_inj.1 (by rw [this]; rfl)
      have h2 : (c == 10) = false := beq_false_of_ne hc
      rw [if_pos h1, h2]
      simp only [Bool.false_eq_true, if_false, List.length_cons]
      by_cases hi : Lib.indexByte r 10 = -1
      · rw [hi] at ih ⊢
        simp at ih ⊢
        omega
      · have h3 : (Lib.indexByte r 10 == -1) = false := beq_false_of_ne hi
        rw [h3]
        simp only [Bool.false_eq_true, if_false]
        rw [if_neg (by omega)] at ih ⊢
        omega
section
variable [G : Globs]
theorem s_Index (hml : HasML) (s t : Str) (hs : s.length < 4294967281) : PSpec Try.prog 136 [.s s, .s t] (.i .i64 (Lib.index s t)) := by
  refine ⟨Try.call136, fun O w vs hO hG hargs => ?_⟩
  obtain ⟨v0, vs0, rfl, h0, h⟩ := hargs.cons_inv
  obtain ⟨v1, vs1, rfl, h1, h⟩ := h.cons_inv
  obtain rfl := h.nil_inv
  cases h0
  cases h1
  obtain ⟨m, cur, e, fz, hmem, hm⟩ := hml
  have hh := (hG _ hmem).2
  refine (Try.strings_Index ⟨s.toArray⟩ ⟨t.toArray⟩ m w (by simpa [ByteArray.size] using hs) (by simp [World.cell?, hh, hm])).mono fun e w' ⟨he, hw⟩ => ?_
  subst he hw
  exact ⟨_, rfl, Stp.refl _ _, .i _ _⟩
theorem w_hasPre0 (s t : Str) : vc Try.prog Γ 18 [0, 1, 4] (Try.f140.body.getD .skip) (postK Γ [.tmp 4] (fun v => v = .b (decide (t.length ≤ s.length ∧ s.take t.length = t)))) ⟨argSlots 0 [.s s, .s t], []⟩ := by
  intro _ _
  refine And.intro (fun h => ?_) (fun h => ?_)
  · have h : t.length ≤ s.length := by have : (t.length : Int) ≤ s.length := of_decide_eq_true h; omega
    intro _
    refine And.intro ⟨Int.le_refl _, by omega, by omega⟩ ?_
    show AV.b ((s.take (Int.toNat (t.length : Int))).drop (Int.toNat 0) == t) = _
    refine congrArg AV.b ?_
    rw [Int.toNat_natCast, show Int.toNat 0 = 0 from rfl, List.drop_zero, Bool.eq_iff_iff, beq_iff_eq, decide_eq_true_eq]
    exact ⟨fun h9 => ⟨h, h9⟩, fun h9 => h9.2⟩
  · have h : ¬ t.length ≤ s.length := by have : ¬ (t.length : Int) ≤ s.length := of_decide_eq_false h; omega
    exact congrArg AV.b (decide_eq_false fun h9 => h h9.1).symm
theorem s_hasPre0 (s t : Str) : PSpec Try.prog 140 [.s s, .s t] (.b (decide (t.length ≤ s.length ∧ s.take t.length = t))) :=
  pspec_of_vc Γ_good Try.func140 rfl Try.call140 Try.results140 Try.ntmps140 (Nat.le_of_ble_eq_true rfl) (w_hasPre0 s t)
theorem w_hasPre (s t : Str) : vc Try.prog Γ 8 [0, 1, 4] (Try.f135.body.getD .skip) (postK Γ [.tmp 4] (fun v => v = .b (decide (t.length ≤ s.length ∧ s.take t.length = t)))) ⟨argSlots 0 [.s s, .s t], []⟩ := by
  refine Or.inl (Exists.intro _ (And.intro (s_hasPre0 s t) ?_))
  show _ = _
  rfl
theorem s_hasPre (s t : Str) : PSpec Try.prog 135 [.s s, .s t] (.b (decide (t.length ≤ s.length ∧ s.take t.length = t))) :=
  pspec_of_vc Γ_good Try.func135 rfl Try.call135 Try.results135 Try.ntmps135 (Nat.le_of_ble_eq_true rfl) (w_hasPre s t)
theorem pre_note (s : Str) (h : s ≠ []) : (([47, 42] : Str).length ≤ s.length ∧ s.take ([47, 42] : Str).length = [47, 42]) ↔ (s.getD 0 0 = 47 ∧ s.getD 1 0 = 42 ∧ 2 ≤ s.length) := by
  match s with
  | [] => exact absurd rfl h
  | [c] => simp
  | c :: d :: r => simp
theorem w_note (hml : HasML) (s : Str) (h0 : s ≠ []) (hs : s.length ≤ 1000000) : vc Try.prog Γ 28 [0, 2, 3, 6, 9, 20, 25] (Try.f121.body.getD .skip) (postK Γ [.tmp 2] (fun v => v = .i .i64 (note s))) ⟨argSlots 0 [.s s], []⟩ := by
  have hl : 1 ≤ s.length := by cases s with
    | nil => exact absurd rfl h0
    | cons c r => simp
  refine And.intro ⟨by omega, by omega⟩ ?_
  have hfl := front_line s
  have hge := Lib.indexByte_ge s 10
  have hfn := frontN_le (fun n => decide (n ≠ 10)) s
  refine And.intro (fun hq => ?_) (fun hq => ?_)
  · have hq : by8 (s.getD 0 0) = 35 := eq_of_beq hq
    have hq : s.getD 0 0 = 35 := by
      unfold by8 at hq
      exact UInt8.toNat_inj.1 (by show (s.getD 0 0).toNat = 35; omega)
    have hn : note s = frontN (fun n => decide (n ≠ 10)) s := by unfold note; rw [if_pos hq]
    have qc := s_cutNl s (by omega)
    by_cases hi : Lib.indexByte s 10 < 0
    · rw [cutRes, if_pos hi] at qc
      rw [if_pos hi] at hfl
      refine Or.inl (Exists.intro _ (And.intro (qc) ?_))
      intro _
      refine congrArg (AV.i .i64) ?_
      omega
    · rw [cutRes, if_neg hi] at qc
      rw [if_neg hi] at hfl
      refine Or.inl (Exists.intro _ (And.intro (qc) ?_))
      intro _
      refine congrArg (AV.i .i64) ?_
      rw [List.length_take]
      omega
  · have hq : ¬ by8 (s.getD 0 0) = 35 := ne_of_beq_false hq
    have hq : ¬ s.getD 0 0 = 35 := fun e => hq (by rw [e]; rfl)
    refine Or.inl (Exists.intro _ (And.intro (s_hasPre s [47, 42]) ?_))
    have hpn := pre_note s h0
    refine And.intro (fun hp => ?_) (fun hp => ?_)
    · have hp := of_decide_eq_false (Bool.not_eq_true' _ ▸ hp)
      rw [hpn] at hp
      refine congrArg (AV.i .i64) ?_
      unfold note
      rw [if_neg hq, if_neg hp]
      rfl
    · have hp : decide (([47, 42] : Str).length ≤ s.length ∧ s.take ([47, 42] : Str).length = [47, 42]) = true := by simpa using hp
      have hp := of_decide_eq_true hp
      rw [hpn] at hp
      refine And.intro ⟨by omega, by have := hp.2.2; omega, Int.le_refl _⟩ ?_
      have ht : (s.take (Int.toNat (s.length : Int))).drop (Int.toNat 2) = s.drop 2 := by rw [Int.toNat_natCast, List.take_length]; rfl
      have qi := s_Index hml (s.drop 2) [42, 47] (by rw [List.length_drop]; omega)
      rw [index_sc] at qi
      rw [ht]
      cases hf : findSC (s.drop 2) with
      | none =>
        rw [hf] at qi
        have hn : note s = 0 := by unfold note; rw [if_neg hq, if_pos hp, hf]
        refine Or.inl (Exists.intro _ (And.intro (qi) ?_))
        refine And.intro (fun _ => ?_) (fun h9 => absurd h9 (by decide))
        rw [hn]
        rfl
      | some n =>
        rw [hf] at qi
        have hn : note s = n + 4 := by unfold note; rw [if_neg hq, if_pos hp, hf]
        have hb := findSC_le _ _ hf
        rw [List.length_drop] at hb
        refine Or.inl (Exists.intro _ (And.intro (qi) ?_))
        refine And.intro (fun h9 => absurd (of_decide_eq_true h9) (by simp only; omega)) (fun _ => ?_)
        refine And.intro ⟨by simp only; omega, by simp only; omega⟩ ?_
        rw [hn]
        rfl
theorem s_note (hml : HasML) (s : Str) (h0 : s ≠ []) (hs : s.length ≤ 1000000) : PSpec Try.prog 121 [.s s] (.i .i64 (note s)) :=
  pspec_of_vc Γ_good Try.func121 rfl Try.call121 Try.results121 Try.ntmps121 (Nat.le_of_ble_eq_true rfl) (w_note hml s h0 hs)
theorem w_text (s : Str) (hs : s.length ≤ 1000000) : vc Try.prog Γ 29 [0, 2, 3, 4, 8, 15, 20, 22] (Try.f122.body.getD .skip) (postK Γ [.tmp 2] (fun v => v = .i .i64 (text s))) ⟨argSlots 0 [.s s], []⟩ := by
  refine Exists.intro [] (Exists.intro [] (Exists.intro [] (Exists.intro (Bool × Nat) (Exists.intro (fun x => 1 ≤ x.2 ∧ text s = upn x.2 (txt x.1 (s.drop x.2))) (Exists.intro (fun ⟨p, k⟩ => ⟨[(0, .s s), (3, .b p), (4, .i .i64 k)], []⟩) (Exists.intro (fun x => s.length - x.2) (Exists.intro (false, 1) (And.intro ⟨Nat.le_refl _, rfl⟩ (And.intro ?_ ?_)))))))))
  · (repeat' (first | exact trivial | exact Or.inl rfl | exact Or.inr (Or.inl ⟨rfl, _, rfl⟩) | exact Or.inr (Or.inr (Or.inr ⟨_, _, _, rfl, rfl⟩)) | refine And.intro ?_ ?_))
  · rintro ⟨p, k⟩ ⟨hk1, heq⟩
    simp only at hk1 heq
    intro _
    refine And.intro (fun hc => ?_) (fun hc => ?_)
    · have hk : k < s.length := by have : (k : Int) < s.length := of_decide_eq_true hc; omega
      rw [txt_step hk] at heq
      refine And.intro ⟨by omega, by omega⟩ ?_
      refine And.intro (fun hq => ?_) (fun hq => ?_)
      · have hq : by8 (s.getD k 0) = 10 := eq_of_beq hq
        rw [if_pos hq] at heq
        rw [heq]
        rfl
      · have hq : ¬ by8 (s.getD k 0) = 10 := ne_of_beq_false hq
        rw [if_neg hq] at heq
        refine And.intro (fun hp => ?_) (fun hp => ?_)
        · rw [if_pos hp, upn_map] at heq
          refine And.intro ⟨by omega, by omega⟩ ?_
          refine Exists.intro [] (Exists.intro (false, k + 1) (And.intro ⟨by show 1 ≤ k + 1; omega, heq⟩ (And.intro ?_ ?_)))
          · (repeat' (first | exact trivial | exact Or.inl rfl | exact Or.inr (Or.inl ⟨rfl, _, rfl⟩) | exact Or.inr (Or.inr (Or.inr ⟨_, _, _, rfl, rfl⟩)) | refine And.intro ?_ ?_))
          · show s.length - (k + 1) < s.length - k
            omega
        · rw [if_neg (by rw [hp]; decide)] at heq
          refine And.intro ⟨by omega, by omega⟩ ?_
          refine And.intro (fun hq2 => ?_) (fun hq2 => ?_)
          · have hq2 : by8 (s.getD k 0) = 34 := eq_of_beq hq2
            rw [if_pos hq2] at heq
            refine And.intro ⟨by omega, by omega⟩ ?_
            rw [heq]
            rfl
          · have hq2 : ¬ by8 (s.getD k 0) = 34 := ne_of_beq_false hq2
            rw [if_neg hq2, upn_map] at heq
            refine And.intro ⟨by omega, by omega⟩ ?_
            refine And.intro ⟨by omega, by omega⟩ ?_
            refine Exists.intro [] (Exists.intro (decide (by8 (s.getD k 0) = 92), k + 1) (And.intro ⟨by show 1 ≤ k + 1; omega, heq⟩ (And.intro ?_ ?_)))
            · (repeat' (first | exact trivial | exact Or.inl rfl | exact Or.inr (Or.inl ⟨rfl, _, rfl⟩) | exact Or.inr (Or.inr (Or.inr ⟨_, _, _, rfl, rfl⟩)) | refine And.intro ?_ ?_))
            · show s.length - (k + 1) < s.length - k
              omega
    · have hk : s.length ≤ k := by have : ¬ (k : Int) < s.length := of_decide_eq_false hc; omega
      rw [txt_end hk] at heq
      rw [heq]
      rfl
theorem s_text (s : Str) (hs : s.length ≤ 1000000) : PSpec Try.prog 122 [.s s] (.i .i64 (text s)) :=
  pspec_of_vc Γ_good Try.func122 rfl Try.call122 Try.results122 Try.ntmps122 (Nat.le_of_ble_eq_true rfl) (w_text s hs)
theorem w_next (hml : HasML) (s : Str) (h0 : s ≠ []) (hs : s.length ≤ 1000000) : vc Try.prog Γ 40 [0, 2, 3, 7, 9, 23, 28, 32, 37] (Try.f89.body.getD .skip) (postK Γ [.tmp 2, .tmp 3] (fun v => v = .tup [.i .i64 (nx s).1, .i .i64 (nx s).2])) ⟨argSlots 0 [.s s], []⟩ := by
  have hl : 1 ≤ s.length := by cases s with
    | nil => exact absurd rfl h0
    | cons c r => simp
  refine And.intro ⟨by omega, by omega⟩ ?_
  have hb := by8_rng (s.getD 0 0)
  have qk : PSpec Try.prog 120 [.i .u8 (by8 (s.getD 0 0))] (.i .i64 (kindL s)) := s_cls (by8 (s.getD 0 0)) hb.1 hb.2
  refine Or.inl (Exists.intro _ (And.intro (qk) ?_))
  have hnl := note_le s
  have htl := text_le s
  by_cases h14 : kindL s = 1 ∨ kindL s = 4
  · have hnx : nx s = (kindL s, 1 + frontN (fun n => decide (cls n = kindL s)) (s.drop 1)) := by unfold nx; rw [if_pos h14]
    rw [hnx]
    have hcls : ∀ x : Int, 0 ≤ x → x ≤ 255 → PSpec Try.prog 120 [.i .u8 x] (.i .i64 (cls x)) := fun x h0 h1 => s_cls x h0 h1
    generalize kindL s = K at h14
    rcases h14 with hK | hK
    (focus (refine And.intro ?_ (fun h9 => ?_); rotate_left 1; (focus (exfalso; revert h9; first | decide | (simp <;> omega) | (intro h9; simp at h9 <;> omega))); refine fun _ => ?_))
    rotate_left 1
    (focus (refine And.intro (fun h9 => ?_) ?_; (focus (exfalso; revert h9; first | decide | (simp <;> omega) | (intro h9; simp at h9 <;> omega))); refine fun _ => ?_))
    all_goals
      (focus (refine And.intro ?_ (fun h9 => ?_); rotate_left 1; (focus (exfalso; revert h9; first | decide | (simp <;> omega) | (intro h9; simp at h9 <;> omega))); refine fun _ => ?_))
      refine Exists.intro [] (Exists.intro [] (Exists.intro [] (Exists.intro Nat (Exists.intro (fun k => k ≤ s.length ∧ k + frontN (fun n => decide (cls n = K)) (s.drop k) = 1 + frontN (fun n => decide (cls n = K)) (s.drop 1)) (Exists.intro (fun k => ⟨[(0, .s s), (2, .i .i64 K), (3, .i .i64 k)], []⟩) (Exists.intro (fun k => s.length - k) (Exists.intro 1 (And.intro ⟨hl, rfl⟩ (And.intro ?_ ?_)))))))))
      · (repeat' (first | exact trivial | exact Or.inl rfl | exact Or.inr (Or.inl ⟨rfl, _, rfl⟩) | exact Or.inr (Or.inr (Or.inr ⟨_, _, _, rfl, rfl⟩)) | refine And.intro ?_ ?_))
      · rintro k ⟨hk0, heq⟩
        intro _
        refine And.intro (fun hc => ?_) (fun hc => ?_)
        · have hk : k < s.length := by have : (k : Int) < s.length := of_decide_eq_true hc; omega
          rw [frontN_step hk] at heq
          refine And.intro ⟨by omega, by omega⟩ ?_
          have hb := by8_rng (s.getD k 0)
          refine Or.inl (Exists.intro _ (And.intro (hcls (by8 (s.getD k 0)) hb.1 hb.2) ?_))
          refine And.intro (fun hq => ?_) (fun hq => ?_)
          · have hq : cls (by8 (s.getD k 0)) = K := eq_of_beq (show (cls (by8 (s.getD k 0)) == K) = true from hq)
            rw [if_pos (decide_eq_true hq)] at heq
            refine And.intro ⟨by omega, by omega⟩ ?_
            refine Exists.intro [] (Exists.intro (k + 1) (And.intro ⟨hk, by omega⟩ (And.intro ?_ ?_)))
            · (repeat' (first | exact trivial | exact Or.inl rfl | exact Or.inr (Or.inl ⟨rfl, _, rfl⟩) | exact Or.inr (Or.inr (Or.inr ⟨_, _, _, rfl, rfl⟩)) | refine And.intro ?_ ?_))
            · show s.length - (k + 1) < s.length - k
              omega
          · have hq : cls (by8 (s.getD k 0)) ≠ K := ne_of_beq_false (show (cls (by8 (s.getD k 0)) == K) = false from hq)
            rw [if_neg (by rw [decide_eq_false hq]; decide)] at heq
            show AV.tup [.i .i64 K, .i .i64 (k : Int)] = AV.tup [.i .i64 K, .i .i64 ((1 + frontN (fun n => decide (cls n = K)) (s.drop 1) : Nat) : Int)]
            rw [show k = 1 + frontN (fun n => decide (cls n = K)) (s.drop 1) by omega]
        · have hk : k = s.length := by have : ¬ (k : Int) < s.length := of_decide_eq_false hc; omega
          subst hk
          rw [frontN_end (Nat.le_refl _)] at heq
          (focus (refine And.intro (fun h9 => ?_) ?_; (focus (exfalso; revert h9; first | decide | (simp <;> omega) | (intro h9; simp at h9 <;> omega))); refine fun _ => ?_))
          show AV.tup [.i .i64 K, .i .i64 (s.length : Int)] = AV.tup [.i .i64 K, .i .i64 ((1 + frontN (fun n => decide (cls n = K)) (s.drop 1) : Nat) : Int)]
          rw [show s.length = 1 + frontN (fun n => decide (cls n = K)) (s.drop 1) by omega]
  · have h1 : kindL s ≠ 1 := fun e => h14 (.inl e)
    have h4 : kindL s ≠ 4 := fun e => h14 (.inr e)
    (focus (refine And.intro (fun h9 => ?_) ?_; (focus (exfalso; revert h9; first | decide | (simp <;> omega) | (intro h9; simp at h9 <;> omega))); refine fun _ => ?_))
    (focus (refine And.intro (fun h9 => ?_) ?_; (focus (exfalso; revert h9; first | decide | (simp <;> omega) | (intro h9; simp at h9 <;> omega))); refine fun _ => ?_))
    by_cases h3 : kindL s = 3
    · (focus (refine And.intro ?_ (fun h9 => ?_); rotate_left 1; (focus (exfalso; revert h9; first | decide | (simp <;> omega) | (intro h9; simp at h9 <;> omega))); refine fun _ => ?_))
      refine Or.inl (Exists.intro _ (And.intro (s_note hml s h0 hs) ?_))
      by_cases hn : note s = 0
      · have hnx : nx s = (7, 1) := by unfold nx; rw [if_neg h14, if_pos h3, if_pos hn]
        (focus (refine And.intro ?_ (fun h9 => ?_); rotate_left 1; (focus (exfalso; revert h9; first | decide | (simp <;> omega) | (intro h9; simp at h9 <;> omega))); refine fun _ => ?_))
        rw [hnx]
        rfl
      · have hnx : nx s = (3, note s) := by unfold nx; rw [if_neg h14, if_pos h3, if_neg hn]
        (focus (refine And.intro (fun h9 => ?_) ?_; (focus (exfalso; revert h9; first | decide | (simp <;> omega) | (intro h9; simp at h9 <;> omega))); refine fun _ => ?_))
        rw [hnx]
        show AV.tup [.i .i64 (kindL s), .i .i64 (note s : Int)] = _
        rw [h3]
    · (focus (refine And.intro (fun h9 => ?_) ?_; (focus (exfalso; revert h9; first | decide | (simp <;> omega) | (intro h9; simp at h9 <;> omega))); refine fun _ => ?_))
      by_cases h5 : kindL s = 5
      · (focus (refine And.intro ?_ (fun h9 => ?_); rotate_left 1; (focus (exfalso; revert h9; first | decide | (simp <;> omega) | (intro h9; simp at h9 <;> omega))); refine fun _ => ?_))
        refine Or.inl (Exists.intro _ (And.intro (s_text s hs) ?_))
        by_cases hn : text s = 0
        · have hnx : nx s = (7, 1) := by unfold nx; rw [if_neg h14, if_neg h3, if_pos h5, if_pos hn]
          (focus (refine And.intro ?_ (fun h9 => ?_); rotate_left 1; (focus (exfalso; revert h9; first | decide | (simp <;> omega) | (intro h9; simp at h9 <;> omega))); refine fun _ => ?_))
          rw [hnx]
          rfl
        · have hnx : nx s = (5, text s) := by unfold nx; rw [if_neg h14, if_neg h3, if_pos h5, if_neg hn]
          (focus (refine And.intro (fun h9 => ?_) ?_; (focus (exfalso; revert h9; first | decide | (simp <;> omega) | (intro h9; simp at h9 <;> omega))); refine fun _ => ?_))
          rw [hnx]
          show AV.tup [.i .i64 (kindL s), .i .i64 (text s : Int)] = _
          rw [h5]
      · (focus (refine And.intro (fun h9 => ?_) ?_; (focus (exfalso; revert h9; first | decide | (simp <;> omega) | (intro h9; simp at h9 <;> omega))); refine fun _ => ?_))
        have hnx : nx s = (kindL s, 1) := by unfold nx; rw [if_neg h14, if_neg h3, if_neg h5]
        rw [hnx]
        rfl
theorem s_next (hml : HasML) (s : Str) (h0 : s ≠ []) (hs : s.length ≤ 1000000) : PSpec Try.prog 89 [.s s] (.tup [.i .i64 (nx s).1, .i .i64 (nx s).2]) :=
  pspec_of_vc Γ_good Try.func89 rfl Try.call89 Try.results89 Try.ntmps89 (Nat.le_of_ble_eq_true rfl) (w_next hml s h0 hs)
def cutR (s : Str) : AV := if 20000 < s.length then .tup [.nl, .i .i64 2] else .tup [.rd .token (tokens s 0), .i .i64 0]
theorem w_Cut (hml : HasML) (s : Str) : vc Try.prog Γ 35 [0, 2, 3, 4, 5, 6, 7, 10, 14] (Try.f58.body.getD .skip) (postK Γ [.tmp 2, .tmp 3] (fun v => v = cutR s)) ⟨argSlots 0 [.s s], []⟩ := by
  intro _
  refine And.intro (fun hc => ?_) (fun hc => ?_)
  · have hc : (20000 : Int) < s.length := of_decide_eq_true hc
    rw [cutR, if_pos (by omega)]
    show _ = _
    rfl
  · have hc : ¬ (20000 : Int) < s.length := of_decide_eq_false hc
    rw [cutR, if_neg (by omega)]
    refine Exists.intro [(4, 40, .token)] (Exists.intro [] (Exists.intro [] (Exists.intro (List Token × Nat) (Exists.intro (fun x => x.2 ≤ s.length ∧ x.1.length ≤ x.2 ∧ x.1 ++ tokens s x.2 = tokens s 0) (Exists.intro (fun ⟨out, a⟩ => ⟨[(0, .s s), (4, .vec 40 .token out), (5, .i .i64 a)], []⟩) (Exists.intro (fun x => s.length - x.2) (Exists.intro ([], 0) (And.intro ⟨Nat.zero_le _, Nat.le_refl _, rfl⟩ (And.intro ?_ ?_)))))))))
    · (repeat' (first | exact trivial | exact Or.inl rfl | exact Or.inr (Or.inl ⟨rfl, _, rfl⟩) | exact Or.inr (Or.inr (Or.inr ⟨_, _, _, rfl, rfl⟩)) | refine And.intro ?_ ?_))
    · rintro ⟨out, a⟩ ⟨ha, hol, heq⟩
      simp only at ha hol heq
      intro _
      refine And.intro (fun hc => ?_) (fun hc => ?_)
      · have hk : a < s.length := by have : (a : Int) < s.length := of_decide_eq_true hc; omega
        have ht : (s.take (Int.toNat (s.length : Int))).drop (Int.toNat a) = s.drop a := by simp only [Int.toNat_natCast, List.take_length]
        have hnb := nx_bounds (drop_ne hk)
        rw [List.length_drop] at hnb
        have qn := s_next hml (s.drop a) (drop_ne hk) (by rw [List.length_drop]; omega)
        rw [tokens_step hk, ← List.singleton_append, ← List.append_assoc] at heq
        refine And.intro ⟨by omega, by omega, Int.le_refl _⟩ ?_
        rw [ht]
        refine Or.inl (Exists.intro _ (And.intro (qn) ?_))
        refine And.intro ⟨by omega, by omega⟩ ?_
        refine And.intro (by show (out.length + 1) * 24 ≤ _; omega) ?_
        refine And.intro ⟨by omega, by omega⟩ ?_
        refine Exists.intro [(30, 40)] (Exists.intro (out ++ [⟨(nx (s.drop a)).1, a, ((a + (nx (s.drop a)).2 : Nat) : Int)⟩], a + (nx (s.drop a)).2) (And.intro ⟨by show a + (nx (s.drop a)).2 ≤ s.length; omega, by show (out ++ [_]).length ≤ _; rw [List.length_append, List.length_singleton]; show out.length + 1 ≤ a + (nx (s.drop a)).2; omega, heq⟩ (And.intro ?_ ?_)))
        · (repeat' (first | exact trivial | exact Or.inl rfl | exact Or.inr (Or.inl ⟨rfl, _, rfl⟩) | exact Or.inr (Or.inr (Or.inr ⟨_, _, _, rfl, rfl⟩)) | refine And.intro ?_ ?_))
        · show s.length - (a + (nx (s.drop a)).2) < s.length - a
          omega
      · have hk : a = s.length := by have : ¬ (a : Int) < s.length := of_decide_eq_false hc; omega
        subst hk
        rw [tokens_end (Nat.le_refl _), List.append_nil] at heq
        rw [← heq]
        show _ = _
        rfl
theorem s_Cut (hml : HasML) (s : Str) : PSpec Try.prog 58 [.s s] (cutR s) :=
  pspec_of_vc Γ_good Try.func58 rfl Try.call58 Try.results58 Try.ntmps58 (Nat.le_of_ble_eq_true rfl) (w_Cut hml s)
end
end Go.Proofs.Ytdcdmojbkmedpaa
end
