/-
  A part of a proof: plain laws and walks, one after the other. No conditions.
-/
import Derived.Test.YtjbngfnpddhjpaaDoorMe2
import Derived.Orders
import Derived.Test.YtjbngfnpddhjpaaDoorRows
import Derived.Below
import Derived.ChangeSame
import Derived.Deep.Slices
import Derived.Carry
import Derived.DataReads
set_option linter.constructorNameAsVariable false
set_option linter.unusedVariables false
set_option linter.unusedSimpArgs false
set_option linter.unusedSectionVars false
section
namespace Go.SX
set_option linter.unusedSectionVars false
variable [Globs]
section
def CP {α:Type} (f:(α→Prop)→Prop):Prop:=∃ A:α→Prop,∀ K,f K↔∃ v,A v∧K v
variable {α γ:Type}
theorem CP.det {f:(α→Prop)→Prop} (h:CP f) {K:α→Prop} (hk:f K):∃ v,f (fun u=>u = v)∧K v:=by
  obtain ⟨A,hA⟩:=h
  obtain ⟨v,h1,h2⟩:=(hA K).1 hk
  exact ⟨v,(hA _).2 ⟨v,h1,rfl⟩,h2⟩
theorem CP.mon {f:(α→Prop)→Prop} (h:CP f) {K K':α→Prop} (hk:f K) (hi:∀ v,K v→K' v):f K':=by
  obtain ⟨A,hA⟩:=h
  obtain ⟨v,h1,h2⟩:=(hA K).1 hk
  exact (hA _).2 ⟨v,h1,hi v h2⟩
theorem CP.put {f:(α→Prop)→Prop} (h:CP f) {K:α→Prop} {v:α} (hk:f (fun u=>u = v)) (hv:K v):f K:=by
  obtain ⟨A,hA⟩:=h
  obtain ⟨u,h1,rfl⟩:=(hA _).1 hk
  exact (hA K).2 ⟨u,h1,hv⟩
theorem CP.pure {F:(α→Prop)→Prop} (v:α) (e:F = fun K:α→Prop=>K v:=by exact rfl):CP F:=⟨fun u=>u = v,fun K=>by subst e; simp⟩
theorem CP.none {F:(α→Prop)→Prop} (e:F = fun _:α→Prop=>False:=by exact rfl):CP F:=⟨fun _=>False,fun K=>by subst e; simp⟩
theorem CP.of_eq {f:(α→Prop)→Prop} {v:α} (h:∀ K,f K = K v):CP f:=⟨fun u=>u = v,fun K=>by rw [h]; simp⟩
theorem CP.and0 {p:Prop} {f:(α→Prop)→Prop} (h:CP f):CP (fun K=>p∧f K):=by
  obtain ⟨A,hA⟩:=h
  refine ⟨fun v=>p∧A v,fun K=>?_⟩
  show p∧f K↔_
  rw [hA]
  exact ⟨fun ⟨h1,v,h2,h3⟩=>⟨v,⟨h1,h2⟩,h3⟩,fun ⟨v,⟨h1,h2⟩,h3⟩=>⟨h1,v,h2,h3⟩⟩
theorem CP.and {p:Prop} {f F:(α→Prop)→Prop} (h:CP f) (e:F = fun K=>p∧f K:=by exact rfl):CP F:=e ▸ CP.and0 h
theorem CP.chk {b:Bool} {f F:(α→Prop)→Prop} (h:CP f) (e:F = fun K=>chkK b (f K):=by exact rfl):CP F:=by
  subst e
  cases b
  · exact CP.none
  · exact h
theorem CP.bif {b:Bool} {f g F:(α→Prop)→Prop} (h:CP f) (h':CP g) (e:F = fun K=>bif b then f K else g K:=by exact rfl):CP F:=by
  subst e
  cases b
  · exact h'
  · exact h
theorem CP.bind0 {f:(γ→Prop)→Prop} {g:γ→(α→Prop)→Prop} (hf:CP f) (hg:∀ x,CP (g x)):CP (fun K=>f fun x=>g x K):=by
  obtain ⟨A,hA⟩:=hf
  refine ⟨fun v=>∃ x,A x∧g x (fun u=>u = v),fun K=>?_⟩
  show (f fun x=>g x K)↔_
  rw [hA]
  constructor
  · rintro ⟨x,h1,h2⟩
    obtain ⟨v,h3,h4⟩:=(hg x).det h2
    exact ⟨v,⟨x,h1,h3⟩,h4⟩
  · rintro ⟨v,⟨x,h1,h3⟩,h4⟩
    exact ⟨x,h1,(hg x).put h3 h4⟩
theorem CP.bind {f:(γ→Prop)→Prop} {g:γ→(α→Prop)→Prop} {F:(α→Prop)→Prop} (hf:CP f) (hg:∀ x,CP (g x)) (e:F = fun K=>f fun x=>g x K:=by exact rfl):CP F:=e ▸ CP.bind0 hf hg
theorem CP.as {f F:(α→Prop)→Prop} (h:CP f) (e:F = f:=by exact rfl):CP F:=e ▸ h
theorem CP.ti (Γ:Ctx) (t:Nat):CP (tiK Γ t):=by
  induction Γ with
  | nil=>exact CP.none
  | cons p r ih=>obtain ⟨m,u⟩:=p; exact CP.bif (CP.pure u) ih
theorem CP.nth {l:List α} {n:Nat}:CP (nthK l n):=⟨fun v=>l[n]? = some v,fun K=>nthK_iff l n K⟩
theorem CP.take {l:List α} {n:Nat}:CP (takeK n l):=⟨fun v=>n≤l.length∧v = l.take n,fun K=>by
  rw [takeK_iff]
  exact ⟨fun ⟨h1,h2⟩=>⟨_,⟨h1,rfl⟩,h2⟩,fun ⟨_,⟨h1,e⟩,h2⟩=>⟨h1,e ▸ h2⟩⟩⟩
theorem CP.evK (s:St) (x:Operand):CP (evK s x):=CP.of_eq (evK_eq s x)
theorem CP.evsK (s:St) (l:List Operand):CP (evsK s l):=CP.of_eq (evsK_eq s l)
theorem CP.structK (d:TD):CP (structK d):=by cases d<;>first | exact CP.pure _ | exact CP.none
theorem CP.sliceTK (d:TD):CP (sliceTK d):=by cases d<;>first | exact CP.pure _ | exact CP.none
theorem CP.intK (v:AV):CP (intK v):=by cases v<;>first | exact CP.pure _ | exact CP.none
theorem CP.arith (k:IntKind) (n:Int):CP (arithK k n):=by
  unfold arithK
  cases k.signed with
  | true=>exact CP.and (CP.pure _)
  | false=>exact CP.pure _
theorem CP.intBin (op:BinOp) (k:IntKind) (a c:Int):CP (intBinK op k a c):=by
  cases op<;>first | exact CP.none | exact CP.pure _ | exact CP.arith _ _ | exact CP.and (CP.pure _) | exact CP.and (CP.and (CP.pure _))
theorem CP.strBin (op:BinOp) (a c:Str):CP (strBinK op a c):=by
  cases op<;>first | exact CP.none | exact CP.pure _ | exact CP.and (CP.pure _)
theorem CP.bin (op:BinOp) (a c:AV):CP (binK op a c):=by
  cases a with
  | i k n =>
    cases c with
    | i k' m=>cases op<;>first | exact CP.and (CP.pure _) | exact CP.bif (CP.intBin _ _ _ _) CP.none
    | _=>exact CP.none
  | s a=>cases c<;>first | exact CP.strBin _ _ _ | exact CP.none
  | _=>exact CP.none
theorem CP.boolBin (op:BinOp) (a c:Bool):CP (boolBinK op a c):=by cases op<;>first | exact CP.none | exact CP.pure _
theorem CP.nth' {α:Type} (l:List α):∀ n,CP (nthK l n):=by
  induction l with
  | nil=>intro n; exact CP.none
  | cons a r ih=>intro n; cases n with
    | zero=>exact CP.pure _
    | succ n=>exact ih n
theorem CP.cellEq (k:EK) (a c:AV):CP (cellEqK k a c):=by
  cases k<;>cases a<;>cases c<;>first | exact CP.none | exact CP.pure _ | exact CP.chk (CP.pure _)
theorem CP.aggEq (ks:List EK):∀ (fl:List (Nat × Nat)) (cs ds:List AV),CP (aggEqK ks fl cs ds):=by
  induction ks with
  | nil=>intro fl cs ds; cases fl<;>first | exact CP.pure _ | exact CP.none
  | cons k ks ih=>intro fl cs ds; cases fl with
    | nil=>exact CP.none
    | cons p fl=>exact CP.bind (CP.nth' _ _) fun _=>CP.bind (CP.nth' _ _) fun _=>CP.bind (CP.cellEq _ _ _) fun _=>CP.bind (ih _ _ _) fun _=>CP.pure _
theorem CP.aggBin (op:BinOp) (b:Bool):CP (aggBinK op b):=by cases op<;>first | exact CP.pure _ | exact CP.none
theorem CP.structFK (d:TD):CP (structFK d):=by cases d<;>first | exact CP.pure _ | exact CP.none
theorem CP.binT (Γ:Ctx) (op:BinOp) (t:TypeId) (a c:AV):CP (binTK Γ op t a c):=by
  have h:(∀ x,a≠.b x)→(∀ x,a≠.agg x)→binTK Γ op t a c = binK op a c:=by intro h h'; cases a<;>first | rfl | exact absurd rfl (h _) | exact absurd rfl (h' _)
  cases a with
  | b x =>
    cases c with
    | b y=>exact CP.bind (CP.ti Γ t) fun ti=>CP.chk (b:=isBoolT ti.desc) (CP.boolBin op x y)
    | _=>exact CP.none
  | agg cs =>
    cases c with
    | agg ds=>exact CP.bind (CP.ti Γ t) fun ti=>CP.bind (CP.structFK ti.desc) fun fl=>CP.chk (b:=!ti.eqs.isEmpty) (CP.bind (CP.aggEq ti.eqs fl cs ds) fun b=>CP.aggBin op b)
    | _=>exact CP.none
  | _=>rw [h (by intro x e; cases e) (by intro x e; cases e)]; exact CP.bin op _ _
theorem CP.or {f g:(α→Prop)→Prop} (hf:CP f) (hg:CP g):CP (fun K=>f K∨g K):=by
  obtain ⟨A,hA⟩:=hf
  obtain ⟨B,hB⟩:=hg
  refine ⟨fun v=>A v∨B v,fun K=>?_⟩
  show (f K∨g K)↔∃ v,(A v∨B v)∧K v
  rw [hA K,hB K]
  constructor
  · rintro (⟨v,h1,h2⟩ | ⟨v,h1,h2⟩)
    · exact ⟨v,.inl h1,h2⟩
    · exact ⟨v,.inr h1,h2⟩
  · rintro ⟨v,h1 | h1,h2⟩
    · exact .inl ⟨v,h1,h2⟩
    · exact .inr ⟨v,h1,h2⟩
theorem CP.neg (k:IntKind) (n:Int):CP (negK k n):=by
  unfold negK
  split
  · exact CP.or (CP.arith _ _) (CP.pure _)
  · exact CP.arith _ _
theorem CP.un (op:UnOp) (a:AV):CP (unK op a):=by
  cases a with
  | b x=>cases op<;>first | exact CP.pure _ | exact CP.none
  | i k n=>cases op<;>first | exact CP.pure _ | exact CP.none | exact CP.neg _ _
  | _=>exact CP.none
theorem CP.pick (c a b:AV):CP (pickK c a b):=by
  cases c with
  | b x =>
    cases a<;>cases b<;>first | exact CP.pure _ | exact CP.bif (CP.pure _) (CP.pure _)
  | _=>exact CP.none
theorem CP.conv (d:TD) (a:AV):CP (convK d a):=by
  cases d with
  | int k=>cases a<;>first | exact CP.pure _ | exact CP.none
  | str=>cases a<;>first | exact CP.pure _ | exact CP.none
  | _=>exact CP.none
theorem CP.forceL (l:List AV):CP (forceL l):=CP.of_eq (forceL_eq l)
theorem CP.faddr (off:Nat) (a:AV):CP (faddrK off a):=by
  cases a<;>first | exact CP.pure _ | exact CP.none | exact CP.bind (CP.forceL _) fun _=>CP.pure _
theorem CP.plain (l:List AV):CP (plainCK l):=CP.of_eq (plainCK_eq l)
theorem CP.pack (b:Bool) (l:List AV):CP (packK b l):=by
  cases b with
  | true =>
    have e:packK true l = fun K=>match anyVec l with
      | true=>chkK (noFn0 l) (K (.ag 0 l))
      | false=>plainCK l fun l=>K (.agg l):=rfl
    rw [e]
    cases anyVec l with
    | true=>exact CP.chk (CP.pure _)
    | false=>exact CP.bind (CP.plain l) fun _=>CP.pure _
  | false =>
    match l with
    | []=>exact CP.none
    | [v]=>exact CP.pure v
    | _::_::_=>exact CP.none
theorem CP.one (l : List AV) : CP (fun K : AV → Prop => match l with
    | [v]=>K v
    | _=>False):=by
  match l with
  | []=>exact CP.none
  | [v]=>exact CP.pure v
  | _::_::_=>exact CP.none
theorem CP.field (off sz:Nat) (a:AV):CP (fieldK off sz a):=by
  cases a with
  | agg cs=>exact CP.bind CP.take CP.one
  | _=>exact CP.none
theorem CP.extract (i:Nat) (a:AV):CP (extractK i a):=by
  cases a with
  | ag k cs =>
    cases k with
    | zero=>exact CP.none
    | succ k =>
      cases i with
      | zero=>exact CP.bind (CP.take (l:=cs) (n:=k + 1)) (fun l=>CP.pure (AV.ag 0 l))
      | succ i=>exact CP.nth
  | tup cs=>exact CP.nth
  | _=>exact CP.none
theorem CP.iaddr (n:Int) (c:Nat) (a:AV):CP (iaddrK n c a):=by
  cases a with
  | ob i i2 o=>cases o<;>first | exact CP.none | exact CP.chk (CP.and (CP.pure _))
  | _=>first | exact CP.none | exact CP.chk (CP.and (CP.bind (CP.forceL _) fun _=>CP.pure _)) | exact CP.chk (CP.and (CP.pure _))
theorem CP.arrAddr (n:Int) (l c:Nat) (a:AV):CP (arrAddrK n l c a):=by cases a<;>first | exact CP.none | exact CP.and (CP.pure _) | exact CP.chk (CP.chk (CP.chk (CP.and (CP.pure _))))
theorem CP.arrIdx (n:Int) (l c:Nat) (b:Bool) (a:AV):CP (arrIdxK n l c b a):=by cases a<;>first | exact CP.none | exact CP.chk (CP.chk (CP.and CP.nth))
theorem CP.strIndex (n:Int) (a:AV):CP (strIndexK n a):=by cases a<;>first | exact CP.none | exact CP.and (CP.pure _)
theorem CP.nilChk (a:AV):CP (nilChkK a):=by cases a<;>first | exact CP.none | exact CP.pure _
theorem CP.fnK (f:Fn) (n m:Nat):CP (fnK f n m):=by cases f<;>cases n<;>cases m<;>first | exact CP.none | exact CP.pure _
theorem CP.min (l:List AV):CP (minK l):=by
  match l with
  | []=>exact CP.none
  | [v]=>cases v<;>exact CP.none
  | [a,b]=>cases a<;>cases b<;>first | exact CP.none | exact CP.chk (CP.pure _)
  | a::b::_::_=>cases a<;>cases b<;>exact CP.none
theorem CP.max (l:List AV):CP (maxK l):=by
  match l with
  | []=>exact CP.none
  | [v]=>cases v<;>exact CP.none
  | [a,b]=>cases a<;>cases b<;>first | exact CP.none | exact CP.chk (CP.pure _)
  | a::b::_::_=>cases a<;>cases b<;>exact CP.none
theorem CP.bound (s:St) (x:Option Operand) (d:Int):CP (boundK s x d):=by
  cases x with
  | none=>exact CP.pure _
  | some x=>exact CP.bind (CP.evK s x) fun _=>CP.intK _
theorem CP.strSlice (s:St) (lo hi:Option Operand) (a:AV):CP (strSliceK s lo hi a):=by
  cases a<;>first | exact CP.none | exact CP.bind (CP.bound _ _ _) fun _=>CP.bind (CP.bound _ _ _) fun _=>CP.and (CP.pure _)
theorem CP.rdSlice (s:St) (c:Nat) (lo hi:Option Operand) (a:AV):CP (rdSliceK s c lo hi a):=by
  cases a with
  | rd τ l=>exact CP.chk (CP.bind (CP.bound _ _ _) fun _=>CP.bind (CP.bound _ _ _) fun _=>CP.and (CP.pure _))
  | vec id τ l =>
    cases hi with
    | none=>exact CP.chk (CP.bind (CP.bound _ _ _) fun _=>CP.and (CP.pure _))
    | some _=>exact CP.chk (CP.bind (CP.bound _ _ _) fun _=>CP.bind (CP.bound _ _ _) fun _=>CP.and (CP.pure _))
  | vs id τ l k =>
    cases hi with
    | none=>exact CP.chk (CP.bind (CP.bound _ _ _) fun _=>CP.and (CP.pure _))
    | some _=>exact CP.chk CP.none
  | _=>exact CP.none
theorem CP.vecsOf (l:List AV):CP (vecsOfK l):=CP.of_eq (vecsOfK_eq l)
theorem CP.opVecs (s:St) (l:List (Nat × Operand)):CP (opVecsK s l):=CP.of_eq (opVecsK_eq s l)
theorem CP.ofVals (l:List Value):CP (ofValsK l):=CP.of_eq (ofValsK_eq l)
theorem CP.parts (s:St) (l:List (Nat × Operand)):CP (partsK s l):=CP.of_eq (partsK_eq s l)
theorem CP.cells (a:AV):CP (cellsK a):=by
  cases a with
  | ag k cs=>cases k<;>first | exact CP.none | exact CP.pure _
  | _=>first | exact CP.none | exact CP.pure _
theorem CP.splice (l:List α):∀ (o:Nat) (v:List α),CP (spliceK l o v):=by
  induction l with
  | nil=>intro o v; cases o<;>cases v<;>first | exact CP.none | exact CP.pure _
  | cons a r ih =>
    intro o v
    cases o with
    | zero =>
      cases v with
      | nil=>exact CP.pure _
      | cons b vs=>exact CP.bind (ih 0 vs) fun _=>CP.pure _
    | succ o=>exact CP.bind (ih o v) fun _=>CP.pure _
theorem CP.fill {pl:Nat→(Nat × Nat→Prop)→Prop} (h:∀ i,CP (pl i)) (l:List (Nat × AV)):∀ cells,CP (fillK pl cells l):=by
  induction l with
  | nil=>intro cells; exact CP.pure _
  | cons p r ih =>
    obtain ⟨i,v⟩:=p
    intro cells
    exact CP.bind (h i) fun d=>CP.bind (CP.cells v) fun cs=>CP.chk (CP.bind (CP.splice _ _ _) fun c=>ih c)

/-! ### the calm operations -/
def nilK (l:List Nat) (K:Prop):Prop:=match l with
  | []=>K
  | _::_=>False
theorem nilK_iff (l:List Nat) (K:Prop):nilK l K↔l = []∧K:=by cases l<;>simp [nilK]
theorem CP.nil {l:List Nat} {f F:(α→Prop)→Prop} (h:CP f) (e:F = fun K=>nilK l (f K):=by exact rfl):CP F:=by
  subst e
  cases l
  · exact h
  · exact CP.none
def loadCK (Γ:Ctx) (s:St) (t:TypeId):AV→(AV→Prop)→Prop
  | .pt n o,K=>lookBK s.boxes n fun cs=>tiK Γ t fun ti=>takeK ti.cells (cs.drop o) fun l=>match isStruct ti.desc with
    | true=>vecsOfK l fun ids=>nilK ids (packK true l K)
    | false=>packK false l K
  | .rp cs,K=>tiK Γ t fun ti=>takeK ti.cells cs fun l=>packK (isStruct ti.desc) l K
  | .vp _ τ l n o,K=>tiK Γ t fun ti=>takeK ti.cells ((enc τ (l.getD n (dflt τ))).drop o) fun l=>packK (isStruct ti.desc) l K
  | _,_=>False
def selK (l:List Nat) (A B:Prop):Prop:=match l with
  | []=>A
  | _::_=>B
theorem CP.sel {l:List Nat} {f g:(α→Prop)→Prop} (h:CP f) (k:CP g):CP (fun K=>selK l (f K) (g K)):=by
  cases l
  · exact h
  · exact k
theorem imAll_rd {b:List (Nat × List AV)} {vs:List AV} (h:imAll vs = true):imAll (rdAll b vs) = true:=by
  induction vs with
  | nil=>rfl
  | cons v r ih =>
    simp only [imAll] at h
    cases hx:imB v with
    | false=>rw [hx] at h; cases h
    | true =>
      rw [hx] at h
      have:imB (rdOf b v) = true:=by cases v<;>first | rfl | (cases hx; done)
      simp only [rdAll,imAll,this,cond_true]
      exact ih h
def callGK (P:Program) (vs:List AV):AV→(AV→Prop)→Prop
  | .fn g caps,K=>chkK (imAll vs) (chkK (fnArgs vs) (chkK (imAll caps) (∃ r,PSpec P g (callArgs vs caps) r∧K r)))
  | _,_=>False
def rdNeed (vs:List AV):List Nat:=bif fnArgs vs then vecsOf vs else [0]
def callCK (P:Program) (s:St) (f:Operand) (args:List Operand) (K:AV→Prop):Prop :=
  evsK s args fun vs=>selK (rdNeed vs) (evK s f fun fv=>callGK P vs fv K) (evK s f fun fv=>readGK P s.boxes vs fv K)
def buildCK (Γ:Ctx) (s:St) (t:TypeId) (ps:List (Nat × Operand)) (K:AV→Prop):Prop :=
  opVecsK s ps fun ids=>nilK ids (tiK Γ t fun ti=>structK ti.desc fun fl=>ofValsK ti.zero fun z=>partsK s ps fun l=>fillK (nthK fl) z l fun cs=>plainCK cs fun cs=>K (.agg cs))
def bsliceCK (Γ:Ctx) (s:St) (t:TypeId) (len:Nat) (ps:List (Nat × Operand)) (K:AV→Prop):Prop :=
  opVecsK s ps fun ids=>nilK ids (tiK Γ t fun ti=>sliceTK ti.desc fun e=>tiK Γ e fun te=>tyK te.ty fun τ =>
    chkK (Nat.beq te.cells (esz τ)) (chkK (Nat.ble (len * te.cells) 16777216) (partsK s ps fun l=>fillK (fun i K=>K (i * te.cells,te.cells)) (xs (len * te.cells)) l fun cs=>plainCK cs fun cs =>
      optK (decs τ len cs) fun l=>K (.rd τ l))))
def lenCK:TD→List AV→(AV→Prop)→Prop
  | .slice _,[.nl],K=>K (.i .i64 0)
  | .slice _,[.rd _ l],K=>K (.i .i64 (l.length:Int))
  | .slice _,[.vec _ _ l],K=>K (.i .i64 (l.length:Int))
  | .slice _,[.vs _ _ l k],K=>K (.i .i64 ((l.length - k:Nat):Int))
  | .str,[.s l],K=>K (.i .i64 (l.length:Int))
  | _,_,_=>False
theorem CP.len (d:TD) (l:List AV):CP (lenCK d l):=by
  cases d with
  | slice e =>
    cases l with
    | nil=>exact CP.none
    | cons v r =>
      cases r with
      | nil=>cases v<;>first | exact CP.none | exact CP.pure _
      | cons _ _=>cases v<;>exact CP.none
  | str =>
    cases l with
    | nil=>exact CP.none
    | cons v r =>
      cases r with
      | nil=>cases v<;>first | exact CP.none | exact CP.pure _
      | cons _ _=>cases v<;>exact CP.none
  | _=>exact CP.none
theorem len_of {d:TD} {l:List AV} {K:AV→Prop} (h:lenCK d l K):lenVK d l K:=by
  cases d with
  | slice e =>
    cases l with
    | nil=>exact h.elim
    | cons v r =>
      cases r with
      | nil=>cases v<;>first | exact h.elim | exact h | exact fun _=>h | exact fun _ _=>h
      | cons _ _=>cases v<;>exact h.elim
  | str =>
    cases l with
    | nil=>exact h.elim
    | cons v r =>
      cases r with
      | nil=>cases v<;>first | exact h.elim | exact fun _=>h
      | cons _ _=>cases v<;>exact h.elim
  | _=>exact h.elim
def calleeCK (P:Program) (Γ:Ctx) (s:St) (args:List Operand) (ts:List TypeId) (K:AV→Prop):Callee→Prop
  | .value f=>callCK P s f args K
  | .builtin .len=>evsK s args fun l=>nthK ts 0 fun t=>tiK Γ t fun ti=>lenCK ti.desc l K
  | .builtin .min=>evsK s args fun l=>minK l K
  | .builtin .max=>evsK s args fun l=>maxK l K
  | _=>False
theorem CP.idxAddr (Γ:Ctx) (n:Int) (a:AV) (d:TD):CP (fun K=>idxAddrK Γ n a K d):=by
  cases d<;>first | exact CP.none | exact CP.bind (CP.ti _ _) fun _=>CP.iaddr _ _ _ | exact CP.bind (CP.ti _ _) fun _=>CP.arrAddr _ _ _ _
theorem CP.idxVal (Γ:Ctx) (n:Int) (a:AV) (d:TD):CP (fun K=>idxValK Γ n a K d):=by
  cases d<;>first | exact CP.none | exact CP.strIndex _ _ | exact CP.bind (CP.ti _ _) fun _=>CP.arrIdx _ _ _ _ _
def convCK (Γ:Ctx):TD→TD→AV→(AV→Prop)→Prop
  | .slice e,.str,.rd .u8 l,K=>tiK Γ e fun te=>chkK (isU8T te.desc) (K (.s (l.map ofB)))
  | _,d,a,K=>convK d a K
theorem CP.convC (Γ:Ctx) (sd d:TD) (a:AV):CP (convCK Γ sd d a):=by
  by_cases h:∃ e l,sd = .slice e∧d = .str∧a = .rd .u8 l
  · obtain ⟨e,l,rfl,rfl,rfl⟩:=h
    exact CP.bind (CP.ti Γ e) fun te=>CP.chk (CP.pure _)
  · have e : convCK Γ sd d a = convK d a := by
      funext K
      unfold convCK
      split
      · exact absurd ⟨_,_,rfl,rfl,rfl⟩ h
      · rfl
    rw [e]; exact CP.conv d a
theorem convC_of {Γ:Ctx} {sd d:TD} {a:AV} {K:AV→Prop} (h:convCK Γ sd d a K):convAK Γ sd d a K:=by
  unfold convCK at h
  split at h
  · exact h
  · exact convA_of h
def calmK (P:Program) (Γ:Ctx) (s:St) (op:Op) (K:AV→Prop):Prop :=
  match op with
  | .load t x=>evK s x fun p=>loadCK Γ s t p K
  | .build t ps=>buildCK Γ s t ps.toList K
  | .buildSlice t len ps=>bsliceCK Γ s t len ps.toList K
  | .call c=>calleeCK P Γ s c.args.toList c.argTypes.toList K c.callee
  | .move x=>evK s x K
  | .assign x=>evK s x K
  | .pick c a b=>evK s c fun c=>evK s a fun a=>evK s b fun b=>pickK c a b K
  | .binOp op t x y _=>evK s x fun a=>evK s y fun b=>binTK Γ op t a b K
  | .unOp op _ x=>evK s x fun a=>unK op a K
  | .convert src dst x=>evK s x fun a=>tiK Γ src fun ts=>tiK Γ dst fun ti=>convCK Γ ts.desc ti.desc a K
  | .fieldAddr t x f=>evK s x fun p=>tiK Γ t fun ti=>structK ti.desc fun fl=>nthK fl f fun d=>match d with | (off,_)=>faddrK off p K
  | .field t x f=>evK s x fun p=>tiK Γ t fun ti=>structK ti.desc fun fl=>nthK fl f fun d=>match d with | (off,sz)=>fieldK off sz p K
  | .extract x i=>evK s x fun p=>extractK i p K
  | .indexAddr t x i=>evK s x fun a=>evK s i fun n=>intK n fun n=>tiK Γ t fun ti=>idxAddrK Γ n a K ti.desc
  | .index t x i=>evK s x fun a=>evK s i fun n=>intK n fun n=>tiK Γ t fun ti=>idxValK Γ n a K ti.desc
  | .nilCheck x=>evK s x fun p=>nilChkK p K
  | .slice t x lo hi mx=>match mx with
    | none=>evK s x fun a=>tiK Γ t fun ti=>match isStrT ti.desc with
      | true=>strSliceK s lo hi a K
      | false=>sliceTK ti.desc fun e=>tiK Γ e fun te=>rdSliceK s te.cells lo hi a K
    | some _=>False
  | _=>False
theorem CP.lookB (l:List (Nat × List AV)) (n:Nat):CP (lookBK l n):=⟨fun cs=>SX.lookB l n = some cs,fun K=>lookBK_iff l n K⟩
theorem CP.load (Γ:Ctx) (s:St) (t:TypeId) (a:AV):CP (loadCK Γ s t a):=by
  cases a<;>first | exact CP.none | skip
  · exact CP.bind (CP.ti _ _) fun _=>CP.bind CP.take fun _=>CP.pack _ _
  · refine CP.bind (CP.lookB _ _) fun cs=>CP.bind (CP.ti _ _) fun ti=>CP.bind CP.take fun l=>?_
    cases isStruct ti.desc with
    | true=>exact CP.bind (CP.vecsOf l) fun ids=>CP.nil (CP.pack _ _)
    | false=>exact CP.pack _ _
  · exact CP.bind (CP.ti _ _) fun _=>CP.bind CP.take fun _=>CP.pack _ _
theorem CP.callG (P:Program) (vs:List AV) (f:AV):CP (callGK P vs f):=by
  cases f<;>first | exact CP.none | exact CP.chk (CP.chk (CP.chk ⟨fun r=>PSpec P _ _ r,fun K=>Iff.rfl⟩))
theorem readG_iff {P:Program} {g:FuncId} {asg:List AV} {K:AV→Prop}:(∃ r,PSpec P g asg r∧chkK (grB r) (K r))↔∃ r,(PSpec P g asg r∧grB r = true)∧K r:=by
  constructor
  · rintro ⟨r,h1,h2⟩
    obtain ⟨h3,h4⟩:=(chkK_iff _ _).1 h2
    exact ⟨r,⟨h1,h3⟩,h4⟩
  · rintro ⟨r,⟨h1,h3⟩,h4⟩
    exact ⟨r,h1,(chkK_iff _ _).2 ⟨h3,h4⟩⟩
theorem CP.readG0 (P:Program) (g:FuncId) (asg:List AV):CP fun K=>∃ r,PSpec P g asg r∧chkK (grB r) (K r):=⟨fun r=>PSpec P g asg r∧grB r = true,fun _=>readG_iff⟩
theorem CP.readG (P:Program) (b:List (Nat × List AV)) (vs:List AV) (f:AV):CP (readGK P b vs f):=by
  cases f with
  | fn g caps=>exact CP.chk (CP.chk (CP.chk (CP.readG0 P g (callArgs (rdAll b vs) (rdBL b caps)))))
  | _=>exact CP.none
theorem CP.call (P:Program) (s:St) (f:Operand) (args:List Operand):CP (callCK P s f args) :=
  CP.bind (CP.evsK s args) fun vs=>CP.sel (CP.bind (CP.evK s f) fun fv=>CP.callG P vs fv) (CP.bind (CP.evK s f) fun fv=>CP.readG P s.boxes vs fv)
theorem CP.build (Γ:Ctx) (s:St) (t:TypeId) (ps:List (Nat × Operand)):CP (buildCK Γ s t ps) :=
  CP.bind (CP.opVecs s ps) fun ids => CP.nil (CP.bind (CP.ti Γ t) fun ti => CP.bind (CP.structK ti.desc) fun fl => CP.bind (CP.ofVals ti.zero) fun z => CP.bind (CP.parts s ps) fun l =>
      CP.bind (CP.fill (pl:=nthK fl) (fun _=>CP.nth) l z) fun cs=>CP.bind (CP.plain cs) fun cs=>CP.pure (AV.agg cs))
theorem CP.opt {o:Option α}:CP (optK o):=⟨fun v=>o = some v,fun K=>optK_iff o K⟩
theorem CP.ty {o:Option Ty}:CP (tyK o):=⟨fun v=>o = some v,fun K=>tyK_iff o K⟩
theorem CP.bslice (Γ:Ctx) (s:St) (t:TypeId) (len:Nat) (ps:List (Nat × Operand)):CP (bsliceCK Γ s t len ps) :=
  CP.bind (CP.opVecs s ps) fun ids=>CP.nil (CP.bind (CP.ti Γ t) fun ti=>CP.bind (CP.sliceTK ti.desc) fun e=>CP.bind (CP.ti Γ e) fun te=>CP.bind (CP.ty (o:=te.ty)) fun τ =>
    CP.chk (b:=Nat.beq te.cells (esz τ)) (CP.chk (b:=Nat.ble (len * te.cells) 16777216) (CP.bind (CP.parts s ps) fun l=>CP.bind (CP.fill (pl:=fun i K=>K (i * te.cells,te.cells)) (fun _=>CP.pure _) l (xs (len * te.cells))) fun cs =>
      CP.bind (CP.plain cs) fun cs=>CP.bind (CP.opt (o:=decs τ len cs)) fun l=>CP.pure (AV.rd τ l))))
theorem CP.callee (P:Program) (Γ:Ctx) (s:St) (args:List Operand) (ts:List TypeId) (c:Callee):CP (fun K=>calleeCK P Γ s args ts K c):=by
  cases c with
  | value f=>exact CP.call P s f args
  | builtin b=>cases b<;>first | exact CP.none | exact CP.bind (CP.evsK s args) fun _=>CP.min _ | exact CP.bind (CP.evsK s args) fun _=>CP.max _ | exact CP.bind (CP.evsK s args) fun _=>CP.bind CP.nth fun t=>CP.bind (CP.ti Γ t) fun _=>CP.len _ _
  | invoke r m=>exact CP.none
theorem calm_cp (P:Program) (Γ:Ctx) (s:St) (op:Op):CP (calmK P Γ s op):=by
  cases op with
  | load t x=>exact CP.bind (CP.evK _ _) fun _=>CP.load _ _ _ _
  | build t ps=>exact CP.build _ _ _ _
  | buildSlice t len ps=>exact CP.bslice _ _ _ _ _
  | call c=>exact CP.callee _ _ _ _ _ _
  | move x=>exact CP.evK _ _
  | assign x=>exact CP.evK _ _
  | pick c a b=>exact CP.bind (CP.evK _ _) fun _=>CP.bind (CP.evK _ _) fun _=>CP.bind (CP.evK _ _) fun _=>CP.pick _ _ _
  | binOp op t x y ty=>exact CP.bind (CP.evK _ _) fun _=>CP.bind (CP.evK _ _) fun _=>CP.binT _ _ _ _ _
  | unOp op t x=>exact CP.bind (CP.evK _ _) fun _=>CP.un _ _
  | convert a b x=>exact CP.bind (CP.evK _ _) fun _=>CP.bind (CP.ti _ _) fun _=>CP.bind (CP.ti _ _) fun _=>CP.convC _ _ _ _
  | fieldAddr t x f=>exact CP.bind (CP.evK _ _) fun _=>CP.bind (CP.ti _ _) fun _=>CP.bind (CP.structK _) fun _=>CP.bind CP.nth fun d=>CP.faddr _ _
  | field t x f=>exact CP.bind (CP.evK _ _) fun _=>CP.bind (CP.ti _ _) fun _=>CP.bind (CP.structK _) fun _=>CP.bind CP.nth fun d=>CP.field _ _ _
  | extract x i=>exact CP.bind (CP.evK _ _) fun _=>CP.extract _ _
  | indexAddr t x i=>exact CP.bind (CP.evK _ _) fun _=>CP.bind (CP.evK _ _) fun _=>CP.bind (CP.intK _) fun _=>CP.bind (CP.ti _ _) fun _=>CP.idxAddr _ _ _ _
  | index t x i=>exact CP.bind (CP.evK _ _) fun _=>CP.bind (CP.evK _ _) fun _=>CP.bind (CP.intK _) fun _=>CP.bind (CP.ti _ _) fun _=>CP.idxVal _ _ _ _
  | nilCheck x=>exact CP.bind (CP.evK _ _) fun _=>CP.nilChk _
  | slice t x lo hi mx =>
    cases mx with
    | some _=>exact CP.none
    | none =>
      refine CP.bind (CP.evK _ _) fun _=>CP.bind (CP.ti _ _) fun ti=>?_
      cases isStrT ti.desc with
      | true=>exact CP.strSlice _ _ _ _
      | false=>exact CP.bind (CP.sliceTK _) fun _=>CP.bind (CP.ti _ _) fun _=>CP.rdSlice _ _ _ _ _
  | _=>exact CP.none

/-! ### by its operands alone -/
theorem evs_congr {s s':St} {l:List Operand} (h:∀ x ∈ l,ev s x = ev s' x):evs s l = evs s' l:=by
  induction l with
  | nil=>rfl
  | cons x r ih=>simp only [evs]; rw [h x (List.mem_cons_self ..),ih fun y hy=>h y (List.mem_cons_of_mem _ hy)]
theorem parts_congr {s s':St} {l:List (Nat × Operand)} (h:∀ x ∈ l,ev s x.2 = ev s' x.2):parts s l = parts s' l:=by
  induction l with
  | nil=>rfl
  | cons p r ih=>obtain ⟨i,x⟩:=p; simp only [parts]; rw [h (i,x) (List.mem_cons_self ..),ih fun y hy=>h y (List.mem_cons_of_mem _ hy)]
theorem opVecs_congr {s s':St} {l:List (Nat × Operand)} (h:∀ x ∈ l,ev s x.2 = ev s' x.2):opVecs s l = opVecs s' l:=by
  induction l with
  | nil=>rfl
  | cons p r ih=>obtain ⟨i,x⟩:=p; simp only [opVecs]; rw [h (i,x) (List.mem_cons_self ..),ih fun y hy=>h y (List.mem_cons_of_mem _ hy)]
theorem load_congr {Γ:Ctx} {s s':St} (hb:∀ n,SX.lookB s.boxes n = SX.lookB s'.boxes n) (t:TypeId) (a:AV) (K:AV→Prop):loadCK Γ s t a K = loadCK Γ s' t a K:=by
  have h:∀ n K,lookBK s.boxes n K = lookBK s'.boxes n K:=fun n K=>by rw [propext (lookBK_iff s.boxes n K),propext (lookBK_iff s'.boxes n K),hb]
  cases a<;>first | rfl | (simp only [loadCK,h])
theorem bound_congr {s s':St} {x:Option Operand} {d:Int} (h:∀ y ∈ x.toList,ev s y = ev s' y) (K:Int→Prop):boundK s x d K = boundK s' x d K:=by
  cases x with
  | none=>rfl
  | some y=>simp only [boundK,evK_eq]; rw [h y (by simp)]
theorem rdB_congr {b b':List (Nat × List AV)} (hb:∀ n,SX.lookB b n = SX.lookB b' n) (v:AV):rdB b v = rdB b' v:=by
  cases v with
  | pt n o =>
    cases o with
    | zero=>simp only [rdB,hb n]
    | succ o=>rfl
  | _=>rfl
theorem rdBL_congr {b b':List (Nat × List AV)} (hb:∀ n,SX.lookB b n = SX.lookB b' n) (l:List AV):rdBL b l = rdBL b' l:=by
  rw [rdBL_eq,rdBL_eq]
  exact List.map_congr_left fun v _=>rdB_congr hb v
theorem rdAll_congr {b b':List (Nat × List AV)} (hb:∀ n,SX.lookB b n = SX.lookB b' n) (l:List AV):rdAll b l = rdAll b' l:=by
  rw [rdAll_eq,rdAll_eq]
  refine List.map_congr_left fun v _=>?_
  have h:=rdB_congr hb v
  cases v with
  | fn g caps=>simp only [rdOf,rdBL_congr hb]
  | _=>exact h
theorem readG_congr {P:Program} {b b':List (Nat × List AV)} (hb:∀ n,SX.lookB b n = SX.lookB b' n) (l:List AV) (f:AV) (K:AV→Prop):readGK P b l f K = readGK P b' l f K:=by
  cases f with
  | fn g caps=>simp only [readGK,rdAll_congr hb,rdBL_congr hb]
  | _=>rfl
theorem calm_congr {P:Program} {Γ:Ctx} {s s':St} (hb:∀ n,SX.lookB s.boxes n = SX.lookB s'.boxes n) {op:Op} (h:∀ x ∈ op.operands.toList,ev s x = ev s' x) (K:AV→Prop):calmK P Γ s op K = calmK P Γ s' op K:=by
  cases op with
  | load t x=>simp only [calmK,evK_eq]; rw [h x (by simp [Op.operands]),load_congr hb]
  | build t ps =>
    have h':∀ x ∈ ps.toList,ev s x.2 = ev s' x.2:=fun x hx=>h x.2 (by simp only [Op.operands,List.mem_map]; exact ⟨x,hx,rfl⟩)
    simp only [calmK,buildCK,opVecsK_eq,partsK_eq]
    rw [parts_congr h',opVecs_congr h']
  | buildSlice t len ps =>
    have h':∀ x ∈ ps.toList,ev s x.2 = ev s' x.2:=fun x hx=>h x.2 (by simp only [Op.operands,List.mem_map]; exact ⟨x,hx,rfl⟩)
    simp only [calmK,bsliceCK,opVecsK_eq,partsK_eq]
    rw [parts_congr h',opVecs_congr h']
  | call c =>
    obtain ⟨callee,args,ts⟩:=c
    have h1:∀ x ∈ args.toList,ev s x = ev s' x:=fun x hx=>h x (by cases callee<;>simp [Op.operands,Call.operands]<;>simp_all)
    cases callee with
    | value f =>
      have h2:ev s f = ev s' f:=h f (by simp [Op.operands,Call.operands])
      simp only [calmK,calleeCK,callCK,evsK_eq,evK_eq,readG_congr hb]
      rw [evs_congr h1,h2]
    | builtin b=>cases b<;>first | rfl | (simp only [calmK,calleeCK,evsK_eq]; rw [evs_congr h1])
    | invoke r m=>rfl
  | move x=>simp only [calmK,evK_eq]; rw [h x (by simp [Op.operands])]
  | assign x=>simp only [calmK,evK_eq]; rw [h x (by simp [Op.operands])]
  | pick c a b=>simp only [calmK,evK_eq]; rw [h c (by simp [Op.operands]),h a (by simp [Op.operands]),h b (by simp [Op.operands])]
  | binOp op t x y ty=>simp only [calmK,evK_eq]; rw [h x (by simp [Op.operands]),h y (by simp [Op.operands])]
  | unOp op t x=>simp only [calmK,evK_eq]; rw [h x (by simp [Op.operands])]
  | convert a b x=>simp only [calmK,evK_eq]; rw [h x (by simp [Op.operands])]
  | fieldAddr t x f=>simp only [calmK,evK_eq]; rw [h x (by simp [Op.operands])]
  | field t x f=>simp only [calmK,evK_eq]; rw [h x (by simp [Op.operands])]
  | extract x i=>simp only [calmK,evK_eq]; rw [h x (by simp [Op.operands])]
  | indexAddr t x i=>simp only [calmK,evK_eq]; rw [h x (by simp [Op.operands]),h i (by simp [Op.operands])]
  | index t x i=>simp only [calmK,evK_eq]; rw [h x (by simp [Op.operands]),h i (by simp [Op.operands])]
  | nilCheck x=>simp only [calmK,evK_eq]; rw [h x (by simp [Op.operands])]
  | slice t x lo hi mx =>
    cases mx with
    | some _=>rfl
    | none =>
      have h1:∀ d K,boundK s lo d K = boundK s' lo d K:=fun d K=>bound_congr (fun y hy=>h y (by simp [Op.operands]; simp at hy; simp [hy])) K
      have h2:∀ d K,boundK s hi d K = boundK s' hi d K:=fun d K=>bound_congr (fun y hy=>h y (by simp [Op.operands]; simp at hy; simp [hy])) K
      simp only [calmK,evK_eq]
      rw [h x (by simp [Op.operands])]
      have e1:∀ a K,strSliceK s lo hi a K = strSliceK s' lo hi a K:=fun a K=>by cases a<;>first | rfl | (simp only [strSliceK,h1,h2])
      have e2:∀ c a K,rdSliceK s c lo hi a K = rdSliceK s' c lo hi a K:=fun c a K=>by cases a<;>first | rfl | (simp only [rdSliceK,h1,h2])
      simp only [e1,e2]
  | _=>rfl
/-! ### as the operation that it is -/
theorem calm_op {P:Program} {Γ:Ctx} {N:Nat} {s:St} {o:Oper} {K:St→Prop} (hnb:∀ t len ps,o.op≠.buildSlice t len ps) (h:calmK P Γ s o.op fun v=>stPutK N s o.dst v K):opK P Γ N o s K:=by
  unfold opK
  cases ho:o.op with
  | load t x =>
    rw [ho] at h
    have h:evK s x fun p=>loadCK Γ s t p fun v=>stPutK N s o.dst v K:=h
    show evK s x fun p=>loadFrzK Γ s t p fun s=>gevK s x fun p=>loadVK Γ s t p fun v=>stPutK N s o.dst v K
    have hge:∀ s K,gevK s x K = evK s x K:=by
      intro s' K'
      cases x with
      | global g=>exact (show False from h).elim
      | _=>rfl
    simp only [hge]
    rw [evK_eq] at h ⊢
    cases hp:ev s x with
    | pt n off =>
      rw [hp] at h
      show bif twiceB Γ t then (evK s x fun p=>loadVK Γ s t p fun v=>stPutK N s o.dst v K) else lookBK s.boxes n fun cs=>tiK Γ t fun ti=>match isStruct ti.desc with
        | true=>takeK ti.cells (cs.drop off) fun l=>vecsOfK l fun ids=>frzAllK ids s fun s=>evK s x fun p=>loadVK Γ s t p fun v=>stPutK N s o.dst v K
        | false=>evK s x fun p=>loadVK Γ s t p fun v=>stPutK N s o.dst v K
      obtain ⟨cs,h1,h⟩:=(lookBK_iff _ _ _).1 (show lookBK s.boxes n fun cs=>_ from h)
      cases htw:twiceB Γ t with
      | true =>
        rw [cond_true,evK_eq,hp]
        obtain ⟨ti,h2,h⟩:=(CP.ti Γ t).det h
        refine (lookBK_iff _ _ _).2 ⟨cs,h1,(CP.ti Γ t).put h2 ?_⟩
        obtain ⟨hl,h⟩:=(takeK_iff _ _ _).1 h
        refine (takeK_iff _ _ _).2 ⟨hl,?_⟩
        cases hs:isStruct ti.desc with
        | true =>
          rw [hs] at h
          have h:vecsOfK (List.take ti.cells (List.drop off cs)) fun ids=>nilK ids (packK true (List.take ti.cells (List.drop off cs)) fun v=>stPutK N s o.dst v K):=h
          rw [vecsOfK_eq] at h
          exact ((nilK_iff _ _).1 h).2
        | false=>rw [hs] at h; exact h
      | false =>
      rw [cond_false]
      refine (lookBK_iff _ _ _).2 ⟨cs,h1,?_⟩
      obtain ⟨ti,h2,h⟩:=(CP.ti Γ t).det h
      refine (CP.ti Γ t).put h2 ?_
      have hload:∀ K:AV→Prop,(takeK ti.cells (cs.drop off) fun l=>packK (isStruct ti.desc) l K)→loadVK Γ s t (.pt n off) K:=fun K hK =>
        (lookBK_iff _ _ _).2 ⟨cs,h1,(CP.ti Γ t).put h2 hK⟩
      obtain ⟨hl,h⟩:=(takeK_iff _ _ _).1 h
      cases hs:isStruct ti.desc with
      | true =>
        rw [hs] at h
        have h:vecsOfK (List.take ti.cells (List.drop off cs)) fun ids=>nilK ids (packK true (List.take ti.cells (List.drop off cs)) fun v=>stPutK N s o.dst v K):=h
        rw [vecsOfK_eq] at h
        obtain ⟨e,h⟩:=(nilK_iff _ _).1 h
        show takeK ti.cells (cs.drop off) fun l=>vecsOfK l fun ids=>frzAllK ids s fun s=>evK s x fun p=>loadVK Γ s t p fun v=>stPutK N s o.dst v K
        rw [takeK_iff,vecsOfK_eq,e]
        refine ⟨hl,?_⟩
        show evK s x _
        rw [evK_eq,hp]
        exact hload _ ((takeK_iff _ _ _).2 ⟨hl,by rw [hs]; exact h⟩)
      | false =>
        rw [hs] at h
        show evK s x _
        rw [evK_eq,hp]
        exact hload _ ((takeK_iff _ _ _).2 ⟨hl,by rw [hs]; exact h⟩)
    | rp cs=>rw [hp] at h; show evK s x _; rw [evK_eq,hp]; exact h
    | vp id τ l n off=>rw [hp] at h; show evK s x _; rw [evK_eq,hp]; exact h
    | _=>rw [hp] at h; exact h.elim
  | build t ps =>
    rw [ho] at h
    have h:buildCK Γ s t ps.toList fun v=>stPutK N s o.dst v K:=h
    show buildK Γ N s t ps.toList o.dst K
    unfold buildCK at h
    rw [opVecsK_eq] at h
    obtain ⟨e,h⟩:=(nilK_iff _ _).1 h
    refine buildK_of e ?_
    unfold buildFK
    rw [opVecsK_eq,e]
    exact h
  | call c =>
    rw [ho] at h
    obtain ⟨callee,args,ts⟩:=c
    cases callee with
    | value f =>
      have h:callCK P s f args.toList fun v=>stPutK N s o.dst v K:=h
      show evsK s args.toList fun vs=>sbHeadK vs (fun id id2 o' rest=>callSbK P N s f id id2 o' rest o.dst K) (callK P N s f args.toList o.dst K∨callBK P N s f args.toList o.dst K∨readK P N s f args.toList o.dst K∨callFK P N s f args.toList o.dst K∨callXK P N s f args.toList o.dst K∨callMK P N s f args.toList o.dst K)
      unfold callCK at h
      rw [evsK_eq] at h
      rw [evsK_eq]
      cases e:rdNeed (evs s args.toList) with
      | nil =>
        rw [e] at h
        have e:vecsOf (evs s args.toList) = []:=by
          unfold rdNeed at e
          cases hfa:fnArgs (evs s args.toList) with
          | true=>rw [hfa] at e; exact e
          | false=>rw [hfa] at e; cases e
        have h:evK s f fun fv=>callGK P (evs s args.toList) fv fun v=>stPutK N s o.dst v K:=h
        have him:imAll (evs s args.toList) = true:=by
          rw [evK_eq] at h
          cases hf:ev s f<;>rw [hf] at h<;>first | exact ((chkK_iff _ _).1 h).1 | exact h.elim
        refine sbHead_of (b:=s.boxes) (imAll_rd him) (.inl ?_)
        unfold callK
        rw [evsK_eq,vecsOfK_eq,e]
        show evK s f fun fv=>evsK s args.toList fun vs=>match fv with
          | .fn g caps=>chkK (imAll vs) (chkK (fnArgs vs) (chkK (imAll caps) (∃ r,PSpec P g (callArgs vs caps) r∧stPutK N s o.dst r K)))
          | _=>False
        rw [evK_eq,evsK_eq]
        rw [evK_eq] at h
        cases hf:ev s f<;>rw [hf] at h<;>first | exact h | exact h.elim
      | cons i r =>
        rw [e] at h
        have h:evK s f fun fv=>readGK P s.boxes (evs s args.toList) fv fun v=>stPutK N s o.dst v K:=h
        have him:imAll (rdAll s.boxes (evs s args.toList)) = true:=by
          rw [evK_eq] at h
          cases hf:ev s f<;>rw [hf] at h<;>first | exact ((chkK_iff _ _).1 h).1 | exact h.elim
        refine sbHead_of him (.inr (.inr (.inl ?_)))
        unfold readK
        rw [evsK_eq]
        exact h
    | builtin b =>
      by_cases hb:b = .len
      · subst hb
        have h:evsK s args.toList fun l=>nthK ts.toList 0 fun t=>tiK Γ t fun ti=>lenCK ti.desc l fun v=>stPutK N s o.dst v K:=h
        show evsK s args.toList fun l=>nthK ts.toList 0 fun t=>tiK Γ t fun ti=>lenVK ti.desc l fun v=>stPutK N s o.dst v K
        rw [evsK_eq] at h ⊢
        obtain ⟨t,h1,h⟩:=(nthK_iff _ _ _).1 h
        refine (nthK_iff _ _ _).2 ⟨t,h1,?_⟩
        exact CP.mon (CP.ti Γ t) h fun ti h=>len_of h
      · cases b<;>first | exact h | exact absurd rfl hb | exact h.elim
    | invoke r m=>exact h.elim
  | alloc _=>rw [ho] at h; exact h.elim
  | box _ _=>rw [ho] at h; exact h.elim
  | store _ _ _=>rw [ho] at h; exact h.elim
  | buildSlice t len ps=>exact absurd ho (hnb t len ps)
  | slice t x lo hi mx =>
    rw [ho] at h
    cases mx with
    | some _=>exact h.elim
    | none =>
      show evK s x fun a=>arrCutK Γ N s t lo hi none o.dst K (valK Γ s (.slice t x lo hi none) fun v=>stPutK N s o.dst v K) a
      rw [evK_eq]
      exact arrCut_of h
  | move _=>rw [ho] at h; exact h
  | assign _=>rw [ho] at h; exact h
  | pick _ _ _=>rw [ho] at h; exact h
  | binOp op t x y ty =>
    rw [ho] at h
    have h:evK s x fun a=>evK s y fun b=>binTK Γ op t a b fun v=>stPutK N s o.dst v K:=h
    show evK s x fun a=>evK s y fun b=>binEK Γ op t (litB x || litB y) a b fun v=>stPutK N s o.dst v K
    simp only [evK_eq] at h ⊢
    exact binN_of (binT_of h)
  | unOp _ _ _=>rw [ho] at h; exact h
  | convert src dst x =>
    rw [ho] at h
    have h:evK s x fun a=>tiK Γ src fun ts=>tiK Γ dst fun ti=>convCK Γ ts.desc ti.desc a fun v=>stPutK N s o.dst v K:=h
    show evK s x fun a=>tiK Γ src fun ts=>tiK Γ dst fun ti=>convAK Γ ts.desc ti.desc a fun v=>stPutK N s o.dst v K
    exact CP.mon (CP.evK s x) h fun v h=>CP.mon (CP.ti Γ src) h fun ts h=>CP.mon (CP.ti Γ dst) h fun ti h=>convC_of h
  | fieldAddr _ _ _=>rw [ho] at h; exact h
  | field _ _ _=>rw [ho] at h; exact h
  | extract _ _=>rw [ho] at h; exact h
  | indexAddr _ _ _=>rw [ho] at h; exact h
  | index _ _ _=>rw [ho] at h; exact h
  | nilCheck _=>rw [ho] at h; exact h
  | _=>rw [ho] at h; exact h.elim

theorem frz_same {d:Nat} {v:AV} (h:d ∉ ids v):frz d v = v:=by
  cases v with
  | vec i τ l=>have:i≠d:=fun e=>h (by simp [ids,ids0,e]); simp [frz,Bool.cond_eq_ite,this]
  | vp i τ l n off=>have:i≠d:=fun e=>h (by simp [ids,ids0,e]); simp [frz,Bool.cond_eq_ite,this]
  | pt n o=>have:n≠d:=fun e=>h (by simp [ids,ids0,e]); simp [frz,Bool.cond_eq_ite,this]
  | fn f caps =>
    have:inL d (caps.flatMap ids0) = false:=by rw [← Bool.not_eq_true,inL_iff]; exact h
    simp [frz,this]
  | tup caps =>
    have:inL d (caps.flatMap ids0) = false:=by rw [← Bool.not_eq_true,inL_iff]; exact h
    simp [frz,this]
  | vs i τ l n=>have:i≠d:=fun e=>h (by simp [ids,ids0,e]); simp [frz,Bool.cond_eq_ite,this]
  | ag k caps =>
    have:inL d (caps.flatMap ids0) = false:=by rw [← Bool.not_eq_true,inL_iff]; exact h
    simp [frz,this]
  | ob i i2 o =>
    have:inL d [i,i2] = false:=by rw [← Bool.not_eq_true,inL_iff]; exact h
    simp [frz,this]
  | _=>rfl
theorem kill_same {d:Nat} {v:AV} (h:d ∉ ids v):kill d v = v:=by
  have:inL d (ids v) = false:=by rw [← Bool.not_eq_true,inL_iff]; exact h
  simp [kill,this]
theorem map_same {f:AV→AV} {l:List AV} (h:∀ v ∈ l,f v = v):mapC f l = l:=by
  rw [mapC_eq]
  induction l with
  | nil=>rfl
  | cons v r ih=>simp only [List.map_cons]; rw [h v (List.mem_cons_self ..),ih fun u hu=>h u (List.mem_cons_of_mem _ hu)]
end
end Go.SX
end
section
namespace Go.SX
set_option linter.unusedSectionVars false
variable [Globs]
section
variable {P:Program} {N:Nat} {Γ:Ctx} {W0:World} {F:Fr} {X:Nat→Prop} {s:St} {β:Nat→Option Nat} {a:Act} {w:World}

def WkV (v t:AV):Prop:=v = t∨(v = .nl∧∃ τ,t = .rd τ [])∨(t = .x∨∃ id τ l,v = .vec id τ l∧t = .ob id id (.ln τ l))∨∃ id τ l,v = .vec id τ l∧t = .vs id τ l 0
def wkS (s:St):List (Nat × AV)→Prop
  | []=>True
  | (n,v)::r=>lookK s.slots n (fun u=>WkV u v)∧wkS s r
def wkC:List AV→List AV→Prop
  | [],[]=>True
  | u::r,v::t=>WkV u v∧wkC r t
  | _,_=>False
def wkB (s:St):List (Nat × List AV)→Prop
  | []=>True
  | (n,cs)::r=>lookBK s.boxes n (fun us=>wkC us cs)∧wkB s r
def Wk (s t:St):Prop:=wkS s t.slots∧wkB s t.boxes

theorem WkV.rel {u v:AV} {O:Nat→Prop} {x:Value} (h:WkV u v) (hr:Rel β O w u x):Rel β O w v x:=by
  rcases h with rfl | ⟨rfl,τ,rfl⟩ | (rfl | ⟨id,τ,l,rfl,rfl⟩) | ⟨id,τ,l,rfl,rfl⟩
  · exact hr
  · have:x = .slice none 0 0:=by cases (show Im _ _ _ _ from hr); rfl
    subst this
    exact Im.rd0 τ none 0 (Nat.zero_le _)
  · exact Rel.x
  · exact ⟨rfl,hr⟩
  · exact ⟨Nat.zero_le _,x,hr,.inl ⟨rfl,rfl⟩⟩
theorem WkV.ids {u v:AV} (h:WkV u v):∀ n ∈ ids v,n ∈ ids u:=by
  rcases h with rfl | ⟨rfl,τ,rfl⟩ | (rfl | ⟨id,τ,l,rfl,rfl⟩) | ⟨id,τ,l,rfl,rfl⟩
  · exact fun _ h=>h
  · intro n hn; cases hn
  · intro n hn; cases hn
  · intro n hn
    have:n = id:=by simpa [SX.ids,ids0] using hn
    subst this
    simp [SX.ids,ids0]
  · exact fun _ h=>h
theorem wkS_look {t:List (Nat × AV)} (h:wkS s t):∀ n,WkV (look s.slots n) (look t n):=by
  induction t with
  | nil=>intro n; exact .inr (.inr (.inl (.inl rfl)))
  | cons p r ih =>
    obtain ⟨m,v⟩:=p
    obtain ⟨h1,h2⟩:=h
    rw [lookK_eq] at h1
    intro n
    simp only [look]
    cases hb:Nat.beq m n with
    | true=>have:=Nat.eq_of_beq_eq_true hb; subst this; exact h1
    | false=>exact ih h2 n
theorem wkB_look {t:List (Nat × List AV)} (h:wkB s t):∀ n cs,lookB t n = some cs→∃ us,lookB s.boxes n = some us∧wkC us cs:=by
  induction t with
  | nil=>intro n cs hn; cases hn
  | cons p r ih =>
    obtain ⟨m,v⟩:=p
    obtain ⟨h1,h2⟩:=h
    intro n cs hn
    simp only [lookB] at hn
    cases hb:Nat.beq m n with
    | true=>rw [hb] at hn; injection hn with hn; subst hn; have:=Nat.eq_of_beq_eq_true hb; subst this; exact (lookBK_iff _ _ _).1 h1
    | false=>rw [hb] at hn; exact ih h2 n cs hn
theorem wkC_rel {us cs:List AV} {vs:List Value} {O:Nat→Prop} (h:wkC us cs) (hr:All2 (RelC β O w) us vs):All2 (RelC β O w) cs vs∧∀ c ∈ cs,∀ n ∈ ids c,∃ u ∈ us,n ∈ ids u:=by
  induction us generalizing cs vs with
  | nil=>cases cs with
    | nil=>exact ⟨hr,by intro c hc; cases hc⟩
    | cons _ _=>exact h.elim
  | cons u r ih=>cases cs with
    | nil=>exact h.elim
    | cons c t =>
      obtain ⟨v,vs',rfl,h1,h2⟩:=hr.cons_inv
      obtain ⟨h3,h4⟩:=ih h.2 h2
      refine ⟨All2.cons ⟨h.1.rel h1.1,h1.2⟩ h3,fun c' hc' n hn=>?_⟩
      rcases List.mem_cons.1 hc' with rfl | hc'
      · exact ⟨u,List.mem_cons_self .., h.1.ids n hn⟩
      · obtain ⟨u',hu',hn'⟩:=h4 c' hc' n hn
        exact ⟨u',List.mem_cons_of_mem _ hu',hn'⟩
theorem InvB.wk (hI:InvB W0 F X N s β a w) {t:St} (h:Wk s t):InvB W0 F X N t β a w:=by
  have hNm:∀ n,Nm t n→Nm s n:=by
    rintro n (⟨cs,hc⟩ | ⟨m,hm⟩ | ⟨b,cs,hb,c,hc,hn⟩)
    · obtain ⟨us,hu,_⟩:=wkB_look h.2 n cs hc
      exact .inl ⟨us,hu⟩
    · exact .inr (.inl ⟨m,(wkS_look h.1 m).ids n hm⟩)
    · obtain ⟨us,hu,hw⟩:=wkB_look h.2 b cs hb
      obtain ⟨g,us',e,h1,h2,h3⟩:=hI.boxes b us hu
      obtain ⟨u,hu',hn'⟩:=(wkC_rel hw h3).2 c hc n hn
      exact .inr (.inr ⟨b,us,hu,u,hu',hn'⟩)
  have hO:∀ k,Own X t β k→Own X s β k:=fun k hk=>hk.imp id fun ⟨n,hn,hb⟩=>⟨n,hNm n hn,hb⟩
  refine hI.upd (Stp.refl (fun _=>False) w) (fun _ _ h=>h.elim) (fun n=>?_) (fun n cs hcs=>?_) (fun n m g hn hm=>hI.inj n m g (hNm n hn) (hNm m hm)) (fun n g hn hg=>hI.own n g (hNm n hn) hg) rfl rfl (fun n cs g hc hp=>by
    obtain ⟨us,hu,_⟩:=wkB_look h.2 n cs hc
    exact hI.pin n us g hu hp)
  · exact ((wkS_look h.1 n).rel (hI.slots n)).mono hO
  · obtain ⟨us,hu,hw⟩:=wkB_look h.2 n cs hcs
    obtain ⟨g,us',e,h1,h2,h3⟩:=hI.boxes n us hu
    exact ⟨g,us',e,h1,h2,(wkC_rel hw h3).1.mono fun _ _ _ _ hr=>⟨hr.1.mono hO,hr.2⟩⟩
end
end Go.SX
end
section
namespace Go.SX
set_option linter.unusedSectionVars false
variable [Globs]
section
variable {P:Program} {N:Nat} {Γ:Ctx} {W0:World} {F:Fr} {X:Nat→Prop} {s:St} {β:Nat→Option Nat} {a:Act} {w:World} {ops:Array Oper}

def Eqv (s s':St):Prop:=(∀ n,look s.slots n = look s'.slots n)∧∀ n,lookB s.boxes n = lookB s'.boxes n
theorem Eqv.refl (s:St):Eqv s s:=⟨fun _=>rfl,fun _=>rfl⟩
theorem Eqv.trans {a b c:St} (h:Eqv a b) (h':Eqv b c):Eqv a c:=⟨fun n=>(h.1 n).trans (h'.1 n),fun n=>(h.2 n).trans (h'.2 n)⟩
theorem Eqv.symm {a b:St} (h:Eqv a b):Eqv b a:=⟨fun n=>(h.1 n).symm,fun n=>(h.2 n).symm⟩
theorem Eqv.ev {a b:St} (h:Eqv a b) (x:Operand):ev a x = ev b x:=by cases x<;>first | rfl | exact h.1 _
theorem Eqv.inv (hI:InvB W0 F X N s β a w) {s':St} (h:Eqv s s'):InvB W0 F X N s' β a w:=by
  refine hI.less (Stp.refl _ _) ?_ (fun n=>⟨n,.inl ⟨(h.1 n).symm,rfl⟩⟩) (fun n cs hc=>by rw [h.2]; exact hc) rfl rfl
  rintro n (⟨cs,hc⟩ | ⟨m,hm⟩ | ⟨k,cs,hk,c,hc,hn⟩)
  · exact .inl ⟨cs,by rw [h.2]; exact hc⟩
  · exact .inr (.inl ⟨m,by rw [h.1]; exact hm⟩)
  · exact .inr (.inr ⟨k,cs,by rw [h.2]; exact hk,c,hc,hn⟩)
theorem Eqv.putO {s s':St} (h:Eqv s s') (d:Option Nat) (v:AV):Eqv (putO s d v) (SX.putO s' d v):=by
  refine ⟨fun n=>?_,fun n=>by rw [boxes_putO,boxes_putO,h.2]⟩
  rw [look_putO,look_putO,h.1]
theorem frz_eqv {d:Nat} (h:¬ Nm s d):Eqv (s.frz d) s:=by
  refine ⟨fun n=>?_,fun n=>?_⟩
  · show look (mapV (SX.frz d) s.slots) n = _
    rw [look_mapV _ (show SX.frz d .x = .x from rfl)]
    exact frz_same fun hd=>h (.inr (.inl ⟨n,hd⟩))
  · simp only [St.frz,St.delBox,St.map,lookB_delL,lookB_mapB]
    by_cases e:d = n
    · rw [if_pos e]
      cases hl:lookB s.boxes n with
      | none=>rfl
      | some cs=>exact absurd (.inl ⟨cs,e ▸ hl⟩) h
    · rw [if_neg e]
      cases hl:lookB s.boxes n with
      | none=>rfl
      | some cs=>rw [Option.map_some,map_same fun v hv=>frz_same fun hd=>h (.inr (.inr ⟨n,cs,hl,v,hv,hd⟩))]
theorem kill_eqv {d:Nat} (h:¬ Nm s d):Eqv (s.kill d) s:=by
  refine ⟨fun n=>?_,fun n=>?_⟩
  · show look (mapV (SX.kill d) s.slots) n = _
    rw [look_mapV _ (kill_x d)]
    exact kill_same fun hd=>h (.inr (.inl ⟨n,hd⟩))
  · simp only [St.kill,St.delBox,St.map,lookB_delL,lookB_mapB]
    by_cases e:d = n
    · rw [if_pos e]
      cases hl:lookB s.boxes n with
      | none=>rfl
      | some cs=>exact absurd (.inl ⟨cs,e ▸ hl⟩) h
    · rw [if_neg e]
      cases hl:lookB s.boxes n with
      | none=>rfl
      | some cs=>rw [Option.map_some,map_same fun v hv=>kill_same fun hd=>h (.inr (.inr ⟨n,cs,hl,v,hv,hd⟩))]
def calmD (P:Program) (Γ:Ctx) (s:St) (o:Oper) (K:AV→Prop):Prop :=
  match o.op with
  | .alloc t=>match o.dst with
    | some d=>tiK Γ t fun ti=>chkK ti.sb.isNone (K (.ob d d (.nw ti.zero)))
    | none=>False
  | op=>calmK P Γ s op K
theorem calmD_of {o:Oper} (h:∀ t,o.op≠.alloc t) {K:AV→Prop}:calmD P Γ s o K = calmK P Γ s o.op K:=by
  unfold calmD
  cases ho:o.op<;>first | rfl | exact absurd ho (h _)
theorem calmD_cp (o:Oper):CP (calmD P Γ s o):=by
  by_cases h:∃ t,o.op = .alloc t
  · obtain ⟨t,ho⟩:=h
    cases hd:o.dst with
    | none =>
      have e:calmD P Γ s o = fun _=>False:=by funext K; simp only [calmD,ho,hd]
      rw [e]; exact CP.none
    | some d =>
      have e:calmD P Γ s o = fun K=>tiK Γ t fun ti=>chkK ti.sb.isNone (K (.ob d d (.nw ti.zero))):=by funext K; simp only [calmD,ho,hd]
      rw [e]; exact CP.bind (CP.ti Γ t) fun ti=>CP.chk (CP.pure _)
  · have e:calmD P Γ s o = calmK P Γ s o.op:=by funext K; exact calmD_of fun t ht=>h ⟨t,ht⟩
    rw [e]; exact calm_cp P Γ s o.op
theorem calmD_congr {s s':St} (hb:∀ n,lookB s.boxes n = lookB s'.boxes n) {o:Oper} (h:∀ x ∈ o.op.operands.toList,ev s x = ev s' x) (K:AV→Prop):calmD P Γ s o K = calmD P Γ s' o K:=by
  by_cases hal:∃ t,o.op = .alloc t
  · obtain ⟨t,ho⟩:=hal
    simp only [calmD,ho]
  · rw [calmD_of fun t ht=>hal ⟨t,ht⟩,calmD_of fun t ht=>hal ⟨t,ht⟩]
    exact calm_congr hb h K
theorem calm_wp (hΓ : Γ.good P) (hI : InvB W0 F X N s β a w) {o : Oper} {v : AV} (hfree : ((∃ t len ps, o.op = .buildSlice t len ps) ∨ ∃ t, o.op = .alloc t) → ∃ d, o.dst = some d ∧ ¬ Nm s d) (hd : ∀ d, o.dst = some d → d < N)
    (h:calmD P Γ s o (fun u=>u = v)) {next:Act→World→Prop} {Q:Exit→Act→World→Prop} (hn:∀ a' w',Inv W0 F X N (putO s o.dst v) a' w'→next a' w'):o.wp P a w next Q:=by
  by_cases hal:∃ t,o.op = .alloc t
  · obtain ⟨d,hdst,hNd⟩:=hfree (.inr hal)
    obtain ⟨t,ho⟩:=hal
    have h:tiK Γ t fun ti=>chkK ti.sb.isNone (AV.ob d d (.nw ti.zero) = v):=by simpa only [calmD,ho,hdst] using h
    obtain ⟨ti,hmem,h⟩:=tiK_mem h
    obtain ⟨_,rfl⟩:=(chkK_iff _ _).1 h
    obtain ⟨z,hz,hzc⟩:=(hΓ.ok _ hmem).zeroValue w
    have hI2:=hI.newOb (hd d hdst) hNd hNd (Stp.alloc w (.cells z.cells t)) (Nat.le_refl _) (by simp) (o:=.nw ti.zero) (u:=.pointer (some ⟨w.heap.size,0,none⟩)) (fun O' =>
      ⟨w.heap.size,t,by simp [setβ],rfl,by rw [heap_alloc_new,hzc],(hΓ.one _ hmem).1⟩)
    refine wp_val (u:=.pointer (some ⟨w.heap.size,0,none⟩)) (w':=w.alloc (.cells z.cells t)) ?_ (hn _ _ (by rw [hdst]; exact ⟨_,hI2⟩))
    simp [execOp,ho,Instr.alloc,hz,newVar_run]
  rw [calmD_of fun t ht=>hal ⟨t,ht⟩] at h
  have hfree:(∃ t len ps,o.op = .buildSlice t len ps)→∃ d,o.dst = some d∧¬ Nm s d:=fun h=>hfree (.inl h)
  by_cases hb:∃ t len ps,o.op = .buildSlice t len ps
  · obtain ⟨d,hdst,hNd⟩:=hfree hb
    obtain ⟨t,len,ps,ho⟩:=hb
    rw [ho] at h
    have h:bsliceCK Γ s t len ps.toList (fun u=>u = v):=h
    unfold bsliceCK at h
    rw [opVecsK_eq] at h
    obtain ⟨e,h⟩:=(nilK_iff _ _).1 h
    refine bslice_ok hΓ.ok hΓ.one hI ho (K:=fun s2=>∃ τ l,v = .rd τ l∧Eqv (s2.frz d) (putO s (some d) v)) ?_ fun s' a' w' hK ⟨β',hI'⟩=>?_
    · unfold bsliceK
      rw [opVecsK_eq,e,hdst,frzAllK_eq]
      refine (optK_iff _ _).2 ⟨d,rfl,?_⟩
      simp only [frzAll]
      rw [stFrzK_eq]
      have hfe:=frz_eqv hNd
      obtain ⟨ti,h1,h⟩:=(CP.ti Γ t).det h
      refine (CP.ti Γ t).put h1 ?_
      obtain ⟨el,h2,h⟩:=(CP.sliceTK ti.desc).det h
      refine (CP.sliceTK ti.desc).put h2 ?_
      obtain ⟨te,h3,h⟩:=(CP.ti Γ el).det h
      refine (CP.ti Γ el).put h3 ?_
      obtain ⟨τ,h4,h⟩:=(tyK_iff _ _).1 h
      refine (tyK_iff _ _).2 ⟨τ,h4,?_⟩
      obtain ⟨h5,h⟩:=(chkK_iff _ _).1 h
      obtain ⟨h6,h⟩:=(chkK_iff _ _).1 h
      refine (chkK_iff _ _).2 ⟨h5,(chkK_iff _ _).2 ⟨h6,?_⟩⟩
      rw [partsK_eq] at h ⊢
      rw [parts_congr (s':=s) fun x _=>hfe.ev x.2]
      obtain ⟨cs,h7,h⟩:=(CP.fill (pl:=fun i K=>K (i * te.cells,te.cells)) (fun _=>CP.pure _) _ _).det h
      refine (CP.fill (pl:=fun i K=>K (i * te.cells,te.cells)) (fun _=>CP.pure _) _ _).put h7 ?_
      rw [plainCK_eq] at h ⊢
      obtain ⟨l,h8,rfl⟩:=(optK_iff _ _).1 h
      refine (optK_iff _ _).2 ⟨l,h8,?_⟩
      rw [stKillK_eq]
      refine stPut_mk (fun d' e'=>by injection e' with e'; subst e'; exact hd _ hdst) ⟨τ,l,rfl,?_⟩
      have hNd1:¬ Nm (s.frz d) d:=not_frz s d
      have hke:=(kill_eqv hNd1).trans hfe
      have hNk:¬ Nm ((s.frz d).kill d) d:=fun hm=>(Nm.of_kill hm).2 rfl
      refine ⟨fun n=>?_,fun n=>?_⟩
      · show look (mapV (SX.frz d) (((s.frz d).kill d).put d (.vec d τ l)).slots) n = _
        rw [look_mapV _ (show SX.frz d .x = .x from rfl),look_putO]
        show SX.frz d (look (setL ((s.frz d).kill d).slots d (.vec d τ l)) n) = _
        rw [look_setL]
        by_cases e':d = n
        · rw [if_pos e',if_pos (by rw [e'])]; simp [SX.frz]
        · rw [if_neg e',if_neg (fun h=>e' (by injection h)),hke.1 n]
          exact frz_same fun hd'=>hNd (.inr (.inl ⟨n,hd'⟩))
      · have h9:=(frz_eqv hNk).2 n
        exact h9.trans (hke.2 n)
    · obtain ⟨τ,l,_,he⟩:=hK
      rw [hdst] at hn
      exact hn _ _ ⟨β',Eqv.inv (hI'.frz d) he⟩
  · exact op_ok hΓ hI (calm_op (fun t len ps e=>hb ⟨t,len,ps,e⟩) ((calm_cp P Γ s o.op).put h (stPut_mk (K:=fun s'=>s' = putO s o.dst v) hd rfl))) fun s' a' w' hs' hI'=>hn a' w' (hs' ▸ hI')

/-! ### the values that a block yields in the order of the text -/
abbrev Item:=Nat × Oper × AV
def StepV (P:Program) (Γ:Ctx) (ops:List Oper) (o:Oper) (s:St) (v:AV):Prop :=
  match o.guard with
  | none=>calmD P Γ s o (fun u=>u = v)
  | some (j,want)=>∃ oj d,ops[j]? = some oj∧oj.dst = some d ∧
    ((look s.slots d = .b want∧calmD P Γ s o (fun u=>u = v))∨((look s.slots d = .b (!want)∨look s.slots d = .tup [])∧v = .tup []))
def dstB (o:Oper) (d:Nat):Bool:=match o.dst with | some d'=>Nat.beq d' d | none=>false
theorem dstB_iff {o:Oper} {d:Nat}:dstB o d = true↔o.dst = some d:=by
  unfold dstB
  cases o.dst with
  | none=>simp
  | some d'=>simp
def fzB (fz:List Nat) (o:Oper) (v:AV):Bool:=fz.all fun d=>!(inB d (ids v)) || dstB o d
theorem fzB_iff {fz:List Nat} {o:Oper} {v:AV}:fzB fz o v = true↔∀ d ∈ fz,d ∈ ids v→o.dst = some d:=by
  simp only [fzB,List.all_eq_true,Bool.or_eq_true,Bool.not_eq_true',← Bool.not_eq_true,inB_iff,dstB_iff]
  constructor
  · exact fun h d hd hi=>(h d hd).resolve_left fun hn=>hn hi
  · exact fun h d hd=>(Classical.em (d ∈ ids v)).elim (fun hi=>.inr (h d hd hi)) .inl
def Chain (P:Program) (Γ:Ctx) (N:Nat) (fz:List Nat) (ops:List Oper):List Item→St→Prop
  | [],_=>True
  | (_,o,v)::r,s=>StepV P Γ ops o s v∧(∀ d,o.dst = some d→d < N)∧(∀ d ∈ fz,d ∈ ids v→o.dst = some d)∧Chain P Γ N fz ops r (putO s o.dst v)
def runI:List Item→St→St
  | [],s=>s
  | (_,o,v)::r,s=>runI r (putO s o.dst v)
def blkStepK (P:Program) (Γ:Ctx) (N:Nat) (fz:List Nat) (ops:List Oper) (i:Nat) (known:List Nat) (s:St) (K:List Nat→St→Prop):Prop :=
  nthK ops i fun o =>
    match o.guard with
    | none=>calmD P Γ s o fun v=>chkK (fzB fz o v) (stPutK N s o.dst v fun s=>K known s)
    | some (j,want)=>nthK ops j fun oj=>optK oj.dst fun d =>
      guardK N (inB j known) s d want (fun s=>calmD P Γ s o fun v=>chkK (fzB fz o v) (stPutK N s o.dst v fun s=>K (j::known) s))
        (fun s=>stPutK N s o.dst (.tup []) fun s=>K (j::known) s)
def vcBlk (P:Program) (Γ:Ctx) (N:Nat) (fz:List Nat) (ops:List Oper):List Nat→List Nat→St→(St→Prop)→Prop
  | [],_,s,Q=>Q s
  | i::r,known,s,Q=>blkStepK P Γ N fz ops i known s fun known s=>vcBlk P Γ N fz ops r known s Q
theorem guard_cases {d : Nat} {known want : Bool} {run skip : St → Prop} (h : guardK N known s d want run skip) :
    (look s.slots d = .b want∧∃ s',Eqv s s'∧run s')∨((look s.slots d = .b (!want)∨look s.slots d = .tup [])∧∃ s',Eqv s s'∧skip s'):=by
  have hput:∀ t (K:St→Prop),look s.slots d = .b t→stPutK N s (some d) (.b t) K→∃ s',Eqv s s'∧K s':=fun t K hv hK =>
    ⟨putO s (some d) (.b t),⟨fun n=>by
      rw [look_putO]
      split
      · rename_i e; injection e with e; rw [← e,hv]
      · rfl,fun _=>rfl⟩,(stPut_inv hK).1⟩
  unfold guardK at h
  rw [lookK_eq] at h
  cases known with
  | true =>
    cases hv:look s.slots d with
    | b t =>
      rw [hv] at h
      cases t<;>cases want
      · exact .inl ⟨rfl,s,Eqv.refl s,h⟩
      · exact .inr ⟨.inl rfl,s,Eqv.refl s,h⟩
      · exact .inr ⟨.inl rfl,s,Eqv.refl s,h⟩
      · exact .inl ⟨rfl,s,Eqv.refl s,h⟩
    | tup l =>
      rw [hv] at h
      cases l with
      | nil=>exact .inr ⟨.inr rfl,s,Eqv.refl s,h⟩
      | cons _ _=>exact h.elim
    | _=>rw [hv] at h; exact h.elim
  | false =>
    cases hv:look s.slots d with
    | b t =>
      rw [hv] at h
      by_cases ht:t = want
      · subst ht; exact .inl ⟨rfl,hput t run hv (h.1 rfl)⟩
      · have ht':t = !want:=by cases t<;>cases want<;>simp_all
        subst ht'
        exact .inr ⟨.inl rfl,hput _ skip hv (h.2 rfl)⟩
    | tup l =>
      rw [hv] at h
      cases l with
      | nil=>exact .inr ⟨.inr rfl,s,Eqv.refl s,h⟩
      | cons _ _=>exact h.elim
    | _=>rw [hv] at h; exact h.elim
theorem blk_chain {fz : List Nat} {opl : List Oper} {K : St → Prop} (B : List Nat) : ∀ (known : List Nat) (s : St), vcBlk P Γ N fz opl B known s K → ∀ s0, Eqv s0 s →
    ∃ its:List Item,its.map (·.1) = B∧(∀ it ∈ its,opl[it.1]? = some it.2.1)∧Chain P Γ N fz opl its s0∧∃ t,Eqv (runI its s0) t∧K t:=by
  induction B with
  | nil=>intro known s h s0 he; exact ⟨[],rfl,(by intro it hit; cases hit),trivial,s,he,h⟩
  | cons i r ih =>
    intro known s h s0 he
    obtain ⟨o,ho,h⟩:=(nthK_iff _ _ _).1 h
    have run : ∀ {known' : List Nat} {s1 : St}, Eqv s0 s1 → (calmD P Γ s1 o fun v => chkK (fzB fz o v) (stPutK N s1 o.dst v fun s => vcBlk P Γ N fz opl r known' s K)) →
        ∃ v,calmD P Γ s0 o (fun u=>u = v)∧(∀ d,o.dst = some d→d < N)∧(∀ d ∈ fz,d ∈ ids v→o.dst = some d)∧vcBlk P Γ N fz opl r known' (putO s1 o.dst v) K:=by
      intro known' s1 he1 h1
      obtain ⟨v,h2,h3⟩:=(calmD_cp (s:=s1) o).det h1
      obtain ⟨h6,h3⟩:=(chkK_iff _ _).1 h3
      obtain ⟨h4,h5⟩:=stPut_inv h3
      exact ⟨v,by rw [calmD_congr he1.2 fun x _=>he1.ev x]; exact h2,h5,fzB_iff.1 h6,h4⟩
    have fin : ∀ {v : AV} {known' : List Nat} {s1 : St}, Eqv s0 s1 → StepV P Γ opl o s0 v → (∀ d, o.dst = some d → d < N) → (∀ d ∈ fz, d ∈ ids v → o.dst = some d) → vcBlk P Γ N fz opl r known' (putO s1 o.dst v) K →
        ∃ its:List Item,its.map (·.1) = i::r∧(∀ it ∈ its,opl[it.1]? = some it.2.1)∧Chain P Γ N fz opl its s0∧∃ t,Eqv (runI its s0) t∧K t:=by
      intro v known' s1 he1 h1 h2 h2' h3
      obtain ⟨its,k1,k2,k3,k4⟩:=ih _ _ h3 (putO s0 o.dst v) (he1.putO o.dst v)
      refine ⟨(i,o,v)::its,by simp [k1],fun it hit=>?_,⟨h1,h2,h2',k3⟩,k4⟩
      rcases List.mem_cons.1 hit with rfl | hit
      · exact ho
      · exact k2 it hit
    cases hg:o.guard with
    | none =>
      rw [hg] at h
      obtain ⟨v,h1,h2,h2',h3⟩:=run he h
      exact fin he (by unfold StepV; rw [hg]; exact h1) h2 h2' h3
    | some p =>
      obtain ⟨j,want⟩:=p
      rw [hg] at h
      obtain ⟨oj,hj,h⟩:=(nthK_iff _ _ _).1 h
      obtain ⟨d,hd,h⟩:=(optK_iff _ _).1 h
      rcases guard_cases h with ⟨h1,s1,he1,h⟩ | ⟨h1,s1,he1,h⟩
      · obtain ⟨v,h2,h3,h3',h4⟩:=run (he.trans he1) h
        exact fin (he.trans he1) (by unfold StepV; rw [hg]; exact ⟨oj,d,hj,hd,.inl ⟨by rw [he.1]; exact h1,h2⟩⟩) h3 h3' h4
      · obtain ⟨h4,h5⟩:=stPut_inv h
        exact fin (he.trans he1) (by unfold StepV; rw [hg]; exact ⟨oj,d,hj,hd,.inr ⟨by rw [he.1]; exact h1,rfl⟩⟩) h5 (by intro _ _ h; cases h) h4

/-! ### what is read after a part of the block -/
def selL:List Item→(Nat→Bool)→Nat→AV→AV
  | [],_,_,base=>base
  | (i,o,v)::r,p,x,base=>if p i = true∧o.dst = some x then v else selL r p x base
theorem selL_append (l l':List Item) (p:Nat→Bool) (x:Nat) (base:AV):selL (l++l') p x base = selL l p x (selL l' p x base):=by
  induction l with
  | nil=>rfl
  | cons q r ih=>obtain ⟨i,o,v⟩:=q; simp only [List.cons_append,selL,ih]
theorem selL_skip {l:List Item} {p:Nat→Bool} {x:Nat} {base:AV} (h:∀ q ∈ l,p q.1 = true→q.2.1.dst≠some x):selL l p x base = base:=by
  induction l with
  | nil=>rfl
  | cons q r ih =>
    obtain ⟨i,o,v⟩:=q
    simp only [selL]
    rw [if_neg fun ⟨h1,h2⟩=>h _ (List.mem_cons_self ..) h1 h2]
    exact ih fun q hq=>h q (List.mem_cons_of_mem _ hq)
theorem selL_same {l:List Item} {p p':Nat→Bool} {x:Nat} {base:AV} (h:∀ q ∈ l,q.2.1.dst = some x→p q.1 = p' q.1):selL l p x base = selL l p' x base:=by
  induction l with
  | nil=>rfl
  | cons q r ih =>
    obtain ⟨i,o,v⟩:=q
    simp only [selL]
    rw [ih fun q hq=>h q (List.mem_cons_of_mem _ hq)]
    by_cases hd:o.dst = some x
    · rw [h _ (List.mem_cons_self ..) hd]
    · simp [hd]
def aft (o:Oper) (i:Nat):Bool:=o.after.any fun e=>Region.binds .any e && Nat.beq e.on i
theorem aft_spec {o:Oper} {i:Nat} (h:aft o i = true):∃ e ∈ o.after,Region.binds .any e = true∧e.on = i:=by
  obtain ⟨e,h1,h2⟩:=Array.any_eq_true'.1 h
  simp only [Bool.and_eq_true] at h2
  exact ⟨e,h1,h2.1,Nat.eq_of_beq_eq_true h2.2⟩
def PairOK (ops:Array Oper) (e t:Item):Prop :=
  e.1≠t.1∧(∀ d,e.2.1.dst = some d→t.2.1.dst≠some d)∧(aft t.2.1 e.1 = true∨((∀ d,e.2.1.dst = some d→d ∉ t.2.1.looksAt ops)∧∀ d,t.2.1.dst = some d→d ∉ e.2.1.looksAt ops))
theorem look_runI (l:List Item) (h:l.Pairwise (PairOK ops)):∀ (s:St) (x:Nat),look (runI l s).slots x = selL l (fun _=>true) x (look s.slots x):=by
  induction l with
  | nil=>intro s x; rfl
  | cons q r ih =>
    obtain ⟨i,o,v⟩:=q
    intro s x
    rw [List.pairwise_cons] at h
    simp only [runI,selL]
    rw [ih h.2,look_putO]
    by_cases hd:o.dst = some x
    · rw [if_pos hd,if_pos ⟨trivial,hd⟩]
      exact selL_skip fun q hq _=>(h.1 q hq).2.1 x hd
    · rw [if_neg hd,if_neg fun h=>hd h.2]
theorem boxes_runI (l:List Item):∀ s,(runI l s).boxes = s.boxes:=by
  induction l with
  | nil=>intro s; rfl
  | cons q r ih=>obtain ⟨i,o,v⟩:=q; intro s; simp only [runI]; rw [ih,boxes_putO]
theorem chain_at {fz:List Nat} {opl:List Oper} (pre:List Item) {i:Nat} {o:Oper} {v:AV} {post:List Item}:∀ s,Chain P Γ N fz opl (pre++(i,o,v)::post) s→StepV P Γ opl o (runI pre s) v∧∀ d,o.dst = some d→d < N:=by
  induction pre with
  | nil=>intro s h; exact ⟨h.1,h.2.1⟩
  | cons q r ih=>obtain ⟨i',o',v'⟩:=q; intro s h; exact ih _ h.2.2.2
theorem chain_ids {fz:List Nat} {opl:List Oper} (l:List Item):∀ s,Chain P Γ N fz opl l s→∀ q ∈ l,∀ d ∈ fz,d ∈ ids q.2.2→q.2.1.dst = some d:=by
  induction l with
  | nil=>intro _ _ q hq; cases hq
  | cons q' r ih =>
    obtain ⟨i,o,v⟩:=q'
    intro s h q hq
    rcases List.mem_cons.1 hq with rfl | hq
    · exact h.2.2.1
    · exact ih _ h.2.2.2 q hq
theorem selL_or {l:List Item} {p:Nat→Bool} {x:Nat} {base:AV}:selL l p x base = base∨∃ q ∈ l,p q.1 = true∧selL l p x base = q.2.2:=by
  induction l with
  | nil=>exact .inl rfl
  | cons q r ih =>
    obtain ⟨i,o,v⟩:=q
    simp only [selL]
    split
    · rename_i hp; exact .inr ⟨_,List.mem_cons_self .., hp.1,rfl⟩
    · exact ih.imp id fun ⟨q,hq,e⟩=>⟨q,List.mem_cons_of_mem _ hq,e⟩

/-! ### the block, in any order -/
def cnt:List Item→(Nat→Bool)→Nat
  | [],_=>0
  | q::r,p=>(if p q.1 = true then 0 else 1) + cnt r p
theorem cnt_le {l:List Item} {p p':Nat→Bool} (h:∀ i,p i = true→p' i = true):cnt l p'≤cnt l p:=by
  induction l with
  | nil=>exact Nat.le_refl _
  | cons q r ih =>
    simp only [cnt]
    by_cases h1:p q.1 = true
    · rw [if_pos h1,if_pos (h _ h1)]; omega
    · rw [if_neg h1]; split<;>omega
theorem cnt_lt {l:List Item} {p p':Nat→Bool} (h:∀ i,p i = true→p' i = true) {q:Item} (hq:q ∈ l) (h1:p q.1≠true) (h2:p' q.1 = true):cnt l p' < cnt l p:=by
  induction l with
  | nil=>cases hq
  | cons q' r ih =>
    simp only [cnt]
    rcases List.mem_cons.1 hq with rfl | hq
    · rw [if_pos h2,if_neg h1]; have:=cnt_le (l:=r) h; omega
    · have:=ih hq
      by_cases h3:p q'.1 = true
      · rw [if_pos h3,if_pos (h _ h3)]; omega
      · rw [if_neg h3]; split<;>omega
theorem cnt_all {l:List Item} {p:Nat→Bool} (h:cnt l p = 0):∀ q ∈ l,p q.1 = true:=by
  induction l with
  | nil=>intro q hq; cases hq
  | cons q' r ih =>
    simp only [cnt] at h
    intro q hq
    rcases List.mem_cons.1 hq with rfl | hq
    · by_cases h3:p q.1 = true
      · exact h3
      · rw [if_neg h3] at h; omega
    · exact ih (by omega) q hq
theorem first_not {l:List Item} {p:Nat→Bool} (h:cnt l p≠0):∃ pre q post,l = pre++q::post∧(∀ r ∈ pre,p r.1 = true)∧p q.1≠true:=by
  induction l with
  | nil=>exact absurd rfl h
  | cons q' r ih =>
    by_cases h3:p q'.1 = true
    · simp only [cnt,if_pos h3] at h
      obtain ⟨pre,q,post,rfl,h4,h5⟩:=ih (by omega)
      exact ⟨q'::pre,q,post,rfl,fun x hx=>by rcases List.mem_cons.1 hx with rfl | hx; exact h3; exact h4 x hx,h5⟩
    · exact ⟨[],q',r,rfl,(by intro x hx; cases hx),h3⟩
def setAll (listed:Array Bool) (B:List Nat):Array Bool:=B.foldl (fun l i=>l.setIfInBounds i true) listed
theorem setAll_size (B:List Nat):∀ listed:Array Bool,(setAll listed B).size = listed.size:=by
  induction B with
  | nil=>intro l; rfl
  | cons i r ih=>intro l; simp only [setAll,List.foldl_cons]; exact (ih _).trans (by simp)
theorem setAll_get (B:List Nat):∀ (listed:Array Bool) (j:Nat),j < listed.size→(setAll listed B).getD j false = (decide (j ∈ B) || listed.getD j false):=by
  induction B with
  | nil=>intro l j _; simp [setAll]
  | cons i r ih =>
    intro l j hj
    have h1:=ih (l.setIfInBounds i true) j (by simpa using hj)
    simp only [setAll,List.foldl_cons] at h1 ⊢
    rw [h1]
    by_cases hij:i = j
    · subst hij; simp [hj]
    · have hji:j≠i:=fun e=>hij e.symm
      simp [Array.getElem?_setIfInBounds_ne hij,hji]

def lastB (oj:Oper):List Item→Prop
  | []=>True
  | q::r=>(aft oj q.1 = true∨∃ q' ∈ r,aft q'.2.1 q.1 = true)∧lastB oj r

structure BlkOK (ops:Array Oper) (listed:Array Bool) (its itB:List Item):Prop where
  size:listed.size = ops.size
  un:∀ q ∈ its,listed.getD q.1 true = false
  at':∀ q ∈ its,ops[q.1]? = some q.2.1
  pairs:its.Pairwise (PairOK ops)
  prev:∀ pre q post,its = pre++q::post→∀ e ∈ q.2.1.after,Region.binds .any e = true→listed.getD e.on false = true∨∃ r ∈ pre,r.1 = e.on
  last:∀ j oj,ops[j]? = some oj→listed.getD j true = false→(∀ q ∈ its,q.1≠j)→lastB oj itB∨∃ j',aft oj j' = true∧listed.getD j' false = false∧∀ q ∈ its,q.1≠j'

theorem getD_dflt {l:Array Bool} {i:Nat} (h:i < l.size) (d d':Bool):l.getD i d = l.getD i d':=by simp [h]

theorem cnt_zero (l:List Item) (p:Nat→Bool) (h:∀ q ∈ l,p q.1 = true):cnt l p = 0:=by
  induction l with
  | nil=>rfl
  | cons q r ih =>
    have h1:=ih fun q hq=>h q (List.mem_cons_of_mem _ hq)
    simp only [cnt,h q (List.mem_cons_self ..),if_true,h1]
theorem blk_exit {its itB itE : List Item} (hsp : its = itB ++ itE) (hE : itE.length ≤ 1) {listed0 listed : Array Bool} (hb : BlkOK ops listed0 its itB) {s0 s : St} (hz : ¬ cnt its (fun i => listed.getD i false) = 0) (hBall : ∀ q ∈ itB, listed.getD q.1 false = true)
    (hsz:listed.size = ops.size) (h1:∀ j,(∀ q ∈ its,q.1≠j)→listed.getD j false = listed0.getD j false) (hbx:s.boxes = s0.boxes) (hlk:∀ x,look s.slots x = selL its (fun i=>listed.getD i false) x (look s0.slots x)) :
    itE≠[]∧listed = setAll listed0 (itB.map (·.1))∧Eqv s (runI itB s0):=by
  obtain ⟨ie,rfl⟩:∃ ie,itE = [ie]:=by
    cases itE with
    | nil=>exact absurd (cnt_zero its _ (by rw [hsp,List.append_nil]; exact hBall)) hz
    | cons ie r =>
      cases r with
      | nil=>exact ⟨ie,rfl⟩
      | cons _ _=>simp only [List.length_cons] at hE; omega
  have hie:listed.getD ie.1 false≠true:=fun h=>hz (cnt_zero its _ fun q hq=>by
    rw [hsp] at hq
    rcases List.mem_append.1 hq with hq | hq
    · exact hBall q hq
    · rw [List.mem_singleton.1 hq]; exact h)
  have hpB:itB.Pairwise (PairOK ops):=by
    have:=hb.pairs
    rw [hsp] at this
    exact (List.pairwise_append.1 this).1
  refine ⟨by simp,?_,fun x=>?_,fun _=>by rw [boxes_runI,hbx]⟩
  · apply Array.ext
    · rw [setAll_size,hsz,hb.size]
    · intro j hj hj'
      have hj0:j < listed0.size:=by rw [hb.size,← hsz]; exact hj
      have h3:=setAll_get (itB.map (·.1)) listed0 j hj0
      have h4:listed.getD j false = (setAll listed0 (itB.map (·.1))).getD j false:=by
        rw [h3]
        by_cases hm:j ∈ itB.map (·.1)
        · obtain ⟨q,hq,rfl⟩:=List.mem_map.1 hm
          rw [hBall q hq]; simp [hm]
        · by_cases hji:j = ie.1
          · subst hji
            have h5:=hb.un ie (by rw [hsp]; simp)
            rw [getD_dflt hj0 true false] at h5
            rw [h5]
            simp only [hm,decide_false,Bool.false_or]
            cases h6:listed.getD ie.1 false with
            | false=>rfl
            | true=>exact absurd h6 hie
          · rw [h1 j fun q hq e=>?_]
            · simp only [hm,decide_false,Bool.false_or]
            · rw [hsp] at hq
              rcases List.mem_append.1 hq with hq | hq
              · exact hm (List.mem_map.2 ⟨q,hq,e⟩)
              · rw [List.mem_singleton.1 hq] at e; exact hji e.symm
      simpa [hj,hj'] using h4
  · rw [hlk,look_runI itB hpB,hsp,selL_append]
    have h5:selL [ie] (fun i=>listed.getD i false) x (look s0.slots x) = look s0.slots x:=by
      refine selL_skip fun q hq hl=>?_
      rw [List.mem_singleton.1 hq] at hl
      exact absurd hl hie
    rw [h5]
    exact selL_same fun q hq _=>hBall q hq
theorem blk_ok (hΓ : Γ.good P) {Q : Exit → Act → World → Prop} {its itB itE : List Item} (hsp : its = itB ++ itE) (hE : itE.length ≤ 1) {listed0 : Array Bool} (hb : BlkOK ops listed0 its itB) {s0 : St} {fz : List Nat} (hc : Chain P Γ N fz ops.toList its s0)
    (hfz:∀ q ∈ its,((∃ t len ps,q.2.1.op = .buildSlice t len ps)∨∃ t,q.2.1.op = .alloc t)→∃ d,q.2.1.dst = some d∧d ∈ fz) (hN0:∀ d ∈ fz,¬ Nm s0 d) {f:Nat}
    (hend:∀ fuel a w,f≤fuel→Inv W0 F X N (runI its s0) a w→wpAny P .any ops Q fuel (setAll listed0 (its.map (·.1))) a w)
    (hx:itE≠[]→∀ fuel a w,f + 1≤fuel→Inv W0 F X N (runI itB s0) a w→wpAny P .any ops Q fuel (setAll listed0 (itB.map (·.1))) a w) :
    ∀ (n fuel:Nat) (listed:Array Bool) (s:St) (a:Act) (w:World),cnt its (fun i=>listed.getD i false)≤n→n + f≤fuel→listed.size = ops.size →
      (∀ j,(∀ q ∈ its,q.1≠j)→listed.getD j false = listed0.getD j false) →
      (∀ q ∈ its,listed.getD q.1 false = true→∀ e ∈ q.2.1.after,Region.binds .any e = true→listed.getD e.on false = true) →
      s.boxes = s0.boxes→(∀ x,look s.slots x = selL its (fun i=>listed.getD i false) x (look s0.slots x))→Inv W0 F X N s a w→wpAny P .any ops Q fuel listed a w:=by
  intro n
  induction n with
  | zero =>
    intro fuel listed s a w hn hf hsz h1 h2 hbx hlk ⟨β,hI⟩
    have hall:=cnt_all (Nat.le_zero.1 hn)
    have e:listed = setAll listed0 (its.map (·.1)):=by
      apply Array.ext
      · rw [setAll_size,hsz,hb.size]
      · intro j hj hj'
        have hj0:j < listed0.size:=by rw [hb.size,← hsz]; exact hj
        have h3:=setAll_get (its.map (·.1)) listed0 j hj0
        have h4:listed.getD j false = (setAll listed0 (its.map (·.1))).getD j false:=by
          rw [h3]
          by_cases hm:j ∈ its.map (·.1)
          · obtain ⟨q,hq,rfl⟩:=List.mem_map.1 hm
            rw [hall q hq]; simp [hm]
          · rw [h1 j fun q hq e=>hm (List.mem_map.2 ⟨q,hq,e⟩)]; simp only [hm,decide_false,Bool.false_or]
        simpa [hj,hj'] using h4
    rw [e]
    refine hend fuel a w (by omega) ⟨β,Eqv.inv hI ⟨fun x=>?_,fun _=>by rw [boxes_runI,hbx]⟩⟩
    rw [hlk,look_runI its hb.pairs]
    exact selL_same fun q hq _=>hall q hq
  | succ n ih =>
    intro fuel listed s a w hn hf hsz h1 h2 hbx hlk hInv
    by_cases hz:cnt its (fun i=>listed.getD i false) = 0
    · exact ih fuel listed s a w (by omega) (by omega) hsz h1 h2 hbx hlk hInv
    by_cases hBall:∀ q ∈ itB,listed.getD q.1 false = true
    · obtain ⟨β,hI⟩:=hInv
      obtain ⟨k1,k2,k3⟩:=blk_exit hsp hE hb hz hBall hsz h1 hbx hlk
      rw [k2]
      exact hx k1 fuel a w (by omega) ⟨β,Eqv.inv hI k3⟩
    obtain ⟨qB,hqB,hqBn⟩:∃ q ∈ itB,listed.getD q.1 false≠true:=by
      refine Classical.byContradiction fun h=>hBall fun q hq=>?_
      refine Classical.byContradiction fun h2=>h ⟨q,hq,h2⟩
    obtain ⟨fuel,rfl⟩:∃ k,fuel = k + 1:=⟨fuel - 1,by omega⟩
    -- the first that is not there yet can be taken
    obtain ⟨pre,q,post,e,hpre,hq⟩:=first_not hz
    have hlt:∀ q ∈ its,q.1 < ops.size:=fun q hq=>(Array.getElem?_eq_some_iff.1 (hb.at' q hq)).1
    have hunb:∀ q ∈ its,listed.getD q.1 false≠true→listed.getD q.1 true = false:=fun q hq h=>by
      rw [getD_dflt (by rw [hsz]; exact hlt q hq) true false]; simpa using h
    have hready:q.1 ∈ Region.ready .any ops listed:=by
      have hqm:q ∈ its:=by rw [e]; simp
      refine mem_ready.2 ⟨hunb q hqm hq,q.2.1,hb.at' q hqm,fun ed hed hbd=>?_⟩
      rcases hb.prev pre q post e ed hed hbd with h | ⟨r,hr,hre⟩
      · by_cases hm:∃ q' ∈ its,q'.1 = ed.on
        · obtain ⟨q',hq',hqe⟩:=hm
          exfalso
          have:=hb.un q' hq'
          rw [hqe,getD_dflt (by rw [hb.size,← hqe]; exact hlt q' hq') true false,h] at this
          cases this
        · rw [h1 _ fun q' hq' he=>hm ⟨q',hq',he⟩]; exact h
      · rw [← hre]; exact hpre r hr
    refine ⟨fun h=>(by rw [h] at hready; cases hready),fun j hj=>?_⟩
    obtain ⟨hjun,oj,hoj,hjall⟩:=mem_ready.1 hj
    have hjun':listed.getD j false≠true:=by
      intro h
      have hjs:j < listed.size:=by rw [hsz]; exact (Array.getElem?_eq_some_iff.1 hoj).1
      rw [getD_dflt hjs true false,h] at hjun; cases hjun
    -- it is one of the block
    obtain ⟨it,hit,hitj⟩:∃ it ∈ its,it.1 = j:=by
      by_cases hm:∃ it ∈ its,it.1 = j
      · exact hm
      · exfalso
        have hno:∀ q ∈ its,q.1≠j:=fun q hq e=>hm ⟨q,hq,e⟩
        have hj0:listed0.getD j true = false:=by
          have hjs:j < listed0.size:=by rw [hb.size]; exact (Array.getElem?_eq_some_iff.1 hoj).1
          rw [getD_dflt hjs true false,← h1 j hno]; simpa using hjun'
        rcases hb.last j oj hoj hj0 hno with hl | ⟨j',hl1,hl2,hl3⟩
        case inr =>
          obtain ⟨ed,h3,h4,h5⟩:=aft_spec hl1
          have h6:=hjall ed h3 h4
          rw [h5,h1 j' hl3,hl2] at h6
          cases h6
        have key:∀ l:List Item,(∀ q ∈ l,q ∈ its)→lastB oj l→∀ q ∈ l,listed.getD q.1 false = true:=by
          intro l
          induction l with
          | nil=>intro _ _ q hq; cases hq
          | cons q r ihl =>
            intro hsub ⟨hl1,hl2⟩
            have hr:=ihl (fun q hq=>hsub q (List.mem_cons_of_mem _ hq)) hl2
            intro q' hq'
            rcases List.mem_cons.1 hq' with rfl | hq'
            · rcases hl1 with h | ⟨q'',hq'',h⟩
              · obtain ⟨ed,h3,h4,h5⟩:=aft_spec h
                rw [← h5]; exact hjall ed h3 h4
              · obtain ⟨ed,h3,h4,h5⟩:=aft_spec h
                rw [← h5]; exact h2 q'' (hsub q'' (List.mem_cons_of_mem _ hq'')) (hr q'' hq'') ed h3 h4
            · exact hr q' hq'
        exact hqBn (key itB (fun q hq=>by rw [hsp]; exact List.mem_append_left _ hq) hl qB hqB)
    subst hitj
    obtain ⟨pre',post',e'⟩:=List.append_of_mem hit
    obtain ⟨i,o,v⟩:=it
    have hoj':=hb.at' _ hit
    rw [hoj] at hoj'; injection hoj' with hoj'
    have hoj'':=hoj'.symm
    subst hoj''
    obtain ⟨hstep,hdN⟩:=chain_at pre' s0 (by rw [← e']; exact hc)
    have hpw:=hb.pairs
    rw [e'] at hpw
    obtain ⟨hpw1,hpw2,hpw3⟩:=List.pairwise_append.1 hpw
    rw [List.pairwise_cons] at hpw2
    have hread:∀ x ∈ o.looksAt ops,look s.slots x = look (runI pre' s0).slots x:=fun x hx=>by
      rw [hlk,look_runI pre' hpw1,e',selL_append]
      have h3:selL ((i,o,v)::post') (fun i=>listed.getD i false) x (look s0.slots x) = look s0.slots x:=by
        refine selL_skip fun q hq hlq hdq=>?_
        rcases List.mem_cons.1 hq with rfl | hq
        · exact hjun' hlq
        · obtain ⟨_,_,h5⟩:=hpw2.1 q hq
          rcases h5 with h5 | ⟨_,h5⟩
          · obtain ⟨ed,h6,h7,h8⟩:=aft_spec h5
            have:=h2 q (by rw [e']; simp [hq]) hlq ed h6 h7
            rw [h8] at this
            exact hjun' this
          · exact h5 x hdq hx
      rw [h3]
      refine selL_same fun q hq hdq=>?_
      obtain ⟨_,_,h5⟩:=hpw3 q hq (i,o,v) (List.mem_cons_self ..)
      rcases h5 with h5 | ⟨h5,_⟩
      · obtain ⟨ed,h6,h7,h8⟩:=aft_spec h5
        rw [← h8]; exact hjall ed h6 h7
      · exact absurd hx (h5 x hdq)
    have hbx':s.boxes = (runI pre' s0).boxes:=by rw [boxes_runI,hbx]
    have hcongr:∀ K,calmD P Γ s o K = calmD P Γ (runI pre' s0) o K:=calmD_congr (fun _=>by rw [hbx']) fun x hx=>by
      cases x with
      | tmp t=>exact hread t (by simp only [Oper.looksAt,List.mem_append,List.mem_filterMap]; exact .inl ⟨_,hx,rfl⟩)
      | _=>rfl
    -- and what comes after it is known
    have hnext:∀ a' w',Inv W0 F X N (putO s o.dst v) a' w'→wpAny P .any ops Q fuel (listed.setIfInBounds i true) a' w':=by
      intro a' w' hI'
      have hset:∀ k,(listed.setIfInBounds i true).getD k false = (decide (k = i) || listed.getD k false):=fun k=>by
        by_cases hk:i = k
        · subst hk
          have:i < listed.size:=by rw [hsz]; exact hlt _ hit
          simp [this]
        · have hk':k≠i:=fun e=>hk e.symm
          simp [Array.getElem?_setIfInBounds_ne hk,hk']
      have huniq:∀ q ∈ its,q.1 = i→q = (i,o,v):=fun q hq hqi=>by
        rw [e'] at hq
        rcases List.mem_append.1 hq with hq | hq
        · exact absurd hqi (hpw3 q hq (i,o,v) (List.mem_cons_self ..)).1
        · rcases List.mem_cons.1 hq with rfl | hq
          · rfl
          · exact absurd hqi.symm (hpw2.1 q hq).1
      refine ih fuel _ (putO s o.dst v) a' w' ?_ (by omega) (by simpa using hsz) (fun k hk=>?_) (fun q hq hl ed hed hbd=>?_) (by rw [boxes_putO,hbx]) (fun x=>?_) hI'
      · have:=cnt_lt (l:=its) (p:=fun i=>listed.getD i false) (p':=fun k=>(listed.setIfInBounds i true).getD k false) (fun k hk=>by rw [hset,hk]; simp) hit hjun' (by rw [hset]; simp)
        omega
      · rw [hset,h1 k hk]
        have:k≠i:=fun e=>hk _ hit e.symm
        simp [this]
      · rw [hset] at hl ⊢
        by_cases hqi:q.1 = i
        · have:=huniq q hq hqi
          subst this
          rw [hjall ed hed hbd]; simp
        · have hlq:listed.getD q.1 false = true:=by simpa [hqi] using hl
          rw [h2 q hq hlq ed hed hbd]; simp
      · rw [look_putO]
        by_cases hd:o.dst = some x
        · rw [if_pos hd,e',selL_append]
          have h3:selL ((i,o,v)::post') (fun k=>(listed.setIfInBounds i true).getD k false) x (look s0.slots x) = v:=by
            simp only [selL]
            rw [if_pos ⟨by rw [hset]; simp,hd⟩]
          rw [h3]
          exact (selL_skip fun q hq _ hdq=>(hpw3 q hq (i,o,v) (List.mem_cons_self ..)).2.1 x hdq hd).symm
        · rw [if_neg hd,hlk]
          refine selL_same fun q hq hdq=>?_
          show listed.getD q.1 false = (listed.setIfInBounds i true).getD q.1 false
          rw [hset]
          by_cases hqi:q.1 = i
          · have:=huniq q hq hqi
            subst this
            exact absurd hdq hd
          · simp [hqi]
    obtain ⟨β,hI⟩:=hInv
    have hrun:calmD P Γ (runI pre' s0) o (fun u=>u = v)→o.wp P a w (wpAny P .any ops Q fuel (listed.setIfInBounds i true)) Q:=fun h=>by
      rw [← hcongr] at h
      refine calm_wp hΓ hI (fun hb'=>?_) hdN h hnext
      obtain ⟨d,h1,h2⟩:=hfz _ hit hb'
      refine ⟨d,h1,?_⟩
      rintro (⟨cs,hcs⟩ | ⟨n,hn⟩ | ⟨k,cs,hk,c,hc',hn⟩)
      · exact hN0 d h2 (.inl ⟨cs,by rw [← hbx]; exact hcs⟩)
      · rw [hlk] at hn
        rcases selL_or (l:=its) (p:=fun i=>listed.getD i false) (x:=n) (base:=look s0.slots n) with h3 | ⟨q,hq,hlq,h3⟩
        · rw [h3] at hn; exact hN0 d h2 (.inr (.inl ⟨n,hn⟩))
        · rw [h3] at hn
          have hqd:=chain_ids its s0 hc q hq d h2 hn
          rw [e'] at hq
          rcases List.mem_append.1 hq with hq | hq
          · exact (hpw3 q hq (i,o,v) (List.mem_cons_self ..)).2.1 d hqd h1
          · rcases List.mem_cons.1 hq with rfl | hq
            · exact hjun' hlq
            · exact (hpw2.1 q hq).2.1 d h1 hqd
      · exact hN0 d h2 (.inr (.inr ⟨k,cs,by rw [← hbx]; exact hk,c,hc',hn⟩))
    unfold wpOp
    rw [hoj]
    show if _ then _ else _
    cases hg:o.guard with
    | none =>
      unfold StepV at hstep
      rw [hg] at hstep
      rw [if_pos (by simp [Region.wanted,hg])]
      exact .inl (hrun hstep)
    | some p =>
      obtain ⟨gj,want⟩:=p
      unfold StepV at hstep
      rw [hg] at hstep
      obtain ⟨og,d,hgj,hgd,hstep⟩:=hstep
      have hd:look s.slots d = look (runI pre' s0).slots d:=hread d (by
        simp only [Oper.looksAt,hg,List.mem_append]
        refine .inr ?_
        have:ops[gj]? = some og:=by simpa using hgj
        simp [this,hgd])
      rcases hstep with ⟨h3,h4⟩ | ⟨h3,h4⟩
      · have hgk : guardK N true s d want (fun _ => True) (fun _ => False) := by
          unfold guardK; rw [lookK_eq,hd,h3]
          cases want<;>trivial
        rcases guard_ok hI hgj hgd hgk with ⟨_,_,hy,_⟩ | ⟨_,_,_,h⟩
        · rw [if_pos (by simp [Region.wanted,hg]; exact hy)]
          exact .inl (hrun h4)
        · exact h.elim
      · have hgk : guardK N true s d want (fun _ => False) (fun _ => True) := by
          unfold guardK; rw [lookK_eq,hd]
          rcases h3 with h3 | h3
          · rw [h3]; cases want<;>trivial
          · rw [h3]; trivial
        rcases guard_ok hI hgj hgd hgk with ⟨_,_,_,h⟩ | ⟨_,_,hy,_⟩
        · exact h.elim
        · rw [if_neg (by simp [Region.wanted,hg]; exact hy)]
          subst h4
          obtain ⟨s2,k1,k2⟩:=putIm_ok hI (Stp.refl _ w) (stPut_mk (K:=fun s'=>s' = putO s o.dst (.tup [])) hdN rfl) (undef_rel _ _)
          exact hnext _ _ (k1 ▸ ⟨β,k2⟩)

/-! ### a region's plan -/
inductive OT where
  | fin
  | finR
  | non
  | opt (i:Nat) (k alt:OT)
inductive Ph where
  | tree (n:Nat) (S:List Nat) (t:OT)
  | take (i:Nat)
  | one (i:Nat)
  | blk (B:List Nat) (fz:List Nat:=[])
  | blkE (B fz:List Nat) (e n:Nat) (S:List Nat) (t1 t2:OT)
  | two (i j:Nat)
  | twoT (i j t:Nat)
def phLen:Ph→Nat
  | .tree n _ _=>n
  | .blk B _=>B.length
  | .blkE B _ _ n _ _ _=>B.length + n
  | .two _ _=>2
  | .twoT _ _ _=>3
  | _=>1
def gStepK (N:Nat) (ops:List Oper) (o:Oper) (known:List Nat) (s:St) (run:(List Nat)→St→Prop) (skip:(List Nat)→St→Prop):Prop :=
  match o.guard with
  | none=>run known s
  | some (j,want)=>nthK ops j fun oj=>optK oj.dst fun d=>guardK N (inB j known) s d want (run (j::known)) (skip (j::known))
def noGuard (o:Oper) (K:Prop):Prop:=match o.guard with
  | none=>K
  | some _=>False
def vcOT (P:Program) (Γ:Ctx) (N:Nat) (ops:List Oper) (T:St):OT→St→Prop
  | .fin,s=>Wk s T
  | .finR,s=>∃ rn,renStK rn s fun s=>Wk s T
  | .non,_=>True
  | .opt i k alt,s=>(nthK ops i fun o=>noGuard o (opK P Γ N o s fun s=>vcOT P Γ N ops T k s))∧vcOT P Γ N ops T alt s
def heads:OT→List Nat
  | .opt i _ alt=>i::heads alt
  | _=>[]
def eqL:List Nat→List Nat→Bool
  | [],[]=>true
  | a::r,b::r'=>Nat.beq a b && eqL r r'
  | _,_=>false
theorem eqL_eq:∀ {l m:List Nat},eqL l m = true→l = m
  | [],[],_=>rfl
  | [],_::_,h=>nomatch h
  | _::_,[],h=>nomatch h
  | a::r,b::r',h=>by
    simp only [eqL,Bool.and_eq_true] at h
    rw [Nat.eq_of_beq_eq_true h.1,eqL_eq h.2]
def headOT (ops:Array Oper) (listed:Array Bool):OT→Bool
  | .fin=>true
  | .finR=>true
  | .non=>false
  | t=>eqL (Region.ready .any ops listed) (heads t)
def okOT (ops:Array Oper) (full:Array Bool):Nat→Array Bool→OT→Bool
  | n,listed,.fin=>Nat.beq n 0 && decide (listed = full)
  | n,listed,.finR=>Nat.beq n 0 && decide (listed = full)
  | _,_,.non=>true
  | n,listed,.opt i k alt=>(match n with
    | 0=>false
    | m + 1=>headOT ops (listed.setIfInBounds i true) k && okOT ops full m (listed.setIfInBounds i true) k) && okOT ops full n listed alt
def unnwK (N:Nat) (d:Nat) (s:St) (K:St→Prop):Prop:=lookK s.slots d fun v=>match v with
  | .ob i j (.nw zs)=>chkK (Nat.beq i d) (chkK (Nat.beq j d) (chkK (Nat.blt d N) (ofValsK zs fun cs=>mapVK (killK d) s.slots fun sl=>mapBK (killK d) s.boxes fun b=>setLK b d cs fun b=>setLK sl d (.pt d 0) fun sl=>K ⟨sl,b⟩)))
  | _=>K s
def unnwAllK (N:Nat):List Nat→St→(St→Prop)→Prop
  | [],s,K=>K s
  | d::r,s,K=>unnwK N d s fun s=>unnwAllK N r s K
theorem InvB.unnw (h:InvB W0 F X N s β a w) {d:Nat} {zs:List Value} (hd:d < N) (hv:look s.slots d = .ob d d (.nw zs)):InvB W0 F X N (((s.map (SX.kill d)).setBox d (ofVals zs)).put d (.pt d 0)) β a w:=by
  obtain ⟨b,T,h1,h2,h3,h4⟩:ObAt β (Own X s β) w d d (.nw zs) (a.tmps.getD d undef):=by have:=h.slots d; rw [hv] at this; exact this
  have hdN:Nm s d:=.inr (.inl ⟨d,by rw [hv]; simp [ids,ids0]⟩)
  have hNm:∀ m,Nm (((s.map (SX.kill d)).setBox d (ofVals zs)).put d (.pt d 0)) m→Nm s m:=by
    rintro m (⟨cs,hc⟩ | ⟨q,hq⟩ | ⟨k,cs,hk,c,hc,hm⟩)
    · simp only [St.put,St.setBox,lookB_setL,St.map,lookB_mapB] at hc
      split at hc
      · rename_i e; exact e ▸ hdN
      · obtain ⟨cs0,k1,_⟩:=Option.map_eq_some_iff.1 hc
        exact .inl ⟨cs0,k1⟩
    · simp only [St.put,St.setBox,look_setL] at hq
      split at hq
      · have:m = d:=by simpa [ids,ids0] using hq
        exact this ▸ hdN
      · simp only [St.map,look_mapV _ (kill_x d)] at hq
        exact .inr (.inl ⟨q,(kill_ids d _ m hq).1⟩)
    · simp only [St.put,St.setBox,lookB_setL,St.map,lookB_mapB] at hk
      split at hk
      · injection hk with hk
        subst hk
        rw [ofVals_ids zs c hc] at hm; cases hm
      · obtain ⟨cs0,k1,rfl⟩:=Option.map_eq_some_iff.1 hk
        rw [mapC_eq] at hc
        obtain ⟨c',hc',rfl⟩:=List.mem_map.1 hc
        exact .inr (.inr ⟨k,cs0,k1,c',hc',(kill_ids d _ m hm).1⟩)
  have hO:∀ k,Own X (((s.map (SX.kill d)).setBox d (ofVals zs)).put d (.pt d 0)) β k→Own X s β k:=fun k hk=>hk.imp id fun ⟨n,hn,hb⟩=>⟨n,hNm n hn,hb⟩
  have key:∀ {v:AV} {u:Value},Rel β (Own X s β) w v u→Rel β (Own X (((s.map (SX.kill d)).setBox d (ofVals zs)).put d (.pt d 0)) β) w (SX.kill d v) u:=fun {v u} hr=>by
    rcases (kill_cases d v).1 with e | e
    · rw [e]; exact hr.mono hO
    · rw [e]; exact Rel.x
  refine h.upd (Stp.refl (fun _=>False) w) (fun _ _ h=>h.elim) (fun m=>?_) (fun m cs hcs=>?_) (fun k m g hk hm=>h.inj k m g (hNm k hk) (hNm m hm)) (fun m g hm hg=>h.own m g (hNm m hm) hg) rfl rfl (fun m cs g hc hp=>?_)
  · simp only [St.put,look_setL]
    split
    · rename_i e
      subst e
      exact Rel.rel0 (v:=a.tmps.getD d undef) (av:=.pt d 0) ⟨b,h1,h2⟩
    · simp only [St.setBox,St.map,look_mapV _ (kill_x d)]
      exact key (h.slots m)
  · simp only [St.put,St.setBox,lookB_setL,St.map,lookB_mapB] at hcs
    split at hcs
    · rename_i e
      subst e
      injection hcs with hcs
      subst hcs
      exact ⟨b,zs.toArray,T,h1,h3,ofVals_all2 _ _ h4⟩
    · obtain ⟨cs0,k1,rfl⟩:=Option.map_eq_some_iff.1 hcs
      obtain ⟨g,us,e,k2,k3,k4⟩:=h.boxes m cs0 k1
      refine ⟨g,us,e,k2,k3,?_⟩
      rw [mapC_eq]
      refine ⟨by simpa using k4.1,fun j c v hc hv=>?_⟩
      rw [List.getElem?_map,Option.map_eq_some_iff] at hc
      obtain ⟨c',hc',rfl⟩:=hc
      exact ⟨key (k4.2 j c' v hc' hv).1,(k4.2 j c' v hc' hv).2⟩
  · simp only [St.put,St.setBox,lookB_setL,St.map,lookB_mapB] at hc
    split at hc
    · rename_i e
      subst e
      rw [h.pinN d hd] at hp; cases hp
    · obtain ⟨cs0,k1,_⟩:=Option.map_eq_some_iff.1 hc
      exact h.pin m cs0 g k1 hp
theorem unnwAll_ok (l:List Nat):∀ {s:St} {K:St→Prop},InvB W0 F X N s β a w→unnwAllK N l s K→∃ s',K s'∧InvB W0 F X N s' β a w:=by
  induction l with
  | nil=>intro s K hI h; exact ⟨s,h,hI⟩
  | cons d r ih =>
    intro s K hI h
    simp only [unnwAllK,unnwK,lookK_eq] at h
    split at h
    · rename_i i j zs hv
      obtain ⟨h1,h⟩:=(chkK_iff _ _).1 h
      obtain ⟨h2,h⟩:=(chkK_iff _ _).1 h
      obtain ⟨h3,h⟩:=(chkK_iff _ _).1 h
      have h1:=Nat.eq_of_beq_eq_true h1
      have h2:=Nat.eq_of_beq_eq_true h2
      subst h1
      subst h2
      rw [ofValsK_eq,mapVK_eq (killK_eq _),mapBK_eq (killK_eq _)] at h
      simp only [setLK_eq] at h
      exact ih (hI.unnw (by rw [Nat.blt_eq] at h3; exact h3) hv) h
    · exact ih hI h
def vcPlan (P:Program) (Γ:Ctx) (N:Nat) (ops:List Oper):List Ph→List Nat→St→(St→Prop)→Prop
  | [],_,s,Q=>Q s
  | .tree _ _ t::r,known,s,Q=>∃ T:St,vcOT P Γ N ops T t s∧vcPlan P Γ N ops r known T Q
  | .take i :: r, known, s, Q => nthK ops i fun o => gStepK N ops o known s (fun known s => valK Γ s o.op fun v => stPutK N s o.dst v fun s => vcPlan P Γ N ops r known s Q)
      (fun known s=>stPutK N s o.dst (.tup []) fun s=>vcPlan P Γ N ops r known s Q)
  | .one i :: r, known, s, Q => nthK ops i fun o => gStepK N ops o known s (fun known s => opK P Γ N o s fun s => vcPlan P Γ N ops r known s Q)
      (fun known s=>stPutK N s o.dst (.tup []) fun s=>vcPlan P Γ N ops r known s Q)
  | .two i j :: r, known, s, Q => ∃ T : St,
      (nthK ops i fun o=>nthK ops j fun o'=>noGuard o (noGuard o' (opK P Γ N o s fun s=>opK P Γ N o' s fun s=>Wk s T))) ∧
      (nthK ops j fun o=>nthK ops i fun o'=>noGuard o (noGuard o' (opK P Γ N o s fun s=>opK P Γ N o' s fun s=>Wk s T)))∧vcPlan P Γ N ops r known T Q
  | .twoT i j t :: r, known, s, Q => ∃ T : St,
      (nthK ops i fun o=>nthK ops j fun o'=>nthK ops t fun ot=>noGuard o (noGuard o' (noGuard ot (opK P Γ N o s fun s=>valK Γ s ot.op fun v=>stPutK N s ot.dst v fun s=>opK P Γ N o' s fun s=>Wk s T)))) ∧
      (nthK ops i fun o=>nthK ops j fun o'=>nthK ops t fun ot=>noGuard o (noGuard o' (noGuard ot (opK P Γ N o' s fun s=>opK P Γ N o s fun s=>valK Γ s ot.op fun v=>stPutK N s ot.dst v fun s=>Wk s T))))∧vcPlan P Γ N ops r known T Q
  | .blk B fz::r,known,s,Q=>frzAllK fz s fun s=>vcBlk P Γ N fz ops B known s fun s=>unnwAllK N fz s fun s=>vcPlan P Γ N ops r known s Q
  | .blkE B fz e _ _ t1 t2 :: r, known, s, Q => ∃ T : St, (frzAllK fz s fun s => vcBlk P Γ N fz ops B known s fun s =>
      (unnwAllK N fz s fun s=>vcOT P Γ N ops T t1 s)∧vcBlk P Γ N fz ops [e] [] s fun s=>unnwAllK N fz s fun s=>vcOT P Γ N ops T t2 s)∧vcPlan P Γ N ops r known T Q

def ppairB (ops:Array Oper) (e t:Nat × Oper):Bool :=
  !(Nat.beq e.1 t.1) && (match e.2.dst with
    | some d=>!(match t.2.dst with | some d'=>Nat.beq d d' | none=>false)
    | none=>true) &&
  (aft t.2 e.1 || ((match e.2.dst with
    | some d=>!(inB d (t.2.looksAt ops))
    | none=>true) && (match t.2.dst with
    | some d=>!(inB d (e.2.looksAt ops))
    | none=>true)))
def pairsB (ops:Array Oper):List (Nat × Oper)→Bool
  | []=>true
  | e::r=>r.all (ppairB ops e) && pairsB ops r
def prevB (listed:Array Bool):List Nat→List (Nat × Oper)→Bool
  | _,[]=>true
  | seen,(i,o)::r=>(o.after.all fun e=>!Region.binds .any e || listed.getD e.on false || inB e.on seen) && prevB listed (i::seen) r
def lastBB (oj:Oper):List (Nat × Oper)→Bool
  | []=>true
  | q::r=>(aft oj q.1 || r.any fun q'=>aft q'.2 q.1) && lastBB oj r
def pick (ops:Array Oper):List Nat→Option (List (Nat × Oper))
  | []=>some []
  | i::r=>match ops[i]?,pick ops r with
    | some o,some l=>some ((i,o)::l)
    | _,_=>none
def blkB (ops:Array Oper) (listed:Array Bool) (B:List Nat) (nB:Nat):Bool :=
  match pick ops B with
  | none=>false
  | some l=>(B.all fun i=>!(listed.getD i true)) && pairsB ops l && prevB listed [] l &&
    (List.range ops.size).all fun j=>listed.getD j true || inB j B || match ops[j]? with
      | some oj=>lastBB oj (l.take nB) || (List.range ops.size).any fun j'=>aft oj j' && !(listed.getD j' false) && !(inB j' B)
      | none=>true
def fzOK (fz:List Nat) (o:Oper):Bool:=match o.op with
  | .buildSlice _ _ _=>match o.dst with | some d=>inB d fz | none=>false
  | .alloc _=>match o.dst with | some d=>inB d fz | none=>false
  | _=>true
def planB (ops:Array Oper):Array Bool→List Ph→Bool
  | listed,[]=>(Region.ready .any ops listed).isEmpty
  | listed,.tree n S t::r=>headOT ops listed t && okOT ops (setAll listed S) n listed t && planB ops (setAll listed S) r
  | listed,.take i::r=>(Region.ready .any ops listed).contains i && Region.free .any ops listed i && planB ops (listed.setIfInBounds i true) r
  | listed,.one i::r=>(match Region.ready .any ops listed with
    | [j]=>Nat.beq i j
    | _=>false) && planB ops (listed.setIfInBounds i true) r
  | listed,.two i j::r=>(match Region.ready .any ops listed with
    | [i',j']=>Nat.beq i i' && Nat.beq j j'
    | _=>false) && (match Region.ready .any ops (listed.setIfInBounds i true) with
    | [j']=>Nat.beq j j'
    | _=>false) && (match Region.ready .any ops (listed.setIfInBounds j true) with
    | [i']=>Nat.beq i i'
    | _=>false) && planB ops ((listed.setIfInBounds i true).setIfInBounds j true) r
  | listed,.twoT i j t::r=>(match Region.ready .any ops listed with
    | [i',j']=>Nat.beq i i' && Nat.beq j j'
    | _=>false) && ((Region.ready .any ops (listed.setIfInBounds i true)).contains t && Region.free .any ops (listed.setIfInBounds i true) t) &&
    (match Region.ready .any ops ((listed.setIfInBounds i true).setIfInBounds t true) with
    | [j']=>Nat.beq j j'
    | _=>false) && (match Region.ready .any ops (listed.setIfInBounds j true) with
    | [i']=>Nat.beq i i'
    | _=>false) && ((Region.ready .any ops ((listed.setIfInBounds j true).setIfInBounds i true)).contains t && Region.free .any ops ((listed.setIfInBounds j true).setIfInBounds i true) t) &&
    decide (((listed.setIfInBounds i true).setIfInBounds t true).setIfInBounds j true = ((listed.setIfInBounds j true).setIfInBounds i true).setIfInBounds t true) && planB ops (((listed.setIfInBounds i true).setIfInBounds t true).setIfInBounds j true) r
  | listed,.blkE B fz e n S t1 t2::r=>(blkB ops listed (B++[e]) B.length && (B++[e]).all fun i=>match ops[i]? with | some o=>fzOK fz o | none=>false) &&
    (headOT ops (setAll listed B) t1 && okOT ops (setAll listed (B++S)) n (setAll listed B) t1) && (headOT ops (setAll listed (B++[e])) t2 && okOT ops (setAll listed (B++S)) (n - 1) (setAll listed (B++[e])) t2) && Nat.ble 1 n && planB ops (setAll listed (B++S)) r
  | listed,.blk B fz::r=>(blkB ops listed B B.length && B.all fun i=>match ops[i]? with | some o=>fzOK fz o | none=>false) && planB ops (setAll listed B) r
def planOK (ops:Array Oper) (pl:List Ph):Bool:=Region.noSelect ops && planB ops (Array.replicate ops.size false) pl && decide ((pl.map phLen).sum≤ops.size)

theorem pick_spec {B:List Nat}:∀ {l:List (Nat × Oper)},pick ops B = some l→∀ its:List Item,its.map (·.1) = B→(∀ it ∈ its,ops[it.1]? = some it.2.1)→its.map (fun q=>(q.1,q.2.1)) = l:=by
  induction B with
  | nil =>
    intro l h its h1 _
    injection h with h; subst h
    cases its with
    | nil=>rfl
    | cons _ _=>cases h1
  | cons i r ih =>
    intro l h its h1 h2
    cases its with
    | nil=>cases h1
    | cons q t =>
      obtain ⟨i',o,v⟩:=q
      simp only [List.map_cons,List.cons.injEq] at h1
      obtain ⟨rfl,h1⟩:=h1
      have h3:=h2 _ (List.mem_cons_self ..)
      have h3':ops[i']? = some o:=h3
      simp only [pick,h3'] at h
      cases hp:pick ops r with
      | none=>rw [hp] at h; cases h
      | some l' =>
        rw [hp] at h
        injection h with h
        subst h
        simp only [List.map_cons]
        rw [ih hp t h1 fun it hit=>h2 it (List.mem_cons_of_mem _ hit)]
theorem pairs_spec {its:List Item} (h:pairsB ops (its.map fun q=>(q.1,q.2.1)) = true):its.Pairwise (PairOK ops):=by
  induction its with
  | nil=>exact List.Pairwise.nil
  | cons e r ih =>
    simp only [List.map_cons,pairsB,Bool.and_eq_true,List.all_eq_true] at h
    refine List.Pairwise.cons (fun t ht=>?_) (ih h.2)
    have:=h.1 (t.1,t.2.1) (List.mem_map.2 ⟨t,ht,rfl⟩)
    simp only [ppairB,Bool.and_eq_true,Bool.or_eq_true] at this
    obtain ⟨⟨h1,h2⟩,h3⟩:=this
    refine ⟨fun e'=>by rw [e'] at h1; simp at h1,fun d hd hd'=>by rw [hd,hd'] at h2; simp at h2,h3.imp id fun h4=>⟨fun d hd hm=>?_,fun d hd hm=>?_⟩⟩
    · have:=h4.1; rw [hd] at this; simp only [Bool.not_eq_true'] at this
      rw [inB_iff.2 hm] at this; cases this
    · have:=h4.2; rw [hd] at this; simp only [Bool.not_eq_true'] at this
      rw [inB_iff.2 hm] at this; cases this
theorem prev_spec {listed : Array Bool} (its : List Item) : ∀ seen, prevB listed seen (its.map fun q => (q.1, q.2.1)) = true →
    ∀ pre q post,its = pre++q::post→∀ e ∈ q.2.1.after,Region.binds .any e = true→listed.getD e.on false = true∨e.on ∈ seen∨∃ r ∈ pre,r.1 = e.on:=by
  induction its with
  | nil=>intro seen _ pre q post e; cases pre<;>cases e
  | cons t r ih =>
    intro seen h pre q post e ed hed hbd
    simp only [List.map_cons,prevB,Bool.and_eq_true] at h
    cases pre with
    | nil =>
      simp only [List.nil_append,List.cons.injEq] at e
      obtain ⟨rfl,rfl⟩:=e
      have:=Array.all_eq_true_iff_forall_mem.1 h.1 ed hed
      simp only [Bool.or_eq_true,Bool.not_eq_true',hbd,Bool.true_eq_false,false_or] at this
      rcases this with h1 | h1
      · exact .inl h1
      · exact .inr (.inl (inB_iff.1 h1))
    | cons p pre =>
      simp only [List.cons_append,List.cons.injEq] at e
      obtain ⟨rfl,e⟩:=e
      rcases ih _ h.2 pre q post e ed hed hbd with h1 | h1 | ⟨r',h1,h2⟩
      · exact .inl h1
      · rcases List.mem_cons.1 h1 with h1 | h1
        · exact .inr (.inr ⟨t,List.mem_cons_self .., h1.symm⟩)
        · exact .inr (.inl h1)
      · exact .inr (.inr ⟨r',List.mem_cons_of_mem _ h1,h2⟩)
theorem last_spec {oj:Oper} {its:List Item} (h:lastBB oj (its.map fun q=>(q.1,q.2.1)) = true):lastB oj its:=by
  induction its with
  | nil=>trivial
  | cons q r ih =>
    simp only [List.map_cons,lastBB,Bool.and_eq_true,Bool.or_eq_true] at h
    refine ⟨h.1.imp id fun h1=>?_,ih h.2⟩
    obtain ⟨x,h2,h3⟩:=List.any_eq_true.1 h1
    obtain ⟨q',h4,rfl⟩:=List.mem_map.1 h2
    exact ⟨q',h4,h3⟩
theorem blkB_spec {listed:Array Bool} {B:List Nat} {nB:Nat} (hsz:listed.size = ops.size) (h:blkB ops listed B nB = true) {its:List Item} (h1:its.map (·.1) = B) (h2:∀ it ∈ its,ops[it.1]? = some it.2.1):BlkOK ops listed its (its.take nB):=by
  unfold blkB at h
  cases hp:pick ops B with
  | none=>rw [hp] at h; cases h
  | some l =>
    rw [hp] at h
    have e:=pick_spec hp its h1 h2
    subst e
    simp only [Bool.and_eq_true,List.all_eq_true,List.mem_range] at h
    obtain ⟨⟨⟨h3,h4⟩,h5⟩,h6⟩:=h
    refine ⟨hsz,fun q hq=>?_,h2,pairs_spec h4,fun pre q post e ed hed hbd=>?_,fun j oj hoj hun hno=>?_⟩
    · have:=h3 q.1 (by rw [← h1]; exact List.mem_map.2 ⟨q,hq,rfl⟩)
      simpa using this
    · rcases prev_spec its [] h5 pre q post e ed hed hbd with h | h | h
      · exact .inl h
      · cases h
      · exact .inr h
    · have:=h6 j (Array.getElem?_eq_some_iff.1 hoj).1
      simp only [Bool.or_eq_true,hun,Bool.false_eq_true,false_or,hoj] at this
      rcases this with h7 | h7
      · rw [← h1] at h7
        obtain ⟨q,hq,hqe⟩:=List.mem_map.1 (inB_iff.1 h7)
        exact absurd hqe (hno q hq)
      · rcases h7 with h7 | h7
        · exact .inl (last_spec (by rw [List.map_take]; exact h7))
        · obtain ⟨j',_,h8⟩:=List.any_eq_true.1 h7
          simp only [Bool.and_eq_true,Bool.not_eq_true'] at h8
          refine .inr ⟨j',h8.1.1,h8.1.2,fun q hq e=>?_⟩
          have:=inB_iff (j:=j') (l:=B)
          rw [h8.2] at this
          have h9:j' ∈ B:=by rw [← h1,← e]; exact List.mem_map.2 ⟨q,hq,rfl⟩
          exact absurd (this.2 h9) (by simp)

theorem gStep_cases {o : Oper} {opl : List Oper} {known : List Nat} {run skip : List Nat → St → Prop} (hI : InvB W0 F X N s β a w) (h : gStepK N opl o known s run skip) :
    (∃ k s',InvB W0 F X N s' β a w∧Region.wanted o (yielded opl.toArray a.tmps) = true∧run k s')∨(∃ k s',InvB W0 F X N s' β a w∧Region.wanted o (yielded opl.toArray a.tmps) = false∧skip k s'):=by
  unfold gStepK at h
  cases hg:o.guard with
  | none=>rw [hg] at h; exact .inl ⟨known,s,hI,by simp [Region.wanted,hg],h⟩
  | some p =>
    obtain ⟨j,want⟩:=p
    rw [hg] at h
    obtain ⟨oj,hj,h⟩:=(nthK_iff _ _ _).1 h
    obtain ⟨d,hd,h⟩:=(optK_iff _ _).1 h
    rcases guard_ok hI hj hd h with ⟨s',h1,h2,h3⟩ | ⟨s',h1,h2,h3⟩
    · exact .inl ⟨_,s',h1,by simp [Region.wanted,hg,h2],h3⟩
    · exact .inr ⟨_,s',h1,by simp [Region.wanted,hg]; exact h2,h3⟩

theorem of_frzAll (fz:List Nat):∀ (s:St) (d:Nat),Nm (frzAll fz s) d→Nm s d:=by
  induction fz with
  | nil=>intro s d h; exact h
  | cons n r ih=>intro s d h; exact (Nm.of_frz (ih _ _ h)).1
theorem not_frzAll (fz:List Nat):∀ (s:St) (d:Nat),d ∈ fz→¬ Nm (frzAll fz s) d:=by
  induction fz with
  | nil=>intro s d h; cases h
  | cons n r ih =>
    intro s d h
    rcases List.mem_cons.1 h with rfl | h
    · intro hm; exact not_frz s d (of_frzAll r _ _ hm)
    · exact ih _ d h

theorem ot_ok (hΓ : Γ.good P) {Q' : Exit → Act → World → Prop} {full : Array Bool} {T : St} {fuel : Nat} (hfin : ∀ a w, Inv W0 F X N T a w → wpAny P .any ops Q' fuel full a w) (t : OT) :
    ∀ (n:Nat) (listed:Array Bool) (s:St) (a:Act) (w:World),okOT ops full n listed t = true→vcOT P Γ N ops.toList T t s→Inv W0 F X N s a w →
      (t = .fin∨t = .finR→wpAny P .any ops Q' (fuel + n) listed a w)∧∀ i ∈ heads t,∃ m,n = m + 1∧wpOp P ops Q' i (wpAny P .any ops Q' (fuel + m) (listed.setIfInBounds i true)) a w:=by
  induction t with
  | fin =>
    intro n listed s a w h1 h ⟨β,hI⟩
    refine ⟨fun _=>?_,fun i hi=>nomatch hi⟩
    simp only [okOT,Bool.and_eq_true,decide_eq_true_eq] at h1
    have hn:=Nat.eq_of_beq_eq_true h1.1
    subst hn
    rw [h1.2]
    exact hfin a w ⟨β,hI.wk h⟩
  | finR =>
    intro n listed s a w h1 h ⟨β,hI⟩
    refine ⟨fun _=>?_,fun i hi=>nomatch hi⟩
    simp only [okOT,Bool.and_eq_true,decide_eq_true_eq] at h1
    have hn:=Nat.eq_of_beq_eq_true h1.1
    subst hn
    rw [h1.2]
    obtain ⟨rn,h⟩:=h
    obtain ⟨s1,β1,h,hI1⟩:=renSt_ok rn hI h
    exact hfin a w ⟨β1,hI1.wk h⟩
  | non =>
    intro n listed s a w h1 h hI
    exact ⟨(fun e=>by rcases e with e | e<;>cases e),fun i hi=>nomatch hi⟩
  | opt i k alt ihk iha =>
    intro n listed s a w h1 h hI
    refine ⟨(fun e=>by rcases e with e | e<;>cases e),fun j hj=>?_⟩
    simp only [okOT,Bool.and_eq_true] at h1
    obtain ⟨hK,hA⟩:=h
    rcases List.mem_cons.1 hj with rfl | hj
    · cases n with
      | zero=>exact absurd h1.1 Bool.false_ne_true
      | succ m =>
        refine ⟨m,rfl,?_⟩
        have h1:=h1.1
        simp only [Bool.and_eq_true] at h1
        obtain ⟨o,ho,hK⟩:=(nthK_iff _ _ _).1 hK
        have ho':ops[j]? = some o:=by simpa using ho
        cases hg:o.guard with
        | some _=>unfold noGuard at hK; rw [hg] at hK; exact hK.elim
        | none =>
          unfold noGuard at hK
          rw [hg] at hK
          obtain ⟨β,hI⟩:=hI
          unfold wpOp
          rw [ho']
          show if _ then _ else _
          rw [if_pos (by simp [Region.wanted,hg])]
          refine .inl (op_ok hΓ hI hK fun s1 a1 w1 k1 hI1=>?_)
          obtain ⟨q1,q2⟩:=ihk m _ s1 a1 w1 h1.2 k1 hI1
          cases k with
          | fin=>exact q1 (.inl rfl)
          | finR=>exact q1 (.inr rfl)
          | non=>exact absurd h1.1 Bool.false_ne_true
          | opt i' k' alt' =>
            have hr:Region.ready .any ops (listed.setIfInBounds j true) = heads (.opt i' k' alt'):=eqL_eq h1.1
            obtain ⟨m',hm,_⟩:=q2 i' (List.mem_cons_self ..)
            subst hm
            rw [← Nat.add_assoc]
            refine wpAny_all hr (by simp [heads]) fun p hp=>?_
            obtain ⟨m2,hm2,hw⟩:=q2 p hp
            obtain rfl:m' = m2:=by omega
            exact hw
    · exact (iha n listed s a w h1.2 hA hI).2 j hj
theorem ot_any (hΓ : Γ.good P) {Q' : Exit → Act → World → Prop} {full : Array Bool} {T : St} {fuel : Nat} (hfin : ∀ a w, Inv W0 F X N T a w → wpAny P .any ops Q' fuel full a w) (t : OT) {n : Nat} {listed : Array Bool} {s : St} {a : Act} {w : World}
    (h0:headOT ops listed t = true) (h1:okOT ops full n listed t = true) (hT:vcOT P Γ N ops.toList T t s) (hI:Inv W0 F X N s a w):wpAny P .any ops Q' (fuel + n) listed a w:=by
  have q:=ot_ok hΓ hfin t n listed s a w h1 hT hI
  cases t with
  | fin=>exact q.1 (.inl rfl)
  | finR=>exact q.1 (.inr rfl)
  | non=>exact absurd h0 Bool.false_ne_true
  | opt i k alt =>
    have hr:Region.ready .any ops listed = heads (.opt i k alt):=eqL_eq h0
    obtain ⟨m,hm,_⟩:=q.2 i (List.mem_cons_self ..)
    rw [hm,← Nat.add_assoc]
    refine wpAny_all hr (by simp [heads]) fun p hp=>?_
    obtain ⟨m2,hm2,hw⟩:=q.2 p hp
    obtain rfl:m = m2:=by omega
    exact hw
theorem chain_app {fz:List Nat} {opl:List Oper} (l l':List Item):∀ s,Chain P Γ N fz opl l s→Chain P Γ N fz opl l' (runI l s)→Chain P Γ N fz opl (l++l') s:=by
  induction l with
  | nil=>intro s _ h; exact h
  | cons q r ih=>obtain ⟨i,o,v⟩:=q; intro s h h'; exact ⟨h.1,h.2.1,h.2.2.1,ih _ h.2.2.2 h'⟩
theorem runI_app (l l':List Item):∀ s,runI (l++l') s = runI l' (runI l s):=by
  induction l with
  | nil=>intro s; rfl
  | cons q r ih=>obtain ⟨i,o,v⟩:=q; intro s; exact ih _
theorem cnt_len (l:List Item) (p:Nat→Bool):cnt l p≤l.length:=by
  induction l with
  | nil=>exact Nat.le_refl _
  | cons q r ih=>simp only [cnt,List.length_cons]; split<;>omega
theorem plan_ok (hΓ : Γ.good P) {Q : St → Prop} {Q' : Exit → Act → World → Prop} (hQ : ∀ s a w, Q s → Inv W0 F X N s a w → Q' .normal a w) (hpan : ∀ c a a' w, Q' (.panic c) a w → Q' (.panic c) a' w) (hsel : Region.noSelect ops = true) (pl : List Ph) :
    ∀ (listed:Array Bool) (known:List Nat) (s:St) (fuel:Nat) (a:Act) (w:World),listed.size = ops.size→planB ops listed pl = true→(pl.map phLen).sum≤fuel →
      vcPlan P Γ N ops.toList pl known s Q→Inv W0 F X N s a w→wpAny P .any ops Q' fuel listed a w:=by
  induction pl with
  | nil =>
    intro listed known s fuel a w _ h1 _ h hI
    exact wpAny_done (List.isEmpty_iff.1 h1) (hQ s a w h hI) fuel
  | cons ph r ih =>
    intro listed known s fuel a w hsz h1 h2 h ⟨β,hI⟩
    cases ph with
    | tree n S t =>
      simp only [List.map_cons,List.sum_cons,phLen] at h2
      simp only [planB,Bool.and_eq_true] at h1
      obtain ⟨T,hT,hrest⟩:=(show ∃ T:St,vcOT P Γ N ops.toList T t s∧vcPlan P Γ N ops.toList r known T Q from h)
      have q:=ot_ok hΓ (Q':=Q') (fuel:=fuel - n) (fun a w hI=>ih _ _ _ _ _ _ ((setAll_size _ _).trans hsz) h1.2 (by omega) hrest hI) t n listed s a w h1.1.2 hT ⟨β,hI⟩
      rw [show fuel = fuel - n + n by omega]
      cases t with
      | fin=>exact q.1 (.inl rfl)
      | finR=>exact q.1 (.inr rfl)
      | non=>exact absurd h1.1.1 Bool.false_ne_true
      | opt i k alt =>
        have hr:Region.ready .any ops listed = heads (.opt i k alt):=eqL_eq h1.1.1
        obtain ⟨m,hm,_⟩:=q.2 i (List.mem_cons_self ..)
        rw [show fuel - n + n = (fuel - n + m) + 1 by omega]
        refine wpAny_all hr (by simp [heads]) fun p hp=>?_
        obtain ⟨m2,hm2,hw⟩:=q.2 p hp
        obtain rfl:m = m2:=by omega
        exact hw
    | take i =>
      simp only [List.map_cons,List.sum_cons,phLen] at h2
      obtain ⟨fuel,rfl⟩:∃ k,fuel = k + 1:=⟨fuel - 1,by omega⟩
      simp only [planB,Bool.and_eq_true] at h1
      obtain ⟨o,ho,h⟩:=(nthK_iff _ _ _).1 h
      have ho':ops[i]? = some o:=by simpa using ho
      have go:∀ {v u:_} {known':List Nat} {s1:St},InvB W0 F X N s1 β a w→Rel β (Own X s1 β) w v u→(∀ n ∈ ids v,Nm s1 n)→stPutK N s1 o.dst v (fun s=>vcPlan P Γ N ops.toList r known' s Q)→Yields P ops o u a→wpAny P .any ops Q' (fuel + 1) listed a w:=by
        intro v u known' s1 hI1 hr hids hK hy
        obtain ⟨s2,k1,k2⟩:=put_ok hI1 hK hr hids
        exact wpAny_take ho' hsel h1.1.2 h1.1.1 (fun c a w h=>hpan c _ _ w h) hy (ih _ _ _ _ _ _ (by simpa using hsz) h1.2 (by omega) k1 ⟨β,k2⟩)
      rcases gStep_cases hI h with ⟨k,s1,hI1,hw,h⟩ | ⟨k,s1,hI1,hw,h⟩
      · obtain ⟨v,u,k1,k2,k3,k4⟩:=val_ok_all hΓ hI1 h
        exact go hI1 k2 k3 k1 (.inl ⟨by simpa using hw,k4⟩)
      · exact go hI1 (Rel.im (undef_rel _ _)) (by intro n hn; cases hn) h (.inr ⟨by simpa using hw,rfl⟩)
    | one i =>
      simp only [List.map_cons,List.sum_cons,phLen] at h2
      obtain ⟨fuel,rfl⟩:∃ k,fuel = k + 1:=⟨fuel - 1,by omega⟩
      simp only [planB,Bool.and_eq_true] at h1
      obtain ⟨o,ho,h⟩:=(nthK_iff _ _ _).1 h
      have ho':ops[i]? = some o:=by simpa using ho
      have hr:Region.ready .any ops listed = [i]:=by
        have h3:=h1.1
        generalize Region.ready .any ops listed = rd at h3
        match rd with
        | []=>cases h3
        | [j]=>rw [Nat.eq_of_beq_eq_true h3]
        | _::_::_=>cases h3
      refine wpAny_all hr (by simp) fun j hj=>?_
      rw [List.mem_singleton] at hj
      rw [hj]
      unfold wpOp
      rw [ho']
      show if _ then _ else _
      rcases gStep_cases hI h with ⟨k,s1,hI1,hw,h⟩ | ⟨k,s1,hI1,hw,h⟩
      · rw [if_pos (by simpa using hw)]
        exact .inl (op_ok hΓ hI1 h fun s' a' w' k1 k2=>ih _ _ _ _ _ _ (by simpa using hsz) h1.2 (by omega) k1 k2)
      · rw [if_neg (by simpa using hw)]
        obtain ⟨s2,k1,k2⟩:=putIm_ok hI1 (Stp.refl _ w) h (undef_rel _ _)
        exact ih _ _ _ _ _ _ (by simpa using hsz) h1.2 (by omega) k1 ⟨β,k2⟩
    | two i j =>
      simp only [List.map_cons,List.sum_cons,phLen] at h2
      obtain ⟨fuel,rfl⟩:∃ k,fuel = k + 2:=⟨fuel - 2,by omega⟩
      simp only [planB,Bool.and_eq_true] at h1
      obtain ⟨⟨⟨hr,hri⟩,hrj⟩,h1⟩:=h1
      have hr:Region.ready .any ops listed = [i,j]:=by
        generalize Region.ready .any ops listed = rd at hr
        match rd with
        | []=>cases hr
        | [_]=>cases hr
        | [a,b]=>simp only [Bool.and_eq_true] at hr; rw [Nat.eq_of_beq_eq_true hr.1,Nat.eq_of_beq_eq_true hr.2]
        | _::_::_::_=>cases hr
      have hri:Region.ready .any ops (listed.setIfInBounds i true) = [j]:=by
        generalize Region.ready .any ops (listed.setIfInBounds i true) = rd at hri
        match rd with
        | []=>cases hri
        | [a]=>rw [Nat.eq_of_beq_eq_true hri]
        | _::_::_=>cases hri
      have hrj:Region.ready .any ops (listed.setIfInBounds j true) = [i]:=by
        generalize Region.ready .any ops (listed.setIfInBounds j true) = rd at hrj
        match rd with
        | []=>cases hrj
        | [a]=>rw [Nat.eq_of_beq_eq_true hrj]
        | _::_::_=>cases hrj
      obtain ⟨T,hij,hji,hrest⟩:=(show ∃ T:St,_∧_∧vcPlan P Γ N ops.toList r known T Q from h)
      have hcomm:(listed.setIfInBounds j true).setIfInBounds i true = (listed.setIfInBounds i true).setIfInBounds j true:=by
        by_cases hne:j = i
        · rw [hne]
        · exact Array.setIfInBounds_comm _ _ hne
      have go : ∀ {p q : Nat}, (nthK ops.toList p fun o => nthK ops.toList q fun o' => noGuard o (noGuard o' (opK P Γ N o s fun s => opK P Γ N o' s fun s => Wk s T))) →
          Region.ready .any ops (listed.setIfInBounds p true) = [q]→(listed.setIfInBounds p true).setIfInBounds q true = (listed.setIfInBounds i true).setIfInBounds j true→wpOp P ops Q' p (wpAny P .any ops Q' (fuel + 1) (listed.setIfInBounds p true)) a w:=by
        intro p q hK hrq hcm
        obtain ⟨o,ho,hK⟩:=(nthK_iff _ _ _).1 hK
        obtain ⟨o',ho2,hK⟩:=(nthK_iff _ _ _).1 hK
        have ho':ops[p]? = some o:=by simpa using ho
        have ho2':ops[q]? = some o':=by simpa using ho2
        cases hg:o.guard with
        | some _=>unfold noGuard at hK; rw [hg] at hK; exact hK.elim
        | none =>
          cases hg2:o'.guard with
          | some _=>unfold noGuard at hK; rw [hg,hg2] at hK; exact hK.elim
          | none =>
            unfold noGuard at hK
            rw [hg,hg2] at hK
            unfold wpOp
            rw [ho']
            show if _ then _ else _
            rw [if_pos (by simp [Region.wanted,hg])]
            refine .inl (op_ok hΓ hI hK fun s1 a1 w1 k1 ⟨β1,hI1⟩=>?_)
            refine wpAny_all hrq (by simp) fun k hk=>?_
            rw [List.mem_singleton] at hk
            subst hk
            unfold wpOp
            rw [ho2']
            show if _ then _ else _
            rw [if_pos (by simp [Region.wanted,hg2])]
            refine .inl (op_ok hΓ hI1 k1 fun s2 a2 w2 k2 ⟨β2,hI2⟩=>?_)
            rw [hcm]
            exact ih _ _ _ _ _ _ (by simpa using hsz) h1 (by omega) hrest ⟨β2,hI2.wk k2⟩
      refine wpAny_all hr (by simp) fun k hk=>?_
      rcases List.mem_cons.1 hk with rfl | hk
      · exact go hij hri rfl
      · rw [List.mem_singleton] at hk
        subst hk
        exact go hji hrj hcomm
    | twoT i j t =>
      simp only [List.map_cons,List.sum_cons,phLen] at h2
      obtain ⟨fuel,rfl⟩:∃ k,fuel = k + 3:=⟨fuel - 3,by omega⟩
      simp only [planB,Bool.and_eq_true,decide_eq_true_eq] at h1
      obtain ⟨⟨⟨⟨⟨⟨hr,ht1⟩,hr2⟩,hr3⟩,ht2⟩,hcm⟩,h1⟩:=h1
      have one:∀ {rd:List Nat} {q:Nat},(match rd with | [q']=>Nat.beq q q' | _=>false) = true→rd = [q]:=by
        intro rd q h
        match rd with
        | []=>cases h
        | [a]=>rw [Nat.eq_of_beq_eq_true h]
        | _::_::_=>cases h
      have hr:Region.ready .any ops listed = [i,j]:=by
        generalize Region.ready .any ops listed = rd at hr
        match rd with
        | []=>cases hr
        | [_]=>cases hr
        | [a,b]=>simp only [Bool.and_eq_true] at hr; rw [Nat.eq_of_beq_eq_true hr.1,Nat.eq_of_beq_eq_true hr.2]
        | _::_::_::_=>cases hr
      have hr2:=one hr2
      have hr3:=one hr3
      obtain ⟨T,hA,hB,hrest⟩:=(show ∃ T:St,_∧_∧vcPlan P Γ N ops.toList r known T Q from h)
      have ung : ∀ {K : Oper → Oper → Oper → Prop}, (nthK ops.toList i fun o => nthK ops.toList j fun o' => nthK ops.toList t fun ot => noGuard o (noGuard o' (noGuard ot (K o o' ot)))) →
          ∃ o o' ot,ops[i]? = some o∧ops[j]? = some o'∧ops[t]? = some ot∧o.guard = none∧o'.guard = none∧ot.guard = none∧K o o' ot:=by
        intro K hK
        obtain ⟨o,ho,hK⟩:=(nthK_iff _ _ _).1 hK
        obtain ⟨o',ho2,hK⟩:=(nthK_iff _ _ _).1 hK
        obtain ⟨ot,ho3,hK⟩:=(nthK_iff _ _ _).1 hK
        unfold noGuard at hK
        cases hg:o.guard with
        | some _=>rw [hg] at hK; exact hK.elim
        | none=>cases hg2:o'.guard with
          | some _=>rw [hg,hg2] at hK; exact hK.elim
          | none=>cases hg3:ot.guard with
            | some _=>rw [hg,hg2,hg3] at hK; exact hK.elim
            | none=>rw [hg,hg2,hg3] at hK; exact ⟨o,o',ot,by simpa using ho,by simpa using ho2,by simpa using ho3,by first | exact hg | rfl,by first | exact hg2 | rfl,by first | exact hg3 | rfl,hK⟩
      have run:∀ {p:Nat} {o:Oper} {s:St} {β:Nat→Option Nat} {a:Act} {w:World} {K:St→Prop} {nx:Act→World→Prop},ops[p]? = some o→o.guard = none→InvB W0 F X N s β a w→opK P Γ N o s K→(∀ s' a' w',K s'→Inv W0 F X N s' a' w'→nx a' w')→wpOp P ops Q' p nx a w:=by
        intro p o s β a w K nx ho hg hI hK hn
        unfold wpOp
        rw [ho]
        show if _ then _ else _
        rw [if_pos (by simp [Region.wanted,hg])]
        exact .inl (op_ok hΓ hI hK hn)
      have tak : ∀ {li : Array Bool} {ot : Oper} {s : St} {a : Act} {w : World} {f : Nat} {K : St → Prop}, ops[t]? = some ot → ot.guard = none → Region.free .any ops li t = true → (Region.ready .any ops li).contains t = true → Inv W0 F X N s a w →
          (valK Γ s ot.op fun v=>stPutK N s ot.dst v K)→(∀ s' a' w',K s'→Inv W0 F X N s' a' w'→wpAny P .any ops Q' f (li.setIfInBounds t true) a' w')→wpAny P .any ops Q' (f + 1) li a w:=by
        intro li ot s a w f K ho hg hfr hrd ⟨β,hI⟩ hK hn
        obtain ⟨v,u,k1,k2,k3,k4⟩:=val_ok_all hΓ hI hK
        obtain ⟨s2,k5,k6⟩:=put_ok hI k1 k2 k3
        exact wpAny_take ho hsel hfr hrd (fun c a w h=>hpan c _ _ w h) (.inl ⟨by simp [Region.wanted,hg],k4⟩) (hn _ _ _ k5 ⟨β,k6⟩)
      have fin:∀ s' a' w',Wk s' T→Inv W0 F X N s' a' w'→wpAny P .any ops Q' fuel (((listed.setIfInBounds i true).setIfInBounds t true).setIfInBounds j true) a' w':=fun s' a' w' k2 ⟨β2,hI2⟩ =>
        ih _ _ _ _ _ _ (by simpa using hsz) h1 (by omega) hrest ⟨β2,hI2.wk k2⟩
      refine wpAny_all hr (by simp) fun k hk=>?_
      rcases List.mem_cons.1 hk with rfl | hk
      · obtain ⟨o,o',ot,e1,e2,e3,g1,g2,g3,hK⟩:=ung hA
        refine run e1 g1 hI hK fun s1 a1 w1 k1 hI1=>?_
        refine tak e3 g3 ht1.2 ht1.1 hI1 k1 fun s2 a2 w2 k2 ⟨β2,hI2⟩=>?_
        refine wpAny_all hr2 (by simp) fun k hk=>?_
        rw [List.mem_singleton] at hk
        subst hk
        exact run e2 g2 hI2 k2 fun s3 a3 w3 k3 hI3=>fin _ _ _ k3 hI3
      · rw [List.mem_singleton] at hk
        subst hk
        obtain ⟨o,o',ot,e1,e2,e3,g1,g2,g3,hK⟩:=ung hB
        refine run e2 g2 hI hK fun s1 a1 w1 k1 ⟨β1,hI1⟩=>?_
        refine wpAny_all hr3 (by simp) fun k hk=>?_
        rw [List.mem_singleton] at hk
        subst hk
        refine run e1 g1 hI1 k1 fun s2 a2 w2 k2 hI2=>?_
        refine tak e3 g3 ht2.2 ht2.1 hI2 k2 fun s3 a3 w3 k3 hI3=>?_
        rw [← hcm]
        exact fin _ _ _ k3 hI3
    | blk B fz =>
      simp only [List.map_cons,List.sum_cons,phLen] at h2
      simp only [planB,Bool.and_eq_true] at h1
      have h:frzAllK fz s fun s=>vcBlk P Γ N fz ops.toList B known s fun s=>unnwAllK N fz s fun s=>vcPlan P Γ N ops.toList r known s Q:=h
      rw [frzAllK_eq] at h
      have hI:=hI.frzAll fz
      have hN0:∀ d ∈ fz,¬ Nm (frzAll fz s) d:=fun d hd hm=>not_frzAll fz s d hd hm
      obtain ⟨its,k1,k2,k3,t,k4,k5⟩:=blk_chain B known _ h _ (Eqv.refl _)
      have hb:=blkB_spec hsz h1.1.1 k1 (fun it hit=>by simpa using k2 it hit)
      have hlen:its.length = B.length:=by rw [← k1]; simp
      rw [List.take_of_length_le (Nat.le_of_eq hlen)] at hb
      refine blk_ok hΓ (itE:=[]) (List.append_nil its).symm (Nat.zero_le _) hb k3 (fun q hq ho=>?_) hN0 (f:=(r.map phLen).sum) (fun fuel a w hf hI=>?_) (fun h=>absurd rfl h) its.length fuel listed _ a w (cnt_len _ _) (by omega) hsz (fun _ _=>rfl) (fun q hq hl=>?_) rfl (fun x=>?_) ⟨β,hI⟩
      · have h3:=List.all_eq_true.1 h1.1.2 q.1 (by rw [← k1]; exact List.mem_map.2 ⟨q,hq,rfl⟩)
        rcases ho with ⟨tt,len,ps,ho⟩ | ⟨tt,ho⟩
        all_goals simp only [hb.at' q hq,fzOK,ho] at h3
        all_goals cases hd:q.2.1.dst with
        | none=>rw [hd] at h3; cases h3
        | some d=>rw [hd] at h3; exact ⟨d,rfl,inB_iff.1 h3⟩
      · rw [k1]
        obtain ⟨β,hI⟩:=hI
        obtain ⟨s9,k6,hI9⟩:=unnwAll_ok fz (Eqv.inv hI k4) k5
        exact ih _ _ _ _ _ _ ((setAll_size _ _).trans hsz) h1.2 hf k6 ⟨β,hI9⟩
      · have:=hb.un q hq
        rw [getD_dflt (by rw [hsz]; exact (Array.getElem?_eq_some_iff.1 (hb.at' q hq)).1) true false,hl] at this
        cases this
      · refine (selL_skip fun q hq hl=>?_).symm
        have:=hb.un q hq
        rw [getD_dflt (by rw [hsz]; exact (Array.getElem?_eq_some_iff.1 (hb.at' q hq)).1) true false] at this
        rw [show listed.getD q.1 false = true from hl] at this
        cases this
    | blkE B fz e n S t1 t2 =>
      simp only [List.map_cons,List.sum_cons,phLen] at h2
      simp only [planB,Bool.and_eq_true] at h1
      obtain ⟨⟨⟨⟨⟨h1a,h1b⟩,h1c⟩,h1d⟩,h1e⟩,h1f⟩:=h1
      have h1e:=Nat.le_of_ble_eq_true h1e
      obtain ⟨T,h,hrest⟩:=(show ∃ T:St,(frzAllK fz s fun s=>vcBlk P Γ N fz ops.toList B known s fun s =>
        (unnwAllK N fz s fun s=>vcOT P Γ N ops.toList T t1 s)∧vcBlk P Γ N fz ops.toList [e] [] s fun s=>unnwAllK N fz s fun s=>vcOT P Γ N ops.toList T t2 s)∧vcPlan P Γ N ops.toList r known T Q from h)
      rw [frzAllK_eq] at h
      have hI:=hI.frzAll fz
      have hN0:∀ d ∈ fz,¬ Nm (frzAll fz s) d:=fun d hd hm=>not_frzAll fz s d hd hm
      obtain ⟨itB,k1,k2,k3,t,k4,k5,k5'⟩:=blk_chain B known _ h _ (Eqv.refl _)
      obtain ⟨itE,m1,m2,m3,t',m4,m5⟩:=blk_chain [e] [] _ k5' _ k4
      have hlE:itE.length = 1:=by have:=congrArg List.length m1; simpa using this
      have hlB:itB.length = B.length:=by rw [← k1]; simp
      have hm:(itB++itE).map (·.1) = B++[e]:=by rw [List.map_append,k1,m1]
      have hb:=blkB_spec hsz h1a hm (fun it hit=>by
        rcases List.mem_append.1 hit with hit | hit
        · simpa using k2 it hit
        · simpa using m2 it hit)
      rw [← hlB,List.take_left] at hb
      have hfull:∀ fuel a w,(r.map phLen).sum≤fuel→Inv W0 F X N T a w→wpAny P .any ops Q' fuel (setAll listed (B++S)) a w:=fun fuel a w hf hI=>ih _ _ _ _ _ _ ((setAll_size _ _).trans hsz) h1f hf hrest hI
      refine blk_ok hΓ rfl (by omega) hb (chain_app itB itE _ k3 m3) (fun q hq ho=>?_) hN0 (f:=(r.map phLen).sum + (n - 1)) (fun fuel a w hf hI=>?_) (fun _ fuel a w hf hI=>?_) (itB++itE).length fuel listed _ a w (cnt_len _ _) (by rw [List.length_append,hlE,hlB]; omega) hsz (fun _ _=>rfl) (fun q hq hl=>?_) rfl (fun x=>?_) ⟨β,hI⟩
      · have h3:=List.all_eq_true.1 h1b q.1 (by rw [← hm]; exact List.mem_map.2 ⟨q,hq,rfl⟩)
        rcases ho with ⟨tt,len,ps,ho⟩ | ⟨tt,ho⟩
        all_goals simp only [hb.at' q hq,fzOK,ho] at h3
        all_goals cases hd:q.2.1.dst with
        | none=>rw [hd] at h3; cases h3
        | some d=>rw [hd] at h3; exact ⟨d,rfl,inB_iff.1 h3⟩
      · rw [hm]
        obtain ⟨β,hI⟩:=hI
        rw [runI_app] at hI
        obtain ⟨s9,k6,hI9⟩:=unnwAll_ok fz (Eqv.inv hI m4) m5
        rw [show fuel = (fuel - (n - 1)) + (n - 1) by omega]
        exact ot_any hΓ (fun a w hI=>hfull _ a w (by omega) hI) t2 h1d.1 h1d.2 k6 ⟨β,hI9⟩
      · rw [k1]
        obtain ⟨β,hI⟩:=hI
        obtain ⟨s9,k6,hI9⟩:=unnwAll_ok fz (Eqv.inv hI k4) k5
        rw [show fuel = (fuel - n) + n by omega]
        exact ot_any hΓ (fun a w hI=>hfull _ a w (by omega) hI) t1 h1c.1 h1c.2 k6 ⟨β,hI9⟩
      · have:=hb.un q hq
        rw [getD_dflt (by rw [hsz]; exact (Array.getElem?_eq_some_iff.1 (hb.at' q hq)).1) true false,hl] at this
        cases this
      · refine (selL_skip fun q hq hl=>?_).symm
        have:=hb.un q hq
        rw [getD_dflt (by rw [hsz]; exact (Array.getElem?_eq_some_iff.1 (hb.at' q hq)).1) true false] at this
        rw [show listed.getD q.1 false = true from hl] at this
        cases this

theorem draw_ok (hΓ : Γ.good P) {Q : St → Prop} {Q' : Exit → Act → World → Prop} (hQ : ∀ s a w, Q s → Inv W0 F X N s a w → Q' .normal a w) {pl : List Ph} (hpl : planOK ops pl = true) {id : Nat}
    (h:vcPlan P Γ N ops.toList pl [] s Q) (hI:Inv W0 F X N s a w):(Code.region id ops true).wp P Q' a w:=by
  simp only [planOK,Bool.and_eq_true,decide_eq_true_eq] at hpl
  obtain ⟨⟨h1,h2⟩,h3⟩:=hpl
  obtain ⟨β,hI⟩:=hI
  have hdr:Inv W0 F X N s a { w with drawn:=w.drawn + 1 }:=⟨β,hI.grow ⟨rfl,rfl,rfl,Nat.le_refl _,fun _ _ _=>rfl⟩⟩
  refine wp_mono (Q:=fun e a w=>e = .normal∧Q' .normal a w) (wp_region_any hΓ.mixed (plan_ok hΓ (fun s a w h hI=>⟨rfl,hQ s a w h hI⟩) (fun c a a' w h=>by cases h.1) h1 pl _ [] s ops.size a _ (by simp) h2 h3 h hdr)) fun e a w ⟨e1,e2⟩=>by subst e1; exact e2
end
end Go.SX
end
section
namespace Go.SX
set_option linter.unusedSectionVars false
variable [Globs]
section
variable {P:Program} {N:Nat} {Γ:Ctx} {W0:World} {F:Fr} {X:Nat→Prop} {s:St} {β:Nat→Option Nat} {a:Act} {w:World}

def nlVecK (N:Nat):List (Nat × Nat × Ty)→St→(St→Prop)→Prop
  | [],s,K=>K s
  | (n,id,τ)::r,s,K=>stFrzK id s fun s=>lookK s.slots n fun v=>match v with
    | .nl=>stPutK N s (some n) (.vec id τ []) fun s=>nlVecK N r s K
    | .vec id' τ' l=>bif Nat.beq id' id then stPutK N s (some n) (.vec id' τ' l) fun s=>nlVecK N r s K else False
    | _=>False
theorem InvB.nlVec (hI:InvB W0 F X N s β a w) {n id:Nat} (hv:look s.slots n = .nl) (hfree:¬ Nm s id) (τ:Ty):InvB W0 F X N (s.put n (.vec id τ [])) (setβ β id none) a w:=by
  have hNm:∀ m,Nm (s.put n (.vec id τ [])) m→m = id∨(Nm s m∧m≠id):=by
    intro m hm
    by_cases e:m = id
    · exact .inl e
    · refine .inr ⟨?_,e⟩
      rcases hm with ⟨cs,h⟩ | ⟨q,h⟩ | ⟨b,cs,h,c,hc,hk⟩
      · exact .inl ⟨cs,h⟩
      · simp only [St.put,look_setL] at h
        split at h
        · simp [SX.ids,ids0] at h; exact absurd h e
        · exact .inr (.inl ⟨q,h⟩)
      · exact .inr (.inr ⟨b,cs,h,c,hc,hk⟩)
  have hβ:∀ m,Nm s m→setβ β id none m = β m:=fun m hm=>by unfold setβ; rw [if_neg]; rintro rfl; exact hfree hm
  have hO:∀ k,k < w.heap.size→Own X (s.put n (.vec id τ [])) (setβ β id none) k→Own X s β k:=by
    rintro k _ (hX | ⟨m,hm,hb⟩)
    · exact .inl hX
    rcases hNm m hm with rfl | ⟨hm,_⟩
    · simp [setβ] at hb
    · exact .inr ⟨m,hm,(hβ m hm) ▸ hb⟩
  have hk:∀ {av:AV} {v:Value},(∀ m ∈ SX.ids av,Nm s m)→Rel β (Own X s β) w av v→Rel (setβ β id none) (Own X (s.put n (.vec id τ [])) (setβ β id none)) w av v:=fun hav hrel =>
    hI.keep (Stp.refl (fun _=>False) w) (fun _ _ h=>h.elim) hO hrel (fun m hm=>hβ m (hav m hm)) (fun _ _ _ _=>rfl)
  refine hI.upd (Stp.refl (fun _=>False) w) (fun _ _ h=>h.elim) (fun m=>?_) (fun m cs hcs=>?_) (fun m k g hm hk h1 h2=>?_) (fun m g hm hg=>?_) rfl rfl (fun m cs g hc hp=>(hβ m (.inl ⟨cs,hc⟩)).trans (hI.pin m cs g hc hp))
  · simp only [St.put,look_setL]
    by_cases e:n = m
    · subst e
      simp only [if_true]
      have:=hI.slots n
      rw [hv] at this
      exact .inl ⟨rfl,this.inv_nl,by simp [setβ]⟩
    · simp only [e,if_false]
      exact hk (fun k hk=>.inr (.inl ⟨m,hk⟩)) (hI.slots m)
  · obtain ⟨g,us,e,h1,h2,h3⟩:=hI.boxes m cs hcs
    exact ⟨g,us,e,(hβ m (.inl ⟨cs,hcs⟩)).trans h1,h2,h3.mono fun j c v hc hr=>⟨hk (fun k hk=>.inr (.inr ⟨m,cs,hcs,c,List.mem_of_getElem? hc,hk⟩)) hr.1,hr.2⟩⟩
  · rcases hNm m hm with rfl | ⟨hm,_⟩
    · simp [setβ] at h1
    · rcases hNm k hk with rfl | ⟨hk,_⟩
      · simp [setβ] at h2
      · rw [hβ m hm] at h1; rw [hβ k hk] at h2; exact hI.inj m k g hm hk h1 h2
  · rcases hNm m hm with rfl | ⟨hm,_⟩
    · simp [setβ] at hg
    · rw [hβ m hm] at hg; exact hI.own m g hm hg

/-! ### the code -/
def LoopVC (N:Nat) (body:(Exit→St→Prop)→St→Prop) (Q:Exit→St→Prop) (s:St):Prop :=
  ∃ (cv:List (Nat × Nat × Ty)) (cb:List (Nat × Nat × Nat × Ty)) (rn:List (Nat × Nat)),nlVecK N cv s fun s=>nlBoxK cb s fun s=>renStK rn s fun s=>∃ (σ:Type) (I:σ→Prop) (S:σ→St) (μ:σ→Nat) (x:σ),I x∧Wk s (S x) ∧
    ∀ x,I x→body (fun e s'=>match e with
      | .normal=>∃ (rn:List (Nat × Nat)),renStK rn s' fun s'=>∃ x',I x'∧Wk s' (S x')∧μ x' < μ x
      | e=>Q e s') (S x)
def keepL {α:Type} (L:List Nat):List (Nat × α)→List (Nat × α)
  | []=>[]
  | (n,v)::r=>bif inB n L then (n,v)::keepL L r else keepL L r
def keepLK {α:Type} (L:List Nat):List (Nat × α)→(List (Nat × α)→Prop)→Prop
  | [],K=>K []
  | (n,v)::r,K=>bif inB n L then keepLK L r fun r'=>K ((n,v)::r') else keepLK L r K
theorem keepLK_eq {α:Type} (L:List Nat) (l:List (Nat × α)):∀ K,keepLK L l K = K (keepL L l):=by
  induction l with
  | nil=>intro K; rfl
  | cons p r ih=>intro K; obtain ⟨n,v⟩:=p; simp only [keepLK,keepL]; cases inB n L<;>simp [ih]
theorem look_keepL (L:List Nat) (l:List (Nat × AV)) (n:Nat):look (keepL L l) n = look l n∨look (keepL L l) n = .x:=by
  induction l with
  | nil=>exact .inl rfl
  | cons p r ih =>
    obtain ⟨m,v⟩:=p
    simp only [keepL]
    cases hL:inB m L with
    | true =>
      simp only [cond_true,look]
      cases hb:Nat.beq m n with
      | true=>exact .inl rfl
      | false=>exact ih
    | false =>
      simp only [cond_false,look]
      cases hb:Nat.beq m n with
      | true =>
        have:=Nat.eq_of_beq_eq_true hb
        subst this
        refine .inr ?_
        clear ih hb
        induction r with
        | nil=>rfl
        | cons q t ih =>
          obtain ⟨k,u⟩:=q
          simp only [keepL]
          cases hk:inB k L with
          | true =>
            have hne:k≠m:=fun e=>by rw [e,hL] at hk; cases hk
            simp only [cond_true,look,nbeq_ne hne,cond_false]
            exact ih
          | false=>exact ih
      | false=>exact ih
theorem lookB_keepL (L:List Nat) (l:List (Nat × List AV)) (n:Nat) (cs:List AV) (h:lookB (keepL L l) n = some cs):lookB l n = some cs:=by
  have key:inB n L = true→lookB (keepL L l) n = lookB l n:=by
    intro hn
    induction l with
    | nil=>rfl
    | cons p r ih =>
      obtain ⟨m,v⟩:=p
      simp only [keepL]
      cases hb:Nat.beq m n with
      | true =>
        have:=Nat.eq_of_beq_eq_true hb
        subst this
        simp [hn,lookB]
      | false =>
        have ih':=ih (by
          cases hL:inB m L with
          | true=>rw [keepL,hL,cond_true] at h; simp only [lookB,hb,cond_false] at h; exact h
          | false=>rw [keepL,hL,cond_false] at h; exact h)
        cases hL:inB m L with
        | true=>simp only [cond_true,lookB,hb,cond_false]; exact ih'
        | false=>simp only [cond_false,lookB,hb]; exact ih'
  cases hn:inB n L with
  | true=>rw [← key hn]; exact h
  | false =>
    exfalso
    clear key
    induction l with
    | nil=>cases h
    | cons p r ih =>
      obtain ⟨m,v⟩:=p
      simp only [keepL] at h
      cases hL:inB m L with
      | true =>
        have hne:m≠n:=fun e=>by rw [e,hn] at hL; cases hL
        rw [hL,cond_true] at h
        simp only [lookB,nbeq_ne hne,cond_false] at h
        exact ih h
      | false=>rw [hL,cond_false] at h; exact ih h
def stKeepK (L:List Nat) (s:St) (K:St→Prop):Prop:=match s with | ⟨sl,b⟩=>keepLK L sl fun sl=>keepLK L b fun b=>K ⟨sl,b⟩
theorem keep_ok (hI:InvB W0 F X N s β a w) {L:List Nat} {K:St→Prop} (h:stKeepK L s K):∃ s',K s'∧InvB W0 F X N s' β a w:=by
  obtain ⟨sl,b⟩:=s
  simp only [stKeepK,keepLK_eq] at h
  refine ⟨_,h,hI.less (Stp.refl _ _) ?_ (fun n=>?_) (fun n cs=>lookB_keepL L b n cs) rfl rfl⟩
  · rintro n (⟨cs,hc⟩ | ⟨m,hm⟩ | ⟨k,cs,hk,c,hc,hn⟩)
    · exact .inl ⟨cs,lookB_keepL L b n cs hc⟩
    · rcases look_keepL L sl m with h1 | h1
      · exact .inr (.inl ⟨m,by rw [← h1]; exact hm⟩)
      · rw [h1] at hm; cases hm
    · exact .inr (.inr ⟨k,cs,lookB_keepL L b k cs hk,c,hc,hn⟩)
  · rcases look_keepL L sl n with h1 | h1
    · exact ⟨n,.inl ⟨h1,rfl⟩⟩
    · exact ⟨n,.inr (.inl (by rw [h1]; exact .x _))⟩

def vc (P:Program) (Γ:Ctx) (N:Nat) (L:List Nat):Code→(Exit→St→Prop)→St→Prop
  | .skip,Q,s=>Q .normal s
  | .region _ ops draw,Q,s=>match draw with
    | false=>vcOps P Γ N ops.toList ops.toList [] s fun s=>stKeepK L s (Q .normal)
    | true=>∃ pl,planOK ops pl = true∧vcPlan P Γ N ops.toList pl [] s fun s=>stKeepK L s (Q .normal)
  | .seq x y,Q,s=>vc P Γ N L x (fun e s'=>match e with
    | .normal=>vc P Γ N L y Q s'
    | e=>Q e s') s
  | .cond c x y,Q,s=>evK s c fun v=>match v with
    | .b t=>(t = true→vc P Γ N L x Q s)∧(t = false→vc P Γ N L y Q s)
    | _=>False
  | .block id c,Q,s=>vc P Γ N L c (fun e s'=>match e with
    | .exit id'=>bif Nat.beq id' id then Q .normal s' else Q (.exit id') s'
    | e=>Q e s') s
  | .exit id,Q,s=>Q (.exit id) s
  | .ret,Q,s=>Q .ret s
  | .label _,Q,s=>Q .normal s
  | .loop c,Q,s=>LoopVC N (vc P Γ N L c) Q s
  | .scope c,Q,s=>vc P Γ N L c (fun e s'=>match e with
    | .goto _=>False
    | e=>Q e s') s
  | _,_,_=>False

theorem lub (p:Nat→Prop) (h:∃ n,p n):∃ n,p n∧∀ m,p m→n≤m:=by
  obtain ⟨n,hn⟩:=h
  induction n using Nat.strongRecOn with
  | _ n ih =>
    by_cases hex:∃ m,m < n∧p m
    · obtain ⟨m,hm,hpm⟩:=hex
      exact ih m hm hpm
    · exact ⟨n,hn,fun m hm=>Nat.le_of_not_lt fun hlt=>hex ⟨m,hlt,hm⟩⟩
open Classical in
noncomputable def sInfN (p:Nat→Prop):Nat:=if h:∃ n,p n then Classical.choose (lub p h) else 0
theorem sInfN_mem {p:Nat→Prop} (h:∃ n,p n):p (sInfN p):=by
  unfold sInfN; rw [dif_pos h]; exact (Classical.choose_spec (lub p h)).1
theorem sInfN_le {p:Nat→Prop} {n:Nat} (h:p n):sInfN p≤n:=by
  unfold sInfN; rw [dif_pos ⟨n,h⟩]; exact (Classical.choose_spec (lub p ⟨n,h⟩)).2 n h
theorem wp_loop' {P : Program} {c : Code} {Q : Exit → Act → World → Prop} {σ : Type} (A : σ → Act → World → Prop) (μ : σ → Nat)
    (round:∀ x a w,A x a w→c.wp P (Exit.then (fun a' w'=>∃ x',A x' a' w'∧μ x' < μ x) Q) a w) {x:σ} {a:Act} {w:World} (h:A x a w):(Code.loop c).wp P Q a w:=by
  let I:Act→World→Prop:=fun a w=>∃ x,A x a w
  let least:Act→World→Nat:=fun a w=>sInfN fun n=>∃ x,A x a w∧μ x = n
  exact wp_loop I least ⟨x,h⟩ fun a w hI=>by
    obtain ⟨y,hy,hmin⟩:∃ y,A y a w∧μ y = least a w:=by
      obtain ⟨x,hx⟩:=hI
      have:=sInfN_mem (p:=fun n=>∃ x,A x a w∧μ x = n) ⟨μ x,x,hx,rfl⟩
      exact this
    refine wp_mono (round y a w hy) fun e a' w' hq=>?_
    cases e with
    | normal =>
      obtain ⟨x',h1,h2⟩:=hq
      refine ⟨⟨x',h1⟩,?_⟩
      have h3:least a' w'≤μ x':=sInfN_le (p:=fun n=>∃ x,A x a' w'∧μ x = n) ⟨x',h1,rfl⟩
      show least a' w' < least a w
      omega
    | _=>exact hq
theorem nlVec_ok (cv:List (Nat × Nat × Ty)):∀ {s:St} {β:Nat→Option Nat} {K:St→Prop},InvB W0 F X N s β a w→nlVecK N cv s K→∃ s' β',K s'∧InvB W0 F X N s' β' a w:=by
  induction cv with
  | nil=>intro s β K hI h; exact ⟨s,β,h,hI⟩
  | cons p r ih =>
    intro s β K hI h
    obtain ⟨n,id,τ⟩:=p
    have h:stFrzK id s fun s=>lookK s.slots n fun v=>match v with
      | .nl=>stPutK N s (some n) (.vec id τ []) fun s=>nlVecK N r s K
      | .vec id' τ' l=>bif Nat.beq id' id then stPutK N s (some n) (.vec id' τ' l) fun s=>nlVecK N r s K else False
      | _=>False:=h
    rw [stFrzK_eq,lookK_eq] at h
    have hI1:=hI.frz id
    cases hv:look (s.frz id).slots n with
    | nl =>
      rw [hv] at h
      have h:stPutK N (s.frz id) (some n) (.vec id τ []) fun s=>nlVecK N r s K:=h
      rw [stPutK_some] at h
      cases hb:Nat.blt n N with
      | false=>rw [hb] at h; exact h.elim
      | true =>
        rw [hb,cond_true] at h
        exact ih (hI1.nlVec hv (not_frz s id) τ) h
    | vec id' τ' l =>
      rw [hv] at h
      have h:bif Nat.beq id' id then stPutK N (s.frz id) (some n) (.vec id' τ' l) fun s=>nlVecK N r s K else False:=h
      cases hb:Nat.beq id' id with
      | false=>rw [hb] at h; exact h.elim
      | true =>
        have:=Nat.eq_of_beq_eq_true hb
        subst this
        exfalso
        exact not_frz s id' (.inr (.inl ⟨n,by rw [hv]; simp [SX.ids,ids0]⟩))
    | _=>rw [hv] at h; exact h.elim

theorem vc_ok (hΓ:Γ.good P) {L:List Nat} (c:Code):∀ (Q:Exit→St→Prop) (Q':Exit→Act→World→Prop) (s:St) (a:Act) (w:World),(∀ e s a w,Q e s→Inv W0 F X N s a w→Q' e a w)→vc P Γ N L c Q s→Inv W0 F X N s a w→c.wp P Q' a w:=by
  induction c with
  | skip=>intro Q Q' s a w hQ h hI; exact wp_skip (hQ _ _ _ _ h hI)
  | region id ops draw =>
    intro Q Q' s a w hQ h hI
    cases draw with
    | true =>
      obtain ⟨pl,hpl,h⟩:=(show ∃ pl,planOK ops pl = true∧vcPlan P Γ N ops.toList pl [] s fun s=>stKeepK L s (Q .normal) from h)
      exact draw_ok hΓ (fun s a w hk ⟨β,hI⟩=>by
        obtain ⟨s',h1,h2⟩:=keep_ok hI hk
        exact hQ .normal s' a w h1 ⟨β,h2⟩) hpl h hI
    | false=>exact wp_region_list (by
      have:=vcOps_ok hΓ (Q':=Q') (fun s a w hk ⟨β,hI⟩=>by
        obtain ⟨s',h1,h2⟩:=keep_ok hI hk
        exact hQ .normal s' a w h1 ⟨β,h2⟩) ops.toList [] s a w h hI
      simpa using this)
  | seq x y ihx ihy =>
    intro Q Q' s a w hQ h hI
    refine wp_seq (ihx _ _ s a w (fun e s' a' w' hq hI'=>?_) h hI)
    cases e with
    | normal=>exact ihy Q Q' s' a' w' hQ hq hI'
    | _=>exact hQ _ _ _ _ hq hI'
  | cond c x y ihx ihy =>
    intro Q Q' s a w hQ h hI
    have h:evK s c fun v=>match v with
      | .b t=>(t = true→vc P Γ N L x Q s)∧(t = false→vc P Γ N L y Q s)
      | _=>False:=h
    rw [evK_eq] at h
    obtain ⟨β,hI⟩:=hI
    have hr:=(ev_rel hI c).1
    cases hv:ev s c with
    | b t =>
      rw [hv] at h hr
      exact wp_cond_split hr.inv_b (fun ht=>ihx Q Q' s a w hQ (h.1 ht) ⟨β,hI⟩) (fun ht=>ihy Q Q' s a w hQ (h.2 ht) ⟨β,hI⟩)
    | _=>rw [hv] at h; exact h.elim
  | block id c ih =>
    intro Q Q' s a w hQ h hI
    refine wp_block (ih _ _ s a w (fun e s' a' w' hq hI'=>?_) h hI)
    cases e with
    | exit id' =>
      have hq:bif Nat.beq id' id then Q .normal s' else Q (.exit id') s':=hq
      cases hb:Nat.beq id' id with
      | true =>
        rw [hb] at hq
        have hq1:Q .normal s':=hq
        have e:=Nat.eq_of_beq_eq_true hb
        subst e
        simp only [Exit.inBlock,if_true]
        exact hQ _ _ _ _ hq1 hI'
      | false =>
        rw [hb] at hq
        have hne:id'≠id:=fun e=>by subst e; rw [Nat.beq_refl] at hb; cases hb
        simp only [Exit.inBlock,hne,if_false]; exact hQ _ _ _ _ hq hI'
    | _=>exact hQ _ _ _ _ hq hI'
  | loop c ih =>
    intro Q Q' s a w hQ h ⟨β,hI⟩
    obtain ⟨cv,cb,rn,h⟩:=(show LoopVC N (vc P Γ N L c) Q s from h)
    obtain ⟨s00,β00,h,hI00⟩:=nlVec_ok cv hI h
    obtain ⟨s0,β0,h,hI0⟩:=nlBox_ok cb hI00 h
    obtain ⟨s1,β1,⟨σ,I,S,μ,x,hix,hwk,hround⟩,hI1⟩:=renSt_ok rn hI0 h
    refine wp_loop' (fun x a w=>I x∧Inv W0 F X N (S x) a w) μ (fun x a w hIx=>?_) (x:=x) ⟨hix,β1,hI1.wk hwk⟩
    refine ih _ _ (S x) a w (fun e s' a' w' hq hI'=>?_) (hround x hIx.1) hIx.2
    cases e with
    | normal =>
      obtain ⟨rn,hq⟩:=hq
      obtain ⟨β',hI'⟩:=hI'
      obtain ⟨s2,β2,⟨x',h0,h1,h2⟩,hI2⟩:=renSt_ok rn hI' hq
      exact ⟨x',⟨h0,β2,hI2.wk h1⟩,h2⟩
    | _=>exact hQ _ _ _ _ hq hI'
  | exit id=>intro Q Q' s a w hQ h hI; exact wp_exit (hQ _ _ _ _ h hI)
  | ret=>intro Q Q' s a w hQ h hI; exact wp_ret (hQ _ _ _ _ h hI)
  | label l=>intro Q Q' s a w hQ h hI; exact wp_label (hQ _ _ _ _ h hI)
  | scope c ih =>
    intro Q Q' s a w hQ h hI
    refine wp_scope_straight (ih _ _ s a w (fun e s' a' w' hq hI'=>?_) h hI)
    cases e with
    | goto l=>exact (show False from hq).elim
    | _=>exact hQ _ _ _ _ hq hI'
  | _=>intro Q Q' s a w hQ h hI; exact h.elim
end
end Go.SX
end
section
namespace Go.SX
set_option linter.unusedSectionVars false
variable [Globs]
section
variable {P:Program} {N:Nat} {Γ:Ctx} {W0:World} {F:Fr} {X:Nat→Prop} {s:St} {β:Nat→Option Nat} {a:Act} {w:World}

def slotVecsK:List (Nat × AV)→(List Nat→Prop)→Prop
  | [],K=>K []
  | (_,.vec id _ _)::r,K=>slotVecsK r fun l=>K (id::l)
  | (_,.vs id _ _ _)::r,K=>slotVecsK r fun l=>K (id::l)
  | _::r,K=>slotVecsK r K
def slotVecs:List (Nat × AV)→List Nat
  | []=>[]
  | (_,.vec id _ _)::r=>id::slotVecs r
  | (_,.vs id _ _ _)::r=>id::slotVecs r
  | _::r=>slotVecs r
theorem slotVecsK_eq (l:List (Nat × AV)):∀ K,slotVecsK l K = K (slotVecs l):=by
  induction l with
  | nil=>intro K; rfl
  | cons p r ih=>intro K; obtain ⟨n,v⟩:=p; cases v<;>simp [slotVecsK,slotVecs,ih]
def boxVecsK:List (Nat × List AV)→(List Nat→Prop)→Prop
  | [],K=>K []
  | (_,l)::r,K=>vecsOfK l fun ids=>boxVecsK r fun l=>K (ids++l)
def boxVecs:List (Nat × List AV)→List Nat
  | []=>[]
  | (_,l)::r=>vecsOf l++boxVecs r
theorem boxVecsK_eq (l:List (Nat × List AV)):∀ K,boxVecsK l K = K (boxVecs l):=by
  induction l with
  | nil=>intro K; rfl
  | cons p r ih=>intro K; obtain ⟨n,v⟩:=p; simp [boxVecsK,boxVecs,vecsOfK_eq,ih]

def resK (Γ:Ctx) (s:St):ResultVar→(AV→Prop)→Prop
  | .tmp t,K=>lookK s.slots t fun v=>chkK (imB v) (chkK (fnArgs [v]) (K v))
  | .cell a t,K=>lookK s.slots a fun p=>loadVK Γ s t p fun v=>chkK (imB v) (chkK (fnArgs [v]) (K v))
def resAllK (Γ:Ctx) (s:St):List ResultVar→(List AV→Prop)→Prop
  | [],K=>K []
  | r::t,K=>resK Γ s r fun v=>resAllK Γ s t fun l=>K (v::l)
def oneTup:List AV→AV
  | [v]=>v
  | l=>.tup l
def retK (Γ:Ctx) (s:St) (rs:List ResultVar) (K:AV→Prop):Prop :=
  slotVecsK s.slots fun i1=>boxVecsK s.boxes fun i2=>frzAllK (i1++i2) s fun s=>resAllK Γ s rs fun l=>K (oneTup l)

def resOf (tmps:Array Value):ResultVar→Sem Value
  | .tmp t=>pure (tmps.getD t undef)
  | .cell a t=>do loadVar t (← asAddr (tmps.getD a undef))
theorem res_ok (hΓ:Γ.good P) (hI:InvB W0 F X N s β a w) {r:ResultVar} {K:AV→Prop} (h:resK Γ s r K):∃ v u,K v∧Im (Own X s β) w v u∧(resOf a.tmps r).run P w = .ok u w:=by
  cases r with
  | tmp t =>
    have h:lookK s.slots t fun v=>chkK (imB v) (chkK (fnArgs [v]) (K v)):=h
    rw [lookK_eq] at h
    obtain ⟨h1,h⟩:=(chkK_iff _ _).1 h
    obtain ⟨h2,h⟩:=(chkK_iff _ _).1 h
    exact ⟨_,_,h,im_of_rel (hI.slots t) h1 h2,rfl⟩
  | cell ad t =>
    have h:lookK s.slots ad fun p=>loadVK Γ s t p fun v=>chkK (imB v) (chkK (fnArgs [v]) (K v)):=h
    rw [lookK_eq] at h
    let o : Oper := { dst := none, op := .load t (.tmp ad), type := 0, pos := "", after := #[], guard := none }
    obtain ⟨v,u,h1,h2,_,h4⟩:=load_ok hΓ.ok hI (o:=o) (x:=.tmp ad) rfl (hI.slots ad) h
    obtain ⟨h5,h1⟩:=(chkK_iff _ _).1 h1
    obtain ⟨h6,h1⟩:=(chkK_iff _ _).1 h1
    refine ⟨v,u,h1,im_of_rel h2 h5 h6,?_⟩
    have hp:=hI.slots ad
    -- a pointer lies there
    have hptr:∃ x,a.tmps.getD ad undef = .pointer (some x):=by
      cases hv:look s.slots ad with
      | pt n off=>rw [hv] at hp; obtain ⟨g,_,e⟩:=hp; exact ⟨_,e⟩
      | rp cs=>rw [hv] at hp; obtain ⟨g,off,e,_⟩:=Im.inv_rp hp; exact ⟨_,e⟩
      | vp id τ l n off=>rw [hv] at hp; obtain ⟨_,⟨g,_,e⟩,_⟩:=hp; exact ⟨_,e⟩
      | _=>rw [hv] at h; exact h.elim
    obtain ⟨x,hx⟩:=hptr
    have h4':(Instr.loadAt t (a.tmps.getD ad undef)).run P w = .ok u w:=by
      simp only [execOp,o,Act.eval,Sem.run_bind] at h4
      cases hr:(Instr.loadAt t (a.tmps.getD ad undef)).run P w with
      | ok q w'=>rw [hr] at h4; simp at h4; obtain ⟨e1,e2⟩:=h4; subst e1 e2; rfl
      | halt q w'=>rw [hr] at h4; simp at h4
    rw [hx] at h4'
    simp only [resOf,hx]
    simpa [Instr.loadAt,Instr.sureAddr,asAddr] using h4'
theorem resAll_ok (hΓ:Γ.good P) (hI:InvB W0 F X N s β a w) (rs:List ResultVar):∀ {K:List AV→Prop},resAllK Γ s rs K→∃ vs us,K vs∧All2 (Im (Own X s β) w) vs us∧(rs.mapM (resOf a.tmps)).run P w = .ok us w:=by
  induction rs with
  | nil=>intro K h; exact ⟨[],[],h,All2.nil _,rfl⟩
  | cons r t ih =>
    intro K h
    obtain ⟨v,u,h,h1,h2⟩:=res_ok hΓ hI (show resK Γ s r fun v=>resAllK Γ s t fun l=>K (v::l) from h)
    obtain ⟨vs,us,h3,h4,h5⟩:=ih h
    refine ⟨v::vs,u::us,h3,All2.cons h1 h4,?_⟩
    rw [List.mapM_cons]
    simp only [Sem.run_bind,h2,Result.andThen_ok]
    rw [h5]
    rfl
theorem results_eq (fn:Func) (tmps:Array Value):results fn tmps = (do let vs ← fn.results.mapM (resOf tmps); pure (if h:vs.size = 1 then vs[0] else .tuple vs)):=by
  unfold results
  congr 1
theorem resOneK_ok (hΓ:Γ.good P) (hI:InvB W0 F X N s β a w) {fn:Func} {K:AV→Prop} (h:resAllK Γ s fn.results.toList fun l=>K (oneTup l)):∃ v u,K v∧Im (Own X s β) w v u∧(results fn a.tmps).run P w = .ok u w:=by
  obtain ⟨vs,us,h1,h2,h3⟩:=resAll_ok hΓ hI _ h
  have hrun:(results fn a.tmps).run P w = .ok (if h:us.toArray.size = 1 then us.toArray[0] else .tuple us.toArray) w:=by
    rw [results_eq,Array.mapM_eq_mapM_toList]
    simp only [Sem.run_bind,Sem.run_map,h3,Result.andThen_ok,Sem.run_pure]
  rcases us with _ | ⟨u,_ | ⟨u',r⟩⟩
  · have:=h2.1
    have hv:vs = []:=List.eq_nil_of_length_eq_zero (by simpa using this)
    subst hv
    exact ⟨.tup [],.tuple #[],h1,.tup [] [] rfl (by simp),by rw [hrun]; rfl⟩
  · obtain ⟨v, rfl⟩ : ∃ v, vs = [v] := by
      have:=h2.1
      match vs,this with
      | [v],_=>exact ⟨v,rfl⟩
    exact ⟨v,u,h1,h2.head,by rw [hrun]; rfl⟩
  · obtain ⟨v, v', t, rfl⟩ : ∃ v v' t, vs = v :: v' :: t := by
      have:=h2.1
      match vs,this with
      | v::v'::t,_=>exact ⟨v,v',t,rfl⟩
    refine ⟨.tup (v::v'::t),.tuple (u::u'::r).toArray,h1,.tup _ _ h2.1 h2.2,?_⟩
    rw [hrun,dif_neg (by simp)]
theorem ret_ok (hΓ:Γ.good P) (hI:InvB W0 F X N s β a w) {fn:Func} {K:AV→Prop} (h:retK Γ s fn.results.toList K):∃ v u,K v∧Im X w v u∧(results fn a.tmps).run P w = .ok u w:=by
  unfold retK at h
  rw [slotVecsK_eq,boxVecsK_eq,frzAllK_eq] at h
  obtain ⟨v,u,h1,h2,h3⟩:=resOneK_ok hΓ (hI.frzAll (slotVecs s.slots++boxVecs s.boxes)) (K:=K) h
  exact ⟨v,u,h1,h2.mono fun k hk=>.inl hk,h3⟩

def postK (Γ:Ctx) (rs:List ResultVar) (R:AV→Prop) (e:Exit) (s:St):Prop :=
  match e with
  | .normal=>retK Γ s rs R
  | .ret=>retK Γ s rs R
  | _=>False

theorem pspec_of_vc (hΓ : Γ.good P) {f : FuncId} {fn : Func} {c : Code} (hf : P.funcs[f]? = some fn) (hb : fn.body = some c) (hcall : ∀ (vs : Array Value) (w : World), (callFunc f vs).run P w = .ok (.enter f vs) w)
    {rs:Array ResultVar} (hrs:fn.results = rs) (hN:fn.ntmps = N) {args:List AV} {r:AV} {L:List Nat} (hlen:args.length≤N)
    (hvc:vc P Γ N L c (postK Γ rs.toList (fun v=>v = r)) ⟨argSlots 0 args,[]⟩):PSpec P f args r:=by
  refine ⟨hcall,fun O w vs hO hG hargs=>?_⟩
  refine calls_of_wp hf hb ?_
  have hsz:vs.length = args.length:=hargs.1.symm
  have hI:InvB w Fr.none O N ⟨argSlots 0 args,[]⟩ (fun _=>none) { tmps:=vs.toArray++Array.replicate (fn.ntmps - vs.toArray.size) undef,defers:=[] } w:=by
    have hNm:∀ n,¬ Nm ⟨argSlots 0 args,[]⟩ n:=by
      rintro n (⟨cs,h⟩ | ⟨m,h⟩ | ⟨b,cs,h,_⟩)
      · cases h
      · have:=look_args args 0 m
        rw [Nat.zero_add] at this
        simp only [this] at h
        by_cases hm:m < args.length
        · rw [List.getD_eq_getElem?_getD,List.getElem?_eq_getElem hm] at h
          have:=(hargs.2 m _ _ (List.getElem?_eq_getElem hm) (List.getElem?_eq_getElem (by rw [hsz]; exact hm))).ids_nil
          rw [show (some args[m]).getD AV.x = args[m] from rfl,this] at h
          cases h
        · rw [List.getD_eq_getElem?_getD,List.getElem?_eq_none (by omega)] at h
          simp [ids,ids0] at h
      · cases h
    refine ⟨Stp.refl _ _,fun n=>?_,?_,fun n cs h=>(by cases h),fun n m g hn=>absurd hn (hNm n),fun n g hn=>absurd hn (hNm n),rfl,fun k hk=>⟨hO k hk,id⟩,fun n cs g h=>(by cases h),fun _ _=>rfl,hG.step (Stp.refl (fun _=>False) w) (fun _ _ h=>h.elim) fun k _ hk=>hk.elim id fun h=>h.elim⟩
    · have h1:=look_args args 0 n
      rw [Nat.zero_add] at h1
      show Rel _ _ _ (look (argSlots 0 args) n) _
      rw [h1]
      by_cases hm:n < args.length
      · have hmv:n < vs.length:=by rw [hsz]; exact hm
        have h2:=hargs.2 n _ _ (List.getElem?_eq_getElem hm) (List.getElem?_eq_getElem hmv)
        rw [List.getD_eq_getElem?_getD,List.getElem?_eq_getElem hm]
        have h3:(vs.toArray++Array.replicate (fn.ntmps - vs.toArray.size) undef).getD n undef = vs[n]:=by
          rw [Array.getD_eq_getD_getElem?,Array.getElem?_append_left (by simpa using hmv)]
          simp [hmv]
        rw [h3]
        refine Rel.im (h2.mono fun k hk=>?_)
        rcases hk with hk | ⟨m,hm',_⟩
        · exact hk
        · exact absurd hm' (hNm m)
      · rw [List.getD_eq_getElem?_getD,List.getElem?_eq_none (by omega)]
        exact Rel.x
    · show (vs.toArray++Array.replicate (fn.ntmps - vs.toArray.size) undef).size = N
      simp only [Array.size_append,List.size_toArray,Array.size_replicate,hN,hsz]
      omega
  refine vc_ok (W0:=w) (F:=Fr.none) (X:=O) hΓ c _ _ _ _ _ (fun e s a w' hq ⟨β,hI'⟩=>?_) hvc ⟨_,hI⟩
  have key:retK Γ s rs.toList (fun v=>v = r)→a.defers = []∧∃ v,(results fn a.tmps).run P w' = .ok v w'∧∃ v',Ending.returned v = .returned v'∧Stp (fun _=>False) w w'∧Im O w' r v':=by
    intro h
    rw [← hrs] at h
    obtain ⟨v,u,rfl,h1,h2⟩:=ret_ok hΓ hI' h
    exact ⟨hI'.defers,u,h2,u,rfl,hI'.ext,h1⟩
  cases e with
  | normal=>exact key hq
  | ret=>exact key hq
  | _=>exact hq.elim

/-! ### contracts that write what they are handed -/
def resBK (Γ:Ctx) (s:St):ResultVar→(AV→Prop)→Prop
  | .tmp t,K=>lookK s.slots t K
  | .cell a t,K=>lookK s.slots a fun p=>loadVK Γ s t p K
def resBAllK (Γ:Ctx) (s:St):List ResultVar→(List AV→Prop)→Prop
  | [],K=>K []
  | r::t,K=>resBK Γ s r fun v=>resBAllK Γ s t fun l=>K (v::l)
def oneTupB:List AV→AV
  | .ag 0 (c::cs)::v::r=>.ag (cs.length + 1) (c::cs++v::r)
  | l=>oneTup l
def okR:List AV→Bool
  | .ag 0 (_::_)::v::r=>gr0All (v::r)
  | [.ag 0 _]=>true
  | l=>noFn l
theorem okR_cases {vs:List AV} (h:okR vs = true):(∃ c cs v r,vs = .ag 0 (c::cs)::v::r∧gr0All (v::r) = true)∨(oneTupB vs = oneTup vs∧(vs.length≠1→noFn vs = true)):=by
  unfold okR at h
  split at h
  · exact .inl ⟨_,_,_,_,rfl,h⟩
  · rename_i cs
    exact .inr ⟨by cases cs<;>rfl,fun h=>absurd rfl h⟩
  · rename_i h1 _
    refine .inr ⟨?_,fun _=>h⟩
    unfold oneTupB
    split
    · exact absurd rfl (h1 _ _ _ _)
    · rfl
def endK (Γ:Ctx) (rs:List ResultVar) (r:AV) (boxes':List (Nat × List AV)) (s:St):Prop :=
  ∃ rn,renStK rn s fun s=>resBAllK Γ s rs fun l=>chkK (okR l) (oneTupB l = r)∧wkB s boxes'
def postBK (Γ:Ctx) (rs:List ResultVar) (r:AV) (boxes':List (Nat × List AV)) (e:Exit) (s:St):Prop :=
  match e with
  | .normal=>endK Γ rs r boxes' s
  | .ret=>endK Γ rs r boxes' s
  | _=>False

theorem resB_ok (hΓ:Γ.good P) (hI:InvB W0 F X N s β a w) {r:ResultVar} {K:AV→Prop} (h:resBK Γ s r K):∃ v u,K v∧Rel β (Own X s β) w v u∧(∀ n ∈ ids v,Nm s n)∧(resOf a.tmps r).run P w = .ok u w:=by
  cases r with
  | tmp t =>
    have h:lookK s.slots t K:=h
    rw [lookK_eq] at h
    exact ⟨_,_,h,hI.slots t,fun n hn=>.inr (.inl ⟨t,hn⟩),rfl⟩
  | cell ad t =>
    have h:lookK s.slots ad fun p=>loadVK Γ s t p K:=h
    rw [lookK_eq] at h
    let o : Oper := { dst := none, op := .load t (.tmp ad), type := 0, pos := "", after := #[], guard := none }
    obtain ⟨v,u,h1,h2,h3,h4⟩:=load_ok hΓ.ok hI (o:=o) (x:=.tmp ad) rfl (hI.slots ad) h
    refine ⟨v,u,h1,h2,h3,?_⟩
    have hp:=hI.slots ad
    have hptr:∃ x,a.tmps.getD ad undef = .pointer (some x):=by
      cases hv:look s.slots ad with
      | pt n off=>rw [hv] at hp; obtain ⟨g,_,e⟩:=hp; exact ⟨_,e⟩
      | rp cs=>rw [hv] at hp; obtain ⟨g,off,e,_⟩:=Im.inv_rp hp; exact ⟨_,e⟩
      | vp id τ l n off=>rw [hv] at hp; obtain ⟨_,⟨g,_,e⟩,_⟩:=hp; exact ⟨_,e⟩
      | _=>rw [hv] at h; exact h.elim
    obtain ⟨x,hx⟩:=hptr
    have h4':(Instr.loadAt t (a.tmps.getD ad undef)).run P w = .ok u w:=by
      simp only [execOp,o,Act.eval,Sem.run_bind] at h4
      cases hr:(Instr.loadAt t (a.tmps.getD ad undef)).run P w with
      | ok q w'=>rw [hr] at h4; simp at h4; obtain ⟨e1,e2⟩:=h4; subst e1 e2; rfl
      | halt q w'=>rw [hr] at h4; simp at h4
    rw [hx] at h4'
    simp only [resOf,hx]
    simpa [Instr.loadAt,Instr.sureAddr,asAddr] using h4'
theorem resBAll_ok (hΓ:Γ.good P) (hI:InvB W0 F X N s β a w) (rs:List ResultVar):∀ {K:List AV→Prop},resBAllK Γ s rs K→∃ vs us,K vs∧All2 (Rel β (Own X s β) w) vs us∧(∀ c ∈ vs,∀ n ∈ ids c,Nm s n)∧(rs.mapM (resOf a.tmps)).run P w = .ok us w:=by
  induction rs with
  | nil=>intro K h; exact ⟨[],[],h,All2.nil _,(by intro c hc; cases hc),rfl⟩
  | cons r t ih =>
    intro K h
    obtain ⟨v,u,h,h1,h0,h2⟩:=resB_ok hΓ hI (show resBK Γ s r fun v=>resBAllK Γ s t fun l=>K (v::l) from h)
    obtain ⟨vs,us,h3,h4,h6,h5⟩:=ih h
    refine ⟨v::vs,u::us,h3,All2.cons h1 h4,fun c hc=>?_,?_⟩
    · rcases List.mem_cons.1 hc with rfl | hc
      · exact h0
      · exact h6 c hc
    rw [List.mapM_cons]
    simp only [Sem.run_bind,h2,Result.andThen_ok]
    rw [h5]
    rfl
theorem end_ok (hΓ : Γ.good P) (hN : 1 ≤ N) (hI : InvB W0 F X N s β a w) {fn : Func} {r : AV} {boxes' : List (Nat × List AV)} (h : endK Γ fn.results.toList r boxes' s) :
    ∃ u β',(results fn a.tmps).run P w = .ok u w∧InvB W0 { F with dfr:=[] } X 1 ⟨[(0,r)],boxes'⟩ β' ⟨#[u],[]⟩ w:=by
  obtain ⟨rn,h⟩:=h
  obtain ⟨s1,β1,h,hI1⟩:=renSt_ok rn hI h
  obtain ⟨vs,us,⟨h1,hwk⟩,h3,h4,h5⟩:=resBAll_ok hΓ hI1 _ h
  obtain ⟨hnf,rfl⟩:=(chkK_iff _ _).1 h1
  have hrun:(results fn a.tmps).run P w = .ok (if h:us.toArray.size = 1 then us.toArray[0] else .tuple us.toArray) w:=by
    rw [results_eq,Array.mapM_eq_mapM_toList]
    simp only [Sem.run_bind,Sem.run_map,h5,Result.andThen_ok,Sem.run_pure]
  -- the result as one value
  have hone:∃ u,(if h:us.toArray.size = 1 then us.toArray[0] else .tuple us.toArray) = u∧Rel β1 (Own X s1 β1) w (oneTupB vs) u∧∀ n ∈ ids (oneTupB vs),Nm s1 n:=by
    rcases okR_cases hnf with ⟨c,cs,v,r,rfl,hnf⟩ | ⟨he,hnf⟩
    · obtain ⟨u0,us0,rfl,⟨ws,hw,hw2,hw3⟩,h6⟩:=h3.cons_inv
      have hl:us0.length = (v::r).length:=h6.1.symm
      have hg:∀ (j:Nat) d u,(v::r)[j]? = some d→us0[j]? = some u→Rel0 β1 (Own X s1 β1) w d u∧u.oneCell' = true:=fun j d u hd hu=>by
        have hr:=h6.2 j d u hd hu
        have hg0:=gr0All_mem hnf (List.mem_of_getElem? hd)
        cases d<;>first | (cases hg0; done) | exact ⟨hr,by first | (obtain rfl:=hr.inv_i; rfl) | (obtain rfl:=hr.inv_b; rfl) | (obtain ⟨rfl,_⟩:=hr.inv_s; rfl)⟩
      have hwl:ws.length = cs.length + 1:=by have:=hw2.1; simpa using this.symm
      refine ⟨_,rfl,⟨ws++us0,?_,⟨by rw [List.length_append,List.length_append,hw2.1,hl],fun j d u hd hu=>?_⟩,fun u hu=>?_⟩,fun n hn=>?_⟩
      · have hl2:us0.length = r.length + 1:=by rw [hl,List.length_cons]
        rw [dif_neg (by simp only [List.size_toArray,List.length_cons]; omega),hw]
        simp [shape,← hwl]
      · by_cases hj:j < ws.length
        · rw [List.getElem?_append_left hj] at hu
          rw [List.getElem?_append_left (by rw [hw2.1]; exact hj)] at hd
          exact hw2.2 j d u hd hu
        · rw [List.getElem?_append_right (by omega)] at hu
          rw [List.getElem?_append_right (by rw [hw2.1]; omega),hw2.1] at hd
          exact (hg _ d u hd hu).1
      · rcases List.mem_append.1 hu with hu | hu
        · exact hw3 u hu
        · obtain ⟨j,hj,rfl⟩:=List.getElem_of_mem hu
          exact (hg j _ _ (List.getElem?_eq_getElem (by rw [← hl]; exact hj)) (List.getElem?_eq_getElem hj)).2
      · obtain ⟨d,hd,hdn⟩:=List.mem_flatMap.1 (show n ∈ (c::cs++v::r).flatMap ids0 from hn)
        rcases List.mem_append.1 hd with hd | hd
        · exact h4 _ (List.mem_cons_self ..) n (List.mem_flatMap.2 ⟨d,hd,hdn⟩)
        · have hg0:=gr0All_mem hnf hd
          cases d<;>first | (cases hg0; done) | (cases hdn; done)
    rw [he]
    have htup:vs.length≠1→Rel β1 (Own X s1 β1) w (.tup vs) (.tuple us.toArray)∧∀ n ∈ ids (.tup vs),Nm s1 n:=fun hl1=>by
      have hnf:=hnf hl1
      have hno:∀ l:List AV,noFn l = true→∀ v ∈ l,noFn [v] = true:=by
        intro l
        induction l with
        | nil=>intro _ v hv; cases hv
        | cons y r ih =>
          intro hl v hv
          have hy:noFn r = true∧noFn [y] = true:=by cases y<;>first | exact ⟨hl,rfl⟩ | exact absurd (show false = true from hl) (by simp)
          rcases List.mem_cons.1 hv with e | hv
          · rw [e]; exact hy.2
          · exact ih hy.1 v hv
      refine ⟨⟨us,rfl,h3.1,fun j c u hc hu=>?_⟩,fun n hn=>?_⟩
      · have hr:=h3.2 j c u hc hu
        have hf:=hno vs hnf c (List.mem_of_getElem? hc)
        cases c<;>first | exact hr | cases hf
      · obtain ⟨c,hc,hk⟩:=List.mem_flatMap.1 hn
        refine h4 c hc n ?_
        have hf:=hno vs hnf c hc
        cases c<;>first | exact hk | cases hf
    match vs,us,h3,h4,htup with
    | [],us,h3,_,htup =>
      have:us = []:=h3.nil_inv
      subst this
      exact ⟨_,rfl,htup (by simp)⟩
    | [v],us,h3,h4,_ =>
      obtain ⟨u,us',rfl,h6,h7⟩:=h3.cons_inv
      have:us' = []:=h7.nil_inv
      subst this
      exact ⟨u,rfl,h6,h4 v (List.mem_cons_self ..)⟩
    | v::v'::t,us,h3,_,htup =>
      have hl:us.length≠1:=by have:=h3.1; simp at this; omega
      exact ⟨_,by rw [dif_neg (by simpa using hl)],htup (by simp)⟩
  obtain ⟨u,hu,hr,hrn⟩:=hone
  refine ⟨u,β1,by rw [hrun,hu],?_⟩
  have hNm:∀ n,Nm ⟨[(0,oneTupB vs)],boxes'⟩ n→Nm s1 n:=by
    rintro n (⟨cs,hc⟩ | ⟨q,hq⟩ | ⟨b,cs,hb,c,hc,hn⟩)
    · obtain ⟨us',hu',_⟩:=wkB_look hwk n cs hc
      exact .inl ⟨us',hu'⟩
    · simp only [look] at hq
      cases hb:Nat.beq 0 q with
      | true=>rw [hb] at hq; exact hrn n hq
      | false=>rw [hb] at hq; cases hq
    · obtain ⟨us',hu',hw⟩:=wkB_look hwk b cs hb
      obtain ⟨g,us2,e,k1,k2,k3⟩:=hI1.boxes b us' hu'
      obtain ⟨u',hu2,hn'⟩:=(wkC_rel hw k3).2 c hc n hn
      exact .inr (.inr ⟨b,us',hu',u',hu2,hn'⟩)
  have hO:∀ k,Own X ⟨[(0,oneTupB vs)],boxes'⟩ β1 k→Own X s1 β1 k:=fun k hk=>hk.imp id fun ⟨n,hn,hb⟩=>⟨n,hNm n hn,hb⟩
  refine ⟨hI1.ext,fun n=>?_,rfl,fun n cs hc=>?_,fun n m g hn hm=>hI1.inj n m g (hNm n hn) (hNm m hm),fun n g hn hg=>hI1.own n g (hNm n hn) hg,rfl,hI1.ext2,fun n cs g hc hp=>?_,fun n hn=>hI1.pinN n (by omega),hI1.gl⟩
  · simp only [look]
    cases hb:Nat.beq 0 n with
    | true=>have:=Nat.eq_of_beq_eq_true hb; subst this; exact hr.mono hO
    | false=>exact Rel.x
  · obtain ⟨us',hu',hw⟩:=wkB_look hwk n cs hc
    obtain ⟨g,us2,e,k1,k2,k3⟩:=hI1.boxes n us' hu'
    exact ⟨g,us2,e,k1,k2,(wkC_rel hw k3).1.mono fun _ _ _ _ hr=>⟨hr.1.mono hO,hr.2⟩⟩
  · obtain ⟨us',hu',_⟩:=wkB_look hwk n cs hc
    exact hI1.pin n us' g hu' hp

end
end Go.SX
end
section
namespace Go.Proofs.YtjbngfnpddhjpaaDoor
open Go.SX
set_option maxRecDepth 100000
def ti1:TI:=⟨1,8,[.nilFunc],.other,none,[],none,false⟩
theorem ti1_ok:ti1.ok Tryd.prog 1:=⟨⟨Tryd.t1,.nilFunc,by kernel_rfl,rfl,rfl,rfl,rfl⟩,⟨_,Tryd.underlying1,⟨fun _ h=>(nomatch h),fun _ _ h=>(nomatch h),fun _ h=>(nomatch h)⟩⟩,rfl,fun _=>⟨Tryd.t1,by kernel_rfl,rfl⟩,(fun h=>nomatch h)⟩
def ti2:TI:=⟨1,8,[.int .i64 0],.int .i64,some .i64,[],none,false⟩
theorem ti2_ok:ti2.ok Tryd.prog 2:=⟨⟨Tryd.t2,.int .i64 0,by kernel_rfl,rfl,rfl,rfl,rfl⟩,⟨_,Tryd.underlying2,rfl⟩,rfl,fun _=>⟨Tryd.t2,by kernel_rfl,rfl⟩,(fun h=>nomatch h)⟩
def ti3:TI:=⟨1,8,[.int .i64 0],.int .i64,some .int,[],none,false⟩
theorem ti3_ok:ti3.ok Tryd.prog 3:=⟨⟨Tryd.t3,.int .i64 0,by kernel_rfl,rfl,rfl,rfl,rfl⟩,⟨_,Tryd.underlying3,rfl⟩,rfl,fun _=>⟨Tryd.t3,by kernel_rfl,rfl⟩,(fun h=>nomatch h)⟩
def ti4:TI:=⟨1,1,[.bool false],.bool,some .bool,[],none,false⟩
theorem ti4_ok:ti4.ok Tryd.prog 4:=⟨⟨Tryd.t4,.bool false,by kernel_rfl,rfl,rfl,rfl,rfl⟩,⟨_,Tryd.underlying4,rfl⟩,rfl,fun _=>⟨Tryd.t4,by kernel_rfl,rfl⟩,(fun h=>nomatch h)⟩
def ti5:TI:=⟨1,1,[.int .u8 0],.int .u8,some .u8,[],none,false⟩
theorem ti5_ok:ti5.ok Tryd.prog 5:=⟨⟨Tryd.t5,.int .u8 0,by kernel_rfl,rfl,rfl,rfl,rfl⟩,⟨_,Tryd.underlying5,rfl⟩,rfl,fun _=>⟨Tryd.t5,by kernel_rfl,rfl⟩,(fun h=>nomatch h)⟩
def ti6:TI:=⟨1,1,[.int .u8 0],.int .u8,none,[],none,true⟩
theorem ti6_ok:ti6.ok Tryd.prog 6:=⟨⟨Tryd.t6,.int .u8 0,by kernel_rfl,rfl,rfl,rfl,rfl⟩,⟨_,Tryd.underlying6,rfl⟩,rfl,fun _=>⟨Tryd.t6,by kernel_rfl,rfl⟩,fun _=>⟨Tryd.t6,by kernel_rfl,rfl⟩⟩
def ti7:TI:=⟨4,24,[.int .i64 0,.int .i64 0,.bool false,.int .u8 0],.struct [(0,1),(1,1),(2,1),(3,1)],none,[],none,false⟩
theorem ti7_ok:ti7.ok Tryd.prog 7:=⟨⟨Tryd.t7,.agg #[.int .i64 0,.int .i64 0,.bool false,.int .u8 0],by kernel_rfl,rfl,rfl,rfl,rfl⟩,⟨_,Tryd.underlying7,⟨_,rfl,by kernel_rfl,by kernel_rfl⟩⟩,rfl,(fun h=>nomatch h),(fun h=>nomatch h)⟩
def ti8:TI:=⟨4,24,[.int .i64 0,.int .i64 0,.bool false,.int .u8 0],.struct [(0,1),(1,1),(2,1),(3,1)],none,[],none,false⟩
theorem ti8_ok:ti8.ok Tryd.prog 8:=⟨⟨Tryd.t8,.agg #[.int .i64 0,.int .i64 0,.bool false,.int .u8 0],by kernel_rfl,rfl,rfl,rfl,rfl⟩,⟨_,Tryd.underlying8,⟨_,rfl,by kernel_rfl,by kernel_rfl⟩⟩,rfl,(fun h=>nomatch h),(fun h=>nomatch h)⟩
def ti9:TI:=⟨1,16,[.string ⟨#[]⟩],.str,some .str,[],none,false⟩
theorem ti9_ok:ti9.ok Tryd.prog 9:=⟨⟨Tryd.t9,.string ⟨#[]⟩,by kernel_rfl,rfl,rfl,rfl,rfl⟩,⟨_,Tryd.underlying9,rfl⟩,rfl,fun _=>⟨Tryd.t9,by kernel_rfl,rfl⟩,(fun h=>nomatch h)⟩
def ti10:TI:=⟨1,16,[.string ⟨#[]⟩],.str,none,[],none,false⟩
theorem ti10_ok:ti10.ok Tryd.prog 10:=⟨⟨Tryd.t10,.string ⟨#[]⟩,by kernel_rfl,rfl,rfl,rfl,rfl⟩,⟨_,Tryd.underlying10,rfl⟩,rfl,fun _=>⟨Tryd.t10,by kernel_rfl,rfl⟩,(fun h=>nomatch h)⟩
def ti11:TI:=⟨1,16,[.string ⟨#[]⟩],.str,none,[],none,false⟩
theorem ti11_ok:ti11.ok Tryd.prog 11:=⟨⟨Tryd.t11,.string ⟨#[]⟩,by kernel_rfl,rfl,rfl,rfl,rfl⟩,⟨_,Tryd.underlying11,rfl⟩,rfl,fun _=>⟨Tryd.t11,by kernel_rfl,rfl⟩,(fun h=>nomatch h)⟩
def ti12:TI:=⟨1,8,[.int .u64 0],.int .u64,none,[],none,false⟩
theorem ti12_ok:ti12.ok Tryd.prog 12:=⟨⟨Tryd.t12,.int .u64 0,by kernel_rfl,rfl,rfl,rfl,rfl⟩,⟨_,Tryd.underlying12,rfl⟩,rfl,fun _=>⟨Tryd.t12,by kernel_rfl,rfl⟩,(fun h=>nomatch h)⟩
def ti13:TI:=⟨2,24,[.string ⟨#[]⟩,.int .u64 0],.struct [(0,1),(1,1)],none,[],none,false⟩
theorem ti13_ok:ti13.ok Tryd.prog 13:=⟨⟨Tryd.t13,.agg #[.string ⟨#[]⟩,.int .u64 0],by kernel_rfl,rfl,rfl,rfl,rfl⟩,⟨_,Tryd.underlying13,⟨_,rfl,by kernel_rfl,by kernel_rfl⟩⟩,rfl,(fun h=>nomatch h),(fun h=>nomatch h)⟩
def ti14:TI:=⟨2,24,[.string ⟨#[]⟩,.int .u64 0],.struct [(0,1),(1,1)],none,[],none,false⟩
theorem ti14_ok:ti14.ok Tryd.prog 14:=⟨⟨Tryd.t14,.agg #[.string ⟨#[]⟩,.int .u64 0],by kernel_rfl,rfl,rfl,rfl,rfl⟩,⟨_,Tryd.underlying14,⟨_,rfl,by kernel_rfl,by kernel_rfl⟩⟩,rfl,(fun h=>nomatch h),(fun h=>nomatch h)⟩
def ti15:TI:=⟨1,8,[.pointer none],.other,none,[],none,false⟩
theorem ti15_ok:ti15.ok Tryd.prog 15:=⟨⟨Tryd.t15,.pointer none,by kernel_rfl,rfl,rfl,rfl,rfl⟩,⟨_,Tryd.underlying15,⟨fun _ h=>(nomatch h),fun _ _ h=>(nomatch h),fun _ h=>(nomatch h)⟩⟩,rfl,fun _=>⟨Tryd.t15,by kernel_rfl,rfl⟩,(fun h=>nomatch h)⟩
def ti16:TI:=⟨1,8,[.pointer none],.other,none,[],none,false⟩
theorem ti16_ok:ti16.ok Tryd.prog 16:=⟨⟨Tryd.t16,.pointer none,by kernel_rfl,rfl,rfl,rfl,rfl⟩,⟨_,Tryd.underlying16,⟨fun _ h=>(nomatch h),fun _ _ h=>(nomatch h),fun _ h=>(nomatch h)⟩⟩,rfl,fun _=>⟨Tryd.t16,by kernel_rfl,rfl⟩,(fun h=>nomatch h)⟩
def ti17:TI:=⟨1,8,[.pointer none],.other,none,[],none,false⟩
theorem ti17_ok:ti17.ok Tryd.prog 17:=⟨⟨Tryd.t17,.pointer none,by kernel_rfl,rfl,rfl,rfl,rfl⟩,⟨_,Tryd.underlying17,⟨fun _ h=>(nomatch h),fun _ _ h=>(nomatch h),fun _ h=>(nomatch h)⟩⟩,rfl,fun _=>⟨Tryd.t17,by kernel_rfl,rfl⟩,(fun h=>nomatch h)⟩
def ti18:TI:=⟨1,8,[.pointer none],.struct [(0,1)],none,[],none,false⟩
theorem ti18_ok:ti18.ok Tryd.prog 18:=⟨⟨Tryd.t18,.agg #[.pointer none],by kernel_rfl,rfl,rfl,rfl,rfl⟩,⟨_,Tryd.underlying18,⟨_,rfl,by kernel_rfl,by kernel_rfl⟩⟩,rfl,(fun h=>nomatch h),(fun h=>nomatch h)⟩
def ti19:TI:=⟨1,8,[.pointer none],.struct [(0,1)],none,[],none,false⟩
theorem ti19_ok:ti19.ok Tryd.prog 19:=⟨⟨Tryd.t19,.agg #[.pointer none],by kernel_rfl,rfl,rfl,rfl,rfl⟩,⟨_,Tryd.underlying19,⟨_,rfl,by kernel_rfl,by kernel_rfl⟩⟩,rfl,(fun h=>nomatch h),(fun h=>nomatch h)⟩
def ti20:TI:=⟨1,16,[.nilIface],.ifc,none,[],none,false⟩
theorem ti20_ok:ti20.ok Tryd.prog 20:=⟨⟨Tryd.t20,.nilIface,by kernel_rfl,rfl,rfl,rfl,rfl⟩,⟨_,Tryd.underlying20,⟨_,rfl⟩⟩,rfl,fun _=>⟨Tryd.t20,by kernel_rfl,rfl⟩,(fun h=>nomatch h)⟩
def ti21:TI:=⟨1,4,[.int .i32 0],.int .i32,some .rune,[],none,false⟩
theorem ti21_ok:ti21.ok Tryd.prog 21:=⟨⟨Tryd.t21,.int .i32 0,by kernel_rfl,rfl,rfl,rfl,rfl⟩,⟨_,Tryd.underlying21,rfl⟩,rfl,fun _=>⟨Tryd.t21,by kernel_rfl,rfl⟩,(fun h=>nomatch h)⟩
def ti22:TI:=⟨1,8,[.int .u64 0],.int .u64,some .u64,[],none,false⟩
theorem ti22_ok:ti22.ok Tryd.prog 22:=⟨⟨Tryd.t22,.int .u64 0,by kernel_rfl,rfl,rfl,rfl,rfl⟩,⟨_,Tryd.underlying22,rfl⟩,rfl,fun _=>⟨Tryd.t22,by kernel_rfl,rfl⟩,(fun h=>nomatch h)⟩
def ti23:TI:=⟨1,24,[.slice none 0 0],.slice 26,none,[],none,false⟩
theorem ti23_ok:ti23.ok Tryd.prog 23:=⟨⟨Tryd.t23,.slice none 0 0,by kernel_rfl,rfl,rfl,rfl,rfl⟩,⟨_,Tryd.underlying23,rfl⟩,rfl,fun _=>⟨Tryd.t23,by kernel_rfl,rfl⟩,(fun h=>nomatch h)⟩
def ti24:TI:=⟨1,24,[.slice none 0 0],.slice 49,none,[],none,false⟩
theorem ti24_ok:ti24.ok Tryd.prog 24:=⟨⟨Tryd.t24,.slice none 0 0,by kernel_rfl,rfl,rfl,rfl,rfl⟩,⟨_,Tryd.underlying24,rfl⟩,rfl,fun _=>⟨Tryd.t24,by kernel_rfl,rfl⟩,(fun h=>nomatch h)⟩
def ti25:TI:=⟨6,88,[.int .i64 0,.int .i64 0,.int .u64 0,.string ⟨#[]⟩,.slice none 0 0,.slice none 0 0],.struct [(0,1),(1,1),(2,1),(3,1),(4,1),(5,1)],none,[],none,false⟩
theorem ti25_ok:ti25.ok Tryd.prog 25:=⟨⟨Tryd.t25,.agg #[.int .i64 0,.int .i64 0,.int .u64 0,.string ⟨#[]⟩,.slice none 0 0,.slice none 0 0],by kernel_rfl,rfl,rfl,rfl,rfl⟩,⟨_,Tryd.underlying25,⟨_,rfl,by kernel_rfl,by kernel_rfl⟩⟩,rfl,(fun h=>nomatch h),(fun h=>nomatch h)⟩
def ti26:TI:=⟨6,88,[.int .i64 0,.int .i64 0,.int .u64 0,.string ⟨#[]⟩,.slice none 0 0,.slice none 0 0],.struct [(0,1),(1,1),(2,1),(3,1),(4,1),(5,1)],some .val,[],none,false⟩
theorem ti26_ok:ti26.ok Tryd.prog 26:=⟨⟨Tryd.t26,.agg #[.int .i64 0,.int .i64 0,.int .u64 0,.string ⟨#[]⟩,.slice none 0 0,.slice none 0 0],by kernel_rfl,rfl,rfl,rfl,rfl⟩,⟨_,Tryd.underlying26,⟨_,rfl,by kernel_rfl,by kernel_rfl⟩⟩,rfl,(fun h=>nomatch h),(fun h=>nomatch h)⟩
def ti27:TI:=⟨1,24,[.slice none 0 0],.slice 55,none,[],none,false⟩
theorem ti27_ok:ti27.ok Tryd.prog 27:=⟨⟨Tryd.t27,.slice none 0 0,by kernel_rfl,rfl,rfl,rfl,rfl⟩,⟨_,Tryd.underlying27,rfl⟩,rfl,fun _=>⟨Tryd.t27,by kernel_rfl,rfl⟩,(fun h=>nomatch h)⟩
def ti28:TI:=⟨1,8,[.int .i64 0],.int .i64,some .errno,[],none,true⟩
theorem ti28_ok:ti28.ok Tryd.prog 28:=⟨⟨Tryd.t28,.int .i64 0,by kernel_rfl,rfl,rfl,rfl,rfl⟩,⟨_,Tryd.underlying28,rfl⟩,rfl,fun _=>⟨Tryd.t28,by kernel_rfl,rfl⟩,fun _=>⟨Tryd.t28,by kernel_rfl,rfl⟩⟩
def ti30:TI:=⟨1,8,[.nilFunc],.other,none,[],none,false⟩
theorem ti30_ok:ti30.ok Tryd.prog 30:=⟨⟨Tryd.t30,.nilFunc,by kernel_rfl,rfl,rfl,rfl,rfl⟩,⟨_,Tryd.underlying30,⟨fun _ h=>(nomatch h),fun _ _ h=>(nomatch h),fun _ h=>(nomatch h)⟩⟩,rfl,fun _=>⟨Tryd.t30,by kernel_rfl,rfl⟩,(fun h=>nomatch h)⟩
def ti31:TI:=⟨1,8,[.nilFunc],.other,none,[],none,false⟩
theorem ti31_ok:ti31.ok Tryd.prog 31:=⟨⟨Tryd.t31,.nilFunc,by kernel_rfl,rfl,rfl,rfl,rfl⟩,⟨_,Tryd.underlying31,⟨fun _ h=>(nomatch h),fun _ _ h=>(nomatch h),fun _ h=>(nomatch h)⟩⟩,rfl,fun _=>⟨Tryd.t31,by kernel_rfl,rfl⟩,(fun h=>nomatch h)⟩
def ti32:TI:=⟨1,8,[.nilFunc],.other,none,[],none,false⟩
theorem ti32_ok:ti32.ok Tryd.prog 32:=⟨⟨Tryd.t32,.nilFunc,by kernel_rfl,rfl,rfl,rfl,rfl⟩,⟨_,Tryd.underlying32,⟨fun _ h=>(nomatch h),fun _ _ h=>(nomatch h),fun _ h=>(nomatch h)⟩⟩,rfl,fun _=>⟨Tryd.t32,by kernel_rfl,rfl⟩,(fun h=>nomatch h)⟩
def ti33:TI:=⟨7,96,[.bool false,.int .i64 0,.int .i64 0,.int .u64 0,.string ⟨#[]⟩,.slice none 0 0,.slice none 0 0],.struct [(0,1),(1,6)],none,[],none,false⟩
theorem ti33_ok:ti33.ok Tryd.prog 33:=⟨⟨Tryd.t33,.agg #[.bool false,.int .i64 0,.int .i64 0,.int .u64 0,.string ⟨#[]⟩,.slice none 0 0,.slice none 0 0],by kernel_rfl,rfl,rfl,rfl,rfl⟩,⟨_,Tryd.underlying33,⟨_,rfl,by kernel_rfl,by kernel_rfl⟩⟩,rfl,(fun h=>nomatch h),(fun h=>nomatch h)⟩
def ti34:TI:=⟨7,96,[.bool false,.int .i64 0,.int .i64 0,.int .u64 0,.string ⟨#[]⟩,.slice none 0 0,.slice none 0 0],.struct [(0,1),(1,6)],some .mb,[],none,false⟩
theorem ti34_ok:ti34.ok Tryd.prog 34:=⟨⟨Tryd.t34,.agg #[.bool false,.int .i64 0,.int .i64 0,.int .u64 0,.string ⟨#[]⟩,.slice none 0 0,.slice none 0 0],by kernel_rfl,rfl,rfl,rfl,rfl⟩,⟨_,Tryd.underlying34,⟨_,rfl,by kernel_rfl,by kernel_rfl⟩⟩,rfl,(fun h=>nomatch h),(fun h=>nomatch h)⟩
def ti36:TI:=⟨1,8,[.nilFunc],.other,none,[],none,false⟩
theorem ti36_ok:ti36.ok Tryd.prog 36:=⟨⟨Tryd.t36,.nilFunc,by kernel_rfl,rfl,rfl,rfl,rfl⟩,⟨_,Tryd.underlying36,⟨fun _ h=>(nomatch h),fun _ _ h=>(nomatch h),fun _ h=>(nomatch h)⟩⟩,rfl,fun _=>⟨Tryd.t36,by kernel_rfl,rfl⟩,(fun h=>nomatch h)⟩
def ti37:TI:=⟨1,8,[.nilFunc],.other,none,[],none,false⟩
theorem ti37_ok:ti37.ok Tryd.prog 37:=⟨⟨Tryd.t37,.nilFunc,by kernel_rfl,rfl,rfl,rfl,rfl⟩,⟨_,Tryd.underlying37,⟨fun _ h=>(nomatch h),fun _ _ h=>(nomatch h),fun _ h=>(nomatch h)⟩⟩,rfl,fun _=>⟨Tryd.t37,by kernel_rfl,rfl⟩,(fun h=>nomatch h)⟩
def ti38:TI:=⟨1,8,[.nilFunc],.other,none,[],none,false⟩
theorem ti38_ok:ti38.ok Tryd.prog 38:=⟨⟨Tryd.t38,.nilFunc,by kernel_rfl,rfl,rfl,rfl,rfl⟩,⟨_,Tryd.underlying38,⟨fun _ h=>(nomatch h),fun _ _ h=>(nomatch h),fun _ h=>(nomatch h)⟩⟩,rfl,fun _=>⟨Tryd.t38,by kernel_rfl,rfl⟩,(fun h=>nomatch h)⟩
def ti39:TI:=⟨1,24,[.slice none 0 0],.struct [(0,1)],none,[],none,false⟩
theorem ti39_ok:ti39.ok Tryd.prog 39:=⟨⟨Tryd.t39,.agg #[.slice none 0 0],by kernel_rfl,rfl,rfl,rfl,rfl⟩,⟨_,Tryd.underlying39,⟨_,rfl,by kernel_rfl,by kernel_rfl⟩⟩,rfl,(fun h=>nomatch h),(fun h=>nomatch h)⟩
def ti40:TI:=⟨1,24,[.slice none 0 0],.struct [(0,1)],none,[],none,false⟩
theorem ti40_ok:ti40.ok Tryd.prog 40:=⟨⟨Tryd.t40,.agg #[.slice none 0 0],by kernel_rfl,rfl,rfl,rfl,rfl⟩,⟨_,Tryd.underlying40,⟨_,rfl,by kernel_rfl,by kernel_rfl⟩⟩,rfl,(fun h=>nomatch h),(fun h=>nomatch h)⟩
def ti41:TI:=⟨7,96,[.bool false,.int .i64 0,.int .i64 0,.int .u64 0,.string ⟨#[]⟩,.slice none 0 0,.slice none 0 0],.struct [(0,1),(1,6)],none,[],none,false⟩
theorem ti41_ok:ti41.ok Tryd.prog 41:=⟨⟨Tryd.t41,.agg #[.bool false,.int .i64 0,.int .i64 0,.int .u64 0,.string ⟨#[]⟩,.slice none 0 0,.slice none 0 0],by kernel_rfl,rfl,rfl,rfl,rfl⟩,⟨_,Tryd.underlying41,⟨_,rfl,by kernel_rfl,by kernel_rfl⟩⟩,rfl,(fun h=>nomatch h),(fun h=>nomatch h)⟩
def ti42:TI:=⟨7,96,[.bool false,.int .i64 0,.int .i64 0,.int .u64 0,.string ⟨#[]⟩,.slice none 0 0,.slice none 0 0],.struct [(0,1),(1,6)],some .mb,[],none,false⟩
theorem ti42_ok:ti42.ok Tryd.prog 42:=⟨⟨Tryd.t42,.agg #[.bool false,.int .i64 0,.int .i64 0,.int .u64 0,.string ⟨#[]⟩,.slice none 0 0,.slice none 0 0],by kernel_rfl,rfl,rfl,rfl,rfl⟩,⟨_,Tryd.underlying42,⟨_,rfl,by kernel_rfl,by kernel_rfl⟩⟩,rfl,(fun h=>nomatch h),(fun h=>nomatch h)⟩
def ti43:TI:=⟨1,8,[.nilFunc],.other,none,[],none,false⟩
theorem ti43_ok:ti43.ok Tryd.prog 43:=⟨⟨Tryd.t43,.nilFunc,by kernel_rfl,rfl,rfl,rfl,rfl⟩,⟨_,Tryd.underlying43,⟨fun _ h=>(nomatch h),fun _ _ h=>(nomatch h),fun _ h=>(nomatch h)⟩⟩,rfl,fun _=>⟨Tryd.t43,by kernel_rfl,rfl⟩,(fun h=>nomatch h)⟩
def ti44:TI:=⟨1,8,[.nilFunc],.other,none,[],none,false⟩
theorem ti44_ok:ti44.ok Tryd.prog 44:=⟨⟨Tryd.t44,.nilFunc,by kernel_rfl,rfl,rfl,rfl,rfl⟩,⟨_,Tryd.underlying44,⟨fun _ h=>(nomatch h),fun _ _ h=>(nomatch h),fun _ h=>(nomatch h)⟩⟩,rfl,fun _=>⟨Tryd.t44,by kernel_rfl,rfl⟩,(fun h=>nomatch h)⟩
def ti45:TI:=⟨7,96,[.int .i64 0,.int .i64 0,.int .u64 0,.string ⟨#[]⟩,.slice none 0 0,.slice none 0 0,.int .i64 0],.struct [(0,6),(6,1)],none,[],none,false⟩
theorem ti45_ok:ti45.ok Tryd.prog 45:=⟨⟨Tryd.t45,.agg #[.int .i64 0,.int .i64 0,.int .u64 0,.string ⟨#[]⟩,.slice none 0 0,.slice none 0 0,.int .i64 0],by kernel_rfl,rfl,rfl,rfl,rfl⟩,⟨_,Tryd.underlying45,⟨_,rfl,by kernel_rfl,by kernel_rfl⟩⟩,rfl,(fun h=>nomatch h),(fun h=>nomatch h)⟩
def ti46:TI:=⟨7,96,[.int .i64 0,.int .i64 0,.int .u64 0,.string ⟨#[]⟩,.slice none 0 0,.slice none 0 0,.int .i64 0],.struct [(0,6),(6,1)],some .vplace,[],none,false⟩
theorem ti46_ok:ti46.ok Tryd.prog 46:=⟨⟨Tryd.t46,.agg #[.int .i64 0,.int .i64 0,.int .u64 0,.string ⟨#[]⟩,.slice none 0 0,.slice none 0 0,.int .i64 0],by kernel_rfl,rfl,rfl,rfl,rfl⟩,⟨_,Tryd.underlying46,⟨_,rfl,by kernel_rfl,by kernel_rfl⟩⟩,rfl,(fun h=>nomatch h),(fun h=>nomatch h)⟩
def ti47:TI:=⟨1,24,[.slice none 0 0],.slice 46,none,[],none,false⟩
theorem ti47_ok:ti47.ok Tryd.prog 47:=⟨⟨Tryd.t47,.slice none 0 0,by kernel_rfl,rfl,rfl,rfl,rfl⟩,⟨_,Tryd.underlying47,rfl⟩,rfl,fun _=>⟨Tryd.t47,by kernel_rfl,rfl⟩,(fun h=>nomatch h)⟩
def ti48:TI:=⟨7,104,[.string ⟨#[]⟩,.int .i64 0,.int .i64 0,.int .u64 0,.string ⟨#[]⟩,.slice none 0 0,.slice none 0 0],.struct [(0,1),(1,6)],none,[],none,false⟩
theorem ti48_ok:ti48.ok Tryd.prog 48:=⟨⟨Tryd.t48,.agg #[.string ⟨#[]⟩,.int .i64 0,.int .i64 0,.int .u64 0,.string ⟨#[]⟩,.slice none 0 0,.slice none 0 0],by kernel_rfl,rfl,rfl,rfl,rfl⟩,⟨_,Tryd.underlying48,⟨_,rfl,by kernel_rfl,by kernel_rfl⟩⟩,rfl,(fun h=>nomatch h),(fun h=>nomatch h)⟩
def ti49:TI:=⟨7,104,[.string ⟨#[]⟩,.int .i64 0,.int .i64 0,.int .u64 0,.string ⟨#[]⟩,.slice none 0 0,.slice none 0 0],.struct [(0,1),(1,6)],some .ent,[],none,false⟩
theorem ti49_ok:ti49.ok Tryd.prog 49:=⟨⟨Tryd.t49,.agg #[.string ⟨#[]⟩,.int .i64 0,.int .i64 0,.int .u64 0,.string ⟨#[]⟩,.slice none 0 0,.slice none 0 0],by kernel_rfl,rfl,rfl,rfl,rfl⟩,⟨_,Tryd.underlying49,⟨_,rfl,by kernel_rfl,by kernel_rfl⟩⟩,rfl,(fun h=>nomatch h),(fun h=>nomatch h)⟩
def ti50:TI:=⟨1,8,[.nilFunc],.other,none,[],none,false⟩
theorem ti50_ok:ti50.ok Tryd.prog 50:=⟨⟨Tryd.t50,.nilFunc,by kernel_rfl,rfl,rfl,rfl,rfl⟩,⟨_,Tryd.underlying50,⟨fun _ h=>(nomatch h),fun _ _ h=>(nomatch h),fun _ h=>(nomatch h)⟩⟩,rfl,fun _=>⟨Tryd.t50,by kernel_rfl,rfl⟩,(fun h=>nomatch h)⟩
def ti51:TI:=⟨1,8,[.nilFunc],.other,none,[],none,false⟩
theorem ti51_ok:ti51.ok Tryd.prog 51:=⟨⟨Tryd.t51,.nilFunc,by kernel_rfl,rfl,rfl,rfl,rfl⟩,⟨_,Tryd.underlying51,⟨fun _ h=>(nomatch h),fun _ _ h=>(nomatch h),fun _ h=>(nomatch h)⟩⟩,rfl,fun _=>⟨Tryd.t51,by kernel_rfl,rfl⟩,(fun h=>nomatch h)⟩
def ti52:TI:=⟨1,24,[.slice none 0 0],.slice 34,none,[],none,false⟩
theorem ti52_ok:ti52.ok Tryd.prog 52:=⟨⟨Tryd.t52,.slice none 0 0,by kernel_rfl,rfl,rfl,rfl,rfl⟩,⟨_,Tryd.underlying52,rfl⟩,rfl,fun _=>⟨Tryd.t52,by kernel_rfl,rfl⟩,(fun h=>nomatch h)⟩
def ti53:TI:=⟨1,8,[.nilFunc],.other,none,[],none,false⟩
theorem ti53_ok:ti53.ok Tryd.prog 53:=⟨⟨Tryd.t53,.nilFunc,by kernel_rfl,rfl,rfl,rfl,rfl⟩,⟨_,Tryd.underlying53,⟨fun _ h=>(nomatch h),fun _ _ h=>(nomatch h),fun _ h=>(nomatch h)⟩⟩,rfl,fun _=>⟨Tryd.t53,by kernel_rfl,rfl⟩,(fun h=>nomatch h)⟩
def ti54:TI:=⟨1,8,[.nilFunc],.other,none,[],none,false⟩
theorem ti54_ok:ti54.ok Tryd.prog 54:=⟨⟨Tryd.t54,.nilFunc,by kernel_rfl,rfl,rfl,rfl,rfl⟩,⟨_,Tryd.underlying54,⟨fun _ h=>(nomatch h),fun _ _ h=>(nomatch h),fun _ h=>(nomatch h)⟩⟩,rfl,fun _=>⟨Tryd.t54,by kernel_rfl,rfl⟩,(fun h=>nomatch h)⟩
def ti55:TI:=⟨1,24,[.slice none 0 0],.slice 57,some .psteps,[],none,false⟩
theorem ti55_ok:ti55.ok Tryd.prog 55:=⟨⟨Tryd.t55,.slice none 0 0,by kernel_rfl,rfl,rfl,rfl,rfl⟩,⟨_,Tryd.underlying55,rfl⟩,rfl,fun _=>⟨Tryd.t55,by kernel_rfl,rfl⟩,(fun h=>nomatch h)⟩
def ti56:TI:=⟨2,24,[.string ⟨#[]⟩,.int .i64 0],.struct [(0,1),(1,1)],none,[],none,false⟩
theorem ti56_ok:ti56.ok Tryd.prog 56:=⟨⟨Tryd.t56,.agg #[.string ⟨#[]⟩,.int .i64 0],by kernel_rfl,rfl,rfl,rfl,rfl⟩,⟨_,Tryd.underlying56,⟨_,rfl,by kernel_rfl,by kernel_rfl⟩⟩,rfl,(fun h=>nomatch h),(fun h=>nomatch h)⟩
def ti57:TI:=⟨2,24,[.string ⟨#[]⟩,.int .i64 0],.struct [(0,1),(1,1)],some .pstep,[.str,.int],none,false⟩
theorem ti57_ok:ti57.ok Tryd.prog 57:=⟨⟨Tryd.t57,.agg #[.string ⟨#[]⟩,.int .i64 0],by kernel_rfl,rfl,rfl,rfl,rfl⟩,⟨_,Tryd.underlying57,⟨_,rfl,by kernel_rfl,by kernel_rfl⟩⟩,by kernel_rfl,(fun h=>nomatch h),(fun h=>nomatch h)⟩
def ti58:TI:=⟨1,8,[.nilFunc],.other,none,[],none,false⟩
theorem ti58_ok:ti58.ok Tryd.prog 58:=⟨⟨Tryd.t58,.nilFunc,by kernel_rfl,rfl,rfl,rfl,rfl⟩,⟨_,Tryd.underlying58,⟨fun _ h=>(nomatch h),fun _ _ h=>(nomatch h),fun _ h=>(nomatch h)⟩⟩,rfl,fun _=>⟨Tryd.t58,by kernel_rfl,rfl⟩,(fun h=>nomatch h)⟩
def ti59:TI:=⟨1,8,[.nilFunc],.other,none,[],none,false⟩
theorem ti59_ok:ti59.ok Tryd.prog 59:=⟨⟨Tryd.t59,.nilFunc,by kernel_rfl,rfl,rfl,rfl,rfl⟩,⟨_,Tryd.underlying59,⟨fun _ h=>(nomatch h),fun _ _ h=>(nomatch h),fun _ h=>(nomatch h)⟩⟩,rfl,fun _=>⟨Tryd.t59,by kernel_rfl,rfl⟩,(fun h=>nomatch h)⟩
def ti60:TI:=⟨1,8,[.pointer none],.other,none,[],none,false⟩
theorem ti60_ok:ti60.ok Tryd.prog 60:=⟨⟨Tryd.t60,.pointer none,by kernel_rfl,rfl,rfl,rfl,rfl⟩,⟨_,Tryd.underlying60,⟨fun _ h=>(nomatch h),fun _ _ h=>(nomatch h),fun _ h=>(nomatch h)⟩⟩,rfl,fun _=>⟨Tryd.t60,by kernel_rfl,rfl⟩,(fun h=>nomatch h)⟩
def ti61:TI:=⟨1,8,[.pointer none],.other,none,[],none,false⟩
theorem ti61_ok:ti61.ok Tryd.prog 61:=⟨⟨Tryd.t61,.pointer none,by kernel_rfl,rfl,rfl,rfl,rfl⟩,⟨_,Tryd.underlying61,⟨fun _ h=>(nomatch h),fun _ _ h=>(nomatch h),fun _ h=>(nomatch h)⟩⟩,rfl,fun _=>⟨Tryd.t61,by kernel_rfl,rfl⟩,(fun h=>nomatch h)⟩
def ti62:TI:=⟨1,8,[.nilFunc],.other,none,[],none,false⟩
theorem ti62_ok:ti62.ok Tryd.prog 62:=⟨⟨Tryd.t62,.nilFunc,by kernel_rfl,rfl,rfl,rfl,rfl⟩,⟨_,Tryd.underlying62,⟨fun _ h=>(nomatch h),fun _ _ h=>(nomatch h),fun _ h=>(nomatch h)⟩⟩,rfl,fun _=>⟨Tryd.t62,by kernel_rfl,rfl⟩,(fun h=>nomatch h)⟩
def ti63:TI:=⟨1,8,[.nilFunc],.other,none,[],none,false⟩
theorem ti63_ok:ti63.ok Tryd.prog 63:=⟨⟨Tryd.t63,.nilFunc,by kernel_rfl,rfl,rfl,rfl,rfl⟩,⟨_,Tryd.underlying63,⟨fun _ h=>(nomatch h),fun _ _ h=>(nomatch h),fun _ h=>(nomatch h)⟩⟩,rfl,fun _=>⟨Tryd.t63,by kernel_rfl,rfl⟩,(fun h=>nomatch h)⟩
def ti64:TI:=⟨1,8,[.nilFunc],.other,none,[],none,false⟩
theorem ti64_ok:ti64.ok Tryd.prog 64:=⟨⟨Tryd.t64,.nilFunc,by kernel_rfl,rfl,rfl,rfl,rfl⟩,⟨_,Tryd.underlying64,⟨fun _ h=>(nomatch h),fun _ _ h=>(nomatch h),fun _ h=>(nomatch h)⟩⟩,rfl,fun _=>⟨Tryd.t64,by kernel_rfl,rfl⟩,(fun h=>nomatch h)⟩
def ti65:TI:=⟨1,24,[.slice none 0 0],.slice 9,some .strs,[],none,false⟩
theorem ti65_ok:ti65.ok Tryd.prog 65:=⟨⟨Tryd.t65,.slice none 0 0,by kernel_rfl,rfl,rfl,rfl,rfl⟩,⟨_,Tryd.underlying65,rfl⟩,rfl,fun _=>⟨Tryd.t65,by kernel_rfl,rfl⟩,(fun h=>nomatch h)⟩
def ti66:TI:=⟨1,8,[.nilFunc],.other,none,[],none,false⟩
theorem ti66_ok:ti66.ok Tryd.prog 66:=⟨⟨Tryd.t66,.nilFunc,by kernel_rfl,rfl,rfl,rfl,rfl⟩,⟨_,Tryd.underlying66,⟨fun _ h=>(nomatch h),fun _ _ h=>(nomatch h),fun _ h=>(nomatch h)⟩⟩,rfl,fun _=>⟨Tryd.t66,by kernel_rfl,rfl⟩,(fun h=>nomatch h)⟩
def ti67:TI:=⟨1,8,[.nilFunc],.other,none,[],none,false⟩
theorem ti67_ok:ti67.ok Tryd.prog 67:=⟨⟨Tryd.t67,.nilFunc,by kernel_rfl,rfl,rfl,rfl,rfl⟩,⟨_,Tryd.underlying67,⟨fun _ h=>(nomatch h),fun _ _ h=>(nomatch h),fun _ h=>(nomatch h)⟩⟩,rfl,fun _=>⟨Tryd.t67,by kernel_rfl,rfl⟩,(fun h=>nomatch h)⟩
def ti69:TI:=⟨1,8,[.nilFunc],.other,none,[],none,false⟩
theorem ti69_ok:ti69.ok Tryd.prog 69:=⟨⟨Tryd.t69,.nilFunc,by kernel_rfl,rfl,rfl,rfl,rfl⟩,⟨_,Tryd.underlying69,⟨fun _ h=>(nomatch h),fun _ _ h=>(nomatch h),fun _ h=>(nomatch h)⟩⟩,rfl,fun _=>⟨Tryd.t69,by kernel_rfl,rfl⟩,(fun h=>nomatch h)⟩
def ti70:TI:=⟨1,8,[.nilFunc],.other,none,[],none,false⟩
theorem ti70_ok:ti70.ok Tryd.prog 70:=⟨⟨Tryd.t70,.nilFunc,by kernel_rfl,rfl,rfl,rfl,rfl⟩,⟨_,Tryd.underlying70,⟨fun _ h=>(nomatch h),fun _ _ h=>(nomatch h),fun _ h=>(nomatch h)⟩⟩,rfl,fun _=>⟨Tryd.t70,by kernel_rfl,rfl⟩,(fun h=>nomatch h)⟩
def ti71:TI:=⟨1,8,[.nilFunc],.other,none,[],none,false⟩
theorem ti71_ok:ti71.ok Tryd.prog 71:=⟨⟨Tryd.t71,.nilFunc,by kernel_rfl,rfl,rfl,rfl,rfl⟩,⟨_,Tryd.underlying71,⟨fun _ h=>(nomatch h),fun _ _ h=>(nomatch h),fun _ h=>(nomatch h)⟩⟩,rfl,fun _=>⟨Tryd.t71,by kernel_rfl,rfl⟩,(fun h=>nomatch h)⟩
def ti72:TI:=⟨1,8,[.int .u64 0],.int .u64,none,[],none,false⟩
theorem ti72_ok:ti72.ok Tryd.prog 72:=⟨⟨Tryd.t72,.int .u64 0,by kernel_rfl,rfl,rfl,rfl,rfl⟩,⟨_,Tryd.underlying72,rfl⟩,rfl,fun _=>⟨Tryd.t72,by kernel_rfl,rfl⟩,(fun h=>nomatch h)⟩
def ti73:TI:=⟨1,8,[.nilFunc],.other,none,[],none,false⟩
theorem ti73_ok:ti73.ok Tryd.prog 73:=⟨⟨Tryd.t73,.nilFunc,by kernel_rfl,rfl,rfl,rfl,rfl⟩,⟨_,Tryd.underlying73,⟨fun _ h=>(nomatch h),fun _ _ h=>(nomatch h),fun _ h=>(nomatch h)⟩⟩,rfl,fun _=>⟨Tryd.t73,by kernel_rfl,rfl⟩,(fun h=>nomatch h)⟩
def ti74:TI:=⟨1,8,[.nilFunc],.other,none,[],none,false⟩
theorem ti74_ok:ti74.ok Tryd.prog 74:=⟨⟨Tryd.t74,.nilFunc,by kernel_rfl,rfl,rfl,rfl,rfl⟩,⟨_,Tryd.underlying74,⟨fun _ h=>(nomatch h),fun _ _ h=>(nomatch h),fun _ h=>(nomatch h)⟩⟩,rfl,fun _=>⟨Tryd.t74,by kernel_rfl,rfl⟩,(fun h=>nomatch h)⟩
def ti75:TI:=⟨1,8,[.nilFunc],.other,none,[],none,false⟩
theorem ti75_ok:ti75.ok Tryd.prog 75:=⟨⟨Tryd.t75,.nilFunc,by kernel_rfl,rfl,rfl,rfl,rfl⟩,⟨_,Tryd.underlying75,⟨fun _ h=>(nomatch h),fun _ _ h=>(nomatch h),fun _ h=>(nomatch h)⟩⟩,rfl,fun _=>⟨Tryd.t75,by kernel_rfl,rfl⟩,(fun h=>nomatch h)⟩
def ti76:TI:=⟨1,8,[.nilFunc],.other,none,[],none,false⟩
theorem ti76_ok:ti76.ok Tryd.prog 76:=⟨⟨Tryd.t76,.nilFunc,by kernel_rfl,rfl,rfl,rfl,rfl⟩,⟨_,Tryd.underlying76,⟨fun _ h=>(nomatch h),fun _ _ h=>(nomatch h),fun _ h=>(nomatch h)⟩⟩,rfl,fun _=>⟨Tryd.t76,by kernel_rfl,rfl⟩,(fun h=>nomatch h)⟩
def ti77:TI:=⟨1,24,[.slice none 0 0],.slice 42,none,[],none,false⟩
theorem ti77_ok:ti77.ok Tryd.prog 77:=⟨⟨Tryd.t77,.slice none 0 0,by kernel_rfl,rfl,rfl,rfl,rfl⟩,⟨_,Tryd.underlying77,rfl⟩,rfl,fun _=>⟨Tryd.t77,by kernel_rfl,rfl⟩,(fun h=>nomatch h)⟩
def ti78:TI:=⟨1,8,[.nilFunc],.other,none,[],none,false⟩
theorem ti78_ok:ti78.ok Tryd.prog 78:=⟨⟨Tryd.t78,.nilFunc,by kernel_rfl,rfl,rfl,rfl,rfl⟩,⟨_,Tryd.underlying78,⟨fun _ h=>(nomatch h),fun _ _ h=>(nomatch h),fun _ h=>(nomatch h)⟩⟩,rfl,fun _=>⟨Tryd.t78,by kernel_rfl,rfl⟩,(fun h=>nomatch h)⟩
def ti79:TI:=⟨1,8,[.nilFunc],.other,none,[],none,false⟩
theorem ti79_ok:ti79.ok Tryd.prog 79:=⟨⟨Tryd.t79,.nilFunc,by kernel_rfl,rfl,rfl,rfl,rfl⟩,⟨_,Tryd.underlying79,⟨fun _ h=>(nomatch h),fun _ _ h=>(nomatch h),fun _ h=>(nomatch h)⟩⟩,rfl,fun _=>⟨Tryd.t79,by kernel_rfl,rfl⟩,(fun h=>nomatch h)⟩
def ti80:TI:=⟨1,8,[.nilFunc],.other,none,[],none,false⟩
theorem ti80_ok:ti80.ok Tryd.prog 80:=⟨⟨Tryd.t80,.nilFunc,by kernel_rfl,rfl,rfl,rfl,rfl⟩,⟨_,Tryd.underlying80,⟨fun _ h=>(nomatch h),fun _ _ h=>(nomatch h),fun _ h=>(nomatch h)⟩⟩,rfl,fun _=>⟨Tryd.t80,by kernel_rfl,rfl⟩,(fun h=>nomatch h)⟩
def ti82:TI:=⟨1,8,[.nilFunc],.other,none,[],none,false⟩
theorem ti82_ok:ti82.ok Tryd.prog 82:=⟨⟨Tryd.t82,.nilFunc,by kernel_rfl,rfl,rfl,rfl,rfl⟩,⟨_,Tryd.underlying82,⟨fun _ h=>(nomatch h),fun _ _ h=>(nomatch h),fun _ h=>(nomatch h)⟩⟩,rfl,fun _=>⟨Tryd.t82,by kernel_rfl,rfl⟩,(fun h=>nomatch h)⟩
def ti83:TI:=⟨1,8,[.nilFunc],.other,none,[],none,false⟩
theorem ti83_ok:ti83.ok Tryd.prog 83:=⟨⟨Tryd.t83,.nilFunc,by kernel_rfl,rfl,rfl,rfl,rfl⟩,⟨_,Tryd.underlying83,⟨fun _ h=>(nomatch h),fun _ _ h=>(nomatch h),fun _ h=>(nomatch h)⟩⟩,rfl,fun _=>⟨Tryd.t83,by kernel_rfl,rfl⟩,(fun h=>nomatch h)⟩
def ti84:TI:=⟨1,8,[.nilFunc],.other,none,[],none,false⟩
theorem ti84_ok:ti84.ok Tryd.prog 84:=⟨⟨Tryd.t84,.nilFunc,by kernel_rfl,rfl,rfl,rfl,rfl⟩,⟨_,Tryd.underlying84,⟨fun _ h=>(nomatch h),fun _ _ h=>(nomatch h),fun _ h=>(nomatch h)⟩⟩,rfl,fun _=>⟨Tryd.t84,by kernel_rfl,rfl⟩,(fun h=>nomatch h)⟩
def ti85:TI:=⟨1,8,[.nilFunc],.other,none,[],none,false⟩
theorem ti85_ok:ti85.ok Tryd.prog 85:=⟨⟨Tryd.t85,.nilFunc,by kernel_rfl,rfl,rfl,rfl,rfl⟩,⟨_,Tryd.underlying85,⟨fun _ h=>(nomatch h),fun _ _ h=>(nomatch h),fun _ h=>(nomatch h)⟩⟩,rfl,fun _=>⟨Tryd.t85,by kernel_rfl,rfl⟩,(fun h=>nomatch h)⟩
def ti86:TI:=⟨1,8,[.nilFunc],.other,none,[],none,false⟩
theorem ti86_ok:ti86.ok Tryd.prog 86:=⟨⟨Tryd.t86,.nilFunc,by kernel_rfl,rfl,rfl,rfl,rfl⟩,⟨_,Tryd.underlying86,⟨fun _ h=>(nomatch h),fun _ _ h=>(nomatch h),fun _ h=>(nomatch h)⟩⟩,rfl,fun _=>⟨Tryd.t86,by kernel_rfl,rfl⟩,(fun h=>nomatch h)⟩
def ti87:TI:=⟨1,8,[.nilFunc],.other,none,[],none,false⟩
theorem ti87_ok:ti87.ok Tryd.prog 87:=⟨⟨Tryd.t87,.nilFunc,by kernel_rfl,rfl,rfl,rfl,rfl⟩,⟨_,Tryd.underlying87,⟨fun _ h=>(nomatch h),fun _ _ h=>(nomatch h),fun _ h=>(nomatch h)⟩⟩,rfl,fun _=>⟨Tryd.t87,by kernel_rfl,rfl⟩,(fun h=>nomatch h)⟩
def ti88:TI:=⟨1,8,[.nilFunc],.other,none,[],none,false⟩
theorem ti88_ok:ti88.ok Tryd.prog 88:=⟨⟨Tryd.t88,.nilFunc,by kernel_rfl,rfl,rfl,rfl,rfl⟩,⟨_,Tryd.underlying88,⟨fun _ h=>(nomatch h),fun _ _ h=>(nomatch h),fun _ h=>(nomatch h)⟩⟩,rfl,fun _=>⟨Tryd.t88,by kernel_rfl,rfl⟩,(fun h=>nomatch h)⟩
def ti89:TI:=⟨1,8,[.nilFunc],.other,none,[],none,false⟩
theorem ti89_ok:ti89.ok Tryd.prog 89:=⟨⟨Tryd.t89,.nilFunc,by kernel_rfl,rfl,rfl,rfl,rfl⟩,⟨_,Tryd.underlying89,⟨fun _ h=>(nomatch h),fun _ _ h=>(nomatch h),fun _ h=>(nomatch h)⟩⟩,rfl,fun _=>⟨Tryd.t89,by kernel_rfl,rfl⟩,(fun h=>nomatch h)⟩
def ti90:TI:=⟨1,8,[.nilFunc],.other,none,[],none,false⟩
theorem ti90_ok:ti90.ok Tryd.prog 90:=⟨⟨Tryd.t90,.nilFunc,by kernel_rfl,rfl,rfl,rfl,rfl⟩,⟨_,Tryd.underlying90,⟨fun _ h=>(nomatch h),fun _ _ h=>(nomatch h),fun _ h=>(nomatch h)⟩⟩,rfl,fun _=>⟨Tryd.t90,by kernel_rfl,rfl⟩,(fun h=>nomatch h)⟩
def ti91:TI:=⟨1,8,[.nilFunc],.other,none,[],none,false⟩
theorem ti91_ok:ti91.ok Tryd.prog 91:=⟨⟨Tryd.t91,.nilFunc,by kernel_rfl,rfl,rfl,rfl,rfl⟩,⟨_,Tryd.underlying91,⟨fun _ h=>(nomatch h),fun _ _ h=>(nomatch h),fun _ h=>(nomatch h)⟩⟩,rfl,fun _=>⟨Tryd.t91,by kernel_rfl,rfl⟩,(fun h=>nomatch h)⟩
def ti92:TI:=⟨1,8,[.nilFunc],.other,none,[],none,false⟩
theorem ti92_ok:ti92.ok Tryd.prog 92:=⟨⟨Tryd.t92,.nilFunc,by kernel_rfl,rfl,rfl,rfl,rfl⟩,⟨_,Tryd.underlying92,⟨fun _ h=>(nomatch h),fun _ _ h=>(nomatch h),fun _ h=>(nomatch h)⟩⟩,rfl,fun _=>⟨Tryd.t92,by kernel_rfl,rfl⟩,(fun h=>nomatch h)⟩
def ti93:TI:=⟨1,8,[.nilFunc],.other,none,[],none,false⟩
theorem ti93_ok:ti93.ok Tryd.prog 93:=⟨⟨Tryd.t93,.nilFunc,by kernel_rfl,rfl,rfl,rfl,rfl⟩,⟨_,Tryd.underlying93,⟨fun _ h=>(nomatch h),fun _ _ h=>(nomatch h),fun _ h=>(nomatch h)⟩⟩,rfl,fun _=>⟨Tryd.t93,by kernel_rfl,rfl⟩,(fun h=>nomatch h)⟩
def ti94:TI:=⟨1,8,[.nilFunc],.other,none,[],none,false⟩
theorem ti94_ok:ti94.ok Tryd.prog 94:=⟨⟨Tryd.t94,.nilFunc,by kernel_rfl,rfl,rfl,rfl,rfl⟩,⟨_,Tryd.underlying94,⟨fun _ h=>(nomatch h),fun _ _ h=>(nomatch h),fun _ h=>(nomatch h)⟩⟩,rfl,fun _=>⟨Tryd.t94,by kernel_rfl,rfl⟩,(fun h=>nomatch h)⟩
def ti95:TI:=⟨1,8,[.nilFunc],.other,none,[],none,false⟩
theorem ti95_ok:ti95.ok Tryd.prog 95:=⟨⟨Tryd.t95,.nilFunc,by kernel_rfl,rfl,rfl,rfl,rfl⟩,⟨_,Tryd.underlying95,⟨fun _ h=>(nomatch h),fun _ _ h=>(nomatch h),fun _ h=>(nomatch h)⟩⟩,rfl,fun _=>⟨Tryd.t95,by kernel_rfl,rfl⟩,(fun h=>nomatch h)⟩
def ti96:TI:=⟨1,8,[.nilFunc],.other,none,[],none,false⟩
theorem ti96_ok:ti96.ok Tryd.prog 96:=⟨⟨Tryd.t96,.nilFunc,by kernel_rfl,rfl,rfl,rfl,rfl⟩,⟨_,Tryd.underlying96,⟨fun _ h=>(nomatch h),fun _ _ h=>(nomatch h),fun _ h=>(nomatch h)⟩⟩,rfl,fun _=>⟨Tryd.t96,by kernel_rfl,rfl⟩,(fun h=>nomatch h)⟩
def ti97:TI:=⟨1,8,[.nilFunc],.other,none,[],none,false⟩
theorem ti97_ok:ti97.ok Tryd.prog 97:=⟨⟨Tryd.t97,.nilFunc,by kernel_rfl,rfl,rfl,rfl,rfl⟩,⟨_,Tryd.underlying97,⟨fun _ h=>(nomatch h),fun _ _ h=>(nomatch h),fun _ h=>(nomatch h)⟩⟩,rfl,fun _=>⟨Tryd.t97,by kernel_rfl,rfl⟩,(fun h=>nomatch h)⟩
def ti98:TI:=⟨1,24,[.slice none 0 0],.slice 3,some .ints,[],none,false⟩
theorem ti98_ok:ti98.ok Tryd.prog 98:=⟨⟨Tryd.t98,.slice none 0 0,by kernel_rfl,rfl,rfl,rfl,rfl⟩,⟨_,Tryd.underlying98,rfl⟩,rfl,fun _=>⟨Tryd.t98,by kernel_rfl,rfl⟩,(fun h=>nomatch h)⟩
def ti99:TI:=⟨1,8,[.nilFunc],.other,none,[],none,false⟩
theorem ti99_ok:ti99.ok Tryd.prog 99:=⟨⟨Tryd.t99,.nilFunc,by kernel_rfl,rfl,rfl,rfl,rfl⟩,⟨_,Tryd.underlying99,⟨fun _ h=>(nomatch h),fun _ _ h=>(nomatch h),fun _ h=>(nomatch h)⟩⟩,rfl,fun _=>⟨Tryd.t99,by kernel_rfl,rfl⟩,(fun h=>nomatch h)⟩
def ti100:TI:=⟨1,8,[.nilFunc],.other,none,[],none,false⟩
theorem ti100_ok:ti100.ok Tryd.prog 100:=⟨⟨Tryd.t100,.nilFunc,by kernel_rfl,rfl,rfl,rfl,rfl⟩,⟨_,Tryd.underlying100,⟨fun _ h=>(nomatch h),fun _ _ h=>(nomatch h),fun _ h=>(nomatch h)⟩⟩,rfl,fun _=>⟨Tryd.t100,by kernel_rfl,rfl⟩,(fun h=>nomatch h)⟩
def ti101:TI:=⟨1,8,[.nilFunc],.other,none,[],none,false⟩
theorem ti101_ok:ti101.ok Tryd.prog 101:=⟨⟨Tryd.t101,.nilFunc,by kernel_rfl,rfl,rfl,rfl,rfl⟩,⟨_,Tryd.underlying101,⟨fun _ h=>(nomatch h),fun _ _ h=>(nomatch h),fun _ h=>(nomatch h)⟩⟩,rfl,fun _=>⟨Tryd.t101,by kernel_rfl,rfl⟩,(fun h=>nomatch h)⟩
def ti102:TI:=⟨1,8,[.nilFunc],.other,none,[],none,false⟩
theorem ti102_ok:ti102.ok Tryd.prog 102:=⟨⟨Tryd.t102,.nilFunc,by kernel_rfl,rfl,rfl,rfl,rfl⟩,⟨_,Tryd.underlying102,⟨fun _ h=>(nomatch h),fun _ _ h=>(nomatch h),fun _ h=>(nomatch h)⟩⟩,rfl,fun _=>⟨Tryd.t102,by kernel_rfl,rfl⟩,(fun h=>nomatch h)⟩
def ti103:TI:=⟨1,8,[.int .i64 0],.int .i64,none,[],none,true⟩
theorem ti103_ok:ti103.ok Tryd.prog 103:=⟨⟨Tryd.t103,.int .i64 0,by kernel_rfl,rfl,rfl,rfl,rfl⟩,⟨_,Tryd.underlying103,rfl⟩,rfl,fun _=>⟨Tryd.t103,by kernel_rfl,rfl⟩,fun _=>⟨Tryd.t103,by kernel_rfl,rfl⟩⟩
def ti105:TI:=⟨1,8,[.nilFunc],.other,none,[],none,false⟩
theorem ti105_ok:ti105.ok Tryd.prog 105:=⟨⟨Tryd.t105,.nilFunc,by kernel_rfl,rfl,rfl,rfl,rfl⟩,⟨_,Tryd.underlying105,⟨fun _ h=>(nomatch h),fun _ _ h=>(nomatch h),fun _ h=>(nomatch h)⟩⟩,rfl,fun _=>⟨Tryd.t105,by kernel_rfl,rfl⟩,(fun h=>nomatch h)⟩
def ti106:TI:=⟨1,8,[.nilFunc],.other,none,[],none,false⟩
theorem ti106_ok:ti106.ok Tryd.prog 106:=⟨⟨Tryd.t106,.nilFunc,by kernel_rfl,rfl,rfl,rfl,rfl⟩,⟨_,Tryd.underlying106,⟨fun _ h=>(nomatch h),fun _ _ h=>(nomatch h),fun _ h=>(nomatch h)⟩⟩,rfl,fun _=>⟨Tryd.t106,by kernel_rfl,rfl⟩,(fun h=>nomatch h)⟩
def ti107:TI:=⟨1,8,[.nilFunc],.other,none,[],none,false⟩
theorem ti107_ok:ti107.ok Tryd.prog 107:=⟨⟨Tryd.t107,.nilFunc,by kernel_rfl,rfl,rfl,rfl,rfl⟩,⟨_,Tryd.underlying107,⟨fun _ h=>(nomatch h),fun _ _ h=>(nomatch h),fun _ h=>(nomatch h)⟩⟩,rfl,fun _=>⟨Tryd.t107,by kernel_rfl,rfl⟩,(fun h=>nomatch h)⟩
def ti108:TI:=⟨1,8,[.nilFunc],.other,none,[],none,false⟩
theorem ti108_ok:ti108.ok Tryd.prog 108:=⟨⟨Tryd.t108,.nilFunc,by kernel_rfl,rfl,rfl,rfl,rfl⟩,⟨_,Tryd.underlying108,⟨fun _ h=>(nomatch h),fun _ _ h=>(nomatch h),fun _ h=>(nomatch h)⟩⟩,rfl,fun _=>⟨Tryd.t108,by kernel_rfl,rfl⟩,(fun h=>nomatch h)⟩
def ti110:TI:=⟨1,8,[.nilFunc],.other,none,[],none,false⟩
theorem ti110_ok:ti110.ok Tryd.prog 110:=⟨⟨Tryd.t110,.nilFunc,by kernel_rfl,rfl,rfl,rfl,rfl⟩,⟨_,Tryd.underlying110,⟨fun _ h=>(nomatch h),fun _ _ h=>(nomatch h),fun _ h=>(nomatch h)⟩⟩,rfl,fun _=>⟨Tryd.t110,by kernel_rfl,rfl⟩,(fun h=>nomatch h)⟩
def ti111:TI:=⟨1,8,[.nilFunc],.other,none,[],none,false⟩
theorem ti111_ok:ti111.ok Tryd.prog 111:=⟨⟨Tryd.t111,.nilFunc,by kernel_rfl,rfl,rfl,rfl,rfl⟩,⟨_,Tryd.underlying111,⟨fun _ h=>(nomatch h),fun _ _ h=>(nomatch h),fun _ h=>(nomatch h)⟩⟩,rfl,fun _=>⟨Tryd.t111,by kernel_rfl,rfl⟩,(fun h=>nomatch h)⟩
def ti112:TI:=⟨1,4,[.int .u32 0],.int .u32,some .u32,[],none,false⟩
theorem ti112_ok:ti112.ok Tryd.prog 112:=⟨⟨Tryd.t112,.int .u32 0,by kernel_rfl,rfl,rfl,rfl,rfl⟩,⟨_,Tryd.underlying112,rfl⟩,rfl,fun _=>⟨Tryd.t112,by kernel_rfl,rfl⟩,(fun h=>nomatch h)⟩
def ti113:TI:=⟨1,8,[.nilFunc],.other,none,[],none,false⟩
theorem ti113_ok:ti113.ok Tryd.prog 113:=⟨⟨Tryd.t113,.nilFunc,by kernel_rfl,rfl,rfl,rfl,rfl⟩,⟨_,Tryd.underlying113,⟨fun _ h=>(nomatch h),fun _ _ h=>(nomatch h),fun _ h=>(nomatch h)⟩⟩,rfl,fun _=>⟨Tryd.t113,by kernel_rfl,rfl⟩,(fun h=>nomatch h)⟩
def ti114:TI:=⟨1,8,[.int .u64 0],.int .u64,none,[],none,true⟩
theorem ti114_ok:ti114.ok Tryd.prog 114:=⟨⟨Tryd.t114,.int .u64 0,by kernel_rfl,rfl,rfl,rfl,rfl⟩,⟨_,Tryd.underlying114,rfl⟩,rfl,fun _=>⟨Tryd.t114,by kernel_rfl,rfl⟩,fun _=>⟨Tryd.t114,by kernel_rfl,rfl⟩⟩
def ti115:TI:=⟨1,8,[.nilFunc],.other,none,[],none,false⟩
theorem ti115_ok:ti115.ok Tryd.prog 115:=⟨⟨Tryd.t115,.nilFunc,by kernel_rfl,rfl,rfl,rfl,rfl⟩,⟨_,Tryd.underlying115,⟨fun _ h=>(nomatch h),fun _ _ h=>(nomatch h),fun _ h=>(nomatch h)⟩⟩,rfl,fun _=>⟨Tryd.t115,by kernel_rfl,rfl⟩,(fun h=>nomatch h)⟩
def ti116:TI:=⟨1,8,[.nilFunc],.other,none,[],none,false⟩
theorem ti116_ok:ti116.ok Tryd.prog 116:=⟨⟨Tryd.t116,.nilFunc,by kernel_rfl,rfl,rfl,rfl,rfl⟩,⟨_,Tryd.underlying116,⟨fun _ h=>(nomatch h),fun _ _ h=>(nomatch h),fun _ h=>(nomatch h)⟩⟩,rfl,fun _=>⟨Tryd.t116,by kernel_rfl,rfl⟩,(fun h=>nomatch h)⟩
def ti117:TI:=⟨1,8,[.nilFunc],.other,none,[],none,false⟩
theorem ti117_ok:ti117.ok Tryd.prog 117:=⟨⟨Tryd.t117,.nilFunc,by kernel_rfl,rfl,rfl,rfl,rfl⟩,⟨_,Tryd.underlying117,⟨fun _ h=>(nomatch h),fun _ _ h=>(nomatch h),fun _ h=>(nomatch h)⟩⟩,rfl,fun _=>⟨Tryd.t117,by kernel_rfl,rfl⟩,(fun h=>nomatch h)⟩
def ti118:TI:=⟨1,8,[.nilFunc],.other,none,[],none,false⟩
theorem ti118_ok:ti118.ok Tryd.prog 118:=⟨⟨Tryd.t118,.nilFunc,by kernel_rfl,rfl,rfl,rfl,rfl⟩,⟨_,Tryd.underlying118,⟨fun _ h=>(nomatch h),fun _ _ h=>(nomatch h),fun _ h=>(nomatch h)⟩⟩,rfl,fun _=>⟨Tryd.t118,by kernel_rfl,rfl⟩,(fun h=>nomatch h)⟩
def ti119:TI:=⟨256,256,[.int .u8 0,.int .u8 0,.int .u8 0,.int .u8 0,.int .u8 0,.int .u8 0,.int .u8 0,.int .u8 0,.int .u8 0,.int .u8 0,.int .u8 0,.int .u8 0,.int .u8 0,.int .u8 0,.int .u8 0,.int .u8 0,.int .u8 0,.int .u8 0,.int .u8 0,.int .u8 0,.int .u8 0,.int .u8 0,.int .u8 0,.int .u8 0,.int .u8 0,.int .u8 0,.int .u8 0,.int .u8 0,.int .u8 0,.int .u8 0,.int .u8 0,.int .u8 0,.int .u8 0,.int .u8 0,.int .u8 0,.int .u8 0,.int .u8 0,.int .u8 0,.int .u8 0,.int .u8 0,.int .u8 0,.int .u8 0,.int .u8 0,.int .u8 0,.int .u8 0,.int .u8 0,.int .u8 0,.int .u8 0,.int .u8 0,.int .u8 0,.int .u8 0,.int .u8 0,.int .u8 0,.int .u8 0,.int .u8 0,.int .u8 0,.int .u8 0,.int .u8 0,.int .u8 0,.int .u8 0,.int .u8 0,.int .u8 0,.int .u8 0,.int .u8 0,.int .u8 0,.int .u8 0,.int .u8 0,.int .u8 0,.int .u8 0,.int .u8 0,.int .u8 0,.int .u8 0,.int .u8 0,.int .u8 0,.int .u8 0,.int .u8 0,.int .u8 0,.int .u8 0,.int .u8 0,.int .u8 0,.int .u8 0,.int .u8 0,.int .u8 0,.int .u8 0,.int .u8 0,.int .u8 0,.int .u8 0,.int .u8 0,.int .u8 0,.int .u8 0,.int .u8 0,.int .u8 0,.int .u8 0,.int .u8 0,.int .u8 0,.int .u8 0,.int .u8 0,.int .u8 0,.int .u8 0,.int .u8 0,.int .u8 0,.int .u8 0,.int .u8 0,.int .u8 0,.int .u8 0,.int .u8 0,.int .u8 0,.int .u8 0,.int .u8 0,.int .u8 0,.int .u8 0,.int .u8 0,.int .u8 0,.int .u8 0,.int .u8 0,.int .u8 0,.int .u8 0,.int .u8 0,.int .u8 0,.int .u8 0,.int .u8 0,.int .u8 0,.int .u8 0,.int .u8 0,.int .u8 0,.int .u8 0,.int .u8 0,.int .u8 0,.int .u8 0,.int .u8 0,.int .u8 0,.int .u8 0,.int .u8 0,.int .u8 0,.int .u8 0,.int .u8 0,.int .u8 0,.int .u8 0,.int .u8 0,.int .u8 0,.int .u8 0,.int .u8 0,.int .u8 0,.int .u8 0,.int .u8 0,.int .u8 0,.int .u8 0,.int .u8 0,.int .u8 0,.int .u8 0,.int .u8 0,.int .u8 0,.int .u8 0,.int .u8 0,.int .u8 0,.int .u8 0,.int .u8 0,.int .u8 0,.int .u8 0,.int .u8 0,.int .u8 0,.int .u8 0,.int .u8 0,.int .u8 0,.int .u8 0,.int .u8 0,.int .u8 0,.int .u8 0,.int .u8 0,.int .u8 0,.int .u8 0,.int .u8 0,.int .u8 0,.int .u8 0,.int .u8 0,.int .u8 0,.int .u8 0,.int .u8 0,.int .u8 0,.int .u8 0,.int .u8 0,.int .u8 0,.int .u8 0,.int .u8 0,.int .u8 0,.int .u8 0,.int .u8 0,.int .u8 0,.int .u8 0,.int .u8 0,.int .u8 0,.int .u8 0,.int .u8 0,.int .u8 0,.int .u8 0,.int .u8 0,.int .u8 0,.int .u8 0,.int .u8 0,.int .u8 0,.int .u8 0,.int .u8 0,.int .u8 0,.int .u8 0,.int .u8 0,.int .u8 0,.int .u8 0,.int .u8 0,.int .u8 0,.int .u8 0,.int .u8 0,.int .u8 0,.int .u8 0,.int .u8 0,.int .u8 0,.int .u8 0,.int .u8 0,.int .u8 0,.int .u8 0,.int .u8 0,.int .u8 0,.int .u8 0,.int .u8 0,.int .u8 0,.int .u8 0,.int .u8 0,.int .u8 0,.int .u8 0,.int .u8 0,.int .u8 0,.int .u8 0,.int .u8 0,.int .u8 0,.int .u8 0,.int .u8 0,.int .u8 0,.int .u8 0,.int .u8 0,.int .u8 0,.int .u8 0,.int .u8 0,.int .u8 0,.int .u8 0,.int .u8 0,.int .u8 0,.int .u8 0,.int .u8 0,.int .u8 0,.int .u8 0,.int .u8 0,.int .u8 0,.int .u8 0,.int .u8 0,.int .u8 0,.int .u8 0,.int .u8 0],.arr 256 5,none,[],none,false⟩
theorem ti119_ok:ti119.ok Tryd.prog 119:=⟨⟨Tryd.t119,.agg #[.int .u8 0,.int .u8 0,.int .u8 0,.int .u8 0,.int .u8 0,.int .u8 0,.int .u8 0,.int .u8 0,.int .u8 0,.int .u8 0,.int .u8 0,.int .u8 0,.int .u8 0,.int .u8 0,.int .u8 0,.int .u8 0,.int .u8 0,.int .u8 0,.int .u8 0,.int .u8 0,.int .u8 0,.int .u8 0,.int .u8 0,.int .u8 0,.int .u8 0,.int .u8 0,.int .u8 0,.int .u8 0,.int .u8 0,.int .u8 0,.int .u8 0,.int .u8 0,.int .u8 0,.int .u8 0,.int .u8 0,.int .u8 0,.int .u8 0,.int .u8 0,.int .u8 0,.int .u8 0,.int .u8 0,.int .u8 0,.int .u8 0,.int .u8 0,.int .u8 0,.int .u8 0,.int .u8 0,.int .u8 0,.int .u8 0,.int .u8 0,.int .u8 0,.int .u8 0,.int .u8 0,.int .u8 0,.int .u8 0,.int .u8 0,.int .u8 0,.int .u8 0,.int .u8 0,.int .u8 0,.int .u8 0,.int .u8 0,.int .u8 0,.int .u8 0,.int .u8 0,.int .u8 0,.int .u8 0,.int .u8 0,.int .u8 0,.int .u8 0,.int .u8 0,.int .u8 0,.int .u8 0,.int .u8 0,.int .u8 0,.int .u8 0,.int .u8 0,.int .u8 0,.int .u8 0,.int .u8 0,.int .u8 0,.int .u8 0,.int .u8 0,.int .u8 0,.int .u8 0,.int .u8 0,.int .u8 0,.int .u8 0,.int .u8 0,.int .u8 0,.int .u8 0,.int .u8 0,.int .u8 0,.int .u8 0,.int .u8 0,.int .u8 0,.int .u8 0,.int .u8 0,.int .u8 0,.int .u8 0,.int .u8 0,.int .u8 0,.int .u8 0,.int .u8 0,.int .u8 0,.int .u8 0,.int .u8 0,.int .u8 0,.int .u8 0,.int .u8 0,.int .u8 0,.int .u8 0,.int .u8 0,.int .u8 0,.int .u8 0,.int .u8 0,.int .u8 0,.int .u8 0,.int .u8 0,.int .u8 0,.int .u8 0,.int .u8 0,.int .u8 0,.int .u8 0,.int .u8 0,.int .u8 0,.int .u8 0,.int .u8 0,.int .u8 0,.int .u8 0,.int .u8 0,.int .u8 0,.int .u8 0,.int .u8 0,.int .u8 0,.int .u8 0,.int .u8 0,.int .u8 0,.int .u8 0,.int .u8 0,.int .u8 0,.int .u8 0,.int .u8 0,.int .u8 0,.int .u8 0,.int .u8 0,.int .u8 0,.int .u8 0,.int .u8 0,.int .u8 0,.int .u8 0,.int .u8 0,.int .u8 0,.int .u8 0,.int .u8 0,.int .u8 0,.int .u8 0,.int .u8 0,.int .u8 0,.int .u8 0,.int .u8 0,.int .u8 0,.int .u8 0,.int .u8 0,.int .u8 0,.int .u8 0,.int .u8 0,.int .u8 0,.int .u8 0,.int .u8 0,.int .u8 0,.int .u8 0,.int .u8 0,.int .u8 0,.int .u8 0,.int .u8 0,.int .u8 0,.int .u8 0,.int .u8 0,.int .u8 0,.int .u8 0,.int .u8 0,.int .u8 0,.int .u8 0,.int .u8 0,.int .u8 0,.int .u8 0,.int .u8 0,.int .u8 0,.int .u8 0,.int .u8 0,.int .u8 0,.int .u8 0,.int .u8 0,.int .u8 0,.int .u8 0,.int .u8 0,.int .u8 0,.int .u8 0,.int .u8 0,.int .u8 0,.int .u8 0,.int .u8 0,.int .u8 0,.int .u8 0,.int .u8 0,.int .u8 0,.int .u8 0,.int .u8 0,.int .u8 0,.int .u8 0,.int .u8 0,.int .u8 0,.int .u8 0,.int .u8 0,.int .u8 0,.int .u8 0,.int .u8 0,.int .u8 0,.int .u8 0,.int .u8 0,.int .u8 0,.int .u8 0,.int .u8 0,.int .u8 0,.int .u8 0,.int .u8 0,.int .u8 0,.int .u8 0,.int .u8 0,.int .u8 0,.int .u8 0,.int .u8 0,.int .u8 0,.int .u8 0,.int .u8 0,.int .u8 0,.int .u8 0,.int .u8 0,.int .u8 0,.int .u8 0,.int .u8 0,.int .u8 0,.int .u8 0,.int .u8 0,.int .u8 0,.int .u8 0,.int .u8 0,.int .u8 0,.int .u8 0,.int .u8 0,.int .u8 0,.int .u8 0,.int .u8 0,.int .u8 0,.int .u8 0],by kernel_rfl,rfl,rfl,rfl,rfl⟩,⟨_,Tryd.underlying119,rfl⟩,rfl,(fun h=>nomatch h),(fun h=>nomatch h)⟩
def ti120:TI:=⟨2,2,[.int .u8 0,.int .u8 0],.struct [(0,1),(1,1)],none,[],none,false⟩
theorem ti120_ok:ti120.ok Tryd.prog 120:=⟨⟨Tryd.t120,.agg #[.int .u8 0,.int .u8 0],by kernel_rfl,rfl,rfl,rfl,rfl⟩,⟨_,Tryd.underlying120,⟨_,rfl,by kernel_rfl,by kernel_rfl⟩⟩,rfl,(fun h=>nomatch h),(fun h=>nomatch h)⟩
def ti121:TI:=⟨2,2,[.int .u8 0,.int .u8 0],.struct [(0,1),(1,1)],none,[],none,false⟩
theorem ti121_ok:ti121.ok Tryd.prog 121:=⟨⟨Tryd.t121,.agg #[.int .u8 0,.int .u8 0],by kernel_rfl,rfl,rfl,rfl,rfl⟩,⟨_,Tryd.underlying121,⟨_,rfl,by kernel_rfl,by kernel_rfl⟩⟩,rfl,(fun h=>nomatch h),(fun h=>nomatch h)⟩
def ti122:TI:=⟨32,32,[.int .u8 0,.int .u8 0,.int .u8 0,.int .u8 0,.int .u8 0,.int .u8 0,.int .u8 0,.int .u8 0,.int .u8 0,.int .u8 0,.int .u8 0,.int .u8 0,.int .u8 0,.int .u8 0,.int .u8 0,.int .u8 0,.int .u8 0,.int .u8 0,.int .u8 0,.int .u8 0,.int .u8 0,.int .u8 0,.int .u8 0,.int .u8 0,.int .u8 0,.int .u8 0,.int .u8 0,.int .u8 0,.int .u8 0,.int .u8 0,.int .u8 0,.int .u8 0],.arr 16 121,none,[],none,false⟩
theorem ti122_ok:ti122.ok Tryd.prog 122:=⟨⟨Tryd.t122,.agg #[.int .u8 0,.int .u8 0,.int .u8 0,.int .u8 0,.int .u8 0,.int .u8 0,.int .u8 0,.int .u8 0,.int .u8 0,.int .u8 0,.int .u8 0,.int .u8 0,.int .u8 0,.int .u8 0,.int .u8 0,.int .u8 0,.int .u8 0,.int .u8 0,.int .u8 0,.int .u8 0,.int .u8 0,.int .u8 0,.int .u8 0,.int .u8 0,.int .u8 0,.int .u8 0,.int .u8 0,.int .u8 0,.int .u8 0,.int .u8 0,.int .u8 0,.int .u8 0],by kernel_rfl,rfl,rfl,rfl,rfl⟩,⟨_,Tryd.underlying122,rfl⟩,rfl,(fun h=>nomatch h),(fun h=>nomatch h)⟩
def ti123:TI:=⟨1,8,[.pointer none],.other,none,[],none,false⟩
theorem ti123_ok:ti123.ok Tryd.prog 123:=⟨⟨Tryd.t123,.pointer none,by kernel_rfl,rfl,rfl,rfl,rfl⟩,⟨_,Tryd.underlying123,⟨fun _ h=>(nomatch h),fun _ _ h=>(nomatch h),fun _ h=>(nomatch h)⟩⟩,rfl,fun _=>⟨Tryd.t123,by kernel_rfl,rfl⟩,(fun h=>nomatch h)⟩
def ti125:TI:=⟨1,8,[.nilFunc],.other,none,[],none,false⟩
theorem ti125_ok:ti125.ok Tryd.prog 125:=⟨⟨Tryd.t125,.nilFunc,by kernel_rfl,rfl,rfl,rfl,rfl⟩,⟨_,Tryd.underlying125,⟨fun _ h=>(nomatch h),fun _ _ h=>(nomatch h),fun _ h=>(nomatch h)⟩⟩,rfl,fun _=>⟨Tryd.t125,by kernel_rfl,rfl⟩,(fun h=>nomatch h)⟩
def ti126:TI:=⟨1,8,[.nilFunc],.other,none,[],none,false⟩
theorem ti126_ok:ti126.ok Tryd.prog 126:=⟨⟨Tryd.t126,.nilFunc,by kernel_rfl,rfl,rfl,rfl,rfl⟩,⟨_,Tryd.underlying126,⟨fun _ h=>(nomatch h),fun _ _ h=>(nomatch h),fun _ h=>(nomatch h)⟩⟩,rfl,fun _=>⟨Tryd.t126,by kernel_rfl,rfl⟩,(fun h=>nomatch h)⟩
def ti127:TI:=⟨4,40,[.pointer none,.pointer none,.pointer none,.string ⟨#[]⟩],.struct [(0,1),(1,1),(2,1),(3,1)],none,[],none,false⟩
theorem ti127_ok:ti127.ok Tryd.prog 127:=⟨⟨Tryd.t127,.agg #[.pointer none,.pointer none,.pointer none,.string ⟨#[]⟩],by kernel_rfl,rfl,rfl,rfl,rfl⟩,⟨_,Tryd.underlying127,⟨_,rfl,by kernel_rfl,by kernel_rfl⟩⟩,rfl,(fun h=>nomatch h),(fun h=>nomatch h)⟩
def ti128:TI:=⟨4,40,[.pointer none,.pointer none,.pointer none,.string ⟨#[]⟩],.struct [(0,1),(1,1),(2,1),(3,1)],none,[],none,false⟩
theorem ti128_ok:ti128.ok Tryd.prog 128:=⟨⟨Tryd.t128,.agg #[.pointer none,.pointer none,.pointer none,.string ⟨#[]⟩],by kernel_rfl,rfl,rfl,rfl,rfl⟩,⟨_,Tryd.underlying128,⟨_,rfl,by kernel_rfl,by kernel_rfl⟩⟩,rfl,(fun h=>nomatch h),(fun h=>nomatch h)⟩
def ti132:TI:=⟨1,8,[.nilFunc],.other,none,[],none,false⟩
theorem ti132_ok:ti132.ok Tryd.prog 132:=⟨⟨Tryd.t132,.nilFunc,by kernel_rfl,rfl,rfl,rfl,rfl⟩,⟨_,Tryd.underlying132,⟨fun _ h=>(nomatch h),fun _ _ h=>(nomatch h),fun _ h=>(nomatch h)⟩⟩,rfl,fun _=>⟨Tryd.t132,by kernel_rfl,rfl⟩,(fun h=>nomatch h)⟩
def ti133:TI:=⟨1,1,[.int .u8 0],.int .u8,none,[],none,true⟩
theorem ti133_ok:ti133.ok Tryd.prog 133:=⟨⟨Tryd.t133,.int .u8 0,by kernel_rfl,rfl,rfl,rfl,rfl⟩,⟨_,Tryd.underlying133,rfl⟩,rfl,fun _=>⟨Tryd.t133,by kernel_rfl,rfl⟩,fun _=>⟨Tryd.t133,by kernel_rfl,rfl⟩⟩
def ti134:TI:=⟨1,1,[.int .u8 0],.int .u8,none,[],none,true⟩
theorem ti134_ok:ti134.ok Tryd.prog 134:=⟨⟨Tryd.t134,.int .u8 0,by kernel_rfl,rfl,rfl,rfl,rfl⟩,⟨_,Tryd.underlying134,rfl⟩,rfl,fun _=>⟨Tryd.t134,by kernel_rfl,rfl⟩,fun _=>⟨Tryd.t134,by kernel_rfl,rfl⟩⟩
def ti135:TI:=⟨1,8,[.nilFunc],.other,none,[],none,false⟩
theorem ti135_ok:ti135.ok Tryd.prog 135:=⟨⟨Tryd.t135,.nilFunc,by kernel_rfl,rfl,rfl,rfl,rfl⟩,⟨_,Tryd.underlying135,⟨fun _ h=>(nomatch h),fun _ _ h=>(nomatch h),fun _ h=>(nomatch h)⟩⟩,rfl,fun _=>⟨Tryd.t135,by kernel_rfl,rfl⟩,(fun h=>nomatch h)⟩
def ti136:TI:=⟨1,8,[.pointer none],.other,none,[],none,false⟩
theorem ti136_ok:ti136.ok Tryd.prog 136:=⟨⟨Tryd.t136,.pointer none,by kernel_rfl,rfl,rfl,rfl,rfl⟩,⟨_,Tryd.underlying136,⟨fun _ h=>(nomatch h),fun _ _ h=>(nomatch h),fun _ h=>(nomatch h)⟩⟩,rfl,fun _=>⟨Tryd.t136,by kernel_rfl,rfl⟩,(fun h=>nomatch h)⟩
def ti137:TI:=⟨1,4,[.int .i32 0],.int .i32,none,[],none,true⟩
theorem ti137_ok:ti137.ok Tryd.prog 137:=⟨⟨Tryd.t137,.int .i32 0,by kernel_rfl,rfl,rfl,rfl,rfl⟩,⟨_,Tryd.underlying137,rfl⟩,rfl,fun _=>⟨Tryd.t137,by kernel_rfl,rfl⟩,fun _=>⟨Tryd.t137,by kernel_rfl,rfl⟩⟩
def ti138:TI:=⟨1,4,[.int .i32 0],.int .i32,none,[],none,true⟩
theorem ti138_ok:ti138.ok Tryd.prog 138:=⟨⟨Tryd.t138,.int .i32 0,by kernel_rfl,rfl,rfl,rfl,rfl⟩,⟨_,Tryd.underlying138,rfl⟩,rfl,fun _=>⟨Tryd.t138,by kernel_rfl,rfl⟩,fun _=>⟨Tryd.t138,by kernel_rfl,rfl⟩⟩
def ti139:TI:=⟨11,48,[.int .u64 0,.int .u64 0,.int .u32 0,.int .u8 0,.int .u8 0,.int .u8 0,.int .u8 0,.nilFunc,.pointer none,.int .i32 0,.int .i32 0],.struct [(0,1),(1,1),(2,1),(3,1),(4,1),(5,1),(6,1),(7,1),(8,1),(9,1),(10,1)],none,[],none,false⟩
theorem ti139_ok:ti139.ok Tryd.prog 139:=⟨⟨Tryd.t139,.agg #[.int .u64 0,.int .u64 0,.int .u32 0,.int .u8 0,.int .u8 0,.int .u8 0,.int .u8 0,.nilFunc,.pointer none,.int .i32 0,.int .i32 0],by kernel_rfl,rfl,rfl,rfl,rfl⟩,⟨_,Tryd.underlying139,⟨_,rfl,by kernel_rfl,by kernel_rfl⟩⟩,rfl,(fun h=>nomatch h),(fun h=>nomatch h)⟩
def ti140:TI:=⟨11,48,[.int .u64 0,.int .u64 0,.int .u32 0,.int .u8 0,.int .u8 0,.int .u8 0,.int .u8 0,.nilFunc,.pointer none,.int .i32 0,.int .i32 0],.struct [(0,1),(1,1),(2,1),(3,1),(4,1),(5,1),(6,1),(7,1),(8,1),(9,1),(10,1)],none,[],none,false⟩
theorem ti140_ok:ti140.ok Tryd.prog 140:=⟨⟨Tryd.t140,.agg #[.int .u64 0,.int .u64 0,.int .u32 0,.int .u8 0,.int .u8 0,.int .u8 0,.int .u8 0,.nilFunc,.pointer none,.int .i32 0,.int .i32 0],by kernel_rfl,rfl,rfl,rfl,rfl⟩,⟨_,Tryd.underlying140,⟨_,rfl,by kernel_rfl,by kernel_rfl⟩⟩,rfl,(fun h=>nomatch h),(fun h=>nomatch h)⟩
def Γ:Ctx:=[(1,ti1),(2,ti2),(3,ti3),(4,ti4),(5,ti5),(6,ti6),(7,ti7),(8,ti8),(9,ti9),(10,ti10),(11,ti11),(12,ti12),(13,ti13),(14,ti14),(15,ti15),(16,ti16),(17,ti17),(18,ti18),(19,ti19),(20,ti20),(21,ti21),(22,ti22),(23,ti23),(24,ti24),(25,ti25),(26,ti26),(27,ti27),(28,ti28),(30,ti30),(31,ti31),(32,ti32),(33,ti33),(34,ti34),(36,ti36),(37,ti37),(38,ti38),(39,ti39),(40,ti40),(41,ti41),(42,ti42),(43,ti43),(44,ti44),(45,ti45),(46,ti46),(47,ti47),(48,ti48),(49,ti49),(50,ti50),(51,ti51),(52,ti52),(53,ti53),(54,ti54),(55,ti55),(56,ti56),(57,ti57),(58,ti58),(59,ti59),(60,ti60),(61,ti61),(62,ti62),(63,ti63),(64,ti64),(65,ti65),(66,ti66),(67,ti67),(69,ti69),(70,ti70),(71,ti71),(72,ti72),(73,ti73),(74,ti74),(75,ti75),(76,ti76),(77,ti77),(78,ti78),(79,ti79),(80,ti80),(82,ti82),(83,ti83),(84,ti84),(85,ti85),(86,ti86),(87,ti87),(88,ti88),(89,ti89),(90,ti90),(91,ti91),(92,ti92),(93,ti93),(94,ti94),(95,ti95),(96,ti96),(97,ti97),(98,ti98),(99,ti99),(100,ti100),(101,ti101),(102,ti102),(103,ti103),(105,ti105),(106,ti106),(107,ti107),(108,ti108),(110,ti110),(111,ti111),(112,ti112),(113,ti113),(114,ti114),(115,ti115),(116,ti116),(117,ti117),(118,ti118),(119,ti119),(120,ti120),(121,ti121),(122,ti122),(123,ti123),(125,ti125),(126,ti126),(127,ti127),(128,ti128),(132,ti132),(133,ti133),(134,ti134),(135,ti135),(136,ti136),(137,ti137),(138,ti138),(139,ti139),(140,ti140)]
theorem Γ_ok:Γ.ok Tryd.prog:=by
  unfold Ctx.ok Γ
  simp only [List.forall_mem_cons]
  exact ⟨ti1_ok,ti2_ok,ti3_ok,ti4_ok,ti5_ok,ti6_ok,ti7_ok,ti8_ok,ti9_ok,ti10_ok,ti11_ok,ti12_ok,ti13_ok,ti14_ok,ti15_ok,ti16_ok,ti17_ok,ti18_ok,ti19_ok,ti20_ok,ti21_ok,ti22_ok,ti23_ok,ti24_ok,ti25_ok,ti26_ok,ti27_ok,ti28_ok,ti30_ok,ti31_ok,ti32_ok,ti33_ok,ti34_ok,ti36_ok,ti37_ok,ti38_ok,ti39_ok,ti40_ok,ti41_ok,ti42_ok,ti43_ok,ti44_ok,ti45_ok,ti46_ok,ti47_ok,ti48_ok,ti49_ok,ti50_ok,ti51_ok,ti52_ok,ti53_ok,ti54_ok,ti55_ok,ti56_ok,ti57_ok,ti58_ok,ti59_ok,ti60_ok,ti61_ok,ti62_ok,ti63_ok,ti64_ok,ti65_ok,ti66_ok,ti67_ok,ti69_ok,ti70_ok,ti71_ok,ti72_ok,ti73_ok,ti74_ok,ti75_ok,ti76_ok,ti77_ok,ti78_ok,ti79_ok,ti80_ok,ti82_ok,ti83_ok,ti84_ok,ti85_ok,ti86_ok,ti87_ok,ti88_ok,ti89_ok,ti90_ok,ti91_ok,ti92_ok,ti93_ok,ti94_ok,ti95_ok,ti96_ok,ti97_ok,ti98_ok,ti99_ok,ti100_ok,ti101_ok,ti102_ok,ti103_ok,ti105_ok,ti106_ok,ti107_ok,ti108_ok,ti110_ok,ti111_ok,ti112_ok,ti113_ok,ti114_ok,ti115_ok,ti116_ok,ti117_ok,ti118_ok,ti119_ok,ti120_ok,ti121_ok,ti122_ok,ti123_ok,ti125_ok,ti126_ok,ti127_ok,ti128_ok,ti132_ok,ti133_ok,ti134_ok,ti135_ok,ti136_ok,ti137_ok,ti138_ok,ti139_ok,ti140_ok,fun _ h=>nomatch h⟩
theorem Γ_one:∀ p ∈ Γ,(∀ v ∈ p.2.zero,v.oneCell' = true)∧p.2.zero.length = p.2.cells:=by
  unfold Γ
  simp only [List.forall_mem_cons]
  exact ⟨by simp [ti1,Value.oneCell'],by simp [ti2,Value.oneCell'],by simp [ti3,Value.oneCell'],by simp [ti4,Value.oneCell'],by simp [ti5,Value.oneCell'],by simp [ti6,Value.oneCell'],by simp [ti7,Value.oneCell'],by simp [ti8,Value.oneCell'],by simp [ti9,Value.oneCell'],by simp [ti10,Value.oneCell'],by simp [ti11,Value.oneCell'],by simp [ti12,Value.oneCell'],by simp [ti13,Value.oneCell'],by simp [ti14,Value.oneCell'],by simp [ti15,Value.oneCell'],by simp [ti16,Value.oneCell'],by simp [ti17,Value.oneCell'],by simp [ti18,Value.oneCell'],by simp [ti19,Value.oneCell'],by simp [ti20,Value.oneCell'],by simp [ti21,Value.oneCell'],by simp [ti22,Value.oneCell'],by simp [ti23,Value.oneCell'],by simp [ti24,Value.oneCell'],by simp [ti25,Value.oneCell'],by simp [ti26,Value.oneCell'],by simp [ti27,Value.oneCell'],by simp [ti28,Value.oneCell'],by simp [ti30,Value.oneCell'],by simp [ti31,Value.oneCell'],by simp [ti32,Value.oneCell'],by simp [ti33,Value.oneCell'],by simp [ti34,Value.oneCell'],by simp [ti36,Value.oneCell'],by simp [ti37,Value.oneCell'],by simp [ti38,Value.oneCell'],by simp [ti39,Value.oneCell'],by simp [ti40,Value.oneCell'],by simp [ti41,Value.oneCell'],by simp [ti42,Value.oneCell'],by simp [ti43,Value.oneCell'],by simp [ti44,Value.oneCell'],by simp [ti45,Value.oneCell'],by simp [ti46,Value.oneCell'],by simp [ti47,Value.oneCell'],by simp [ti48,Value.oneCell'],by simp [ti49,Value.oneCell'],by simp [ti50,Value.oneCell'],by simp [ti51,Value.oneCell'],by simp [ti52,Value.oneCell'],by simp [ti53,Value.oneCell'],by simp [ti54,Value.oneCell'],by simp [ti55,Value.oneCell'],by simp [ti56,Value.oneCell'],by simp [ti57,Value.oneCell'],by simp [ti58,Value.oneCell'],by simp [ti59,Value.oneCell'],by simp [ti60,Value.oneCell'],by simp [ti61,Value.oneCell'],by simp [ti62,Value.oneCell'],by simp [ti63,Value.oneCell'],by simp [ti64,Value.oneCell'],by simp [ti65,Value.oneCell'],by simp [ti66,Value.oneCell'],by simp [ti67,Value.oneCell'],by simp [ti69,Value.oneCell'],by simp [ti70,Value.oneCell'],by simp [ti71,Value.oneCell'],by simp [ti72,Value.oneCell'],by simp [ti73,Value.oneCell'],by simp [ti74,Value.oneCell'],by simp [ti75,Value.oneCell'],by simp [ti76,Value.oneCell'],by simp [ti77,Value.oneCell'],by simp [ti78,Value.oneCell'],by simp [ti79,Value.oneCell'],by simp [ti80,Value.oneCell'],by simp [ti82,Value.oneCell'],by simp [ti83,Value.oneCell'],by simp [ti84,Value.oneCell'],by simp [ti85,Value.oneCell'],by simp [ti86,Value.oneCell'],by simp [ti87,Value.oneCell'],by simp [ti88,Value.oneCell'],by simp [ti89,Value.oneCell'],by simp [ti90,Value.oneCell'],by simp [ti91,Value.oneCell'],by simp [ti92,Value.oneCell'],by simp [ti93,Value.oneCell'],by simp [ti94,Value.oneCell'],by simp [ti95,Value.oneCell'],by simp [ti96,Value.oneCell'],by simp [ti97,Value.oneCell'],by simp [ti98,Value.oneCell'],by simp [ti99,Value.oneCell'],by simp [ti100,Value.oneCell'],by simp [ti101,Value.oneCell'],by simp [ti102,Value.oneCell'],by simp [ti103,Value.oneCell'],by simp [ti105,Value.oneCell'],by simp [ti106,Value.oneCell'],by simp [ti107,Value.oneCell'],by simp [ti108,Value.oneCell'],by simp [ti110,Value.oneCell'],by simp [ti111,Value.oneCell'],by simp [ti112,Value.oneCell'],by simp [ti113,Value.oneCell'],by simp [ti114,Value.oneCell'],by simp [ti115,Value.oneCell'],by simp [ti116,Value.oneCell'],by simp [ti117,Value.oneCell'],by simp [ti118,Value.oneCell'],by simp [ti119,Value.oneCell'],by simp [ti120,Value.oneCell'],by simp [ti121,Value.oneCell'],by simp [ti122,Value.oneCell'],by simp [ti123,Value.oneCell'],by simp [ti125,Value.oneCell'],by simp [ti126,Value.oneCell'],by simp [ti127,Value.oneCell'],by simp [ti128,Value.oneCell'],by simp [ti132,Value.oneCell'],by simp [ti133,Value.oneCell'],by simp [ti134,Value.oneCell'],by simp [ti135,Value.oneCell'],by simp [ti136,Value.oneCell'],by simp [ti137,Value.oneCell'],by simp [ti138,Value.oneCell'],by simp [ti139,Value.oneCell'],by simp [ti140,Value.oneCell'],fun _ h=>nomatch h⟩
theorem Γ_good:Γ.good Tryd.prog:=⟨Γ_ok,Γ_one,by kernel_rfl⟩
end Go.Proofs.YtjbngfnpddhjpaaDoor
end
section
namespace Go.Vl
set_option linter.unusedSectionVars false
set_option linter.unusedSimpArgs false
set_option linter.unusedVariables false
open Go.SX
def orI (a b:Int):Int:=if a = 0 then b else a
def cmpI (a b:Int):Int:=if a = b then 0 else if a < b then -1 else 1
def cmpS (a b:Str):Int:=if a = b then 0 else if Op.bytesLess a b = true then -1 else 1
def rank (f:Int):Int:=if f < 9223372036854775808 then f + 9223372036854775808 else 18446744073709551615 - f
mutual
def cmpV:Val→Val→Int
  | ⟨k,n,f,s,l,e⟩,b=>orI (cmpI k b.kind) (orI (cmpI n b.n) (orI (cmpI (rank f) (rank b.f)) (orI (cmpS s b.s) (orI (cmpL l b.l) (cmpE e b.e)))))
def cmpL:List Val→List Val→Int
  | [],[]=>0
  | [],_::_=>-1
  | _::_,[]=>1
  | x::xs,y::ys=>orI (cmpV x y) (cmpL xs ys)
def cmpE:List (Str × Val)→List (Str × Val)→Int
  | [],[]=>0
  | [],_::_=>-1
  | _::_,[]=>1
  | x::xs,y::ys=>orI (cmpP x y) (cmpE xs ys)
def cmpP:Str × Val→Str × Val→Int
  | (a,x),q=>orI (cmpS a q.1) (cmpV x q.2)
end
theorem less_irrefl:∀ a:Str,Op.bytesLess a a = false
  | []=>rfl
  | c::r=>by
    rw [Op.bytesLess,less_irrefl r]
    simp
theorem cmpI_self (a:Int):cmpI a a = 0:=if_pos rfl
theorem cmpS_self (a:Str):cmpS a a = 0:=if_pos rfl
theorem cmpI_zero {a b:Int}:cmpI a b = 0↔a = b:=by
  unfold cmpI
  split
  · simp [*]
  · split<;>simp [*]
theorem cmpS_zero {a b:Str}:cmpS a b = 0↔a = b:=by
  unfold cmpS
  split
  · simp [*]
  · split<;>simp [*]
theorem cmpV_eq (a b:Val):cmpV a b = orI (cmpI a.kind b.kind) (orI (cmpI a.n b.n) (orI (cmpI (rank a.f) (rank b.f)) (orI (cmpS a.s b.s) (orI (cmpL a.l b.l) (cmpE a.e b.e))))):=by
  cases a
  rw [cmpV]
theorem cmpP_eq (p q:Str × Val):cmpP p q = orI (cmpS p.1 q.1) (cmpV p.2 q.2):=by
  cases p
  rw [cmpP]
theorem orI_ne {a b:Int} (h:a≠0):orI a b = a:=if_neg h
theorem orI_right {a:Int}:orI a 0 = a:=by unfold orI; split<;>simp [*]
theorem orI_zero {b:Int}:orI 0 b = b:=if_pos rfl
theorem cmpL_drop {l m:List Val} {k:Nat} (hl:k < l.length) (hm:k < m.length):cmpL (l.drop k) (m.drop k) = orI (cmpV l[k] m[k]) (cmpL (l.drop (k + 1)) (m.drop (k + 1))):=by
  rw [List.drop_eq_getElem_cons hl,List.drop_eq_getElem_cons hm,cmpL]
theorem cmpL_short {l m:List Val} {k:Nat} (hl:k < l.length) (hm:m.length≤k):cmpL (l.drop k) (m.drop k) = 1:=by
  rw [List.drop_eq_getElem_cons hl,List.drop_eq_nil_of_le hm,cmpL]
theorem cmpL_long {l m:List Val} {k:Nat} (hl:l.length≤k) (hm:k < m.length):cmpL (l.drop k) (m.drop k) = -1:=by
  rw [List.drop_eq_getElem_cons hm,List.drop_eq_nil_of_le hl,cmpL]
theorem cmpL_end {l m:List Val} {k:Nat} (hl:l.length≤k) (hm:m.length≤k):cmpL (l.drop k) (m.drop k) = 0:=by
  rw [List.drop_eq_nil_of_le hm,List.drop_eq_nil_of_le hl,cmpL]
theorem cmpE_drop {l m:List (Str × Val)} {k:Nat} (hl:k < l.length) (hm:k < m.length):cmpE (l.drop k) (m.drop k) = orI (cmpP l[k] m[k]) (cmpE (l.drop (k + 1)) (m.drop (k + 1))):=by
  rw [List.drop_eq_getElem_cons hl,List.drop_eq_getElem_cons hm,cmpE]
theorem cmpE_short {l m:List (Str × Val)} {k:Nat} (hl:k < l.length) (hm:m.length≤k):cmpE (l.drop k) (m.drop k) = 1:=by
  rw [List.drop_eq_getElem_cons hl,List.drop_eq_nil_of_le hm,cmpE]
theorem cmpE_long {l m:List (Str × Val)} {k:Nat} (hl:l.length≤k) (hm:k < m.length):cmpE (l.drop k) (m.drop k) = -1:=by
  rw [List.drop_eq_getElem_cons hm,List.drop_eq_nil_of_le hl,cmpE]
theorem cmpE_end {l m:List (Str × Val)} {k:Nat} (hl:l.length≤k) (hm:m.length≤k):cmpE (l.drop k) (m.drop k) = 0:=by
  rw [List.drop_eq_nil_of_le hm,List.drop_eq_nil_of_le hl,cmpE]
theorem val_sz_l {v x:Val} (h:x ∈ v.l):SizeOf.sizeOf x < SizeOf.sizeOf v:=by
  cases v
  have:=List.sizeOf_lt_of_mem h
  simp only [Val.mk.sizeOf_spec] at this ⊢
  omega
theorem val_sz_e {v:Val} {p:Str × Val} (h:p ∈ v.e):SizeOf.sizeOf p.2 < SizeOf.sizeOf v:=by
  cases v
  have:=List.sizeOf_lt_of_mem h
  obtain ⟨a,x⟩:=p
  simp only [Val.mk.sizeOf_spec,Prod.mk.sizeOf_spec] at this ⊢
  omega
mutual
theorem cmpV_self:∀ v:Val,cmpV v v = 0
  | ⟨k,n,f,s,l,e⟩=>by
    rw [cmpV]
    simp only [cmpI_self,cmpS_self,cmpL_self l,cmpE_self e,orI_zero]
theorem cmpL_self:∀ l:List Val,cmpL l l = 0
  | []=>by rw [cmpL]
  | x::xs=>by rw [cmpL,cmpV_self x,cmpL_self xs,orI_zero]
theorem cmpE_self:∀ l:List (Str × Val),cmpE l l = 0
  | []=>by rw [cmpE]
  | x::xs=>by rw [cmpE,cmpP_self x,cmpE_self xs,orI_zero]
theorem cmpP_self:∀ p:Str × Val,cmpP p p = 0
  | (a,x)=>by rw [cmpP,cmpV_self x,cmpS_self,orI_zero]
end
def firstN:List Int→Int
  | []=>0
  | x::r=>orI x (firstN r)
theorem firstN_drop {l:List Int} {k:Nat} (h:k < l.length):firstN (l.drop k) = orI l[k] (firstN (l.drop (k + 1))):=by
  rw [List.drop_eq_getElem_cons h,firstN]
theorem val_eta (v:Val):(⟨v.kind,v.n,v.f,v.s,v.l,v.e⟩:Val) = v:=by cases v; rfl
abbrev Ent:=Str × Val
def keyIs (k:Str) (p:Ent):Bool:=p.1 == k
def keyGt (k:Str) (p:Ent):Bool:=!(Op.bytesLess p.1 k || p.1 == k)
def ixI (l:List Ent) (q:Ent→Bool):Int:=if l.findIdx q < l.length then (l.findIdx q:Nat) else -1
def withoutE (l:List Ent) (k:Str):List Ent:=l.filter fun p=>!keyIs k p
theorem ix_hit {l:List Ent} {q:Ent→Bool} {i:Nat} (hi:i < l.length) (hf:i≤l.findIdx q) (h:q l[i] = true):ixI l q = i:=by
  have:l.findIdx q = i:=by
    rcases Nat.lt_or_ge i (l.findIdx q) with h1 | h1
    · have:=List.not_of_lt_findIdx h1
      rw [h] at this
      cases this
    · omega
  rw [ixI,this,if_pos hi]
theorem ix_miss {l:List Ent} {q:Ent→Bool} {i:Nat} (hi:i < l.length) (hf:i≤l.findIdx q) (h:q l[i] = false):i + 1≤l.findIdx q:=by
  rcases Nat.lt_or_ge i (l.findIdx q) with h1 | h1
  · exact h1
  · have e:l.findIdx q = i:=by omega
    have:=List.findIdx_getElem (w:=by rw [e]; exact hi) (xs:=l) (p:=q)
    simp only [e] at this
    rw [h] at this
    cases this
theorem ix_none {l:List Ent} {q:Ent→Bool} (hf:l.length≤l.findIdx q):ixI l q = -1:=by
  rw [ixI,if_neg (by omega)]
theorem filter_next {l:List Ent} {k:Str} {i:Nat} (hi:i < l.length) (h:keyIs k l[i] = false):withoutE (l.take (i + 1)) k = withoutE (l.take i) k++[l[i]]:=by
  rw [List.take_add_one,List.getElem?_eq_getElem hi,withoutE,withoutE,List.filter_append]
  simp [h]
theorem filter_skip {l:List Ent} {k:Str} {i:Nat} (hi:i < l.length) (h:keyIs k l[i] = true):withoutE (l.take (i + 1)) k = withoutE (l.take i) k:=by
  rw [List.take_add_one,List.getElem?_eq_getElem hi,withoutE,withoutE,List.filter_append]
  simp [h]
theorem filter_len {l:List Ent} {k:Str} {i:Nat}:(withoutE (l.take i) k).length≤l.length:=by
  refine Nat.le_trans (List.length_filter_le _ _) ?_
  rw [List.length_take]
  omega
def putE (l:List Ent) (k:Str) (a:Val):List Ent:=(withoutE l k).take ((withoutE l k).findIdx (keyGt k))++(k,a)::(withoutE l k).drop ((withoutE l k).findIdx (keyGt k))
end Go.Vl
end
section
namespace Go.Ut
set_option linter.unusedSectionVars false
set_option linter.unusedSimpArgs false
set_option linter.unusedVariables false
open Go.SX

theorem dec2 {n b0 b1 b2 b3:Nat} (h:192≤b0) (h2:b0 < 224) (h1:b1 < 256):Lib.decodeN n b0 b1 b2 b3 = if 2≤n∧(128≤b1∧b1 < 192)∧128≤(b0 - 192) * 64 + (b1 - 128) then ((b0 - 192) * 64 + (b1 - 128),2) else (65533,1):=by
  unfold Lib.decodeN
  rw [if_neg (by omega)]
  by_cases c:2≤n∧(128≤b1∧b1 < 192)
  · have e:b0 % 32 * 64 + b1 % 64 = (b0 - 192) * 64 + (b1 - 128):=by omega
    rw [if_pos (by omega),e]
    by_cases d:128≤(b0 - 192) * 64 + (b1 - 128)
    · rw [if_pos d,if_pos ⟨c.1,c.2,d⟩]
    · rw [if_neg d,if_neg (fun h=>d h.2.2)]
  · rw [if_neg (by omega),if_neg (by omega),if_neg (by omega),if_neg (fun h=>c ⟨h.1,h.2.1⟩)]
theorem dec3 {n b0 b1 b2 b3:Nat} (h:224≤b0) (h2:b0 < 240) (h1:b1 < 256) (h3:b2 < 256):Lib.decodeN n b0 b1 b2 b3 = if (3≤n∧(128≤b1∧b1 < 192)∧(128≤b2∧b2 < 192))∧2048≤(b0 - 224) * 4096 + (b1 - 128) * 64 + (b2 - 128)∧((b0 - 224) * 4096 + (b1 - 128) * 64 + (b2 - 128) < 55296∨57343 < (b0 - 224) * 4096 + (b1 - 128) * 64 + (b2 - 128)) then ((b0 - 224) * 4096 + (b1 - 128) * 64 + (b2 - 128),3) else (65533,1):=by
  unfold Lib.decodeN
  rw [if_neg (by omega),if_neg (by omega)]
  by_cases c:3≤n∧(128≤b1∧b1 < 192)∧(128≤b2∧b2 < 192)
  · have e:b0 % 16 * 4096 + b1 % 64 * 64 + b2 % 64 = (b0 - 224) * 4096 + (b1 - 128) * 64 + (b2 - 128):=by omega
    rw [if_pos (by omega),e]
    generalize hv:(b0 - 224) * 4096 + (b1 - 128) * 64 + (b2 - 128) = v
    have hle:v < 65536:=by omega
    by_cases d:2048≤v∧(v < 55296∨57343 < v)
    · rw [if_pos (by omega),if_pos ⟨c,d⟩]
    · rw [if_neg (by omega),if_neg (fun h=>d h.2)]
  · rw [if_neg (by omega),if_neg (by omega),if_neg (fun h=>c h.1)]
theorem dec4 {n b0 b1 b2 b3:Nat} (h:240≤b0) (h2:b0 < 248) (h1:b1 < 256) (h3:b2 < 256) (h4:b3 < 256):Lib.decodeN n b0 b1 b2 b3 = if (4≤n∧(128≤b1∧b1 < 192)∧(128≤b2∧b2 < 192)∧(128≤b3∧b3 < 192))∧65536≤(b0 - 240) * 262144 + (b1 - 128) * 4096 + (b2 - 128) * 64 + (b3 - 128)∧(b0 - 240) * 262144 + (b1 - 128) * 4096 + (b2 - 128) * 64 + (b3 - 128)≤1114111 then ((b0 - 240) * 262144 + (b1 - 128) * 4096 + (b2 - 128) * 64 + (b3 - 128),4) else (65533,1):=by
  unfold Lib.decodeN
  rw [if_neg (by omega),if_neg (by omega),if_neg (by omega)]
  by_cases c:4≤n∧(128≤b1∧b1 < 192)∧(128≤b2∧b2 < 192)∧(128≤b3∧b3 < 192)
  · have e:b0 % 8 * 262144 + b1 % 64 * 4096 + b2 % 64 * 64 + b3 % 64 = (b0 - 240) * 262144 + (b1 - 128) * 4096 + (b2 - 128) * 64 + (b3 - 128):=by omega
    rw [if_pos (by omega),e]
    generalize hv:(b0 - 240) * 262144 + (b1 - 128) * 4096 + (b2 - 128) * 64 + (b3 - 128) = v
    by_cases d:65536≤v∧v≤1114111
    · rw [if_pos (by omega),if_pos ⟨c,d⟩]
    · rw [if_neg (by omega),if_neg (fun h=>d h.2)]
  · rw [if_neg (by omega),if_neg (fun h=>c h.1)]
def b8 (s:Str) (i:Nat):Int:=((s.getD i 0).toNat:Int)
theorem b8_rng (s:Str) (i:Nat):0≤b8 s i∧b8 s i≤255:=by have:=(s.getD i 0).toNat_lt; unfold b8; omega
def scalar (n:Int):Prop:=0≤n∧n≤1114111∧(n < 55296∨57343 < n)
instance (n:Int):Decidable (scalar n):=by unfold scalar; infer_instance
def code (s:Str):Int × Nat :=
  if s = [] then (-1,0) else if (decAt s 0).1 = 65533∧(decAt s 0).2 = 1 then (-1,1) else (((decAt s 0).1:Int),(decAt s 0).2)
theorem code1 {s:Str} (h0:s≠[]) (h:b8 s 0 < 128):code s = (b8 s 0,1):=by
  have hd:decAt s 0 = ((s.getD 0 0).toNat,1):=by
    unfold decAt Lib.decodeN
    rw [if_pos (by unfold b8 at h; omega)]
  unfold code
  rw [if_neg h0,hd,if_neg (by simp only; unfold b8 at h; omega)]
  rfl
theorem code_bad {s:Str} (h0:s≠[]) (h:128≤b8 s 0∧b8 s 0 < 192∨248≤b8 s 0):code s = (-1,1):=by
  have hd:decAt s 0 = (65533,1):=by
    unfold decAt Lib.decodeN
    unfold b8 at h
    rw [if_neg (by omega),if_neg (by omega),if_neg (by omega),if_neg (by omega)]
  unfold code
  rw [if_neg h0,hd,if_pos ⟨rfl,rfl⟩]
def cont (s:Str) (i:Nat):Prop:=128≤b8 s i∧b8 s i < 192
def acc (s:Str) (r:Int):Nat→Int
  | 0=>r
  | 1=>r
  | i + 1=>acc s r i * 64 + b8 s i - 128
def lead (s:Str):Nat × Int × Int :=
  if b8 s 0 < 224 then (2,128,b8 s 0 - 192) else if b8 s 0 < 240 then (3,2048,b8 s 0 - 224) else (4,65536,b8 s 0 - 240)
def good (s:Str):Prop:=(lead s).1≤s.length∧(∀ i,1≤i→i < (lead s).1→cont s i)∧(lead s).2.1≤acc s (lead s).2.2 (lead s).1∧scalar (acc s (lead s).2.2 (lead s).1)
theorem good2 {s:Str} (hl:lead s = (2,128,b8 s 0 - 192)):good s↔(2≤s.length∧cont s 1∧128≤(b8 s 0 - 192) * 64 + b8 s 1 - 128∧scalar ((b8 s 0 - 192) * 64 + b8 s 1 - 128)):=by
  unfold good
  rw [hl]
  refine ⟨fun ⟨a,b,c,d⟩=>⟨a,b 1 (by decide) (show 1 < 2 by decide),c,d⟩,fun ⟨a,b,c,d⟩=>⟨a,fun i h1 h2=>?_,c,d⟩⟩
  have:i = 1:=by simp only at h2; omega
  subst this
  exact b
theorem good3 {s:Str} (hl:lead s = (3,2048,b8 s 0 - 224)):good s↔(3≤s.length∧(cont s 1∧cont s 2)∧2048≤((b8 s 0 - 224) * 64 + b8 s 1 - 128) * 64 + b8 s 2 - 128∧scalar (((b8 s 0 - 224) * 64 + b8 s 1 - 128) * 64 + b8 s 2 - 128)):=by
  unfold good
  rw [hl]
  refine ⟨fun ⟨a,b,c,d⟩=>⟨a,⟨b 1 (by decide) (show 1 < 3 by decide),b 2 (by decide) (show 2 < 3 by decide)⟩,c,d⟩,fun ⟨a,b,c,d⟩=>⟨a,fun i h1 h2=>?_,c,d⟩⟩
  have:i = 1∨i = 2:=by simp only at h2; omega
  rcases this with rfl | rfl
  · exact b.1
  · exact b.2
theorem good4 {s:Str} (hl:lead s = (4,65536,b8 s 0 - 240)):good s↔(4≤s.length∧(cont s 1∧cont s 2∧cont s 3)∧65536≤(((b8 s 0 - 240) * 64 + b8 s 1 - 128) * 64 + b8 s 2 - 128) * 64 + b8 s 3 - 128∧scalar ((((b8 s 0 - 240) * 64 + b8 s 1 - 128) * 64 + b8 s 2 - 128) * 64 + b8 s 3 - 128)):=by
  unfold good
  rw [hl]
  refine ⟨fun ⟨a,b,c,d⟩=>⟨a,⟨b 1 (by decide) (show 1 < 4 by decide),b 2 (by decide) (show 2 < 4 by decide),b 3 (by decide) (show 3 < 4 by decide)⟩,c,d⟩,fun ⟨a,b,c,d⟩=>⟨a,fun i h1 h2=>?_,c,d⟩⟩
  have:i = 1∨i = 2∨i = 3:=by simp only at h2; omega
  rcases this with rfl | rfl | rfl
  · exact b.1
  · exact b.2.1
  · exact b.2.2
theorem code_many {s : Str} (h0 : s ≠ []) (h : 192 ≤ b8 s 0) (h2 : b8 s 0 < 248) :
    (good s→code s = (acc s (lead s).2.2 (lead s).1,(lead s).1))∧(¬ good s→code s = (-1,1)):=by
  have r0:=(s.getD 0 0).toNat_lt
  have r1:=(s.getD 1 0).toNat_lt
  have r2:=(s.getD 2 0).toNat_lt
  have r3:=(s.getD 3 0).toNat_lt
  have hd:decAt s 0 = Lib.decodeN s.length (s.getD 0 0).toNat (s.getD 1 0).toNat (s.getD 2 0).toNat (s.getD 3 0).toNat:=rfl
  have hbad:decAt s 0 = (65533,1)→code s = (-1,1):=fun e=>by unfold code; rw [if_neg h0,e,if_pos ⟨rfl,rfl⟩]
  have hok:∀ v k,decAt s 0 = (v,k)→1 < k→code s = ((v:Int),k):=fun v k e hk=>by unfold code; rw [if_neg h0,e,if_neg (fun h=>by have:=h.2; simp only at this; omega)]
  by_cases c1:b8 s 0 < 224
  · have hl:lead s = (2,128,b8 s 0 - 192):=by unfold lead; rw [if_pos c1]
    rw [good2 hl,hl]
    unfold b8 at c1 h h2
    rw [dec2 (by omega) (by omega) r1] at hd
    unfold cont scalar
    simp only [b8,acc]
    constructor
    · rintro ⟨a,b,c,d⟩
      rw [if_pos (by omega)] at hd
      rw [hok _ _ hd (by decide)]
      exact Prod.ext (by simp only; omega) rfl
    · intro hn
      rw [if_neg (by omega)] at hd
      exact hbad hd
  by_cases c2:b8 s 0 < 240
  · have hl:lead s = (3,2048,b8 s 0 - 224):=by unfold lead; rw [if_neg c1,if_pos c2]
    rw [good3 hl,hl]
    unfold b8 at c1 c2 h h2
    rw [dec3 (by omega) (by omega) r1 r2] at hd
    unfold cont scalar
    simp only [b8,acc]
    constructor
    · rintro ⟨a,b,c,d⟩
      rw [if_pos (by omega)] at hd
      rw [hok _ _ hd (by decide)]
      exact Prod.ext (by simp only; omega) rfl
    · intro hn
      rw [if_neg (by omega)] at hd
      exact hbad hd
  · have hl:lead s = (4,65536,b8 s 0 - 240):=by unfold lead; rw [if_neg c1,if_neg c2]
    rw [good4 hl,hl]
    unfold b8 at c1 c2 h h2
    rw [dec4 (by omega) (by omega) r1 r2 r3] at hd
    unfold cont scalar
    simp only [b8,acc]
    constructor
    · rintro ⟨a,b,c,d⟩
      rw [if_pos (by omega)] at hd
      rw [hok _ _ hd (by decide)]
      exact Prod.ext (by simp only; omega) rfl
    · intro hn
      rw [if_neg (by omega)] at hd
      exact hbad hd
theorem getD_drop {α:Type} (l:List α) (i j:Nat) (d:α):(l.drop i).getD j d = l.getD (i + j) d:=by simp [List.getD_eq_getElem?_getD]
theorem decAt_drop (s:Str) (i:Nat):decAt (s.drop i) 0 = decAt s i:=by
  unfold decAt
  simp only [List.length_drop,getD_drop,Nat.add_zero,Nat.zero_add,Nat.sub_zero]
theorem dec_pos (s:Str) (i:Nat):1≤(decAt s i).2:=by
  unfold decAt Lib.decodeN
  (repeat' split)<;>simp
theorem dec_le {s:Str} {i:Nat} (h:i < s.length):i + (decAt s i).2≤s.length:=by
  have:(decAt s i).2≤s.length - i:=by
    unfold decAt Lib.decodeN
    (repeat' split)<;>simp only<;>omega
  omega
theorem drop_ne {s:Str} {a:Nat} (h:a < s.length):s.drop a≠[]:=by
  intro e
  have:=congrArg List.length e
  rw [List.length_drop] at this
  simp at this
  omega
def badF (s:Str):Nat→Nat→Int
  | 0,_=>-1
  | f + 1,i=>if i < s.length then (if (decAt s i).1 = 65533∧(decAt s i).2 = 1 then (i:Int) else badF s f (i + (decAt s i).2)) else -1
theorem badF_fuel (s:Str):∀ (f g i:Nat),s.length≤f + i→s.length≤g + i→badF s f i = badF s g i:=by
  intro f
  induction f with
  | zero =>
    intro g i hf hg
    cases g with
    | zero=>rfl
    | succ g=>simp only [badF]; rw [if_neg (by omega)]
  | succ f ih =>
    intro g i hf hg
    cases g with
    | zero=>simp only [badF]; rw [if_neg (by omega)]
    | succ g =>
      have:=dec_pos s i
      simp only [badF]
      rw [ih g _ (by omega) (by omega)]
def badFrom (s:Str) (i:Nat):Int:=badF s s.length i
def bad (s:Str):Int:=badFrom s 0
theorem bad_step {s:Str} {i:Nat} (h:i < s.length):badFrom s i = if (decAt s i).1 = 65533∧(decAt s i).2 = 1 then (i:Int) else badFrom s (i + (decAt s i).2):=by
  have hp:=dec_pos s i
  unfold badFrom
  rw [badF_fuel s s.length (s.length + 1) i (by omega) (by omega),badF,if_pos h]
theorem bad_end {s:Str} {i:Nat} (h:s.length≤i):badFrom s i = -1:=by
  unfold badFrom
  rw [badF_fuel s s.length 0 i (by omega) (by omega)]
  rfl
def runesFrom (s:Str) (i:Nat):List Int:=runesF s s.length i
theorem code_at {s:Str} {i:Nat} (h:i < s.length):code (s.drop i) = if (decAt s i).1 = 65533∧(decAt s i).2 = 1 then (-1,1) else (((decAt s i).1:Int),(decAt s i).2):=by
  unfold code
  rw [if_neg (drop_ne h),decAt_drop]
end Go.Ut
end
section
namespace Go.Ck
set_option linter.unusedSectionVars false
set_option linter.unusedSimpArgs false
set_option linter.unusedVariables false
open Go.SX Go.Vl Go.Ut
def oddF (f:Int):Prop:=(f / 4503599627370496) % 2048 = 2047∧f % 4503599627370496≠0∧f≠9221120237041090561
def kindBad (v:Val):Prop :=
  (v.kind < 0∨6 < v.kind)∨(v.kind≠1∧v.kind≠2∧v.n≠0)∨(v.kind = 1∧v.n≠0∧v.n≠1)∨(v.kind≠3∧v.f≠0)∨oddF v.f∨(v.kind≠4∧v.s≠[])∨(v.kind≠5∧0 < v.l.length)∨(v.kind≠6∧0 < v.e.length)
instance (f:Int):Decidable (oddF f):=by unfold oddF; infer_instance
instance (v:Val):Decidable (kindBad v):=by unfold kindBad; infer_instance
def ownF (v:Val) (above:Int):Int :=
  if 20≤above then 5 else if kindBad v then 10 else if 4000 < v.s.length∨200 < v.l.length∨200 < v.e.length then 2 else if 0≤bad v.s then 3 else 0
def keyF (p:Option Str) (k:Str):Int :=
  if 100 < k.length then 2 else if 0≤bad k then 3 else match p with
    | some q=>if Op.bytesLess q k = true then 0 else 14
    | none=>0
def entF:Option Str→List (Str × Val)→Int
  | _,[]=>0
  | p,x::r=>orI (keyF p x.1) (entF (some x.1) r)
def oneF (v:Val) (above:Int):Int:=orI (ownF v above) (entF none v.e)
def docF (v:Val):Int:=if kindBad v then 10 else if 4000 < v.s.length∨200 < v.l.length∨200 < v.e.length then 2 else if 0≤bad v.s then 3 else entF none v.e
theorem docF_kind {v:Val} (h:kindBad v):10 = docF v:=by rw [docF,if_pos h]
theorem docF_large {v:Val} (h:¬ kindBad v) (h2:4000 < v.s.length∨200 < v.l.length∨200 < v.e.length):2 = docF v:=by rw [docF,if_neg h,if_pos h2]
theorem docF_text {v:Val} (h:¬ kindBad v) (h2:¬ (4000 < v.s.length∨200 < v.l.length∨200 < v.e.length)) (h3:0≤bad v.s):3 = docF v:=by rw [docF,if_neg h,if_neg h2,if_pos h3]
theorem docF_ent {v:Val} (h:¬ kindBad v) (h2:¬ (4000 < v.s.length∨200 < v.l.length∨200 < v.e.length)) (h3:¬ 0≤bad v.s):docF v = entF none v.e:=by rw [docF,if_neg h,if_neg h2,if_neg h3]
theorem oneF_doc (v:Val) (a:Int):oneF v a = if 20≤a then 5 else docF v:=by
  unfold oneF ownF docF
  by_cases h:20≤a
  · rw [if_pos h,if_pos h]; rfl
  · rw [if_neg h,if_neg h]
    by_cases h1:kindBad v
    · rw [if_pos h1,if_pos h1]; rfl
    · rw [if_neg h1,if_neg h1]
      by_cases h2:4000 < v.s.length∨200 < v.l.length∨200 < v.e.length
      · rw [if_pos h2,if_pos h2]; rfl
      · rw [if_neg h2,if_neg h2]
        by_cases h3:0≤bad v.s
        · rw [if_pos h3,if_pos h3]; rfl
        · rw [if_neg h3,if_neg h3]; rfl
def keyAt (e:List (Str × Val)) (i:Nat):Option Str:=if 0 < i then some (e.getD (i - 1) ([],default)).1 else none
theorem entF_drop {e:List (Str × Val)} {i:Nat} (h:i < e.length):entF (keyAt e i) (e.drop i) = orI (keyF (keyAt e i) e[i].1) (entF (keyAt e (i + 1)) (e.drop (i + 1))):=by
  rw [List.drop_eq_getElem_cons h,entF]
  have:keyAt e (i + 1) = some e[i].1:=by
    unfold keyAt
    rw [if_pos (by omega),Nat.add_sub_cancel,List.getD_eq_getElem?_getD,List.getElem?_eq_getElem h]
    rfl
  rw [this]
theorem entF_stop {e:List (Str × Val)} {i:Nat} (h:i < e.length) (h2:keyF (keyAt e i) e[i].1≠0):entF (keyAt e i) (e.drop i) = keyF (keyAt e i) e[i].1:=by
  rw [entF_drop h,orI_ne h2]
theorem entF_go {e:List (Str × Val)} {i:Nat} (h:i < e.length) (h2:keyF (keyAt e i) e[i].1 = 0):entF (keyAt e i) (e.drop i) = entF (keyAt e (i + 1)) (e.drop (i + 1)):=by
  rw [entF_drop h,h2,orI_zero]
theorem entF_end (p:Option Str) {e:List (Str × Val)} {i:Nat} (h:e.length≤i):entF p (e.drop i) = 0:=by
  rw [List.drop_eq_nil_of_le h,entF]
def lastK (e:List (Str × Val)) (i:Nat):Str:=if 0 < i then (e.getD (i - 1) ([],default)).1 else []
theorem lastK_succ {e:List (Str × Val)} {i:Nat} (h:i < e.length):lastK e (i + 1) = e[i].1:=by
  unfold lastK
  rw [if_pos (by omega),Nat.add_sub_cancel,List.getD_eq_getElem?_getD,List.getElem?_eq_getElem h]
  rfl
theorem keyF_large {p:Option Str} {k:Str} (h:100 < k.length):keyF p k = 2:=by unfold keyF; rw [if_pos h]
theorem keyF_text {p:Option Str} {k:Str} (h:¬ 100 < k.length) (h2:0≤bad k):keyF p k = 3:=by unfold keyF; rw [if_neg h,if_pos h2]
theorem keyF_order {e:List (Str × Val)} {i:Nat} {k:Str} (h:¬ 100 < k.length) (h2:¬ 0≤bad k) (h0:0 < i) (h3:Op.bytesLess (lastK e i) k = false):keyF (keyAt e i) k = 14:=by
  unfold keyF keyAt; rw [if_neg h,if_neg h2,if_pos h0]
  rw [lastK,if_pos h0] at h3
  simp only [h3]
  rfl
theorem keyF_ok {e:List (Str × Val)} {i:Nat} {k:Str} (h:¬ 100 < k.length) (h2:¬ 0≤bad k) (h3:0 < i→Op.bytesLess (lastK e i) k = true):keyF (keyAt e i) k = 0:=by
  unfold keyF keyAt; rw [if_neg h,if_neg h2]
  by_cases h0:0 < i
  · have h3:=h3 h0
    rw [lastK,if_pos h0] at h3
    rw [if_pos h0]
    simp only [h3]
    rfl
  · rw [if_neg h0]
def partsOf (v:Val):List Val:=v.l++v.e.map (·.2)
mutual
def chkV:Val→Int→Int→Int × Int
  | ⟨k,n,f,s,l,e⟩,above,m =>
    if 2000 < m + 1 then (2,m + 1) else if oneF ⟨k,n,f,s,l,e⟩ above≠0 then (oneF ⟨k,n,f,s,l,e⟩ above,m + 1) else
      match chkL l (above + 1) (m + 1) with
      | (r,m')=>if r≠0 then (r,m') else chkE e (above + 1) m'
def chkL:List Val→Int→Int→Int × Int
  | [],_,m=>(0,m)
  | x::xs,above,m=>match chkV x above m with
    | (r,m')=>if r≠0 then (r,m') else chkL xs above m'
def chkE:List (Str × Val)→Int→Int→Int × Int
  | [],_,m=>(0,m)
  | x::xs,above,m=>match chkQ x above m with
    | (r,m')=>if r≠0 then (r,m') else chkE xs above m'
def chkQ:Str × Val→Int→Int→Int × Int
  | (_,x),above,m=>chkV x above m
end
theorem chkE_eq:∀ (e:List (Str × Val)) (a m:Int),chkE e a m = chkL (e.map (·.2)) a m
  | [],a,m=>by rw [chkE,List.map_nil,chkL]
  | (k,x)::r,a,m=>by
    rw [chkE,chkQ,List.map_cons,chkL]
    cases chkV x a m
    simp only [chkE_eq r]
theorem chkL_append : ∀ (l k : List Val) (a m : Int), chkL (l ++ k) a m = match chkL l a m with
    | (r,m')=>if r≠0 then (r,m') else chkL k a m'
  | [],k,a,m=>by simp [chkL]
  | x::r,k,a,m=>by
    rw [List.cons_append,chkL,chkL]
    cases h:chkV x a m with
    | mk e m1 =>
      simp only [chkL_append r k]
      by_cases c:e≠0
      · simp [c]
      · simp [c]
theorem chkV_eq (v:Val) (a m:Int):chkV v a m = if 2000 < m + 1 then (2,m + 1) else if oneF v a≠0 then (oneF v a,m + 1) else chkL (partsOf v) (a + 1) (m + 1):=by
  obtain ⟨k,n,f,s,l,e⟩:=v
  rw [chkV,partsOf,chkL_append]
  simp only [chkE_eq]
theorem chkL_snoc {l:List Val} {a m m':Int} (h:chkL l a m = (0,m')) (x:Val):chkL (l++[x]) a m = chkV x a m':=by
  rw [chkL_append,h]
  simp only [ne_eq,not_true_eq_false,if_false,chkL]
  cases chkV x a m' with
  | mk e m2=>by_cases c:e = 0<;>simp [c]
theorem chkL_stop {l:List Val} {a m m' e:Int} {x:Val} (h:chkL l a m = (0,m')) (he:(chkV x a m').1 = e) (h0:e≠0) (r:List Val):chkL (l++x::r) a m = chkV x a m':=by
  rw [chkL_append,h]
  simp only [ne_eq,not_true_eq_false,if_false,chkL]
  cases hx:chkV x a m' with
  | mk e' m2 =>
    rw [hx] at he
    simp only at he
    subst he
    simp [h0]
/-! how the count runs -/
mutual
theorem chkV_le:∀ (v:Val) (a m:Int),0≤m→m≤2000→m≤(chkV v a m).2∧(chkV v a m).2≤2001∧((chkV v a m).1 = 0→(chkV v a m).2≤2000)
  | ⟨k,n,f,s,l,e⟩,a,m,h0,h=>by
    rw [chkV]
    by_cases c:2000 < m + 1
    · rw [if_pos c]
      exact ⟨by simp only; omega,by simp only; omega,fun h=>by simp at h⟩
    · rw [if_neg c]
      by_cases d:oneF ⟨k,n,f,s,l,e⟩ a≠0
      · rw [if_pos d]
        exact ⟨by simp only; omega,by simp only; omega,fun h=>absurd h d⟩
      · rw [if_neg d]
        have h1:=chkL_le l (a + 1) (m + 1) (by omega) (by omega)
        cases hx:chkL l (a + 1) (m + 1) with
        | mk r m' =>
          rw [hx] at h1
          simp only at h1 ⊢
          by_cases g:r≠0
          · rw [if_pos g]; exact ⟨by simp only; omega,by simp only; omega,fun h=>absurd h g⟩
          · rw [if_neg g]
            have h2:=chkE_le e (a + 1) m' (by omega) (h1.2.2 (by simpa using g))
            exact ⟨by omega,h2.2.1,h2.2.2⟩
theorem chkL_le:∀ (l:List Val) (a m:Int),0≤m→m≤2000→m≤(chkL l a m).2∧(chkL l a m).2≤2001∧((chkL l a m).1 = 0→(chkL l a m).2≤2000)
  | [],a,m,h0,h=>by rw [chkL]; exact ⟨Int.le_refl _,by simp only; omega,fun _=>h⟩
  | x::xs,a,m,h0,h=>by
    rw [chkL]
    have h1:=chkV_le x a m h0 h
    cases hx:chkV x a m with
    | mk r m' =>
      rw [hx] at h1
      simp only at h1 ⊢
      by_cases g:r≠0
      · rw [if_pos g]; exact ⟨h1.1,h1.2.1,fun h=>absurd h g⟩
      · rw [if_neg g]
        have h2:=chkL_le xs a m' (by omega) (h1.2.2 (by simpa using g))
        exact ⟨by omega,h2.2.1,h2.2.2⟩
theorem chkE_le:∀ (l:List (Str × Val)) (a m:Int),0≤m→m≤2000→m≤(chkE l a m).2∧(chkE l a m).2≤2001∧((chkE l a m).1 = 0→(chkE l a m).2≤2000)
  | [],a,m,h0,h=>by rw [chkE]; exact ⟨Int.le_refl _,by simp only; omega,fun _=>h⟩
  | x::xs,a,m,h0,h=>by
    rw [chkE]
    have h1:=chkQ_le x a m h0 h
    cases hx:chkQ x a m with
    | mk r m' =>
      rw [hx] at h1
      simp only at h1 ⊢
      by_cases g:r≠0
      · rw [if_pos g]; exact ⟨h1.1,h1.2.1,fun h=>absurd h g⟩
      · rw [if_neg g]
        have h2:=chkE_le xs a m' (by omega) (h1.2.2 (by simpa using g))
        exact ⟨by omega,h2.2.1,h2.2.2⟩
theorem chkQ_le:∀ (x:Str × Val) (a m:Int),0≤m→m≤2000→m≤(chkQ x a m).2∧(chkQ x a m).2≤2001∧((chkQ x a m).1 = 0→(chkQ x a m).2≤2000)
  | (_,x),a,m,h0,h=>by rw [chkQ]; exact chkV_le x a m h0 h
end
def chkT:List VPlace→Int→Int
  | [],_=>0
  | x::r,m=>match chkV x.v x.above m with
    | (e,m')=>if e≠0 then e else chkT r m'
theorem chkT_append (l : List Val) (a : Int) (r : List VPlace) : ∀ m, chkT (l.map (fun v => (⟨v, a⟩ : VPlace)) ++ r) m = match chkL l a m with
    | (e,m')=>if e≠0 then e else chkT r m':=by
  induction l with
  | nil=>intro m; simp [chkL]
  | cons x t ih =>
    intro m
    rw [List.map_cons,List.cons_append,chkT,chkL]
    cases chkV x a m with
    | mk e m' =>
      simp only
      by_cases c:e≠0
      · simp [c]
      · rw [if_neg c,if_neg c,ih]
theorem chkT_step (x:VPlace) (r:List VPlace) (m:Int):chkT (x::r) m = if 2000 < m + 1 then 2 else if oneF x.v x.above≠0 then oneF x.v x.above else chkT ((partsOf x.v).map (fun v=>(⟨v,x.above + 1⟩:VPlace))++r) (m + 1):=by
  rw [chkT,chkV_eq]
  by_cases c:2000 < m + 1
  · simp [c]
  · rw [if_neg c,if_neg c]
    by_cases d:oneF x.v x.above≠0
    · rw [if_pos d,if_pos d]
      simp [d]
    · rw [if_neg d,if_neg d,chkT_append]
/-! how deep, and how many -/
mutual
def sizV:Val→Int × Int
  | ⟨_,_,_,_,l,e⟩=>let p:=sizL l (0,1); let q:=sizE e p; (q.1 + 1,q.2)
def sizL:List Val→Int × Int→Int × Int
  | [],p=>p
  | x::xs,p=>sizL xs (let q:=sizV x; (if p.1 < q.1 then q.1 else p.1,p.2 + q.2))
def sizE:List (Str × Val)→Int × Int→Int × Int
  | [],p=>p
  | x::xs,p=>sizE xs (let q:=sizQ x; (if p.1 < q.1 then q.1 else p.1,p.2 + q.2))
def sizQ:Str × Val→Int × Int
  | (_,x)=>sizV x
end
def addS (p q:Int × Int):Int × Int:=(if p.1 < q.1 then q.1 else p.1,p.2 + q.2)
def foldS (l:List Val) (p:Int × Int):Int × Int:=l.foldl (fun p x=>addS p (sizV x)) p
theorem sizL_eq:∀ (l:List Val) (p:Int × Int),sizL l p = foldS l p
  | [],p=>by rw [sizL]; rfl
  | x::r,p=>by rw [sizL,sizL_eq r]; rfl
theorem sizE_eq:∀ (l:List (Str × Val)) (p:Int × Int),sizE l p = foldS (l.map (·.2)) p
  | [],p=>by rw [sizE]; rfl
  | (k,x)::r,p=>by rw [sizE,sizQ,sizE_eq r]; rfl
theorem sizV_eq (v:Val):sizV v = ((foldS (partsOf v) (0,1)).1 + 1,(foldS (partsOf v) (0,1)).2):=by
  obtain ⟨k,n,f,s,l,e⟩:=v
  rw [sizV]
  simp only [sizL_eq,sizE_eq,partsOf,foldS,List.foldl_append]
theorem parts_sz {v x:Val} (h:x ∈ partsOf v):SizeOf.sizeOf x < SizeOf.sizeOf v:=by
  rcases List.mem_append.1 h with h | h
  · exact val_sz_l h
  · obtain ⟨p,hp,rfl⟩:=List.mem_map.1 h
    exact val_sz_e hp
theorem fold_ok:∀ (l:List Val) (p:Int × Int),(∀ x ∈ l,1≤(sizV x).1∧(sizV x).1≤(sizV x).2)→0≤p.1→p.1 < p.2→p.1≤(foldS l p).1∧(foldS l p).1 < (foldS l p).2∧p.2 + (l.length:Int)≤(foldS l p).2
  | [],p,_,h0,h1=>⟨Int.le_refl _,h1,by simp [foldS]⟩
  | x::r,p,h,h0,h1=>by
    have hx:=h x (.head _)
    have e:foldS (x::r) p = foldS r (addS p (sizV x)):=rfl
    have h2:(addS p (sizV x)).2 = p.2 + (sizV x).2:=rfl
    have h3:p.1≤(addS p (sizV x)).1∧(addS p (sizV x)).1 < p.2 + (sizV x).2:=by
      unfold addS
      simp only
      split<;>omega
    have:=fold_ok r (addS p (sizV x)) (fun y hy=>h y (.tail _ hy)) (by omega) (by omega)
    rw [e,List.length_cons]
    omega
theorem fold_mem:∀ (l:List Val) (p:Int × Int),(∀ x ∈ l,1≤(sizV x).1∧(sizV x).1≤(sizV x).2)→0≤p.1→p.1 < p.2→∀ x ∈ l,(sizV x).2 < (foldS l p).2
  | [],_,_,_,_=>fun x hx=>nomatch hx
  | y::r,p,h,h0,h1=>fun x hx=>by
    have hy:=h y (.head _)
    have e:foldS (y::r) p = foldS r (addS p (sizV y)):=rfl
    have h2:(addS p (sizV y)).2 = p.2 + (sizV y).2:=rfl
    have h3:p.1≤(addS p (sizV y)).1∧(addS p (sizV y)).1 < p.2 + (sizV y).2:=by
      unfold addS
      simp only
      split<;>omega
    rw [e]
    rcases List.mem_cons.1 hx with rfl | hx
    · have:=fold_ok r (addS p (sizV x)) (fun z hz=>h z (.tail _ hz)) (by omega) (by omega)
      omega
    · exact fold_mem r _ (fun z hz=>h z (.tail _ hz)) (by omega) (by omega) x hx
theorem siz_ok:∀ (n:Nat) (v:Val),SizeOf.sizeOf v < n→1≤(sizV v).1∧(sizV v).1≤(sizV v).2:=by
  intro n
  induction n with
  | zero=>intro v h; exact absurd h (Nat.not_lt_zero _)
  | succ n ih =>
    intro v h
    have hp:∀ x ∈ partsOf v,1≤(sizV x).1∧(sizV x).1≤(sizV x).2:=fun x hx=>ih x (by have:=parts_sz hx; omega)
    have:=fold_ok (partsOf v) (0,1) hp (by decide) (by decide)
    rw [sizV_eq]
    simp only at this ⊢
    omega
theorem siz_pos (v:Val):1≤(sizV v).1∧(sizV v).1≤(sizV v).2:=siz_ok _ v (Nat.lt_succ_self _)
theorem siz_parts (v:Val):((partsOf v).length:Int) + 1≤(sizV v).2∧∀ x ∈ partsOf v,(sizV x).2 < (sizV v).2:=by
  have h:=fold_ok (partsOf v) (0,1) (fun x _=>siz_pos x) (by decide) (by decide)
  have h2:=fold_mem (partsOf v) (0,1) (fun x _=>siz_pos x) (by decide) (by decide)
  rw [sizV_eq]
  simp only at h ⊢
  exact ⟨by omega,h2⟩
theorem siz_len (v:Val):(v.l.length:Int) + (v.e.length:Int) + 1≤(sizV v).2:=by
  have:=(siz_parts v).1
  unfold partsOf at this
  rw [List.length_append,List.length_map] at this
  omega
def sumT:List VPlace→Int
  | []=>0
  | p::r=>(sizV p.v).2 + sumT r
theorem sumT_append (l k:List VPlace):sumT (l++k) = sumT l + sumT k:=by
  induction l with
  | nil=>simp [sumT]
  | cons p r ih=>rw [List.cons_append,sumT,sumT,ih]; omega
theorem sumT_len (l:List VPlace):(l.length:Int)≤sumT l:=by
  induction l with
  | nil=>simp [sumT]
  | cons p r ih =>
    have h1:=siz_pos p.v
    rw [sumT,List.length_cons]
    omega
theorem fold_sum:∀ (l:List Val) (p:Int × Int) (a:Int),(foldS l p).2 = p.2 + sumT (l.map fun v=>(⟨v,a⟩:VPlace))
  | [],p,a=>by simp [foldS,sumT]
  | x::r,p,a=>by
    have e:foldS (x::r) p = foldS r (addS p (sizV x)):=rfl
    rw [e,fold_sum r _ a,List.map_cons,sumT]
    exact Int.add_assoc _ _ _
def placesOf (x:VPlace):List VPlace:=(partsOf x.v).map fun v=>(⟨v,x.above + 1⟩:VPlace)
theorem sumT_parts (x:VPlace):sumT (placesOf x) = (sizV x.v).2 - 1:=by
  have:=fold_sum (partsOf x.v) (0,1) (x.above + 1)
  rw [sizV_eq]
  simp only at this ⊢
  rw [this,placesOf]
  omega
theorem vplace_eta (v:Val) (a:Int):(⟨⟨v.kind,v.n,v.f,v.s,v.l,v.e⟩,a⟩:VPlace) = ⟨v,a⟩:=by cases v; rfl
end Go.Ck
end
section
namespace Go.Up
set_option linter.unusedSectionVars false
set_option linter.unusedSimpArgs false
set_option linter.unusedVariables false
open Go.SX Go.Vl Go.Ut Go.Ck
def zeroV:Val:=⟨0,0,0,[],[],[]⟩
def partV (v:Val) (p:PStep):Val × Int :=
  if p.i < 0 then (if v.kind≠6 then (zeroV,10) else if ixI v.e (keyIs p.key) < 0 then (zeroV,8) else ((v.e.getD (ixI v.e (keyIs p.key)).toNat ([],default)).2,0))
  else if v.kind≠5 then (zeroV,10) else if (v.l.length:Int)≤p.i then (zeroV,8) else (v.l.getD p.i.toNat default,0)
theorem ix_bound {l:List Ent} {q:Ent→Bool} (h:¬ ixI l q < 0):0≤ixI l q∧(ixI l q).toNat < l.length∧ixI l q = ((ixI l q).toNat:Int):=by
  unfold ixI at h ⊢
  split
  · omega
  · rename_i c; rw [if_neg c] at h; omega
def lastU (v:Val) (p:PStep) (o:OpR):Val × Int :=
  if o.kind = 2 then
    (if (partV v p).2 = 10 then (v,10) else if p.i < 0 then (if (partV v p).2 = 0 then (v,9) else ({ v with e:=putE v.e p.key o.v },0)) else if (v.l.length:Int) < p.i then (v,8) else ({ v with l:=v.l.take p.i.toNat++o.v::v.l.drop p.i.toNat },0))
  else if (partV v p).2≠0 then (v,(partV v p).2)
  else if o.kind = 3 then (if p.i < 0 then ({ v with e:=withoutE v.e p.key },0) else ({ v with l:=v.l.take p.i.toNat++v.l.drop (p.i.toNat + 1) },0))
  else if ¬ p.i < 0 then (v,10) else if o.key≠p.key∧0≤ixI v.e (keyIs o.key) then (v,9) else ({ v with e:=putE (withoutE v.e p.key) o.key (partV v p).1 },0)
end Go.Up
end
section
namespace Go.Up
set_option linter.unusedSectionVars false
set_option linter.unusedSimpArgs false
set_option linter.unusedVariables false
open Go.SX Go.Vl Go.Ut Go.Ck
end Go.Up
end
section
namespace Go.Up
set_option linter.unusedSectionVars false
set_option linter.unusedSimpArgs false
set_option linter.unusedVariables false
open Go.SX Go.Vl Go.Ut Go.Ck
theorem partV_in {v:Val} {p:PStep} (h:(partV v p).2 = 0):(partV v p).1 ∈ partsOf v:=by
  unfold partV at h ⊢
  split
  · rename_i c
    rw [if_pos c] at h
    split
    · rename_i d; rw [if_pos d] at h; exact absurd h (by decide)
    · rename_i d
      rw [if_neg d] at h
      split
      · rename_i e; rw [if_pos e] at h; exact absurd h (by decide)
      · rename_i e
        have hb:=(ix_bound e).2.1
        refine List.mem_append_right _ (List.mem_map.2 ⟨v.e[(ixI v.e (keyIs p.key)).toNat],List.getElem_mem hb,?_⟩)
        simp only
        rw [List.getD_eq_getElem?_getD,List.getElem?_eq_getElem hb]
        rfl
  · rename_i c
    rw [if_neg c] at h
    split
    · rename_i d; rw [if_pos d] at h; exact absurd h (by decide)
    · rename_i d
      rw [if_neg d] at h
      split
      · rename_i e; rw [if_pos e] at h; exact absurd h (by decide)
      · rename_i e
        have hb:p.i.toNat < v.l.length:=by omega
        refine List.mem_append_left _ ?_
        simp only
        rw [List.getD_eq_getElem?_getD,List.getElem?_eq_getElem hb]
        exact List.getElem_mem hb
end Go.Up
end
section
namespace Go.SX
open Go.RowKit Go.WideShapes Go.ChangeShapes
theorem Stp.below {w w':World} (h:Stp (fun _=>False) w w'):Below w.heap.size w w':=⟨h.os,h.tape,h.output,h.size,fun k hk=>h.block k hk (fun f=>f)⟩
section
variable {H:Type} {enc:TypeId × Value→H} {P:Program}
theorem post_of_below {f : Func} {s : ChangeSpec} {apart fresh handsOn again : Bool} {W W' : World} {args : Array Value} {v : Value} {ds gs : List (DataW H)} {before pa pv : List MemPlace}
    (hW:DataW.Whole enc P f.params.toList s.vars apart W args.toList ds gs before)
    (hres:∀ (b:Nat) (sp:Nat→Bool) (hd:Bool),DataW.TrodAll enc P W' b sp hd f.resultTypes.toList (v.resultList f.resultTypes.size) (s.fn H (ds++gs)).results [])
    (hargs:∀ sp:Nat→Bool,(∀ p ∈ before,sp p.block = true)→DataW.TrodAll enc P W' 0 sp true f.params.toList args.toList (s.fn H (ds++gs)).args pa)
    (hvars:∀ sp:Nat→Bool,(∀ p ∈ before,sp p.block = true)→DataW.TrodVars enc P W' sp s.vars (s.fn H (ds++gs)).vars pv)
    (hps:before = pa++pv) (hb:Below W.heap.size W W')
    (hok:∀ (j:Nat) (t:TypeId) (r:Value),f.resultTypes[j]? = some t→(v.resultList f.resultTypes.size)[j]? = some r→Value.okWide P W' .any 0 t r) :
    s.post enc P f apart fresh handsOn again W args v W':=by
  have hlt:∀ p ∈ before,p.block < W.heap.size:=fun p hp=>hW.lt p hp
  have hold:∀ p ∈ before,(fun b=>decide (b < W.heap.size)) p.block = true:=fun p hp=>by simpa using hlt p hp
  refine ⟨ds,gs,before,[],pa,pv,hW,hres _ _ _,hargs _ hold,hvars _ hold,World.keptBut_mono (fun p hp=>⟨hp,?_⟩) (hb.frame (· ∈ before)),fun _=>?_⟩
  · rw [hps,List.mem_append] at hp
    exact Or.inr hp
  · obtain ⟨_,_,_,_,_,hz,hn⟩:=hW
    refine ⟨hok,_,_,([]++pa)++pv,⟨[]++pa,pv,trodAll_append (hargs _ (fun _ _=>rfl)) (hres _ _ _),hvars _ (fun _ _=>rfl),rfl,?_,?_⟩,?_⟩
    · intro b off hp
      have hin:MemPlace.cell b off ∈ before:=by rw [hps]; simpa using hp
      rw [hb.frozen (hlt _ hin)]
      exact hz b off hin
    · intro ha
      have:=hn ha
      rw [hps] at this
      simpa using this
    · intro p hp _
      rw [hps]
      simpa using hp
end
end Go.SX
end
section
namespace Go.SX
set_option linter.unusedSectionVars false
variable [Globs]
open Go.RowKit Go.WideShapes Go.ChangeShapes Go.Deep
theorem mapM_at {α β:Type} {f:α→Option β}:∀ {l:List α} {r:List β},l.mapM f = some r→r.length = l.length∧∀ (j:Nat) x,l[j]? = some x→f x = r[j]?:=by
  intro l
  induction l with
  | nil=>intro r h; simp at h; subst h; exact ⟨rfl,fun j x h=>by simp at h⟩
  | cons a l ih =>
    intro r h
    simp only [List.mapM_cons,Option.bind_eq_bind,Option.bind_eq_some_iff] at h
    obtain ⟨b,hb,bs,hbs,h⟩:=h
    have h:b::bs = r:=by injection h
    subst h
    obtain ⟨h1,h2⟩:=ih hbs
    refine ⟨by simp [h1],fun j x hx=>?_⟩
    cases j with
    | zero=>simp at hx; subst hx; simpa using hb
    | succ j=>simpa using h2 j x (by simpa using hx)
section
variable {H:Type} {encH:TypeId × Value→H} {P:Program} {W:World} {sp:Nat→Bool} {hd:Bool} {O:Nat→Prop}

theorem cells_get {w:World} {base:Nat} {a:Addr} {n:Nat} {cs:List Value} (h:w.cells? base a n = some cs):cs.length = n∧∀ (j:Nat) v,cs[j]? = some v→w.cell? (a.add j) = some v:=by
  unfold World.cells? at h
  split at h
  · obtain ⟨h1,h2⟩:=mapM_at h
    rw [List.length_range] at h1
    refine ⟨h1,fun j v hv=>?_⟩
    have hj:j < n:=by rw [← h1]; exact (List.getElem?_eq_some_iff.1 hv).1
    rw [h2 j j (by simp [hj]),hv]
  · cases h
theorem add_of {a:Addr} {n:Nat} (h:(a.add n).spot = none):a.add n = ⟨a.block,a.off + n,none⟩:=by
  unfold Addr.add at h ⊢
  split
  · rename_i h0
    rw [if_pos h0] at h
    obtain ⟨b,o,s⟩:=a
    simp only at h
    subst h h0
    rfl
  · rfl
theorem arg_int {t:TypeId} {k:IntKind} {fuel:Nat} {cs:List Value} {x:DataW H × List MemPlace} (ht:P.underlying t = some (.int k)) (h:DataW.trod encH P W 0 sp hd fuel t cs = some x):∃ n,cs = [.int k n]∧Im O W (.i k n) (.int k n)∧(Lit.int k n).wf = true:=by
  obtain ⟨n,h1,_,h2⟩:=DataW.trod_int ht h
  exact ⟨n,h1,.i k n,h2⟩
end
theorem wf_i64 {n:Int} (h:(Lit.int .i64 n).wf = true):(-9223372036854775808:Int)≤n∧n≤(9223372036854775807:Int):=by
  simp only [Lit.wf,Bool.and_eq_true,decide_eq_true_eq] at h; exact h
theorem wf_u64 {n:Int} (h:(Lit.int .u64 n).wf = true):(0:Int)≤n∧n≤(18446744073709551615:Int):=by
  simp only [Lit.wf,Bool.and_eq_true,decide_eq_true_eq] at h; exact h
end Go.SX
end
section
namespace Go.SX
set_option linter.unusedSectionVars false
variable [Globs]
open Go.RowKit Go.WideShapes Go.ChangeShapes Go.Deep
section
variable {H:Type} {encH:TypeId × Value→H} {P:Program} {W:World} {sp:Nat→Bool} {hd:Bool} {O:Nat→Prop}
end
end Go.SX
end
section
namespace Go.SX
set_option linter.unusedSectionVars false
variable [Globs]
open Go.RowKit Go.WideShapes Go.ChangeShapes Go.Deep
inductive VB:Val→Prop
  | mk (v:Val):(-9223372036854775808≤v.kind∧v.kind≤9223372036854775807)→(-9223372036854775808≤v.n∧v.n≤9223372036854775807)→(0≤v.f∧v.f≤18446744073709551615)→(∀ x ∈ v.l,VB x)→(∀ p ∈ v.e,VB p.2)→VB v
section
variable {H:Type} {encH:TypeId × Value→H} {P:Program} {W:World} {sp:Nat→Bool} {hd:Bool} {O:Nat→Prop}
def HasF (fs:Array Field) (i off:Nat) (t:TypeId):Prop:=∃ f,fs[i]? = some f∧f.offset = off∧f.type = t
structure VTy (P:Program) (V:TypeId) where
  (fs gs:Array Field) (K N U S L E En:TypeId)
  hV:P.underlying V = some (.struct fs)
  cV:P.cellsOf V = 6
  h0:HasF fs 0 0 K
  h1:HasF fs 1 1 N
  h2:HasF fs 2 2 U
  h3:HasF fs 3 3 S
  h4:HasF fs 4 4 L
  h5:HasF fs 5 5 E
  uK:P.underlying K = some (.int .i64)
  uN:P.underlying N = some (.int .i64)
  uU:P.underlying U = some (.int .u64)
  uS:P.underlying S = some .string
  uL:P.underlying L = some (.slice V)
  uE:P.underlying E = some (.slice En)
  c:P.cellsOf K = 1∧P.cellsOf N = 1∧P.cellsOf U = 1∧P.cellsOf S = 1∧P.cellsOf L = 1∧P.cellsOf E = 1
  hE:P.underlying En = some (.struct gs)
  cE:P.cellsOf En = 7
  g0:HasF gs 0 0 S
  g1:HasF gs 1 1 V
structure MTy (P:Program) (M:TypeId) where
  (fs:Array Field) (K Q S V:TypeId) (T:VTy P V)
  hM:P.underlying M = some (.struct fs)
  cM:P.cellsOf M = 10
  h0:HasF fs 0 0 K
  h1:HasF fs 1 1 Q
  h2:HasF fs 2 2 S
  h3:HasF fs 3 3 S
  h4:HasF fs 4 4 V
  uK:P.underlying K = some (.int .i64)
  uQ:P.underlying Q = some (.slice S)
  uS:P.underlying S = some .string
  c:P.cellsOf K = 1∧P.cellsOf Q = 1∧P.cellsOf S = 1
structure KTy (P:Program) (L:TypeId) where
  (fs:Array Field) (K Q M:TypeId) (T:MTy P M)
  hL:P.underlying L = some (.struct fs)
  cL:P.cellsOf L = 3
  h0:HasF fs 0 0 K
  h1:HasF fs 1 1 K
  h2:HasF fs 2 2 Q
  uK:P.underlying K = some (.int .i64)
  uQ:P.underlying Q = some (.slice M)
  c:P.cellsOf K = 1∧P.cellsOf Q = 1
end
end Go.SX
end
section
namespace Go.SX
set_option linter.unusedSectionVars false
set_option linter.unusedVariables false
set_option linter.unusedSimpArgs false
open Go.RowKit Go.WideShapes Go.ChangeShapes Go.Deep
structure BulkS {H:Type} (bk:DataW H→Nat):Prop where
  sl:∀ els rest,(els.map bk).sum + 1≤bk (.slice els rest)
  ag:∀ ds,(ds.map bk).sum + 1≤bk (.agg ds)
  st:∀ b,b.length + 1≤bk (.lit (.string b))
  pos:∀ d,1≤bk d
/-! the bulk of a value -/
mutual
def bkV:Val→Nat
  | ⟨_,_,_,s,l,e⟩=>s.length + bkL l + bkE e + 7
def bkL:List Val→Nat
  | []=>0
  | x::xs=>bkV x + bkL xs
def bkE:List (Str × Val)→Nat
  | []=>0
  | x::xs=>bkP x + bkE xs
def bkP:Str × Val→Nat
  | (k,x)=>k.length + bkV x + 2
end
theorem bkL_sum (l:List Val):bkL l = (l.map bkV).sum:=by
  induction l with
  | nil=>rfl
  | cons x r ih=>rw [bkL,List.map_cons,List.sum_cons,ih]
theorem bkE_sum (l:List (Str × Val)):bkE l = (l.map bkP).sum:=by
  induction l with
  | nil=>rfl
  | cons x r ih=>rw [bkE,List.map_cons,List.sum_cons,ih]
theorem bkV_eq (v:Val):bkV v = v.s.length + (v.l.map bkV).sum + (v.e.map bkP).sum + 7:=by
  cases v
  rw [bkV,bkL_sum,bkE_sum]
theorem bkP_eq (p:Str × Val):bkP p = p.1.length + bkV p.2 + 2:=by
  cases p
  rw [bkP]
theorem sum_mem {α:Type} {m:α→Nat}:∀ {l:List α} {x:α},x ∈ l→m x≤(l.map m).sum
  | y::r,x,h=>by
    rw [List.map_cons,List.sum_cons]
    rcases List.mem_cons.1 h with rfl | h
    · omega
    · have:=sum_mem (m:=m) h
      omega
theorem sum_len {α:Type} {m:α→Nat} (h1:∀ x,1≤m x):∀ l:List α,l.length≤(l.map m).sum
  | []=>Nat.zero_le _
  | x::r=>by
    have:=sum_len h1 r
    have:=h1 x
    rw [List.map_cons,List.sum_cons,List.length_cons]
    omega
theorem sum_le2 {α β:Type} {m:α→Nat} {k:β→Nat}:∀ {l:List α} {r:List β},l.length = r.length→(∀ (i:Nat) x y,l[i]? = some x→r[i]? = some y→m x≤k y)→(l.map m).sum≤(r.map k).sum
  | [],_,_,_=>Nat.zero_le _
  | x::l,[],h,_=>nomatch h
  | x::l,y::r,h,hh=>by
    have h1:=hh 0 x y rfl rfl
    have h2:=sum_le2 (m:=m) (k:=k) (l:=l) (r:=r) (by simpa using h) (fun i a b ha hb=>hh (i + 1) a b (by simpa using ha) (by simpa using hb))
    rw [List.map_cons,List.sum_cons,List.map_cons,List.sum_cons]
    omega
theorem bkV_pos (v:Val):1≤bkV v:=by rw [bkV_eq]; omega
theorem bkP_pos (p:Str × Val):1≤bkP p:=by rw [bkP_eq]; omega
theorem bkV_mem {v x:Val} (h:x ∈ v.l):bkV x < bkV v:=by
  have:=sum_mem (m:=bkV) h
  rw [bkV_eq v]
  omega
theorem bkV_ent {v:Val} {p:Str × Val} (h:p ∈ v.e):bkV p.2 + p.1.length < bkV v:=by
  have:=sum_mem (m:=bkP) h
  rw [bkP_eq] at this
  rw [bkV_eq v]
  omega
theorem bkV_len (v:Val):v.s.length + v.l.length + v.e.length < bkV v:=by
  have h1:=sum_len (m:=bkV) bkV_pos v.l
  have h2:=sum_len (m:=bkP) bkP_pos v.e
  rw [bkV_eq v]
  omega
section
variable [Globs]
variable {H:Type} {encH:TypeId × Value→H} {P:Program} {W:World} {sp:Nat→Bool} {hd:Bool} {O:Nat→Prop} {bk:DataW H→Nat}
theorem arg_sliceS {t e : TypeId} {τ : Ty} {m : den τ → Nat} {R : den τ → Prop} (hbk : BulkS bk) (hO : ∀ k, ¬ O k) (ht : P.underlying t = some (.slice e)) (hc : P.cellsOf e = esz τ) {fuel : Nat}
    (hel:∀ n,n < fuel→∀ (cs:List Value) (x:DataW H × List MemPlace),DataW.trod encH P W 0 sp hd n e cs = some x→∃ y:den τ,All2 (Im O W) (enc τ y) cs∧m y≤bk x.1∧R y)
    {cs:List Value} {x:DataW H × List MemPlace} (h:DataW.trod encH P W 0 sp hd fuel t cs = some x):∃ (l:List (den τ)) (v:Value),cs = [v]∧Im O W (.rd τ l) v∧(l.map m).sum + 1≤bk x.1∧∀ y ∈ l,R y:=by
  rcases DataW.trod_slice ht h with ⟨rfl,rfl⟩ | ⟨a,len,cap,elems,rest,n,rfl,rfl,rfl,hb,hlc,hcm,hlen,hall,_,_⟩
  · exact ⟨[],_,rfl,.rd0 τ none 0 (Nat.zero_le _),by simpa using hbk.pos _,fun y hy=>nomatch hy⟩
  by_cases h0:len = 0
  · subst h0; exact ⟨[],_,rfl,.rd0 τ _ _ hcm,by simpa using hbk.pos _,fun y hy=>nomatch hy⟩
  have hall:∀ i,i < len→∃ (us:List Value) (y:DataW H × List MemPlace),W.cells? 0 (a.add (i * P.cellsOf e)) (P.cellsOf e) = some us∧DataW.trod encH P W 0 sp hd n e us = some y∧elems[i]? = some y:=fun i hi=>by
    have:=hall i hi
    rw [List.getElem?_eq_getElem (by omega)] at this
    obtain ⟨us,h1,h2⟩:=Option.bind_eq_some_iff.1 this
    exact ⟨us,_,h1,h2,List.getElem?_eq_getElem _⟩
  have hch:∀ i,i < len→∃ (y:den τ) (us:List Value),(All2 (Im O W) (enc τ y) us∧(∀ d,elems[i]? = some d→m y≤bk d.1)∧R y)∧us.length = esz τ∧∀ (j:Nat) v,us[j]? = some v→W.cell? ⟨a.block,a.off + (i * esz τ + j),none⟩ = some v:=by
    intro i hi
    obtain ⟨us,yy,h1,h2,hm⟩:=hall i hi
    obtain ⟨y,hy⟩:=hel n (Nat.lt_succ_self n) _ _ h2
    rw [hc] at h1
    obtain ⟨h3,h4⟩:=cells_get h1
    refine ⟨y,us,⟨hy.1,fun d hd=>?_,hy.2.2⟩,h3,fun j v hv=>?_⟩
    · rw [hm] at hd
      injection hd with hd
      subst hd
      exact hy.2.1
    have h5:=h4 j v hv
    have hs:∀ j v,us[j]? = some v→((a.add (i * esz τ)).add j).spot = none:=fun j v hv=>World.cell?_spot (h4 j v hv)
    have hpos:=esz_pos τ
    have h00:(a.add (i * esz τ)).spot = none:=by
      have:=hs 0 (us[0]'(by omega)) (List.getElem?_eq_getElem _)
      simpa [Addr.add] using this
    have e1:=add_of h00
    rw [e1] at h5
    rw [add_none] at h5
    rw [← h5,Nat.add_assoc]
  have ys:∃ l:List (den τ),l.length = len∧∀ (i:Nat) y,l[i]? = some y→∃ us:List Value,(All2 (Im O W) (enc τ y) us∧(∀ d,elems[i]? = some d→m y≤bk d.1)∧R y)∧∀ (j:Nat) v,us[j]? = some v→W.cell? ⟨a.block,a.off + (i * esz τ + j),none⟩ = some v:=by
    have hch':=fun (i:Fin len)=>hch i.1 i.2
    refine ⟨List.ofFn fun i:Fin len=>Classical.choose (hch' i),by simp,fun i y hy=>?_⟩
    have hi:i < len:=by have:=(List.getElem?_eq_some_iff.1 hy).1; simpa using this
    rw [List.getElem?_ofFn,dif_pos hi] at hy
    injection hy with hy
    subst hy
    obtain ⟨us,h1,_,h2⟩:=Classical.choose_spec (hch' ⟨i,hi⟩)
    exact ⟨us,h1,h2⟩
  obtain ⟨l,hll,hl⟩:=ys
  refine ⟨l,_,rfl,?_,?_,fun y hy=>?_⟩
  rotate_left
  · have h1:=hbk.sl (elems.map (·.1)) (rest.map (·.1))
    have h2:(l.map m).sum≤((elems.map (·.1)).map bk).sum:=sum_le2 (by rw [List.length_map]; omega) fun i y d hy hd=>by
      obtain ⟨us,h3,_⟩:=hl i y hy
      rw [List.getElem?_map,Option.map_eq_some_iff] at hd
      obtain ⟨d',hd',rfl⟩:=hd
      exact h3.2.1 d' hd'
    exact Nat.le_trans (Nat.succ_le_succ h2) h1
  · obtain ⟨i,hi,rfl⟩:=List.getElem_of_mem hy
    obtain ⟨us,h1,_⟩:=hl i _ (List.getElem?_eq_getElem hi)
    exact h1.2.2
  have hane:a = ⟨a.block,a.off,none⟩:=by
    obtain ⟨us',yy,h1,h2,_⟩:=hall 0 (by omega)
    have hpos:=esz_pos τ
    rw [hc] at h1
    obtain ⟨h5,h6⟩:=cells_get h1
    have:=World.cell?_spot (h6 0 (us'[0]'(by omega)) (List.getElem?_eq_getElem _))
    simp [Addr.add] at this
    obtain ⟨b,o,s⟩:=a
    simp only at this
    subst this
    rfl
  rw [hane,← hll]
  refine .rd τ l a.block a.off cap (fun i j=>(W.cell? ⟨a.block,a.off + (i * esz τ + j),none⟩).getD undef) (hO _) (by omega) hcm (fun e=>h0 (by rw [← hll,e]; rfl)) (fun i y j av hy hav=>?_) (fun i y j av hy hav=>?_)
  · obtain ⟨us,h1,h2⟩:=hl i y hy
    have hj:j < us.length:=by rw [← h1.1.1]; exact (List.getElem?_eq_some_iff.1 hav).1
    rw [h2 j _ (List.getElem?_eq_getElem hj)]; rfl
  · obtain ⟨us,h1,h2⟩:=hl i y hy
    have hj:j < us.length:=by rw [← h1.1.1]; exact (List.getElem?_eq_some_iff.1 hav).1
    rw [h2 j _ (List.getElem?_eq_getElem hj)]
    exact h1.1.2 j av _ hav (List.getElem?_eq_getElem hj)
theorem one_fieldS {t : TypeId} {fs : Array Field} {fuel : Nat} {cs : List Value} {x : DataW H × List MemPlace} (ht : P.underlying t = some (.struct fs)) (h : DataW.trod encH P W 0 sp hd fuel t cs = some x) :
    ∃ (n:Nat) (ds:List (DataW H)),fuel = n + 1∧cs.length = P.cellsOf t∧x.1 = .agg ds∧ds.length = fs.size∧∀ (i off:Nat) (t':TypeId),HasF fs i off t'→∃ y,DataW.trod encH P W 0 sp hd n t' ((cs.drop off).take (P.cellsOf t')) = some y∧ds[i]? = some y.1:=by
  obtain ⟨xs,n,hn,rfl,h1,h2,h3⟩:=DataW.trod_struct ht h
  refine ⟨n,xs.map (·.1),hn,h1,rfl,by rw [List.length_map]; exact h2,fun i off t' hf=>?_⟩
  obtain ⟨f,hf,rfl,rfl⟩:=hf
  have hi:i < xs.length:=by rw [h2]; exact (Array.getElem?_eq_some_iff.1 hf).1
  rw [h3 i f hf,List.getElem?_eq_getElem hi]
  exact ⟨_,rfl,by rw [List.getElem?_map,List.getElem?_eq_getElem hi]; rfl⟩
theorem arg_strS (hbk:BulkS bk) {t:TypeId} {fuel:Nat} {cs:List Value} {x:DataW H × List MemPlace} (ht:P.underlying t = some .string) (h:DataW.trod encH P W 0 sp hd fuel t cs = some x):∃ (l:Str) (v:Value),cs = [v]∧Im O W (.s l) v∧l.length + 1≤bk x.1:=by
  obtain ⟨s,h1,h3,h2⟩:=DataW.trod_string ht h
  refine ⟨s.data.toList,.string s,h1,?_,?_⟩
  · have:=Im.s (O:=O) (w:=W) s.data.toList (by rw [Array.length_toList]; exact h2)
    simpa using this
  · rw [h3]; exact hbk.st _
theorem arg_valS {V:TypeId} (hbk:BulkS bk) (T:VTy P V) (hs:T.fs.size = 6) (hs2:T.gs.size = 2) (hO:∀ k,¬ O k):∀ (fuel:Nat) (cs:List Value) (x:DataW H × List MemPlace),DataW.trod encH P W 0 sp hd fuel V cs = some x→∃ y:Val,All2 (Im O W) (encVal y) cs∧bkV y≤bk x.1∧VB y:=by
  intro fuel
  induction fuel using Nat.strongRecOn with
  | _ fuel ih =>
  intro cs x h
  obtain ⟨n,ds,rfl,hl,hag,hds,hf⟩:=one_fieldS T.hV h
  rw [T.cV] at hl
  rw [hs] at hds
  obtain ⟨c0,c1,c2,c3,c4,c5⟩:=T.c
  match cs,hl,ds,hds with
  | [u0,u1,u2,u3,u4,u5],_,[d0,d1,d2,d3,d4,d5],_ =>
    obtain ⟨y0,q0,k0⟩:=hf 0 0 _ T.h0
    obtain ⟨y1,q1,k1⟩:=hf 1 1 _ T.h1
    obtain ⟨y2,q2,k2⟩:=hf 2 2 _ T.h2
    obtain ⟨y3,q3,k3⟩:=hf 3 3 _ T.h3
    obtain ⟨y4,q4,k4⟩:=hf 4 4 _ T.h4
    obtain ⟨y5,q5,k5⟩:=hf 5 5 _ T.h5
    simp only [List.getElem?_cons_zero,List.getElem?_cons_succ,Option.some.injEq] at k0 k1 k2 k3 k4 k5
    subst k0 k1 k2 k3 k4 k5
    rw [c0] at q0
    rw [c1] at q1
    rw [c2] at q2
    rw [c3] at q3
    rw [c4] at q4
    rw [c5] at q5
    obtain ⟨k,e0,i0,w0⟩:=arg_int (O:=O) T.uK q0
    obtain ⟨m,e1,i1,w1⟩:=arg_int (O:=O) T.uN q1
    obtain ⟨f,e2,i2,w2⟩:=arg_int (O:=O) T.uU q2
    obtain ⟨s,vs,e3,i3,z3⟩:=arg_strS (O:=O) hbk T.uS q3
    obtain ⟨l,vl,e4,i4,z4,r4⟩:=arg_sliceS (O:=O) (τ:=.val) (m:=bkV) (R:=VB) hbk hO T.uL T.cV (fun n' hn cs' x' hx=>ih n' (by omega) cs' x' hx) q4
    obtain ⟨es,ve,e5,i5,z5,r5⟩:=arg_sliceS (O:=O) (τ:=.ent) (m:=bkP) (R:=fun p=>VB p.2) hbk hO T.uE T.cE (fun n' hn cs' x' hx=>by
      obtain ⟨n2,ds2,rfl,hl2,hag2,hds2,hf2⟩:=one_fieldS T.hE hx
      rw [T.cE] at hl2
      rw [hs2] at hds2
      match cs',hl2,ds2,hds2 with
      | [z0,z1,z2,z3,z4,z5,z6],_,[g0,g1],_ =>
        obtain ⟨_,p0,m0⟩:=hf2 0 0 _ T.g0
        obtain ⟨_,p1,m1⟩:=hf2 1 1 _ T.g1
        simp only [List.getElem?_cons_zero,List.getElem?_cons_succ,Option.some.injEq] at m0 m1
        subst m0 m1
        rw [c3] at p0
        rw [T.cV] at p1
        obtain ⟨ks,kv,d0,j0,lk⟩:=arg_strS (O:=O) hbk T.uS p0
        obtain ⟨y,j1,hyb,hy⟩:=ih n2 (by omega) _ _ p1
        simp at d0
        subst d0
        refine ⟨(ks,y),All2.cons j0 (by simpa using j1),?_,hy⟩
        rw [hag2]
        refine Nat.le_trans ?_ (hbk.ag _)
        rw [bkP_eq]
        simp only [List.map_cons,List.map_nil,List.sum_cons,List.sum_nil]
        omega) q5
    simp at e0 e1 e2 e3 e4 e5
    subst e0 e1 e2 e3 e4 e5
    refine ⟨⟨k,m,f,s,l,es⟩,All2.cons i0 (All2.cons i1 (All2.cons i2 (All2.cons i3 (All2.cons i4 (All2.cons i5 (All2.nil _)))))),?_,.mk _ (wf_i64 w0) (wf_i64 w1) (wf_u64 w2) r4 r5⟩
    have h9:=hbk.ag [y0.1,y1.1,y2.1,y3.1,y4.1,y5.1]
    have p0:=hbk.pos y0.1
    have p1:=hbk.pos y1.1
    have p2:=hbk.pos y2.1
    rw [hag]
    refine Nat.le_trans ?_ h9
    rw [bkV_eq]
    simp only [List.map_cons,List.map_nil,List.sum_cons,List.sum_nil]
    omega
end
end Go.SX
end
