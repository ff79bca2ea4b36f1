/-
  Maps of the call's own: made, written, asked.
-/
import Derived.Test.YtjlbaagnoppfgaaSxObK
import Derived.MapKept
namespace Go.SX
set_option linter.unusedSimpArgs false
set_option linter.unusedVariables false
set_option linter.unusedSectionVars false
open Go.MapKept
/-- the keys that are compared at once, and their kinds -/
def keyK : Ty → Option IntKind
  | .int | .i64 | .errno => some .i64
  | .u32 => some .u32
  | .u64 => some .u64
  | .u8 => some .u8
  | .rune => some .i32
  | _ => none
def keyD : TD → Ty → Bool
  | .int k, κ => match keyK κ with
    | some k' => decide (k = k')
    | none => false
  | .str, .str => true
  | .bool, .bool => true
  | _, _ => false
def keq : (κ : Ty) → den κ → den κ → Bool
  | .int, a, b | .i64, a, b | .u32, a, b | .u64, a, b | .u8, a, b | .rune, a, b | .errno, a, b => decide (a = b)
  | .str, a, b => decide (a = b)
  | .bool, a, b => decide (a = b)
  | _, _, _ => false
def mpGet {κ τ : Ty} : List (den κ × den τ) → den κ → Option (den τ)
  | [], _ => none
  | (a, v) :: r, k => bif keq κ k a then some v else mpGet r k
def mpSet {κ τ : Ty} : List (den κ × den τ) → den κ → den τ → List (den κ × den τ)
  | [], k, v => [(k, v)]
  | (a, u) :: r, k, v => bif keq κ k a then (k, v) :: r else (a, u) :: mpSet r k v
theorem mpSet_len {κ τ : Ty} (es : List (den κ × den τ)) (k : den κ) (v : den τ) : (mpSet es k v).length ≤ es.length + 1 := by
  induction es with
  | nil => simp [mpSet]
  | cons p r ih =>
    obtain ⟨a, u⟩ := p
    simp only [mpSet]
    cases keq κ k a <;> simp <;> omega
def mapTK : TD → (Nat → Nat → Prop) → Prop
  | .mp k e, K => K k e
  | _, _ => False
variable [Globs]
section
variable {P : Program} {N : Nat} {Γ : Ctx} {W0 : World} {F : Fr} {X : Nat → Prop} {s : St} {β : Nat → Option Nat} {a : Act} {w : World}
theorem mapT_ok {t : Nat} {ti : TI} (hti : ti.ok P t) {K : Nat → Nat → Prop} (h : mapTK ti.desc K) : ∃ k e, K k e ∧ P.underlying t = some (.map k e) := by
  obtain ⟨de, h1, h2⟩ := hti.desc
  cases hd : ti.desc with
  | mp k e => rw [hd] at h h2; exact ⟨k, e, h, (show de = .map k e from h2) ▸ h1⟩
  | _ => rw [hd] at h; exact h.elim
/-- a key in a cell, of a kind -/
theorem key_kind {O : Nat → Prop} {t : Nat} {ti : TI} (hti : ti.ok P t) {κ : Ty} (h : keyD ti.desc κ = true) : ∃ d, P.underlying t = some d ∧
    (∀ (k : den κ) u, All2 (Im O w) (enc κ k) [u] → IsKey d u) ∧ ∀ (k k' : den κ) u u', All2 (Im O w) (enc κ k) [u] → All2 (Im O w) (enc κ k') [u'] → Instr.sameNow d u u' = some (keq κ k k') := by
  obtain ⟨de, h1, h2⟩ := hti.desc
  refine ⟨de, h1, ?_⟩
  cases hd : ti.desc with
  | int k =>
    rw [hd] at h h2
    obtain rfl := (show de = .int k from h2)
    have fin : ∀ (e : den κ → Int), (∀ x : den κ, enc κ x = [.i k (e x)]) → (∀ x y, keq κ x y = decide (e x = e y)) → (∀ (k_1 : den κ) u, All2 (Im O w) (enc κ k_1) [u] → IsKey (.int k) u) ∧
        ∀ (k_1 k' : den κ) u u', All2 (Im O w) (enc κ k_1) [u] → All2 (Im O w) (enc κ k') [u'] → Instr.sameNow (.int k) u u' = some (keq κ k_1 k') := by
      intro e he hq
      have inv : ∀ x u, All2 (Im O w) (enc κ x) [u] → u = .int k (e x) := fun x u hu => by
        rw [he] at hu
        have := hu.head
        cases this
        rfl
      refine ⟨fun x u hu => by rw [inv x u hu]; simp [IsKey], fun x y u u' hu hu' => ?_⟩
      rw [inv x u hu, inv y u' hu', hq]
      simp only [Instr.sameNow, if_true]
      congr 1
    cases κ <;> simp [keyD, keyK] at h <;> subst h <;> exact fin (fun x => x) (fun _ => rfl) (fun _ _ => rfl)
  | str =>
    rw [hd] at h h2
    obtain rfl := (show de = .string from h2)
    cases κ <;> simp [keyD] at h
    have inv : ∀ (x : Str) u, All2 (Im O w) (enc .str x) [u] → u = .string ⟨x.toArray⟩ := fun x u hu => by
      have := hu.head
      cases this
      rfl
    refine ⟨fun x u hu => by rw [inv x u hu]; simp [IsKey], fun x y u u' hu hu' => ?_⟩
    rw [inv x u hu, inv y u' hu']
    simp only [Instr.sameNow]
    congr 1
    rw [Bool.eq_iff_iff, bytes_beq]
    show _ ↔ decide (x = y) = true
    rw [decide_eq_true_eq, beq_iff_eq]
  | bool =>
    rw [hd] at h h2
    obtain rfl := (show de = .bool from h2)
    cases κ <;> simp [keyD] at h
    have inv : ∀ (x : Bool) u, All2 (Im O w) (enc .bool x) [u] → u = .bool x := fun x u hu => by
      have := hu.head
      cases this
      rfl
    refine ⟨fun x u hu => by rw [inv x u hu]; simp [IsKey], fun x y u u' hu hu' => ?_⟩
    rw [inv x u hu, inv y u' hu']
    simp only [Instr.sameNow]
    congr 1
  | _ => rw [hd] at h; cases h
abbrev EntAt (O : Nat → Prop) (w : World) (κ τ : Ty) (p : den κ × den τ) (e : MapEntry) : Prop := All2 (Im O w) (enc κ p.1) [e.key] ∧ All2 (Im O w) (enc τ p.2) [e.val]
/-- what is found -/
theorem find_mp {O : Nat → Prop} {κ τ : Ty} {d : TypeDesc} {k : den κ} {u : Value} (hs : ∀ (k k' : den κ) u u', All2 (Im O w) (enc κ k) [u] → All2 (Im O w) (enc κ k') [u'] → Instr.sameNow d u u' = some (keq κ k k'))
    (hu : All2 (Im O w) (enc κ k) [u]) : ∀ (es : List (den κ × den τ)) (ents : List MapEntry) (i : Nat), All2 (EntAt O w κ τ) es ents →
      (Instr.findNow d u ents i = some none ∧ mpGet es k = none ∧ ∀ v, mpSet es k v = es ++ [(k, v)]) ∨
      ∃ j e x, Instr.findNow d u ents i = some (some (i + j, e.val)) ∧ ents[j]? = some e ∧ mpGet es k = some x ∧ All2 (Im O w) (enc τ x) [e.val] ∧ Instr.sameNow d u e.key = some true ∧ ∀ v, mpSet es k v = es.set j (k, v) := by
  intro es
  induction es with
  | nil =>
    intro ents i h
    have := h.1
    have : ents = [] := List.eq_nil_of_length_eq_zero (by simpa using this.symm)
    subst this
    exact .inl ⟨rfl, rfl, fun _ => rfl⟩
  | cons p r ih =>
    intro ents i h
    obtain ⟨x, y⟩ := p
    obtain ⟨e, ents, rfl, he, ht⟩ := h.cons_inv
    have hk := hs k x u e.key hu he.1
    cases hq : keq κ k x with
    | true =>
      rw [hq] at hk
      exact .inr ⟨0, e, y, by simp [Instr.findNow, hk], rfl, by simp [mpGet, hq], he.2, hk, fun v => by simp [mpSet, hq]⟩
    | false =>
      rw [hq] at hk
      rcases ih ents (i + 1) ht with ⟨h1, h2, h3⟩ | ⟨j, e', z, h1, h2, h3, h4, h5, h6⟩
      · exact .inl ⟨by simp [Instr.findNow, hk, h1], by simp [mpGet, hq, h2], fun v => by simp [mpSet, hq, h3]⟩
      · exact .inr ⟨j + 1, e', z, by simp [Instr.findNow, hk, h1]; omega, by simpa using h2, by simp [mpGet, hq, h3], h4, h5, fun v => by simp [mpSet, hq, h6]⟩

/-! ### a map is made -/
def mkMapK (Γ : Ctx) (N : Nat) (s : St) (t : TypeId) (dst : Option Nat) (K : St → Prop) : Prop :=
  tiK Γ t fun ti => mapTK ti.desc fun k e => tiK Γ k fun tk => tiK Γ e fun te => tyK tk.ty fun κ => tyK te.ty fun τ => optK dst fun d => stFrzK d s fun s => stPutK N s (some d) (.ob d d (.mp κ τ [])) K
theorem mkMap_ok (hΓ : Γ.ok P) (hI : InvB W0 F X N s β a w) {o : Oper} {t : TypeId} (ho : o.op = .makeMap t none) {K : St → Prop} (h : mkMapK Γ N s t o.dst K)
    {next : Act → World → Prop} {Q : Exit → Act → World → Prop} (hn : ∀ s' a' w', K s' → Inv W0 F X N s' a' w' → next a' w') : o.wp P a w next Q := by
  obtain ⟨ti, hti, h⟩ := tiK_ok hΓ h
  obtain ⟨k, e, h, hu⟩ := mapT_ok hti h
  obtain ⟨tk, htk, h⟩ := tiK_ok hΓ h
  obtain ⟨te, hte, h⟩ := tiK_ok hΓ h
  obtain ⟨κ, hκ, h⟩ := (tyK_iff _ _).1 h
  obtain ⟨τ, hτ, h⟩ := (tyK_iff _ _).1 h
  obtain ⟨d, hd, h⟩ := (optK_iff _ _).1 h
  rw [stFrzK_eq] at h
  have hI1 := hI.frz d
  obtain ⟨hK, hdN⟩ := stPut_inv h
  have hI2 := hI1.newOb (hdN d rfl) (not_frz s d) (not_frz s d) (Stp.alloc w (.map #[] 0)) (Nat.le_refl _) (by simp) (o := .mp κ τ []) (u := .map (some w.heap.size)) (fun O' =>
    ⟨w.heap.size, #[], 0, by simp [setβ], rfl, heap_alloc_new w _, by simp, All2.nil _⟩)
  refine wp_val (u := .map (some w.heap.size)) (w' := w.alloc (.map #[] 0)) ?_ (by rw [hd]; exact hn _ _ _ hK ⟨_, hI2⟩)
  simp [execOp, ho, Instr.makeMap, newObj]
  rfl

/-! ### a map is asked -/
def oneK : List AV → (AV → Prop) → Prop
  | [v], K => K v
  | _, _ => False
theorem oneK_iff (l : List AV) (K : AV → Prop) : oneK l K ↔ ∃ v, l = [v] ∧ K v := by
  cases l with
  | nil => simp [oneK]
  | cons v r => cases r <;> simp [oneK]
def mpK (v : AV) (K : (id : Nat) → (κ τ : Ty) → List (den κ × den τ) → Prop) : Prop := match v with
  | .ob id id2 (.mp κ τ es) => chkK (Nat.beq id id2) (K id κ τ es)
  | _ => False
theorem mpK_inv {v : AV} {K : (id : Nat) → (κ τ : Ty) → List (den κ × den τ) → Prop} (h : mpK v K) : ∃ id κ τ es, v = .ob id id (.mp κ τ es) ∧ K id κ τ es := by
  cases v with
  | ob id id2 o =>
    cases o with
    | mp κ τ es =>
      obtain ⟨he, h'⟩ := (chkK_iff _ _).1 (show chkK (Nat.beq id id2) (K id κ τ es) from h)
      have := Nat.eq_of_beq_eq_true he
      subst this
      exact ⟨id, κ, τ, es, rfl, h'⟩
    | _ => exact h.elim
  | _ => exact h.elim
def mapLookK (Γ : Ctx) (N : Nat) (s : St) (t : TypeId) (x i : Operand) (ok : Bool) (dst : Option Nat) (K : St → Prop) : Prop :=
  evK s x fun m => mpK m fun _ κ τ es => evK s i fun kv => tiK Γ t fun ti => mapTK ti.desc fun kt et => tiK Γ kt fun tk => tiK Γ et fun te => chkK (keyD tk.desc κ) (chkK (!isStruct te.desc) (optK (dec κ [kv]) fun k => ofValsK te.zero fun zs => optK (dec τ zs) fun z =>
    oneK (enc τ ((mpGet es k).getD z)) fun v => match ok with
      | true => stPutK N s dst (.tup [v, .b (mpGet es k).isSome]) K
      | false => stPutK N s dst v K))
theorem plain_of_le {c e : AV} (h : AVle c e) (he : e.plain = true) : c.plain = true := by
  rcases h with rfl | ⟨rfl, _⟩
  · exact he
  · rfl
theorem dec_im {O : Nat → Prop} {κ : Ty} {c : AV} {k : den κ} {u : Value} (h : dec κ [c] = some k) (hr : Rel β O w c u) : All2 (Im O w) (enc κ k) [u] := by
  have hle := dec_le h
  have hpl : c.plain = true := by
    cases he : enc κ k with
    | nil => rw [he] at hle; exact hle.elim
    | cons e r =>
      rw [he] at hle
      exact plain_of_le hle.1 (enc_plain κ k e (by rw [he]; exact List.mem_cons_self ..))
  have hc : Im O w c u := by cases c <;> first | exact hr | cases hpl
  exact all_le (All2.cons hc (All2.nil _)) hle
theorem one_im {O : Nat → Prop} {τ : Ty} {x : den τ} {v : AV} {u : Value} (h : enc τ x = [v]) (hr : All2 (Im O w) (enc τ x) [u]) : Im O w v u := by
  rw [h] at hr
  exact hr.head
theorem one_plain {τ : Ty} {x : den τ} {v : AV} (h : enc τ x = [v]) : v.plain = true := enc_plain τ x v (by rw [h]; exact List.mem_cons_self ..)
theorem mapLook_ok (hΓ : Γ.ok P) (hI : InvB W0 F X N s β a w) {o : Oper} {t : TypeId} {x i : Operand} {ok : Bool} (ho : o.op = .lookup t x i ok) {K : St → Prop} (h : mapLookK Γ N s t x i ok o.dst K)
    {next : Act → World → Prop} {Q : Exit → Act → World → Prop} (hn : ∀ s' a' w', K s' → Inv W0 F X N s' a' w' → next a' w') : o.wp P a w next Q := by
  unfold mapLookK at h
  rw [evK_eq] at h
  obtain ⟨id, κ, τ, es, hx, h⟩ := mpK_inv h
  rw [evK_eq] at h
  have hrx := (ev_rel hI x).1
  have hri := (ev_rel hI i).1
  obtain ⟨ti, hti, h⟩ := tiK_ok hΓ h
  obtain ⟨kt, et, h, hu⟩ := mapT_ok hti h
  obtain ⟨tk, htk, h⟩ := tiK_ok hΓ h
  obtain ⟨te, hte, h⟩ := tiK_ok hΓ h
  obtain ⟨hkd, h⟩ := (chkK_iff _ _).1 h
  obtain ⟨hns, h⟩ := (chkK_iff _ _).1 h
  obtain ⟨k, hk, h⟩ := (optK_iff _ _).1 h
  rw [ofValsK_eq] at h
  obtain ⟨z, hz, h⟩ := (optK_iff _ _).1 h
  obtain ⟨v, hv, h⟩ := (oneK_iff _ _).1 h
  rw [hx] at hrx
  obtain ⟨g, ents, clock, hg, hxe, hh, _, hall⟩ := (show ObAt β (Own X s β) w id id (.mp κ τ es) (a.eval x) from hrx)
  obtain ⟨d, hd, hkey, hsame⟩ := key_kind (w := w) (O := Own X s β) htk hkd
  have hki := dec_im hk hri
  have hfind := find_mp hsame hki es ents.toList 0 hall
  obtain ⟨zv, hzr, hzc⟩ := hte.zeroValue w
  have hchk := run_checkKey (P := P) (w := w) hd (hkey k _ hki) ents.isEmpty 9999
  -- the value found, or zero
  have hval : ∃ u, (Instr.lookup t (a.eval x) (a.eval i) ok).run P w = .ok (if ok then .tuple #[u, .bool (mpGet es k).isSome] else u) w ∧ Im (Own X s β) w v u := by
    rcases hfind with ⟨h1, h2, _⟩ | ⟨j, e, y, h1, h2, h3, h4, _, _⟩
    · have hfk := run_findKey (P := P) (w := w) hd h1
      have hzim : All2 (Im (Own X s β) w) (enc τ z) te.zero := by
        refine all_le ?_ (dec_le hz)
        have : ∀ l : List Value, All2 (Im (Own X s β) w) (ofVals l) l := fun l => by
          induction l with
          | nil => exact All2.nil _
          | cons q r ih => exact All2.cons (ofVal_im _ _ _) ih
        exact this _
      rw [h2] at hv
      have hzv : te.zero = [zv] := by
        have h5 := hzim.1
        have hv' : enc τ z = [v] := hv
        rw [hv'] at h5
        obtain ⟨i, hi1, hi2⟩ := hte.one (by simpa using hns)
        match hte0 : te.zero, h5 with
        | [q], _ =>
          rw [hte0] at hi2
          have hq : i.zero = some q := hi2
          have : (zeroValue et).run P w = .ok q w := by simp [zeroValue, typeInfo, hi1, hq]
          rw [this] at hzr
          injection hzr with e1 _
          rw [e1]
      rw [hzv] at hzim
      refine ⟨zv, ?_, one_im (show enc τ z = [v] from hv) hzim⟩
      rw [h2]
      simp only [Instr.lookup, Sem.run_bind, run_underlying hu, Result.andThen_ok, hxe, MapKept.run_getObj_map hh, Sem.run_pure, hchk, hfk, hzr]
      cases ok <;> rfl
    · have hfk := run_findKey (P := P) (w := w) hd h1
      rw [h3] at hv
      refine ⟨e.val, ?_, one_im (show enc τ y = [v] from hv) h4⟩
      rw [h3]
      simp only [Instr.lookup, Sem.run_bind, run_underlying hu, Result.andThen_ok, hxe, MapKept.run_getObj_map hh, Sem.run_pure, hchk, hfk]
      cases ok <;> rfl
  obtain ⟨u, hrun, him⟩ := hval
  have hrun' : (execOp a.eval o).run P w = .ok (.value (if ok then .tuple #[u, .bool (mpGet es k).isSome] else u)) w := by
    simp only [execOp, ho, Sem.run_bind, hrun, Result.andThen_ok]
    rfl
  cases ok with
  | true =>
    have h : stPutK N s o.dst (.tup [v, .b (mpGet es k).isSome]) K := h
    have hrel : Im (Own X s β) w (.tup [v, .b (mpGet es k).isSome]) (.tuple #[u, .bool (mpGet es k).isSome]) := by
      refine .tup _ [u, .bool (mpGet es k).isSome] rfl fun j c u' hc hu' => ?_
      match j with
      | 0 => simp at hc hu'; subst hc hu'; exact him
      | 1 => simp at hc hu'; subst hc hu'; exact .b _
      | j + 2 => simp at hc
    exact val_ok hI h hn hrun' (Rel.im hrel) (by rw [hrel.ids_nil]; intro n hn; cases hn)
  | false =>
    have h : stPutK N s o.dst v K := h
    exact val_ok hI h hn hrun' (Rel.im him) (by rw [him.ids_nil]; intro n hn; cases hn)

/-! ### a map is written -/
def mapUpdK (Γ : Ctx) (s : St) (t : TypeId) (x i y : Operand) (dst : Option Nat) (K : St → Prop) : Prop :=
  evK s x fun m => mpK m fun id κ τ es => evK s i fun kv => evK s y fun yv => tiK Γ t fun ti => mapTK ti.desc fun kt et => tiK Γ kt fun tk => chkK (keyD tk.desc κ) (optK (dec κ [kv]) fun k => optK (dec τ [yv]) fun v =>
    es.length < 9223372036854775807 ∧ turnObK id id (.mp κ τ (mpSet es k v)) s (match dst with
      | none => K
      | some _ => fun _ => False))
theorem setIf_other {w : World} {g k : Nat} {o : Obj} (h : k ≠ g) : ({ w with heap := w.heap.setIfInBounds g o } : World).heap[k]? = w.heap[k]? := by
  simp [Ne.symm h]
theorem mapUpd_ok (hΓ : Γ.ok P) (hI : InvB W0 F X N s β a w) {o : Oper} {t : TypeId} {x i y : Operand} (ho : o.op = .mapUpdate t x i y ∨ o.op = .insert t x i y) {K : St → Prop} (h : mapUpdK Γ s t x i y o.dst K)
    {next : Act → World → Prop} {Q : Exit → Act → World → Prop} (hn : ∀ s' a' w', K s' → Inv W0 F X N s' a' w' → next a' w') : o.wp P a w next Q := by
  unfold mapUpdK at h
  rw [evK_eq] at h
  obtain ⟨id, κ, τ, es, hx, h⟩ := mpK_inv h
  rw [evK_eq, evK_eq] at h
  have hrx := (ev_rel hI x).1
  have hids := (ev_rel hI x).2
  have hri := (ev_rel hI i).1
  have hry := (ev_rel hI y).1
  obtain ⟨ti, hti, h⟩ := tiK_ok hΓ h
  obtain ⟨kt, et, h, hu⟩ := mapT_ok hti h
  obtain ⟨tk, htk, h⟩ := tiK_ok hΓ h
  obtain ⟨hkd, h⟩ := (chkK_iff _ _).1 h
  obtain ⟨k, hk, h⟩ := (optK_iff _ _).1 h
  obtain ⟨v, hv, hlen, h⟩ := (optK_iff _ _).1 h
  rw [turnObK_eq] at h
  cases hdst : o.dst with
  | some d => rw [hdst] at h; exact h.elim
  | none =>
  rw [hdst] at h
  rw [hx] at hrx hids
  have hNm : Nm s id := hids id (by simp [SX.ids, ids0])
  obtain ⟨g, ents, clock, hg, hxe, hh, hle, hall⟩ := (show ObAt β (Own X s β) w id id (.mp κ τ es) (a.eval x) from hrx)
  obtain ⟨d, hd, hkey, hsame⟩ := key_kind (w := w) (O := Own X s β) htk hkd
  have hki := dec_im hk hri
  have hvi := dec_im hv hry
  have hfind := find_mp hsame hki es ents.toList 0 hall
  have hchk := run_checkKey (P := P) (w := w) hd (hkey k _ hki) false 9999
  have hgs : g < w.heap.size := (Array.getElem?_eq_some_iff.1 hh).1
  -- what is written, and that it reads as told
  have key : ∃ ents' clock', (Instr.mapUpdate t (a.eval x) (a.eval i) (a.eval y)).run P w = .ok () { w with heap := w.heap.setIfInBounds g (.map ents' clock') } ∧
      All2 (EntAt (Own X s β) w κ τ) (mpSet es k v) ents'.toList := by
    rcases hfind with ⟨h1, _, h3⟩ | ⟨j, e, z, h1, h2, _, _, h5, h6⟩
    · have hfk := run_findKey (P := P) (w := w) hd h1
      refine ⟨ents.push { key := a.eval i, val := a.eval y, born := clock }, clock + 1, ?_, ?_⟩
      · simp only [Instr.mapUpdate, Sem.run_bind, run_underlying hu, Result.andThen_ok, hxe, MapKept.run_getObj_map hh, Sem.run_pure, hchk, hfk, MapKept.run_setObj_map _ hh]
      · rw [h3, Array.toList_push]
        exact hall.append (All2.cons ⟨hki, hvi⟩ (All2.nil _))
    · have hfk := run_findKey (P := P) (w := w) hd h1
      have hej : ents[j]? = some e := by simpa using h2
      have hst : ∀ w' : World, (Instr.keyThatStays e.key (a.eval i)).run P w' = .ok (a.eval i) w' := by
        intro w'
        have hek : IsKey d e.key := by
          have hjl : j < es.length := by rw [hall.1]; exact (List.getElem?_eq_some_iff.1 h2).1
          exact hkey _ _ (hall.2 j _ _ (List.getElem?_eq_getElem hjl) h2).1
        obtain ⟨r, hr1, hr2⟩ := sameNow_of_keys (hkey k _ hki) hek
        rw [h5] at hr1
        injection hr1 with hr1
        have he : a.eval i = e.key := hr2.1 hr1.symm
        rw [he]
        exact MapKept.run_keyThatStays hek
      refine ⟨ents.modify j fun e => { e with key := a.eval i, val := a.eval y }, clock, ?_, ?_⟩
      · simp only [Instr.mapUpdate, Sem.run_bind, run_underlying hu, Result.andThen_ok, hxe, MapKept.run_getObj_map hh, Sem.run_pure, hchk, hfk, Nat.zero_add, hej, Option.map_some, Option.getD_some, hst, MapKept.run_setObj_map _ hh]
      · rw [h6]
        refine ⟨by simpa using hall.1, fun q p e' hp he' => ?_⟩
        rw [List.getElem?_set] at hp
        rw [Array.getElem?_toList, Array.getElem?_modify] at he'
        by_cases hjq : j = q
        · subst hjq
          rw [if_pos rfl] at he'
          rw [hej] at he'
          injection he' with he'
          subst he'
          rw [if_pos rfl] at hp
          split at hp
          · injection hp with hp
            subst hp
            exact ⟨hki, hvi⟩
          · cases hp
        · rw [if_neg hjq] at hp he'
          exact hall.2 q p e' hp (by simpa using he')
  obtain ⟨ents', clock', hrun, hall'⟩ := key
  have hst : Stp (fun k => β id = some k ∨ β id = some k) w { w with heap := w.heap.setIfInBounds g (.map ents' clock') } :=
    ⟨rfl, rfl, rfl, by simp, fun k _ hk => setIf_other fun e => hk (.inl (by rw [hg, e]))⟩
  have hβ : setβ β id (β id) id = β id := by simp [setβ]
  have hI' := hI.turnOb hNm hNm hst (b2 := β id) hβ (fun k hk => ⟨by simpa using (hI.own id k hNm hk).1, .inl hk⟩) (o' := .mp κ τ (mpSet es k v)) (v0 := a.eval x)
    (fun o1 v1 h1 => ObAt.uniq (o := .mp κ τ es) ⟨g, ents, clock, hg, hxe, hh, hle, hall⟩ h1) (fun O' hO => by
      refine ⟨g, ents', clock', by rw [hβ]; exact hg, hxe, by simp [hgs], ?_, ?_⟩
      · have := mpSet_len es k v
        unfold maxLen
        omega
      · refine hall'.mono fun j p e _ hpe => ?_
        have stp : ∀ {l : List AV} {us : List Value}, All2 (Im (Own X s β) w) l us → All2 (Im O' { w with heap := w.heap.setIfInBounds g (.map ents' clock') }) l us := fun h => h.mono fun _ _ _ _ hi => hi.step hst (fun k hk ho => .inr (ho.elim (fun h => ⟨id, hNm, h⟩) fun h => ⟨id, hNm, h⟩)) hO
        exact ⟨stp hpe.1, stp hpe.2⟩)
  have hfun : setβ β id (β id) = β := by
    funext q
    unfold setβ
    split
    · rename_i e; rw [e]
    · rfl
  refine wp_skp (w' := { w with heap := w.heap.setIfInBounds g (.map ents' clock') }) ?_ (by rw [hdst]; exact hn _ _ _ h ⟨_, hI'⟩)
  rcases ho with ho | ho
  · simp only [execOp, ho, Sem.run_bind, hrun, Result.andThen_ok]
    rfl
  · simp only [execOp, ho, Sem.run_bind, hrun, Result.andThen_ok]
    rfl
end
end Go.SX
