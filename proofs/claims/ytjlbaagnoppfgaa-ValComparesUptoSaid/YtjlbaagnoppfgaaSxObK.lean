/-
  The operations over objects: a Builder is laid and its methods are called; an iterator over a text is made, and asked for the next rune.
-/
import Derived.Test.YtjlbaagnoppfgaaSxCallK
namespace Go.SX
set_option linter.unusedSectionVars false
variable [Globs]
section
variable {P : Program} {N : Nat} {Γ : Ctx} {W0 : World} {F : Fr} {X : Nat → Prop} {s : St} {β : Nat → Option Nat} {a : Act} {w : World}

/-- WHAT A METHOD OF AN OBJECT COMES TO: called at the object 'o' with what reads as 'args' it hands back what reads as 'r', and the object is 'o''; nothing else has turned. -/
def ObSpec (P : Program) (f : FuncId) (o : Ob) (args : List AV) (r : AV) (o' : Ob) : Prop :=
  (∀ (vs : Array Value) (w : World), (callFunc f vs).run P w = .ok (.enter f vs) w) ∧
  ∀ (β : Nat → Option Nat) (O : Nat → Prop) (w : World) (id id2 : Nat) (v : Value) (vs : List Value), id ≠ id2 → (∀ k, O k → k < w.heap.size) → (∀ g, β id = some g → O g) → (∀ g, β id2 = some g → O g) → (∀ g, β id2 = some g → β id ≠ some g) →
    GlobOK O w → ObAt β O w id id2 o v → All2 (Im O w) args vs →
    Calls P f (v :: vs).toArray w fun e w' => ∃ u b2, e = .returned u ∧ Stp (fun k => β id = some k ∨ β id2 = some k) w w' ∧ (∀ g, b2 = some g → g < w'.heap.size ∧ (β id2 = some g ∨ w.heap.size ≤ g)) ∧
      Im (fun _ => True) w' r u ∧ ∀ O' : Nat → Prop, (∀ k, k < w.heap.size → O' k → O k) → ObAt (setβ β id2 b2) O' w' id id2 o' v

/-- everybody speaks of the object as it is now -/
def turnObK (id id2 : Nat) (o : Ob) (s : St) (K : St → Prop) : Prop :=
  mapVK (updOK id id2 o) s.slots fun sl => mapBK (updOK id id2 o) s.boxes fun b => delLK b id fun b => delLK b id2 fun b => K ⟨sl, b⟩
theorem turnObK_eq (id id2 : Nat) (o : Ob) (s : St) (K : St → Prop) : turnObK id id2 o s K = K (((s.map (updO id id2 o)).delBox id).delBox id2) := by
  simp only [turnObK, mapVK_eq (updOK_eq id id2 o), mapBK_eq (updOK_eq id id2 o), delLK_eq]; rfl
def callSbK (P : Program) (N : Nat) (s : St) (f : Operand) (id id2 : Nat) (o : Ob) (rest : List AV) (dst : Option Nat) (K : St → Prop) : Prop :=
  evK s f fun fv => match fv with
    | .fn g [] => chkK (imAll rest) (chkK (fnArgs rest) (chkK (!(Nat.beq id id2)) (∃ r o', ObSpec P g o rest r o' ∧ turnObK id id2 o' s fun s => stPutK N s dst r K)))
    | _ => False

theorem ObAt.uniq {O : Nat → Prop} {id id2 : Nat} {o o1 : Ob} {v v1 : Value} (h : ObAt β O w id id2 o v) (h1 : ObAt β O w id id2 o1 v1) : v1 = v := by
  cases o with
  | sb T e l =>
    obtain ⟨b, p, u, k1, rfl, k3, _⟩ := h
    cases o1 with
    | sb T1 e1 l1 => obtain ⟨b1, _, _, j1, rfl, _⟩ := h1; rw [k1] at j1; injection j1 with j1; rw [j1]
    | it t pos => obtain ⟨b1, j1, rfl, j3, _⟩ := h1; rw [k1] at j1; injection j1 with j1; rw [j1]
    | mp κ τ es => obtain ⟨b1, _, _, j1, rfl, j3, _⟩ := h1; rw [k1] at j1; injection j1 with j1; subst j1; rw [k3] at j3; cases j3
  | it t pos =>
    obtain ⟨b, k1, rfl, k3, _⟩ := h
    cases o1 with
    | sb T1 e1 l1 => obtain ⟨b1, _, _, j1, rfl, _⟩ := h1; rw [k1] at j1; injection j1 with j1; rw [j1]
    | it t pos => obtain ⟨b1, j1, rfl, j3, _⟩ := h1; rw [k1] at j1; injection j1 with j1; rw [j1]
    | mp κ τ es => obtain ⟨b1, _, _, j1, rfl, j3, _⟩ := h1; rw [k1] at j1; injection j1 with j1; subst j1; rw [k3] at j3; cases j3
  | mp κ τ es =>
    obtain ⟨b, _, _, k1, rfl, k3, _⟩ := h
    cases o1 with
    | sb T1 e1 l1 => obtain ⟨b1, _, _, j1, rfl, j3, _⟩ := h1; rw [k1] at j1; injection j1 with j1; subst j1; rw [k3] at j3; cases j3
    | it t pos => obtain ⟨b1, j1, rfl, j3, _⟩ := h1; rw [k1] at j1; injection j1 with j1; subst j1; rw [k3] at j3; cases j3
    | mp κ τ es => obtain ⟨b1, _, _, j1, rfl, _⟩ := h1; rw [k1] at j1; injection j1 with j1; rw [j1]

theorem callSb_ok (hI : InvB W0 F X N s β a w) {o : Oper} {f : Operand} {args : Array Operand} {ts : Array TypeId} (ho : o.op = .call { callee := .value f, args := args, argTypes := ts }) {id id2 : Nat} {ob : Ob} {rest : List AV}
    (hev : evs s args.toList = .ob id id2 ob :: rest) {K : St → Prop} (h : callSbK P N s f id id2 ob rest o.dst K)
    {next : Act → World → Prop} {Q : Exit → Act → World → Prop} (hn : ∀ s' a' w', K s' → Inv W0 F X N s' a' w' → next a' w') : o.wp P a w next Q := by
  unfold callSbK at h
  rw [evK_eq] at h
  have hf := ev_rel hI f
  have hvs := evs_rel hI args.toList
  rw [hev] at hvs
  cases hfv : ev s f with
  | fn g caps =>
    rw [hfv] at h hf
    cases caps with
    | cons _ _ => exact h.elim
    | nil =>
      obtain ⟨h1, h⟩ := (chkK_iff _ _).1 h
      obtain ⟨h2, h⟩ := (chkK_iff _ _).1 h
      obtain ⟨h3, h⟩ := (chkK_iff _ _).1 h
      obtain ⟨r, o', ⟨hcall, hspec⟩, hK⟩ := h
      obtain ⟨cvs, hfe, hcaps⟩ := hf.1
      have hc0 : cvs = [] := hcaps.nil_inv
      subst hc0
      obtain ⟨v, vs, hve, hv, hrest⟩ := hvs.1.cons_inv
      have hne : id ≠ id2 := fun e => by subst e; rw [Nat.beq_refl] at h3; cases h3
      have hNm : Nm s id := hvs.2 _ (List.mem_cons_self ..) id (by simp [SX.ids, ids0])
      have hNm2 : Nm s id2 := hvs.2 _ (List.mem_cons_self ..) id2 (by simp [SX.ids, ids0])
      have himr : All2 (Im (Own X s β) w) rest vs :=
        hrest.mono fun _ c v hc hr => im_of_rel hr (imAll_mem h1 (List.mem_of_getElem? hc)) (fnArgs_mem h2 (List.mem_of_getElem? hc))
      have hob : ObAt β (Own X s β) w id id2 ob v := hv
      have hs := hspec β (Own X s β) w id id2 v vs hne (own_lt hI) (fun g hg => .inr ⟨id, hNm, hg⟩) (fun g hg => .inr ⟨id2, hNm2, hg⟩) (fun g hg e => hne (hI.inj id id2 g hNm hNm2 e hg)) hI.globs hob himr
      unfold Oper.wp
      have hrun : (execOp a.eval o).run P w = .ok (.enter g (v :: vs).toArray) w := by
        have e1 : args.map a.eval = (v :: vs).toArray := by
          apply Array.ext'
          rw [← hve]; simp
        simp [execOp, ho, resolve, hfe, Deferred.ofValue, invoke, e1]
        exact hcall _ w
      rw [hrun]
      refine hs.mono fun e w' hp => ?_
      obtain ⟨u, b2, rfl, hst, hb2, him, hafter⟩ := hp
      rw [turnObK_eq] at hK
      have hI' := hI.turnOb hNm hNm2 hst (by unfold setβ; rw [if_neg hne]) hb2 (o' := o') (v0 := v) (fun o1 v1 h1 => hob.uniq h1) hafter
      obtain ⟨s', h7, h8⟩ := put_ok hI' hK (Rel.im (him.mono fun _ _ => trivial)) (by rw [him.ids_nil]; intro n hn; cases hn)
      exact hn _ _ _ h7 ⟨_, h8⟩
  | _ => rw [hfv] at h; exact h.elim

/-- a Builder is laid -/
def allocSbK (N : Nat) (s : St) (t : TypeId) (ti : TI) (e : TypeId) (dst : Option Nat) (K : St → Prop) : Prop :=
  ∃ d2, optK dst fun d => ti.zero = [.pointer none, .slice none 0 0] ∧ chkK (!(Nat.beq d d2)) (stFrzK d s fun s => stFrzK d2 s fun s => stPutK N s (some d) (.ob d d2 (.sb t e [])) K)
theorem allocSb_ok (hI : InvB W0 F X N s β a w) {o : Oper} {t : TypeId} (ho : o.op = .alloc t) {ti : TI} (hti : ti.ok P t) {e : TypeId} {K : St → Prop} (h : allocSbK N s t ti e o.dst K)
    {next : Act → World → Prop} {Q : Exit → Act → World → Prop} (hn : ∀ s' a' w', K s' → Inv W0 F X N s' a' w' → next a' w') : o.wp P a w next Q := by
  obtain ⟨d2, h⟩ := h
  obtain ⟨d, hd, hz, h⟩ := (optK_iff _ _).1 h
  obtain ⟨hne, h⟩ := (chkK_iff _ _).1 h
  rw [stFrzK_eq, stFrzK_eq] at h
  have hne : d ≠ d2 := fun e => by subst e; rw [Nat.beq_refl] at hne; cases hne
  obtain ⟨hK, hdN⟩ := stPut_inv h
  obtain ⟨z, hz1, hz2⟩ := hti.zeroValue w
  have hI' := (hI.frz d).frz d2
  have hf : ¬ Nm ((s.frz d).frz d2) d := fun h => not_frz s d (Nm.of_frz h).1
  have hcs : z.cells = #[.pointer none, .slice none 0 0] := by rw [hz2, hz]
  have hI2 := hI'.newOb (hdN d rfl) hf (not_frz _ d2) (Stp.alloc w (.cells z.cells t)) (Nat.le_refl _) (by simp) (o := .sb t e []) (u := .pointer (some ⟨w.heap.size, 0, none⟩)) (fun O' => by
    refine ⟨w.heap.size, .pointer none, .slice none 0 0, by simp [setβ], rfl, ?_, .inl rfl, .inl ⟨rfl, rfl, ?_⟩⟩
    · rw [heap_alloc_new, hcs]
    · unfold setβ; rw [if_neg (fun e => hne e.symm), if_pos rfl])
  refine wp_val (u := .pointer (some ⟨w.heap.size, 0, none⟩)) (w' := w.alloc (.cells z.cells t)) ?_ (by rw [hd]; exact hn _ _ _ hK ⟨_, hI2⟩)
  simp [execOp, ho, Instr.alloc, hz1, newVar_run]

/-- an iterator over a text -/
def rangeK (Γ : Ctx) (N : Nat) (s : St) (t : TypeId) (x : Operand) (dst : Option Nat) (K : St → Prop) : Prop :=
  tiK Γ t fun ti => chkK (isStrT ti.desc) (optK dst fun d => stFrzK d s fun s => evK s x fun v => match v with
    | .s l => stPutK N s (some d) (.ob d d (.it l 0)) K
    | _ => False)
theorem range_ok (hΓ : Γ.ok P) (hI : InvB W0 F X N s β a w) {o : Oper} {t : TypeId} {x : Operand} (ho : o.op = .range t x) {K : St → Prop} (h : rangeK Γ N s t x o.dst K)
    {next : Act → World → Prop} {Q : Exit → Act → World → Prop} (hn : ∀ s' a' w', K s' → Inv W0 F X N s' a' w' → next a' w') : o.wp P a w next Q := by
  obtain ⟨ti, hti, h⟩ := tiK_ok hΓ h
  obtain ⟨hs, h⟩ := (chkK_iff _ _).1 h
  obtain ⟨d, hd, h⟩ := (optK_iff _ _).1 h
  rw [stFrzK_eq, evK_eq] at h
  have hu : P.underlying t = some .string := by
    obtain ⟨dd, h1, h2⟩ := hti.desc
    cases hde : ti.desc <;> rw [hde] at hs h2 <;> first | (cases hs; done) | exact h1.trans (congrArg some h2)
  have hI1 := hI.frz d
  have hr := (ev_rel hI1 x).1
  cases hv : ev (s.frz d) x with
  | s l =>
    rw [hv] at h hr
    obtain ⟨hve, hl⟩ := hr.inv_s
    obtain ⟨hK, hdN⟩ := stPut_inv h
    have hI2 := hI1.newOb (hdN d rfl) (not_frz s d) (not_frz s d) (Stp.alloc w (.stringIter ⟨l.toArray⟩ 0)) (Nat.le_refl _) (by simp) (o := .it l 0) (u := .pointer (some ⟨w.heap.size, 0, none⟩)) (fun O' =>
      ⟨w.heap.size, by simp [setβ], rfl, heap_alloc_new w _, hl, Nat.zero_le _⟩)
    refine wp_val (u := .pointer (some ⟨w.heap.size, 0, none⟩)) (w' := w.alloc (.stringIter ⟨l.toArray⟩ 0)) ?_ (by rw [hd]; exact hn _ _ _ hK ⟨_, hI2⟩)
    have hrr := run_range_string (P := P) w t ⟨l.toArray⟩ hu
    simp [execOp, ho, hve, hrr, World.iter]
  | _ => rw [hv] at h; exact h.elim
theorem decAt_eq (l : Str) (p : Nat) : Utf8.decode ⟨l.toArray⟩ p = decAt l p := by rw [Lib.decode_N]; simp [decAt]
theorem decAt_pos (l : Str) (p : Nat) : 1 ≤ (decAt l p).2 := Lib.decodeN_ge1 _ _ _ _ _
theorem decAt_le (l : Str) {p : Nat} (h : p < l.length) : p + (decAt l p).2 ≤ l.length := by
  have := Lib.decodeN_width_le (l.length - p) (l.getD p 0).toNat (l.getD (p + 1) 0).toNat (l.getD (p + 2) 0).toNat (l.getD (p + 3) 0).toNat (by omega)
  unfold decAt
  omega
def nextK (N : Nat) (s : St) (x : Operand) (dst : Option Nat) (K : St → Prop) : Prop :=
  evK s x fun v => match v with
    | .ob id id2 (.it l p) => chkK (Nat.beq id id2) ((p < l.length → turnObK id id2 (.it l (p + (decAt l p).2)) s fun s => stPutK N s dst (.tup [.b true, .i .i64 p, .i .i32 (decAt l p).1]) K) ∧
        (¬ p < l.length → stPutK N s dst (.tup [.b false]) K))
    | _ => False
theorem next_ok (hI : InvB W0 F X N s β a w) {o : Oper} {x : Operand} (ho : o.op = .next x true) {K : St → Prop} (h : nextK N s x o.dst K)
    {next : Act → World → Prop} {Q : Exit → Act → World → Prop} (hn : ∀ s' a' w', K s' → Inv W0 F X N s' a' w' → next a' w') : o.wp P a w next Q := by
  unfold nextK at h
  rw [evK_eq] at h
  have hr := (ev_rel hI x).1
  have hids := (ev_rel hI x).2
  cases hv : ev s x with
  | ob id id2 ob =>
    rw [hv] at h hr hids
    cases ob with
    | it l p =>
      obtain ⟨he, h1, h2⟩ := (chkK_iff _ _).1 h
      have := Nat.eq_of_beq_eq_true he
      subst this
      have hNm : Nm s id := hids id (by simp [SX.ids, ids0])
      obtain ⟨g, hg, hve, hh, hl, hp⟩ := (show ObAt β (Own X s β) w id id (.it l p) (a.eval x) from hr)
      by_cases hlt : p < l.length
      · have h1 := h1 hlt
        rw [turnObK_eq] at h1
        have hsz : (⟨l.toArray⟩ : ByteArray).size = l.length := by simp [ByteArray.size]
        have hdec := decAt_eq l p
        have hle := decAt_le l hlt
        have hit := Lib.iterAt_heap w g ⟨l.toArray⟩ p (p + (decAt l p).2) hh
        have hst : Stp (fun k => β id = some k ∨ β id = some k) w (w.iterAt g ⟨l.toArray⟩ (p + (decAt l p).2)) :=
          ⟨rfl, rfl, rfl, by rw [Lib.iterAt_size]; exact Nat.le_refl _, fun k _ hk => Lib.iterAt_other w g k _ _ fun e => hk (.inl (by rw [hg, e]))⟩
        have hβ : setβ β id (β id) id = β id := by simp [setβ]
        have hI' := hI.turnOb hNm hNm hst (b2 := β id) hβ (fun k hk => ⟨by rw [Lib.iterAt_size]; exact (hI.own id k hNm hk).1, .inl hk⟩) (o' := .it l (p + (decAt l p).2)) (v0 := a.eval x)
          (fun o1 v1 h1 => ObAt.uniq (o := .it l p) ⟨g, hg, hve, hh, hl, hp⟩ h1) (fun O' hO => ⟨g, by rw [hβ]; exact hg, hve, hit, hl, hle⟩)
        have hrel : Im (fun _ => True) (w.iterAt g ⟨l.toArray⟩ (p + (decAt l p).2)) (.tup [.b true, .i .i64 p, .i .i32 (decAt l p).1]) (.tuple #[.bool true, .int .i64 p, .int .i32 (decAt l p).1]) := by
          refine .tup _ [.bool true, .int .i64 p, .int .i32 (decAt l p).1] rfl fun j c u hc hu => ?_
          match j with
          | 0 => simp at hc hu; subst hc hu; exact .b _
          | 1 => simp at hc hu; subst hc hu; exact .i _ _
          | 2 => simp at hc hu; subst hc hu; exact .i _ _
          | j + 3 => simp at hc
        obtain ⟨s', h7, h8⟩ := put_ok hI' h1 (Rel.im (hrel.mono fun _ _ => trivial)) (by rw [hrel.ids_nil]; intro n hn; cases hn)
        refine wp_val ?_ (hn _ _ _ h7 ⟨_, h8⟩)
        have := Lib.run_next_any_at (P := P) w g ⟨l.toArray⟩ p o.type hh (by rw [hsz]; exact hlt)
        rw [hdec] at this
        simp [execOp, ho, hve, this]
      · have h2 := h2 hlt
        have hsz : (⟨l.toArray⟩ : ByteArray).size = l.length := by simp [ByteArray.size]
        have hrel : Im (fun _ => True) w (.tup [.b false]) (.tuple #[.bool false]) := by
          refine .tup _ [.bool false] rfl fun j c u hc hu => ?_
          match j with
          | 0 => simp at hc hu; subst hc hu; exact .b _
          | j + 1 => simp at hc
        obtain ⟨s', h7, h8⟩ := put_ok hI h2 (Rel.im (hrel.mono fun _ _ => trivial)) (by rw [hrel.ids_nil]; intro n hn; cases hn)
        refine wp_val ?_ (hn _ _ _ h7 ⟨_, h8⟩)
        have := Lib.run_next_end_at (P := P) w g ⟨l.toArray⟩ p o.type hh (by rw [hsz]; exact hlt)
        simp [execOp, ho, hve, this]
    | _ => exact h.elim
  | _ => rw [hv] at h; exact h.elim
end
end Go.SX
