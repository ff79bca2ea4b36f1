/-
  All operations, a region, a function's code: the verification condition, and that it suffices.
-/
import Derived.Test.YtjlbaagnoppfgaaSxOb
namespace Go.SX
set_option linter.unusedSectionVars false
variable [Globs]
section
variable {P : Program} {N : Nat} {Γ : Ctx} {W0 : World} {F : Fr} {X : Nat → Prop} {s : St} {β : Nat → Option Nat} {a : Act} {w : World}

def castK {σ : Ty} (τ : Ty) (l : List (den σ)) (K : List (den τ) → Prop) : Prop := if h : σ = τ then K (h ▸ l) else False
theorem castK_iff {σ τ : Ty} {l : List (den σ)} {K : List (den τ) → Prop} (h : castK τ l K) : ∃ e : σ = τ, K (e ▸ l) := by
  unfold castK at h
  split at h
  · rename_i e; exact ⟨e, h⟩
  · exact h.elim

/-! ### append -/
def frzUnlessK (d : Nat) (u : AV) (s : St) (K : St → Prop) : Prop :=
  match u with
  | .vec id _ _ => bif Nat.beq id d then K s else stFrzK d s K
  | .vs id _ _ _ => bif Nat.beq id d then K s else stFrzK d s K
  | _ => stFrzK d s K
def app2K (N : Nat) (d : Nat) (te : TI) (s : St) : AV → AV → (St → Prop) → Prop
  | .nl, .nl, K => stPutK N s (some d) .nl K
  | .nl, .rd τ l, K => chkK (Nat.beq te.cells (esz τ)) (l.length * te.bytes ≤ 140737488355328 ∧ stKillK d s fun s => stPutK N s (some d) (.vec d τ l) K)
  | .vec id τ l, .nl, K => chkK (Nat.beq te.cells (esz τ)) (l.length * te.bytes ≤ 140737488355328 ∧ stKillK id s fun s => stPutK N s (some d) (.vec d τ l) K)
  | .vec id τ l, .rd _ m, K => chkK (Nat.beq te.cells (esz τ)) (castK τ m fun m => (l.length + m.length) * te.bytes ≤ 140737488355328 ∧ stKillK id s fun s => stPutK N s (some d) (.vec d τ (l ++ m)) K)
  | .vs id τ l k, .rd _ m, K => chkK (Nat.beq te.cells (esz τ)) (castK τ m fun m => (l.length - k + m.length) * te.bytes ≤ 140737488355328 ∧ stKillK id s fun s => ∀ pre : List (den τ), pre.length ≤ k → stPutK N s (some d) (.vs d τ (pre ++ (l.drop k ++ m)) pre.length) K)
  | _, _, _ => False
def appendK (Γ : Ctx) (N : Nat) (s : St) (args : List Operand) (ts : List TypeId) (dst : Option Nat) (K : St → Prop) : Prop :=
  match args, ts with
  | [x, y], [t, t'] => tiK Γ t' fun ti' => sliceTK ti'.desc fun _ => (optK dst fun d => chkK (Nat.blt d N) (opVecsK s [(0, y)] fun ids => frzAllK ids s fun s => evK s x fun u => frzUnlessK d u s fun s => evK s x fun u => evK s y fun v =>
      tiK Γ t fun ti => sliceTK ti.desc fun e => tiK Γ e fun te => chkK (Nat.ble 1 te.bytes) (app2K N d te s u v K)))
  | _, _ => False

theorem frzUnless_ok (hI : InvB W0 F X N s β a w) {d : Nat} {u : AV} {K : St → Prop} (h : frzUnlessK d u s K) (hu : ∀ n ∈ ids u, Nm s n) :
    ∃ s', K s' ∧ InvB W0 F X N s' β a w ∧ ((s' = s ∧ ((∃ τ l, u = .vec d τ l) ∨ ∃ τ l k, u = .vs d τ l k)) ∨ ¬ Nm s' d) := by
  have hf : stFrzK d s K → ∃ s', K s' ∧ InvB W0 F X N s' β a w ∧ ((s' = s ∧ ((∃ τ l, u = .vec d τ l) ∨ ∃ τ l k, u = .vs d τ l k)) ∨ ¬ Nm s' d) := by
    intro h; rw [stFrzK_eq] at h; exact ⟨_, h, hI.frz d, .inr (not_frz s d)⟩
  cases u with
  | vec id τ l =>
    have h : bif Nat.beq id d then K s else stFrzK d s K := h
    cases hb : Nat.beq id d with
    | true => rw [hb] at h; have := Nat.eq_of_beq_eq_true hb; subst this; exact ⟨s, h, hI, .inl ⟨rfl, .inl ⟨τ, l, rfl⟩⟩⟩
    | false => rw [hb] at h; exact hf h
  | vs id τ l k =>
    have h : bif Nat.beq id d then K s else stFrzK d s K := h
    cases hb : Nat.beq id d with
    | true => rw [hb] at h; have := Nat.eq_of_beq_eq_true hb; subst this; exact ⟨s, h, hI, .inl ⟨rfl, .inr ⟨τ, l, k, rfl⟩⟩⟩
    | false => rw [hb] at h; exact hf h
  | _ => exact hf h

theorem bytes_len {n b : Nat} (hb : 1 ≤ b) (h : n * b ≤ 140737488355328) : n ≤ maxLen := by
  have : n ≤ n * b := Nat.le_mul_of_pos_right _ hb
  unfold maxLen
  omega
theorem putVec {d : Nat} {v : AV} {K : St → Prop} (hd : d < N) (h : stPutK N s (some d) v K) : K (s.put d v) := by
  rw [stPutK_some, show Nat.blt d N = true from by rw [Nat.blt_eq]; exact hd, cond_true] at h
  exact h

theorem append_ok (hΓ : Γ.ok P) (hone : ∀ p ∈ Γ, (∀ v ∈ p.2.zero, v.oneCell' = true) ∧ p.2.zero.length = p.2.cells) (hI : InvB W0 F X N s β a w) {o : Oper} {args : Array Operand} {ts : Array TypeId}
    (ho : o.op = .call { callee := .builtin .append, args := args, argTypes := ts }) {K : St → Prop} (h : appendK Γ N s args.toList ts.toList o.dst K)
    {next : Act → World → Prop} {Q : Exit → Act → World → Prop} (hn : ∀ s' a' w', K s' → Inv W0 F X N s' a' w' → next a' w') : o.wp P a w next Q := by
  obtain ⟨args⟩ := args
  obtain ⟨ts⟩ := ts
  rcases args with _ | ⟨x, _ | ⟨y, _ | ⟨z, r⟩⟩⟩
  · exact h.elim
  · exact h.elim
  · rcases ts with _ | ⟨t, _ | ⟨t', _ | ⟨t'', r⟩⟩⟩
    · exact h.elim
    · exact h.elim
    · obtain ⟨ti', hmt', hK0⟩ := tiK_mem (show tiK Γ t' fun ti' => _ from h)
      clear h
      obtain ⟨e0, hK0, hu'⟩ := slice_ok (hΓ _ hmt') hK0
      obtain ⟨d, hd, h⟩ := (optK_iff _ _).1 hK0
      clear hK0
      obtain ⟨hdN, h⟩ := (chkK_iff _ _).1 h
      rw [Nat.blt_eq] at hdN
      rw [opVecsK_eq, frzAllK_eq, evK_eq] at h
      have hI1 := hI.frzAll (opVecs s [(0, y)])
      generalize frzAll (opVecs s [(0, y)]) s = s1 at h hI1
      obtain ⟨s2, h, hI2, hfree⟩ := frzUnless_ok hI1 h (ev_rel hI1 x).2
      rw [evK_eq, evK_eq] at h
      obtain ⟨ti, hmt, h⟩ := tiK_mem h
      obtain ⟨e, h, hu⟩ := slice_ok (hΓ _ hmt) h
      obtain ⟨te, hme, h⟩ := tiK_mem h
      have hte := hΓ _ hme
      have hz1 := (hone _ hme).2
      obtain ⟨hb1, h⟩ := (chkK_iff _ _).1 h
      have hb1 := Nat.le_of_ble_eq_true hb1
      have hx := ev_rel hI2 x
      have hy := ev_rel hI2 y
      have hfree' : ∀ id1, Nm s2 d → (∀ τ l, ev s2 x ≠ .vec id1 τ l ∨ d = id1) → (∃ τ l, ev s2 x = .vec id1 τ l) → d = id1 := by
        intro id1 _ h1 ⟨τ, l, h2⟩
        rcases h1 τ l with h1 | h1
        · exact absurd h2 h1
        · exact h1
      have hrun : ∀ {u : Value} {w' : World}, (Builtin.append_ #[t, t'] o.type #[a.eval x, a.eval y]).run P w = .ok u w' → (execOp a.eval o).run P w = .ok (.value u) w' := by
        intro u w' hr
        simp [execOp, ho, resolve, invoke, builtin, hr]
      have fin : ∀ {τ : Ty} {id1 : Nat} {l1 l2 : List (den τ)}, te.cells = esz τ → (Nm s2 d → d = id1) → ((l1 = [] ∧ a.eval x = .slice none 0 0) ∨ (Nm s2 id1 ∧ VecAt β (Own X s2 β) w id1 τ l1 (a.eval x))) →
          Im (Own X s2 β) w (.rd τ l2) (a.eval y) → (l1.length + l2.length) * te.bytes ≤ 140737488355328 → (stKillK id1 s2 fun s => stPutK N s (some d) (.vec d τ (l1 ++ l2)) K) → o.wp P a w next Q := by
        intro τ id1 l1 l2 hsz hfr h1 h2 hby hK
        rw [stKillK_eq] at hK
        have hK := putVec hdN hK
        obtain ⟨u, w', β', hr, hI'⟩ := append_vec hI2 hu hu' hte hsz hz1 o.type hdN hfr h1 h2 hby (bytes_len hb1 hby)
        exact wp_val (hrun hr) (by rw [hd]; exact hn _ _ _ hK ⟨β', hI'⟩)
      have hnotvec : (∀ τ l, ev s2 x ≠ .vec d τ l) → ev s1 x = ev s2 x ∨ ¬ Nm s2 d → True := fun _ _ => trivial
      cases hxv : ev s2 x with
      | nl =>
        have hfr : Nm s2 d → d = d := fun _ => rfl
        have hx1 : a.eval x = .slice none 0 0 := by have := hx.1; rw [hxv] at this; exact this.inv_nl
        cases hyv : ev s2 y with
        | nl =>
          rw [hxv, hyv] at h
          have hy1 : a.eval y = .slice none 0 0 := by have := hy.1; rw [hyv] at this; exact this.inv_nl
          have h := putVec hdN (show stPutK N s2 (some d) .nl K from h)
          refine wp_val (u := .slice none 0 0) (w' := w) (hrun ?_) (by rw [hd]; exact hn _ _ _ h ⟨β, hI2.put hdN (Rel.im .nl) (by intro n hn; cases hn)⟩)
          obtain ⟨i, z, hi, h1, h2, h3, h4⟩ := hte.info
          simp [hx1, hy1, Builtin.append_, run_underlying hu, run_underlying hu', sizeOf, typeInfo, hi, Builtin.lenOf, Builtin.firstCells]
        | rd τ l =>
          rw [hxv, hyv] at h
          obtain ⟨hsz, hby, hK⟩ := (chkK_iff _ _).1 (show chkK (Nat.beq te.cells (esz τ)) (l.length * te.bytes ≤ 140737488355328 ∧ stKillK d s2 fun s => stPutK N s (some d) (.vec d τ l) K) from h)
          have hy1 := hy.1
          rw [hyv] at hy1
          exact fin (l1 := []) (Nat.eq_of_beq_eq_true hsz) (fun _ => rfl) (.inl ⟨rfl, hx1⟩) hy1 (by simpa using hby) hK
        | _ => rw [hxv, hyv] at h; exact h.elim
      | vec id τ l =>
        have hx1 := hx.1
        rw [hxv] at hx1
        have hid : Nm s2 id := hx.2 id (by rw [hxv]; simp [ids, ids0])
        have hfr : Nm s2 d → d = id := by
          intro hdn
          rcases hfree with ⟨rfl, ⟨τ', l', he⟩ | ⟨τ', l', k', he⟩⟩ | hfree
          · rw [hxv] at he
            injection he with he
            exact he.symm
          · rw [hxv] at he
            cases he
          · exact absurd hdn hfree
        cases hyv : ev s2 y with
        | nl =>
          rw [hxv, hyv] at h
          obtain ⟨hsz, hby, hK⟩ := (chkK_iff _ _).1 (show chkK (Nat.beq te.cells (esz τ)) (l.length * te.bytes ≤ 140737488355328 ∧ stKillK id s2 fun s => stPutK N s (some d) (.vec d τ l) K) from h)
          have hy1 := hy.1
          rw [hyv] at hy1
          have hy1 := hy1.inv_nl
          exact fin (l2 := []) (Nat.eq_of_beq_eq_true hsz) hfr (.inr ⟨hid, hx1⟩) (by rw [hy1]; exact .rd0 τ none 0 (Nat.zero_le _)) (by simpa using hby) (by simpa using hK)
        | rd σ m =>
          rw [hxv, hyv] at h
          obtain ⟨hsz, h⟩ := (chkK_iff _ _).1 (show chkK (Nat.beq te.cells (esz τ)) (castK τ m fun m => (l.length + m.length) * te.bytes ≤ 140737488355328 ∧ stKillK id s2 fun s => stPutK N s (some d) (.vec d τ (l ++ m)) K) from h)
          obtain ⟨e', hby, hK⟩ := castK_iff h
          subst e'
          have hy1 := hy.1
          rw [hyv] at hy1
          exact fin (Nat.eq_of_beq_eq_true hsz) hfr (.inr ⟨hid, hx1⟩) hy1 hby hK
        | _ => rw [hxv, hyv] at h; exact h.elim
      | vs id τ l k =>
        have hx1 := hx.1
        rw [hxv] at hx1
        have hid : Nm s2 id := hx.2 id (by rw [hxv]; simp [ids, ids0])
        have hfr : Nm s2 d → d = id := by
          intro hdn
          rcases hfree with ⟨rfl, ⟨τ', l', he⟩ | ⟨τ', l', k', he⟩⟩ | hfree
          · rw [hxv] at he
            cases he
          · rw [hxv] at he
            injection he with he
            exact he.symm
          · exact absurd hdn hfree
        cases hyv : ev s2 y with
        | rd σ m =>
          rw [hxv, hyv] at h
          obtain ⟨hsz, h⟩ := (chkK_iff _ _).1 (show chkK (Nat.beq te.cells (esz τ)) (castK τ m fun m => (l.length - k + m.length) * te.bytes ≤ 140737488355328 ∧ stKillK id s2 fun s => ∀ pre : List (den τ), pre.length ≤ k → stPutK N s (some d) (.vs d τ (pre ++ (l.drop k ++ m)) pre.length) K) from h)
          obtain ⟨e', hby, hK⟩ := castK_iff h
          subst e'
          have hy1 := hy.1
          rw [hyv] at hy1
          rw [stKillK_eq] at hK
          have hsz := Nat.eq_of_beq_eq_true hsz
          obtain ⟨u, w', β', pre, hpre, hr, hI'⟩ := append_suf hI2 hu hu' hte hsz hz1 o.type hdN hfr hid hx1 hy1 hby (bytes_len hb1 hby)
          have hK := putVec hdN (hK pre hpre)
          exact wp_val (hrun hr) (by rw [hd]; exact hn _ _ _ hK ⟨β', hI'⟩)
        | _ => rw [hxv, hyv] at h; exact h.elim
      | _ => rw [hxv] at h; exact h.elim
    · exact h.elim
  · exact h.elim

/-! ### calls -/
/-- WHAT A FUNCTION THAT ONLY READS AND MAKES COMES TO: called with what reads as 'args' it hands back what reads as 'r', and nothing that was there has turned. -/
def PSpec (P : Program) (f : FuncId) (args : List AV) (r : AV) : Prop :=
  (∀ (vs : Array Value) (w : World), (callFunc f vs).run P w = .ok (.enter f vs) w) ∧
  ∀ (O : Nat → Prop) (w : World) (vs : List Value), (∀ k, O k → k < w.heap.size) → GlobOK O w → All2 (Im O w) args vs →
    Calls P f vs.toArray w fun e w' => ∃ v, e = .returned v ∧ Stp (fun _ => False) w w' ∧ Im O w' r v

def vecsOf : List AV → List Nat
  | [] => []
  | .vec id _ _ :: r => id :: vecsOf r
  | .vs id _ _ _ :: r => id :: vecsOf r
  | _ :: r => vecsOf r
def vecsOfK : List AV → (List Nat → Prop) → Prop
  | [], K => K []
  | .vec id _ _ :: r, K => vecsOfK r fun l => K (id :: l)
  | .vs id _ _ _ :: r, K => vecsOfK r fun l => K (id :: l)
  | _ :: r, K => vecsOfK r K
theorem vecsOfK_eq (l : List AV) : ∀ K, vecsOfK l K = K (vecsOf l) := by
  induction l with
  | nil => intro K; rfl
  | cons v r ih => intro K; cases v <;> simp [vecsOfK, vecsOf, ih]
/-- read-only, to the sign -/
def imB : AV → Bool
  | .tup .. => false
  | .pt .. => false
  | .vec .. => false
  | .vp .. => false
  | .vs .. => false
  | .ag .. => false
  | .ob .. => false
  | _ => true
def imAll : List AV → Bool
  | [] => true
  | v :: r => bif imB v then imAll r else false
def fnArgs : List AV → Bool
  | [] => true
  | .fn _ caps :: r => bif imAll caps then fnArgs r else false
  | _ :: r => fnArgs r
def callK (P : Program) (N : Nat) (s : St) (f : Operand) (args : List Operand) (dst : Option Nat) (K : St → Prop) : Prop :=
  evsK s args fun vs => vecsOfK vs fun ids => frzAllK ids s fun s => evK s f fun fv => evsK s args fun vs =>
    match fv with
    | .fn g caps => chkK (imAll vs) (chkK (fnArgs vs) (chkK (imAll caps) (∃ r, PSpec P g (vs ++ caps) r ∧ stPutK N s dst r K)))
    | _ => False
theorem im_of_rel {O : Nat → Prop} {c : AV} {v : Value} (h : Rel β O w c v) (hb : imB c = true) (hf : fnArgs [c] = true) : Im O w c v := by
  cases c with
  | fn f caps =>
    obtain ⟨vs, rfl, h1⟩ := h
    refine .fn f caps vs h1.1 fun j av v hav hv => ?_
    have hc : imAll caps = true := by
      simp only [fnArgs] at hf
      cases he : imAll caps with
      | true => rfl
      | false => rw [he] at hf; cases hf
    have hav' : imB av = true := by
      have hm := List.mem_of_getElem? hav
      clear h1 hf hav hb
      induction caps with
      | nil => cases hm
      | cons z r ih =>
        simp only [imAll] at hc
        cases hx : imB z with
        | false => rw [hx] at hc; cases hc
        | true =>
          rw [hx] at hc
          rcases List.mem_cons.1 hm with rfl | hm
          · exact hx
          · exact ih hc hm
    have h2 := h1.2 j av v hav hv
    cases av <;> first | exact h2 | (cases hav'; done)
  | tup _ => cases hb
  | pt _ _ => cases hb
  | vec _ _ _ => cases hb
  | vp _ _ _ _ _ => cases hb
  | vs _ _ _ _ => cases hb
  | ag _ => cases hb
  | ob _ _ _ => cases hb
  | _ => exact h
theorem imAll_mem {l : List AV} (h : imAll l = true) {c : AV} (hc : c ∈ l) : imB c = true := by
  induction l with
  | nil => cases hc
  | cons z r ih =>
    simp only [imAll] at h
    cases hx : imB z with
    | false => rw [hx] at h; cases h
    | true =>
      rw [hx] at h
      rcases List.mem_cons.1 hc with rfl | hc
      · exact hx
      · exact ih h hc
theorem fnArgs_mem {l : List AV} (h : fnArgs l = true) {c : AV} (hc : c ∈ l) : fnArgs [c] = true := by
  induction l with
  | nil => cases hc
  | cons z r ih =>
    cases z with
    | fn f caps =>
      simp only [fnArgs] at h
      cases hx : imAll caps with
      | false => rw [hx] at h; cases h
      | true =>
        rw [hx] at h
        rcases List.mem_cons.1 hc with rfl | hc
        · simp [fnArgs, hx]
        · exact ih h hc
    | _ =>
      rcases List.mem_cons.1 hc with rfl | hc
      · rfl
      · exact ih h hc
theorem own_lt (hI : InvB W0 F X N s β a w) : ∀ k, Own X s β k → k < w.heap.size := by
  rintro k (hX | ⟨n, hn, hb⟩)
  · exact Nat.lt_of_lt_of_le (hI.ext2 k hX).1 hI.ext.size
  · exact (hI.own n k hn hb).1

theorem call_ok (hI : InvB W0 F X N s β a w) {o : Oper} {f : Operand} {args : Array Operand} {ts : Array TypeId} (ho : o.op = .call { callee := .value f, args := args, argTypes := ts }) {K : St → Prop}
    (h : callK P N s f args.toList o.dst K) {next : Act → World → Prop} {Q : Exit → Act → World → Prop} (hn : ∀ s' a' w', K s' → Inv W0 F X N s' a' w' → next a' w') : o.wp P a w next Q := by
  unfold callK at h
  rw [evsK_eq, vecsOfK_eq, frzAllK_eq, evK_eq, evsK_eq] at h
  have hI1 := hI.frzAll (vecsOf (evs s args.toList))
  generalize frzAll (vecsOf (evs s args.toList)) s = s1 at h hI1
  have hf := ev_rel hI1 f
  have hvs := evs_rel hI1 args.toList
  cases hfv : ev s1 f with
  | fn g caps =>
    rw [hfv] at h hf
    obtain ⟨h1, h⟩ := (chkK_iff _ _).1 h
    obtain ⟨h2, h⟩ := (chkK_iff _ _).1 h
    obtain ⟨h3, h⟩ := (chkK_iff _ _).1 h
    obtain ⟨r, ⟨hcall, hspec⟩, hK⟩ := h
    obtain ⟨cvs, hfe, hcaps⟩ := hf.1
    have himv : All2 (Im (Own X s1 β) w) (evs s1 args.toList) (args.toList.map a.eval) :=
      hvs.1.mono fun _ c v hc hr => im_of_rel hr (imAll_mem h1 (List.mem_of_getElem? hc)) (fnArgs_mem h2 (List.mem_of_getElem? hc))
    have himc : All2 (Im (Own X s1 β) w) caps cvs := hcaps.mono fun _ c v hc hr => by
      have hb := imAll_mem h3 (List.mem_of_getElem? hc)
      cases c <;> first | exact hr | (cases hb; done)
    have hs := hspec (Own X s1 β) w _ (own_lt hI1) hI1.globs (himv.append himc)
    unfold Oper.wp
    have hrun : (execOp a.eval o).run P w = .ok (.enter g (args.toList.map a.eval ++ cvs).toArray) w := by
      have e1 : args.map a.eval ++ cvs.toArray = (args.toList.map a.eval ++ cvs).toArray := by apply Array.ext'; simp
      simp [execOp, ho, resolve, hfe, Deferred.ofValue, invoke]
      rw [e1] 
      exact hcall _ w
    rw [hrun]
    refine hs.mono fun e w' hp => ?_
    obtain ⟨v, rfl, hst, him⟩ := hp
    obtain ⟨s', h4, h5⟩ := putIm_ok hI1 hst hK him
    exact hn _ _ _ h4 ⟨β, h5⟩
  | _ => rw [hfv] at h; exact h.elim
/-! ### calls that only read own slices, and hand back no memory -/
def rdB (b : List (Nat × List AV)) : AV → AV
  | .vec _ τ l => .rd τ l
  | .vs _ τ l k => .rd τ (l.drop k)
  | .pt n o => match o with
    | 0 => match lookB b n with
      | some cs => bif imAll cs && fnArgs cs then .rp cs else .pt n 0
      | none => .pt n 0
    | o + 1 => .pt n (o + 1)
  | v => v
def rdBL (b : List (Nat × List AV)) : List AV → List AV
  | [] => []
  | v :: r => rdB b v :: rdBL b r
/-- how a call that only reads sees a value: own slices and boxes as memory that nobody writes -/
def rdOf (b : List (Nat × List AV)) : AV → AV
  | .fn g caps => .fn g (rdBL b caps)
  | v => rdB b v
def rdAll (b : List (Nat × List AV)) : List AV → List AV
  | [] => []
  | v :: r => rdOf b v :: rdAll b r
theorem rdBL_eq (b : List (Nat × List AV)) (l : List AV) : rdBL b l = l.map (rdB b) := by induction l with
  | nil => rfl
  | cons v r ih => simp [rdBL, ih]
/-- no memory in it -/
def gr0 : AV → Bool
  | .i .. | .b .. | .s .. => true
  | _ => false
def gr0All : List AV → Bool
  | [] => true
  | v :: r => bif gr0 v then gr0All r else false
def grB : AV → Bool
  | .tup cs => gr0All cs
  | v => gr0 v
theorem gr0_im {O O' : Nat → Prop} {w : World} {c : AV} {v : Value} (hg : gr0 c = true) (h : Im O w c v) : Im O' w c v := by
  cases c <;> first | (cases hg; done) | (cases h; constructor; done) | (cases h; constructor; assumption)
theorem gr0All_mem {l : List AV} (h : gr0All l = true) {c : AV} (hc : c ∈ l) : gr0 c = true := by
  induction l with
  | nil => cases hc
  | cons z r ih =>
    simp only [gr0All] at h
    cases hx : gr0 z with
    | false => rw [hx] at h; cases h
    | true =>
      rw [hx] at h
      rcases List.mem_cons.1 hc with rfl | hc
      · exact hx
      · exact ih h hc
theorem gr_im {O O' : Nat → Prop} {w : World} {c : AV} {v : Value} (hg : grB c = true) (h : Im O w c v) : Im O' w c v := by
  cases c with
  | tup cs =>
    cases h with
    | tup _ vs h1 h2 => exact .tup cs vs h1 fun j av v ha hv => gr0_im (gr0All_mem hg (List.mem_of_getElem? ha)) (h2 j av v ha hv)
  | i k n => exact gr0_im rfl h
  | b t => exact gr0_im rfl h
  | s l => exact gr0_im rfl h
  | _ => cases hg
theorem vec_rd {β : Nat → Option Nat} {O : Nat → Prop} {w : World} {id : Nat} {τ : Ty} {l : List (den τ)} {v : Value} (h : VecAt β O w id τ l v) : Im (fun _ => False) w (.rd τ l) v := h.freeze fun _ h => h.elim
theorem rdB_fn (b : List (Nat × List AV)) (c : AV) : (∃ f caps, c = .fn f caps) ∨ fnArgs [rdB b c] = true := by
  cases c with
  | fn f caps => exact .inl ⟨_, _, rfl⟩
  | pt n o =>
    right
    cases o with
    | succ o => rfl
    | zero =>
      simp only [rdB]
      cases lookB b n with
      | none => rfl
      | some cs => cases h : (imAll cs && fnArgs cs) <;> simp only [cond_true, cond_false, h] <;> rfl
  | _ => exact .inr rfl
theorem rdB_im (hI : InvB W0 F X N s β a w) {c : AV} {v : Value} (h : Rel0 β (Own X s β) w c v) (hb : imB (rdB s.boxes c) = true) (hf : fnArgs [rdB s.boxes c] = true) : Im (fun _ => False) w (rdB s.boxes c) v := by
  cases c with
  | vec id τ l => exact vec_rd h
  | vs id τ l k => exact VsAt.freeze (show VsAt β (Own X s β) w id τ l k v from h) fun _ h => h.elim
  | pt n o =>
    obtain ⟨g, hg, rfl⟩ := h
    cases o with
    | succ o => cases hb
    | zero =>
      cases hl : lookB s.boxes n with
      | none => simp only [rdB, hl] at hb; cases hb
      | some cs =>
        cases hc : (imAll cs && fnArgs cs) with
        | false => simp only [rdB, hl, hc] at hb; cases hb
        | true =>
          have e : rdB s.boxes (.pt n 0) = .rp cs := by simp only [rdB, hl, hc, cond_true]
          rw [Bool.and_eq_true] at hc
          rw [e]
          obtain ⟨g', us, e', h1, h2, h3⟩ := hI.boxes n cs hl
          rw [hg] at h1
          injection h1 with h1
          subst h1
          refine Im.mk_rp fun j av hj => ⟨fun h => h, ?_⟩
          have hlt : j < us.toList.length := by rw [← h3.1]; exact (List.getElem?_eq_some_iff.1 hj).1
          have hr := h3.2 j av _ hj (List.getElem?_eq_getElem hlt)
          refine ⟨us.toList[j], ?_, (im_of_rel hr.1 (imAll_mem hc.1 (List.mem_of_getElem? hj)) (fnArgs_mem hc.2 (List.mem_of_getElem? hj))).mono fun _ h => h.elim, hr.2⟩
          rw [cell_of_row w g _ us e' (0, 0) h2, Nat.zero_add, ← Array.getElem?_toList, List.getElem?_eq_getElem hlt]
  | fn f caps => exact Im.mono (show Im (Own X s β) w (.fn f caps) v from h) fun _ h => h.elim
  | tup cs => exact absurd hb (by simp [rdB, imB])
  | ag cs => exact absurd hb (by simp [rdB, imB])
  | _ => exact (im_of_rel (Rel.rel0 h) hb hf).mono fun _ h => h.elim
theorem rdOf_im (hI : InvB W0 F X N s β a w) {c : AV} {v : Value} (h : Rel β (Own X s β) w c v) (hb : imB (rdOf s.boxes c) = true) (hf : fnArgs [rdOf s.boxes c] = true) : Im (fun _ => False) w (rdOf s.boxes c) v := by
  cases c with
  | fn f caps =>
    obtain ⟨vs, rfl, h1⟩ := h
    have hc : imAll (rdBL s.boxes caps) = true := by
      simp only [fnArgs, rdOf] at hf
      cases he : imAll (rdBL s.boxes caps) with
      | true => rfl
      | false => rw [he] at hf; cases hf
    refine .fn f _ vs (by rw [rdBL_eq, List.length_map]; exact h1.1) fun j av v hav hv => ?_
    have hm := imAll_mem hc (List.mem_of_getElem? hav)
    rw [rdBL_eq, List.getElem?_map, Option.map_eq_some_iff] at hav
    obtain ⟨c, hc', rfl⟩ := hav
    have hr := h1.2 j c v hc' hv
    rcases rdB_fn s.boxes c with ⟨f', caps', rfl⟩ | hfn
    · exact Im.mono (show Im (Own X s β) w (.fn f' caps') v from hr) fun _ h => h.elim
    · exact rdB_im hI hr hm hfn
  | tup cs => exact absurd hb (by simp [rdOf, rdB, imB])
  | ag cs => exact absurd hb (by simp [rdOf, rdB, imB])
  | i k n => exact rdB_im hI (c := .i k n) h hb hf
  | b x => exact rdB_im hI (c := .b x) h hb hf
  | s x => exact rdB_im hI (c := .s x) h hb hf
  | nl => exact rdB_im hI (c := .nl) h hb hf
  | rd τ l => exact rdB_im hI (c := .rd τ l) h hb hf
  | rp cs => exact rdB_im hI (c := .rp cs) h hb hf
  | pt n o => exact rdB_im hI (c := .pt n o) h hb hf
  | vec id τ l => exact rdB_im hI (c := .vec id τ l) h hb hf
  | vp id τ l n o => exact rdB_im hI (c := .vp id τ l n o) h hb hf
  | agg cs => exact rdB_im hI (c := .agg cs) h hb hf
  | vs id τ l k => exact rdB_im hI (c := .vs id τ l k) h hb hf
  | ob i j o => exact rdB_im hI (c := .ob i j o) h hb hf
  | np => exact rdB_im hI (c := .np) h hb hf
  | x => exact rdB_im hI (c := .x) h hb hf
def readGK (P : Program) (b : List (Nat × List AV)) (vs : List AV) : AV → (AV → Prop) → Prop
  | .fn g caps, K => chkK (imAll (rdAll b vs)) (chkK (fnArgs (rdAll b vs)) (chkK (imAll (rdBL b caps)) (∃ r, PSpec P g (rdAll b vs ++ rdBL b caps) r ∧ chkK (grB r) (K r))))
  | _, _ => False
def readK (P : Program) (N : Nat) (s : St) (f : Operand) (args : List Operand) (dst : Option Nat) (K : St → Prop) : Prop :=
  evsK s args fun vs => evK s f fun fv => readGK P s.boxes vs fv fun r => stPutK N s dst r K
theorem rdAll_eq (b : List (Nat × List AV)) (l : List AV) : rdAll b l = l.map (rdOf b) := by induction l with
  | nil => rfl
  | cons v r ih => simp [rdAll, ih]
theorem read_ok (hI : InvB W0 F X N s β a w) {o : Oper} {f : Operand} {args : Array Operand} {ts : Array TypeId} (ho : o.op = .call { callee := .value f, args := args, argTypes := ts }) {K : St → Prop}
    (h : readK P N s f args.toList o.dst K) {next : Act → World → Prop} {Q : Exit → Act → World → Prop} (hn : ∀ s' a' w', K s' → Inv W0 F X N s' a' w' → next a' w') : o.wp P a w next Q := by
  unfold readK at h
  rw [evsK_eq, evK_eq] at h
  have hf := ev_rel hI f
  have hvs := evs_rel hI args.toList
  cases hfv : ev s f with
  | fn g caps =>
    rw [hfv] at h hf
    obtain ⟨h1, h⟩ := (chkK_iff _ _).1 h
    obtain ⟨h2, h⟩ := (chkK_iff _ _).1 h
    obtain ⟨h3, h⟩ := (chkK_iff _ _).1 h
    obtain ⟨r, ⟨hcall, hspec⟩, hK⟩ := h
    obtain ⟨hgr, hK⟩ := (chkK_iff _ _).1 hK
    obtain ⟨cvs, hfe, hcaps⟩ := hf.1
    have himv : All2 (Im (fun _ => False) w) (rdAll s.boxes (evs s args.toList)) (args.toList.map a.eval) := by
      rw [rdAll_eq]
      refine ⟨by rw [List.length_map]; exact hvs.1.1, fun j c v hc hv => ?_⟩
      have hm := List.mem_of_getElem? hc
      rw [List.getElem?_map, Option.map_eq_some_iff] at hc
      obtain ⟨c', hc', rfl⟩ := hc
      rw [← rdAll_eq] at hm
      exact rdOf_im hI (hvs.1.2 j c' v hc' hv) (imAll_mem h1 hm) (fnArgs_mem h2 hm)
    have himc : All2 (Im (fun _ => False) w) (rdBL s.boxes caps) cvs := by
      have h9 := rdOf_im hI (c := .fn g caps) (v := .func (.func g) #[] cvs.toArray) ⟨cvs, rfl, hcaps⟩ rfl (by simp only [rdOf, fnArgs, h3, cond_true])
      cases h9 with
      | fn _ _ vs' h10 h11 =>
        refine ⟨h10, h11⟩
    have hs := hspec (fun _ => False) w _ (fun _ h => h.elim) (fun p hp => ⟨fun h => h, (hI.globs p hp).2⟩) (himv.append himc)
    unfold Oper.wp
    have hrun : (execOp a.eval o).run P w = .ok (.enter g (args.toList.map a.eval ++ cvs).toArray) w := by
      have e1 : args.map a.eval ++ cvs.toArray = (args.toList.map a.eval ++ cvs).toArray := by apply Array.ext'; simp
      simp [execOp, ho, resolve, hfe, Deferred.ofValue, invoke]
      rw [e1] 
      exact hcall _ w
    rw [hrun]
    refine hs.mono fun e w' hp => ?_
    obtain ⟨v, rfl, hst, him⟩ := hp
    obtain ⟨s', h4, h5⟩ := putIm_ok hI hst hK (gr_im hgr him)
    exact hn _ _ _ h4 ⟨β, h5⟩
  | _ => rw [hfv] at h; exact h.elim
def argSlots : Nat → List AV → List (Nat × AV)
  | _, [] => []
  | n, v :: r => (n, v) :: argSlots (n + 1) r
theorem look_args (vs : List AV) : ∀ (n k : Nat), look (argSlots n vs) (n + k) = vs.getD k .x := by
  induction vs with
  | nil => intro n k; simp [argSlots, look]
  | cons v r ih =>
    intro n k
    simp only [argSlots, look]
    cases k with
    | zero => simp
    | succ k => rw [nbeq_ne (by omega), cond_false, show n + (k + 1) = (n + 1) + k from by omega, ih]; simp
end
end Go.SX
