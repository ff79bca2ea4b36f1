/-
  The operations over literals and own slices.
-/
import Derived.Test.YtjlbaagnoppfgaaSxBuild
namespace Go.SX
set_option linter.unusedSectionVars false
variable [Globs]
section
variable {P : Program} {N : Nat} {Γ : Ctx} {W0 : World} {F : Fr} {X : Nat → Prop} {s : St} {β : Nat → Option Nat} {a : Act} {w : World}

theorem places_run {fs : List Field} (h : ∀ f ∈ fs, fieldOk P f = true) (w : World) :
    (fs.mapM (fun f => do pure (f.offset, ← sizeOf f.type) : Field → Sem (Nat × Nat))).run P w = .ok (fs.map fun f => (f.offset, P.cellsOf f.type)) w := by
  induction fs with
  | nil => rfl
  | cons f r ih =>
    obtain ⟨_, ⟨i, hi⟩, _⟩ := fieldOk_spec (h f (List.mem_cons_self ..))
    have h1 : (sizeOf f.type).run P w = .ok (P.cellsOf f.type) w := by simp [sizeOf, typeInfo, hi, Program.cellsOf]
    have h2 := ih fun g hg => h g (List.mem_cons_of_mem _ hg)
    rw [List.mapM_cons]
    simp only [Sem.run_bind, h1, Result.andThen_ok, Sem.run_pure] at h2 ⊢
    rw [h2]
    rfl

def buildFK (Γ : Ctx) (N : Nat) (s : St) (t : TypeId) (ps : List (Nat × Operand)) (dst : Option Nat) (K : St → Prop) : Prop :=
  opVecsK s ps fun ids => frzAllK ids s fun s => tiK Γ t fun ti => structK ti.desc fun fl => ofValsK ti.zero fun z => partsK s ps fun l => fillK (nthK fl) z l fun cs => plainCK cs fun cs => stPutK N s dst (.agg cs) K

theorem buildF_ok (hΓ : Γ.ok P) (hone : ∀ p ∈ Γ, ∀ v ∈ p.2.zero, v.oneCell' = true) (hI : InvB W0 F X N s β a w) {o : Oper} {t : TypeId} {ps : Array (Nat × Operand)} (ho : o.op = .build t ps) {K : St → Prop} (h : buildFK Γ N s t ps.toList o.dst K)
    {next : Act → World → Prop} {Q : Exit → Act → World → Prop} (hn : ∀ s' a' w', K s' → Inv W0 F X N s' a' w' → next a' w') : o.wp P a w next Q := by
  unfold buildFK at h
  rw [opVecsK_eq, frzAllK_eq] at h
  have hI1 := hI.frzAll (opVecs s ps.toList)
  obtain ⟨ti, hmem, h⟩ := tiK_mem h
  have hti := hΓ _ hmem
  obtain ⟨fl, fs, h, hu, h3, h4⟩ := struct_ok hti h
  rw [ofValsK_eq, partsK_eq] at h
  obtain ⟨z, hz, hzc⟩ := hti.zeroValue w
  have hr : All2 (RelC β (Own X (frzAll (opVecs s ps.toList) s) β) w) (ofVals ti.zero) z.cells.toList := by
    rw [hzc]; exact ofVals_all2 _ _ (hone _ hmem)
  obtain ⟨cs, us, hK, hf, hrel, hids, _⟩ := fill_ok hI1 (place := fun i => fl[i]?) (fun i K h => (nthK_iff fl i K).1 h) ps.toList _ _ _ hr (fun c hc n hn => by rw [ofVals_ids _ c hc] at hn; cases hn) h
  rw [plainCK_eq] at hK
  have him := plainC_im (hrel.mono fun _ _ _ _ h => h.1)
  refine valIm_ok hI1 (Stp.refl _ _) (u := .agg us) hK hn ?_ ?_
  · have hpl := places_run (P := P) (fs := fs.toList) (fun f hf => h4 f (by simpa using hf)) w
    have hps : (ps.map fun (p : Nat × Operand) => (p.1, a.eval p.2)).toList = ps.toList.map fun p => (p.1, a.eval p.2) := by simp
    have hz' : z.cells = ti.zero.toArray := hzc
    simp only [execOp, ho, Instr.build, Sem.run_bind, hz, Result.andThen_ok, run_underlying hu, Array.mapM_eq_mapM_toList, Sem.run_map]
    rw [hpl]
    simp only [Result.andThen_ok, hps]
    have hplace : (fun x : Nat => (List.toArray (fs.toList.map fun f => (f.offset, P.cellsOf f.type)))[x]?) = fun i => fl[i]? := by
      funext i; rw [h3]; simp
    rw [hplace, hf]
    simp
  · have : us = us.toList.toArray := by simp
    rw [this]
    refine .agg _ _ him.1 (fun u hu => ?_) him.2
    obtain ⟨j, hj, rfl⟩ := List.getElem_of_mem hu
    have hj' : j < cs.length := by rw [hrel.1]; exact hj
    exact (hrel.2 j _ _ (List.getElem?_eq_getElem hj') (List.getElem?_eq_getElem hj)).2

/-- a struct of one cell, which holds an own slice -/
def buildAK (Γ : Ctx) (N : Nat) (s : St) (t : TypeId) (ps : List (Nat × Operand)) (dst : Option Nat) (K : St → Prop) : Prop :=
  tiK Γ t fun ti => structK ti.desc fun fl => ofValsK ti.zero fun z => partsK s ps fun l => fillK (nthK fl) z l fun cs => match cs with
    | [.vec id τ l] => stPutK N s dst (.ag [.vec id τ l]) K
    | _ => False
def buildK (Γ : Ctx) (N : Nat) (s : St) (t : TypeId) (ps : List (Nat × Operand)) (dst : Option Nat) (K : St → Prop) : Prop :=
  match ps with
  | [(_, x)] => evK s x fun v => match v with
    | .vec _ _ _ => tiK Γ t fun ti => match Nat.beq ti.cells 1 with
      | true => buildAK Γ N s t ps dst K
      | false => buildFK Γ N s t ps dst K
    | _ => buildFK Γ N s t ps dst K
  | _ => buildFK Γ N s t ps dst K
theorem buildK_cases {t : TypeId} {ps : List (Nat × Operand)} {dst : Option Nat} {K : St → Prop} (h : buildK Γ N s t ps dst K) : buildFK Γ N s t ps dst K ∨ buildAK Γ N s t ps dst K := by
  unfold buildK at h
  split at h
  · rw [evK_eq] at h
    split at h
    · obtain ⟨ti, _, h⟩ := tiK_mem h
      split at h
      · exact .inr h
      · exact .inl h
    · exact .inl h
  · exact .inl h
theorem buildK_of {t : TypeId} {ps : List (Nat × Operand)} {dst : Option Nat} {K : St → Prop} (hn : opVecs s ps = []) (h : buildFK Γ N s t ps dst K) : buildK Γ N s t ps dst K := by
  unfold buildK
  split
  · rename_i i x
    rw [evK_eq]
    split
    · rename_i id τ l e
      have : opVecs s [(i, x)] = [id] := by simp [opVecs, e]
      rw [this] at hn; cases hn
    · exact h
  · exact h
theorem build_ok (hΓ : Γ.ok P) (hone : ∀ p ∈ Γ, ∀ v ∈ p.2.zero, v.oneCell' = true) (hI : InvB W0 F X N s β a w) {o : Oper} {t : TypeId} {ps : Array (Nat × Operand)} (ho : o.op = .build t ps) {K : St → Prop} (h : buildK Γ N s t ps.toList o.dst K)
    {next : Act → World → Prop} {Q : Exit → Act → World → Prop} (hn : ∀ s' a' w', K s' → Inv W0 F X N s' a' w' → next a' w') : o.wp P a w next Q := by
  rcases buildK_cases h with h | h
  · exact buildF_ok hΓ hone hI ho h hn
  unfold buildAK at h
  obtain ⟨ti, hmem, h⟩ := tiK_mem h
  have hti := hΓ _ hmem
  obtain ⟨fl, fs, h, hu, h3, h4⟩ := struct_ok hti h
  rw [ofValsK_eq, partsK_eq] at h
  obtain ⟨z, hz, hzc⟩ := hti.zeroValue w
  have hr : All2 (RelC β (Own X s β) w) (ofVals ti.zero) z.cells.toList := by
    rw [hzc]; exact ofVals_all2 _ _ (hone _ hmem)
  obtain ⟨cs, us, hK, hf, hrel, hids, _⟩ := fill_ok hI (place := fun i => fl[i]?) (fun i K h => (nthK_iff fl i K).1 h) ps.toList _ _ _ hr (fun c hc n hn => by rw [ofVals_ids _ c hc] at hn; cases hn) h
  split at hK
  · rename_i id τ l
    have hus : us = us.toList.toArray := by simp
    obtain ⟨s', h1, h2⟩ := put_ok hI (u := .agg us) hK (by rw [hus]; exact ⟨us.toList, by simp, hrel.mono fun j c v hc hv => by
        cases j with
        | zero => simp at hc; subst hc; exact hv.1
        | succ j => simp at hc, fun u hu => by
          obtain ⟨j, hj, rfl⟩ := List.getElem_of_mem hu
          have hj' : j < [AV.vec id τ l].length := by rw [hrel.1]; exact hj
          exact (hrel.2 j _ _ (List.getElem?_eq_getElem hj') (List.getElem?_eq_getElem hj)).2⟩) (fun n hn => hids (.vec id τ l) (by simp) n (by simpa [ids] using hn))
    refine wp_val ?_ (hn _ _ _ h1 ⟨β, h2⟩)
    have hpl := places_run (P := P) (fs := fs.toList) (fun f hf => h4 f (by simpa using hf)) w
    have hps : (ps.map fun (p : Nat × Operand) => (p.1, a.eval p.2)).toList = ps.toList.map fun p => (p.1, a.eval p.2) := by simp
    have hz' : z.cells = ti.zero.toArray := hzc
    simp only [execOp, ho, Instr.build, Sem.run_bind, hz, Result.andThen_ok, run_underlying hu, Array.mapM_eq_mapM_toList, Sem.run_map]
    rw [hpl]
    simp only [Result.andThen_ok, hps]
    have hplace : (fun x : Nat => (List.toArray (fs.toList.map fun f => (f.offset, P.cellsOf f.type)))[x]?) = fun i => fl[i]? := by
      funext i; rw [h3]; simp
    rw [hplace, hf]
    simp
  · exact hK.elim

/-- a list of elements out of their cells -/
def decs (τ : Ty) : Nat → List AV → Option (List (den τ))
  | 0, _ => some []
  | n + 1, cs => (dec τ (cs.take (esz τ))).bind fun x => (decs τ n (cs.drop (esz τ))).bind fun r => some (x :: r)
def optK {α : Type} : Option α → (α → Prop) → Prop
  | some a, K => K a
  | none, _ => False
theorem optK_iff {α : Type} (x : Option α) (K : α → Prop) : optK x K ↔ ∃ a, x = some a ∧ K a := by cases x <;> simp [optK]
theorem decs_le {τ : Ty} {n : Nat} {cs : List AV} {l : List (den τ)} (h : decs τ n cs = some l) (hl : cs.length = n * esz τ) : AVles cs (flat τ l) ∧ l.length = n := by
  induction n generalizing cs l with
  | zero =>
    simp only [decs] at h; injection h with h; subst h
    have : cs = [] := List.eq_nil_of_length_eq_zero (by simpa using hl)
    subst this
    exact ⟨trivial, rfl⟩
  | succ n ih =>
    simp only [decs, Option.bind_eq_some_iff, Option.some.injEq] at h
    obtain ⟨x, hx, r, hr, rfl⟩ := h
    have h1 := dec_le hx
    obtain ⟨h2, h3⟩ := ih hr (by rw [List.length_drop, hl, Nat.succ_mul]; omega)
    refine ⟨?_, by simp [h3]⟩
    have := AVles.append h1 h2
    rw [List.take_append_drop] at this
    exact this
theorem im_le {O : Nat → Prop} {c e : AV} {u : Value} (h : Im O w c u) (hle : AVle c e) : Im O w e u := by
  rcases hle with rfl | ⟨rfl, σ, rfl⟩
  · exact h
  · cases h
    exact .rd0 σ none 0 (Nat.zero_le _)
theorem all_le {O : Nat → Prop} {cs es : List AV} {us : List Value} (h : All2 (Im O w) cs us) (hle : AVles cs es) : All2 (Im O w) es us := by
  induction cs generalizing es us with
  | nil =>
    cases es with
    | nil => exact h
    | cons _ _ => exact hle.elim
  | cons c r ih =>
    cases es with
    | nil => exact hle.elim
    | cons e t =>
      obtain ⟨u, us', rfl, h1, h2⟩ := h.cons_inv
      exact All2.cons (im_le h1 hle.1) (ih h2 hle.2)

def xs : Nat → List AV
  | 0 => []
  | n + 1 => .x :: xs n
theorem xs_length (n : Nat) : (xs n).length = n := by induction n with
  | zero => rfl
  | succ n ih => simp [xs, ih]
theorem xs_mem {n : Nat} : ∀ c ∈ xs n, c = .x := by
  induction n with
  | zero => intro c hc; cases hc
  | succ n ih => intro c hc; rcases List.mem_cons.1 hc with rfl | hc; exact rfl; exact ih c hc

def tyK : Option Ty → (Ty → Prop) → Prop
  | some τ, K => K τ
  | none, _ => False
theorem tyK_iff (x : Option Ty) (K : Ty → Prop) : tyK x K ↔ ∃ τ, x = some τ ∧ K τ := by cases x <;> simp [tyK]
/-- a slice literal: an own slice under the name of its slot -/
def bsliceK (Γ : Ctx) (N : Nat) (s : St) (t : TypeId) (len : Nat) (ps : List (Nat × Operand)) (dst : Option Nat) (K : St → Prop) : Prop :=
  opVecsK s ps fun ids => frzAllK ids s fun s => optK dst fun d => stFrzK d s fun s => tiK Γ t fun ti => sliceTK ti.desc fun e => tiK Γ e fun te => tyK te.ty fun τ =>
    chkK (Nat.beq te.cells (esz τ)) (chkK (Nat.ble (len * te.cells) 16777216) (partsK s ps fun l => fillK (fun i K => K (i * te.cells, te.cells)) (xs (len * te.cells)) l fun cs => plainCK cs fun cs =>
      optK (decs τ len cs) fun l => stKillK d s fun s => stPutK N s (some d) (.vec d τ l) K))

theorem bslice_ok (hΓ : Γ.ok P) (hone : ∀ p ∈ Γ, (∀ v ∈ p.2.zero, v.oneCell' = true) ∧ p.2.zero.length = p.2.cells) (hI : InvB W0 F X N s β a w) {o : Oper} {t : TypeId} {len : Nat} {ps : Array (Nat × Operand)} (ho : o.op = .buildSlice t len ps) {K : St → Prop}
    (h : bsliceK Γ N s t len ps.toList o.dst K) {next : Act → World → Prop} {Q : Exit → Act → World → Prop} (hn : ∀ s' a' w', K s' → Inv W0 F X N s' a' w' → next a' w') : o.wp P a w next Q := by
  unfold bsliceK at h
  rw [opVecsK_eq, frzAllK_eq] at h
  obtain ⟨d, hd, h⟩ := (optK_iff _ _).1 h
  rw [stFrzK_eq] at h
  have hI1 := (hI.frzAll (opVecs s ps.toList)).frz d
  have hfree := not_frz (frzAll (opVecs s ps.toList) s) d
  generalize (frzAll (opVecs s ps.toList) s).frz d = s1 at h hI1 hfree
  obtain ⟨ti, hmt, h⟩ := tiK_mem h
  obtain ⟨e, h, hu⟩ := slice_ok (hΓ _ hmt) h
  obtain ⟨te, hmem, h⟩ := tiK_mem h
  have hte := hΓ _ hmem
  obtain ⟨τ, _, h⟩ := (tyK_iff _ _).1 h
  obtain ⟨hsz, h⟩ := (chkK_iff _ _).1 h
  obtain ⟨h24, h⟩ := (chkK_iff _ _).1 h
  have hsz := Nat.eq_of_beq_eq_true hsz
  have h24 := Nat.le_of_ble_eq_true h24
  rw [partsK_eq] at h
  obtain ⟨z, hz, hzc⟩ := hte.zeroValue w
  have hzl : z.cells.size = te.cells := by rw [hzc]; simp [(hone _ hmem).2]
  -- the zero cells
  have hu0 : ∀ n : Nat, All2 (RelC β (Own X s1 β) w) (xs n) ((List.range n).map (fun i => z.cells[i % z.cells.size]!)) := by
    intro n
    refine ⟨by simp [xs_length], fun j c u hc hu => ?_⟩
    have := xs_mem c (List.mem_of_getElem? hc)
    subst this
    refine ⟨Rel.x, ?_⟩
    rw [List.getElem?_map, Option.map_eq_some_iff] at hu
    obtain ⟨k, _, rfl⟩ := hu
    have hpos : 0 < z.cells.size := by rw [hzl, hsz]; exact esz_pos τ
    have hlt : k % z.cells.size < z.cells.size := Nat.mod_lt _ hpos
    rw [getElem!_pos z.cells _ hlt]
    have hz' : ∀ u ∈ z.cells, u.oneCell' = true := by rw [hzc]; intro u hu; exact (hone _ hmem).1 u (by simpa using hu)
    exact hz' _ (Array.getElem_mem hlt)
  obtain ⟨cs, us, hK, hf, hrel, hids, hus⟩ := fill_ok hI1 (us := ((List.range (len * te.cells)).map (fun i => z.cells[i % z.cells.size]!)).toArray) (place := fun i => some (i * te.cells, te.cells)) (fun i K h => ⟨_, rfl, h⟩) ps.toList _ _ (by simpa using hu0 (len * te.cells))
    (fun c hc n hn => by rw [xs_mem c hc] at hn; cases hn) h
  rw [plainCK_eq] at hK
  have him := plainC_im (hrel.mono fun _ _ _ _ h => h.1)
  obtain ⟨l, hl, hK⟩ := (optK_iff _ _).1 hK
  have husl : us.size = len * esz τ := by rw [hus]; simp [hsz]
  obtain ⟨hle, hlen⟩ := decs_le hl (by rw [him.1]; simp [husl])
  have hall := all_le him hle
  rw [stKillK_eq] at hK
  cases hdN : Nat.blt d N with
  | false => rw [stPutK_some, hdN] at hK; exact hK.elim
  | true =>
    rw [stPutK_some, hdN, cond_true] at hK
    rw [Nat.blt_eq] at hdN
    have hlm : len ≤ maxLen := by
      have hpos : 0 < te.cells := by rw [hsz]; exact esz_pos τ
      have : len ≤ len * te.cells := Nat.le_mul_of_pos_right _ hpos
      unfold maxLen
      omega
    have hI2 := hI1.newVec (Ow := fun _ => False) (id1 := d) (b := some w.heap.size) (u := .slice (some ⟨w.heap.size, 0, none⟩) len len) (τ := τ) (l := l) hdN (fun _ => rfl) (Stp.alloc w (.cells us e)) (fun _ h => h.elim)
      (fun g hg => by injection hg with hg; subst hg; exact ⟨by simp, .inr (Nat.le_refl _)⟩) (fun O' hO' => by
        have hall' := hall.mono (R' := Im O' (w.alloc (.cells us e))) fun _ _ _ _ him => him.step (Stp.alloc w _) (fun _ _ h => h.elim) hO'
        have := vec_of (d := d) (β := setβ β d (some w.heap.size)) (c := len) (cur := us) (e := e) (by simp [setβ]) (heap_alloc_new w _) (by omega) hlm husl hall' (fun j u hu => by simpa using hu)
        rw [hlen] at this
        exact this)
    refine wp_val (u := .slice (some ⟨w.heap.size, 0, none⟩) len len) (w' := w.alloc (.cells us e)) ?_ (by rw [hd]; exact hn _ _ _ hK ⟨_, hI2⟩)
    have hps : (ps.map fun (p : Nat × Operand) => (p.1, a.eval p.2)).toList = ps.toList.map fun p => (p.1, a.eval p.2) := by simp
    have h24' : ¬ (len * te.cells > 2 ^ 24) := by omega
    simp only [execOp, ho, Instr.buildSlice, Sem.run_bind, run_underlying hu, hte.sizeOf w, Result.andThen_ok, if_neg h24']
    by_cases h0 : len * te.cells = 0
    · have e0 : (List.map (fun i => z.cells[i % z.cells.size]!) (List.range (len * te.cells))).toArray = (Array.range (len * te.cells)).map (fun i => (#[] : Array Value)[i % (#[] : Array Value).size]!) := by rw [h0]; simp
      rw [e0] at hf
      simp only [h0, if_true, Sem.run_bind, Sem.run_pure, Result.andThen_ok, hps]
      rw [h0] at hf
      rw [hf]
      simp [newRow, newObj]
      rfl
    · have e0 : (List.map (fun i => z.cells[i % z.cells.size]!) (List.range (len * te.cells))).toArray = (Array.range (len * te.cells)).map (fun i => z.cells[i % z.cells.size]!) := by
        apply Array.ext'; simp
      rw [e0] at hf
      simp only [h0, if_false, Sem.run_bind, hz, Sem.run_pure, Result.andThen_ok, hps]
      rw [hf]
      simp [newRow, newObj]
      rfl
end
end Go.SX
