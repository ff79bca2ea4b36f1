/-
  The verification condition of a function's code, and contracts out of it.
-/
import Derived.Test.YtjlbaagnoppfgaaSxDraw
namespace Go.SX
set_option linter.unusedSectionVars false
variable [Globs]
section
variable {P : Program} {N : Nat} {Γ : Ctx} {W0 : World} {F : Fr} {X : Nat → Prop} {s : St} {β : Nat → Option Nat} {a : Act} {w : World}

/-- a nil slice in a slot is taken for an own one -/
def nlVecK (N : Nat) : List (Nat × Nat × Ty) → St → (St → Prop) → Prop
  | [], s, K => K s
  | (n, id, τ) :: r, s, K => stFrzK id s fun s => lookK s.slots n fun v => match v with
    | .nl => stPutK N s (some n) (.vec id τ []) fun s => nlVecK N r s K
    | .vec id' τ' l => bif Nat.beq id' id then stPutK N s (some n) (.vec id' τ' l) fun s => nlVecK N r s K else False
    | _ => False
theorem InvB.nlVec (hI : InvB W0 F X N s β a w) {n id : Nat} (hv : look s.slots n = .nl) (hfree : ¬ Nm s id) (τ : Ty) : InvB W0 F X N (s.put n (.vec id τ [])) (setβ β id none) a w := by
  have hNm : ∀ m, Nm (s.put n (.vec id τ [])) m → m = id ∨ (Nm s m ∧ m ≠ id) := by
    intro m hm
    by_cases e : m = id
    · exact .inl e
    · refine .inr ⟨?_, e⟩
      rcases hm with ⟨cs, h⟩ | ⟨q, h⟩ | ⟨b, cs, h, c, hc, hk⟩
      · exact .inl ⟨cs, h⟩
      · simp only [St.put, look_setL] at h
        split at h
        · simp [SX.ids, ids0] at h; exact absurd h e
        · exact .inr (.inl ⟨q, h⟩)
      · exact .inr (.inr ⟨b, cs, h, c, hc, hk⟩)
  have hβ : ∀ m, Nm s m → setβ β id none m = β m := fun m hm => by unfold setβ; rw [if_neg]; rintro rfl; exact hfree hm
  have hO : ∀ k, k < w.heap.size → Own X (s.put n (.vec id τ [])) (setβ β id none) k → Own X s β k := by
    rintro k _ (hX | ⟨m, hm, hb⟩)
    · exact .inl hX
    rcases hNm m hm with rfl | ⟨hm, _⟩
    · simp [setβ] at hb
    · exact .inr ⟨m, hm, (hβ m hm) ▸ hb⟩
  have hk : ∀ {av : AV} {v : Value}, (∀ m ∈ SX.ids av, Nm s m) → Rel β (Own X s β) w av v → Rel (setβ β id none) (Own X (s.put n (.vec id τ [])) (setβ β id none)) w av v := fun hav hrel =>
    hI.keep (Stp.refl (fun _ => False) w) (fun _ _ h => h.elim) hO hrel (fun m hm => hβ m (hav m hm)) (fun _ _ _ _ => rfl)
  refine hI.upd (Stp.refl (fun _ => False) w) (fun _ _ h => h.elim) (fun m => ?_) (fun m cs hcs => ?_) (fun m k g hm hk h1 h2 => ?_) (fun m g hm hg => ?_) rfl rfl (fun m cs g hc hp => (hβ m (.inl ⟨cs, hc⟩)).trans (hI.pin m cs g hc hp))
  · simp only [St.put, look_setL]
    by_cases e : n = m
    · subst e
      simp only [if_true]
      have := hI.slots n
      rw [hv] at this
      exact .inl ⟨rfl, this.inv_nl, by simp [setβ]⟩
    · simp only [e, if_false]
      exact hk (fun k hk => .inr (.inl ⟨m, hk⟩)) (hI.slots m)
  · obtain ⟨g, us, e, h1, h2, h3⟩ := hI.boxes m cs hcs
    exact ⟨g, us, e, (hβ m (.inl ⟨cs, hcs⟩)).trans h1, h2, h3.mono fun j c v hc hr => ⟨hk (fun k hk => .inr (.inr ⟨m, cs, hcs, c, List.mem_of_getElem? hc, hk⟩)) hr.1, hr.2⟩⟩
  · rcases hNm m hm with rfl | ⟨hm, _⟩
    · simp [setβ] at h1
    · rcases hNm k hk with rfl | ⟨hk, _⟩
      · simp [setβ] at h2
      · rw [hβ m hm] at h1; rw [hβ k hk] at h2; exact hI.inj m k g hm hk h1 h2
  · rcases hNm m hm with rfl | ⟨hm, _⟩
    · simp [setβ] at hg
    · rw [hβ m hm] at hg; exact hI.own m g hm hg

/-! ### the code -/
/-- a loop: σ tells what its state holds, S the abstract state, μ falls -/
def LoopVC (N : Nat) (body : (Exit → St → Prop) → St → Prop) (Q : Exit → St → Prop) (s : St) : Prop :=
  ∃ (cv : List (Nat × Nat × Ty)) (cb : List (Nat × Nat × Nat × Ty)) (rn : List (Nat × Nat)), nlVecK N cv s fun s => nlBoxK cb s fun s => renStK rn s fun s => ∃ (σ : Type) (I : σ → Prop) (S : σ → St) (μ : σ → Nat) (x : σ), I x ∧ Wk s (S x) ∧
    ∀ x, I x → body (fun e s' => match e with
      | .normal => ∃ (rn : List (Nat × Nat)), renStK rn s' fun s' => ∃ x', I x' ∧ Wk s' (S x') ∧ μ x' < μ x
      | e => Q e s') (S x)
/-- only the slots and boxes of a list are kept -/
def keepL {α : Type} (L : List Nat) : List (Nat × α) → List (Nat × α)
  | [] => []
  | (n, v) :: r => bif inB n L then (n, v) :: keepL L r else keepL L r
def keepLK {α : Type} (L : List Nat) : List (Nat × α) → (List (Nat × α) → Prop) → Prop
  | [], K => K []
  | (n, v) :: r, K => bif inB n L then keepLK L r fun r' => K ((n, v) :: r') else keepLK L r K
theorem keepLK_eq {α : Type} (L : List Nat) (l : List (Nat × α)) : ∀ K, keepLK L l K = K (keepL L l) := by
  induction l with
  | nil => intro K; rfl
  | cons p r ih => intro K; obtain ⟨n, v⟩ := p; simp only [keepLK, keepL]; cases inB n L <;> simp [ih]
theorem look_keepL (L : List Nat) (l : List (Nat × AV)) (n : Nat) : look (keepL L l) n = look l n ∨ look (keepL L l) n = .x := by
  induction l with
  | nil => exact .inl rfl
  | cons p r ih =>
    obtain ⟨m, v⟩ := p
    simp only [keepL]
    cases hL : inB m L with
    | true =>
      simp only [cond_true, look]
      cases hb : Nat.beq m n with
      | true => exact .inl rfl
      | false => exact ih
    | false =>
      simp only [cond_false, look]
      cases hb : Nat.beq m n with
      | true =>
        have := Nat.eq_of_beq_eq_true hb
        subst this
        refine .inr ?_
        clear ih hb
        induction r with
        | nil => rfl
        | cons q t ih =>
          obtain ⟨k, u⟩ := q
          simp only [keepL]
          cases hk : inB k L with
          | true =>
            have hne : k ≠ m := fun e => by rw [e, hL] at hk; cases hk
            simp only [cond_true, look, nbeq_ne hne, cond_false]
            exact ih
          | false => exact ih
      | false => exact ih
theorem lookB_keepL (L : List Nat) (l : List (Nat × List AV)) (n : Nat) (cs : List AV) (h : lookB (keepL L l) n = some cs) : lookB l n = some cs := by
  have key : inB n L = true → lookB (keepL L l) n = lookB l n := by
    intro hn
    induction l with
    | nil => rfl
    | cons p r ih =>
      obtain ⟨m, v⟩ := p
      simp only [keepL]
      cases hb : Nat.beq m n with
      | true =>
        have := Nat.eq_of_beq_eq_true hb
        subst this
        simp [hn, lookB]
      | false =>
        have ih' := ih (by
          cases hL : inB m L with
          | true => rw [keepL, hL, cond_true] at h; simp only [lookB, hb, cond_false] at h; exact h
          | false => rw [keepL, hL, cond_false] at h; exact h)
        cases hL : inB m L with
        | true => simp only [cond_true, lookB, hb, cond_false]; exact ih'
        | false => simp only [cond_false, lookB, hb]; exact ih'
  cases hn : inB n L with
  | true => rw [← key hn]; exact h
  | false =>
    exfalso
    clear key
    induction l with
    | nil => cases h
    | cons p r ih =>
      obtain ⟨m, v⟩ := p
      simp only [keepL] at h
      cases hL : inB m L with
      | true =>
        have hne : m ≠ n := fun e => by rw [e, hn] at hL; cases hL
        rw [hL, cond_true] at h
        simp only [lookB, nbeq_ne hne, cond_false] at h
        exact ih h
      | false => rw [hL, cond_false] at h; exact ih h
def stKeepK (L : List Nat) (s : St) (K : St → Prop) : Prop := match s with | ⟨sl, b⟩ => keepLK L sl fun sl => keepLK L b fun b => K ⟨sl, b⟩
theorem keep_ok (hI : InvB W0 F X N s β a w) {L : List Nat} {K : St → Prop} (h : stKeepK L s K) : ∃ s', K s' ∧ InvB W0 F X N s' β a w := by
  obtain ⟨sl, b⟩ := s
  simp only [stKeepK, keepLK_eq] at h
  refine ⟨_, h, hI.less (Stp.refl _ _) ?_ (fun n => ?_) (fun n cs => lookB_keepL L b n cs) rfl rfl⟩
  · rintro n (⟨cs, hc⟩ | ⟨m, hm⟩ | ⟨k, cs, hk, c, hc, hn⟩)
    · exact .inl ⟨cs, lookB_keepL L b n cs hc⟩
    · rcases look_keepL L sl m with h1 | h1
      · exact .inr (.inl ⟨m, by rw [← h1]; exact hm⟩)
      · rw [h1] at hm; cases hm
    · exact .inr (.inr ⟨k, cs, lookB_keepL L b k cs hk, c, hc, hn⟩)
  · rcases look_keepL L sl n with h1 | h1
    · exact ⟨n, .inl ⟨h1, rfl⟩⟩
    · exact ⟨n, .inr (.inl (by rw [h1]; exact .x _))⟩

def vc (P : Program) (Γ : Ctx) (N : Nat) (L : List Nat) : Code → (Exit → St → Prop) → St → Prop
  | .skip, Q, s => Q .normal s
  | .region _ ops draw, Q, s => match draw with
    | false => vcOps P Γ N ops.toList ops.toList [] s fun s => stKeepK L s (Q .normal)
    | true => ∃ pl, planOK ops pl = true ∧ vcPlan P Γ N ops.toList pl [] s fun s => stKeepK L s (Q .normal)
  | .seq x y, Q, s => vc P Γ N L x (fun e s' => match e with
    | .normal => vc P Γ N L y Q s'
    | e => Q e s') s
  | .cond c x y, Q, s => evK s c fun v => match v with
    | .b t => (t = true → vc P Γ N L x Q s) ∧ (t = false → vc P Γ N L y Q s)
    | _ => False
  | .block id c, Q, s => vc P Γ N L c (fun e s' => match e with
    | .exit id' => bif Nat.beq id' id then Q .normal s' else Q (.exit id') s'
    | e => Q e s') s
  | .exit id, Q, s => Q (.exit id) s
  | .ret, Q, s => Q .ret s
  | .label _, Q, s => Q .normal s
  | .loop c, Q, s => LoopVC N (vc P Γ N L c) Q s
  | _, _, _ => False

/-- the least number of a kind -/
theorem lub (p : Nat → Prop) (h : ∃ n, p n) : ∃ n, p n ∧ ∀ m, p m → n ≤ m := by
  obtain ⟨n, hn⟩ := h
  induction n using Nat.strongRecOn with
  | _ n ih =>
    by_cases hex : ∃ m, m < n ∧ p m
    · obtain ⟨m, hm, hpm⟩ := hex
      exact ih m hm hpm
    · exact ⟨n, hn, fun m hm => Nat.le_of_not_lt fun hlt => hex ⟨m, hlt, hm⟩⟩
open Classical in
noncomputable def sInfN (p : Nat → Prop) : Nat := if h : ∃ n, p n then Classical.choose (lub p h) else 0
theorem sInfN_mem {p : Nat → Prop} (h : ∃ n, p n) : p (sInfN p) := by
  unfold sInfN; rw [dif_pos h]; exact (Classical.choose_spec (lub p h)).1
theorem sInfN_le {p : Nat → Prop} {n : Nat} (h : p n) : sInfN p ≤ n := by
  unfold sInfN; rw [dif_pos ⟨n, h⟩]; exact (Classical.choose_spec (lub p ⟨n, h⟩)).2 n h
/-- the loop's rule by what every round lowers -/
theorem wp_loop' {P : Program} {c : Code} {Q : Exit → Act → World → Prop} {σ : Type} (A : σ → Act → World → Prop) (μ : σ → Nat)
    (round : ∀ x a w, A x a w → c.wp P (Exit.then (fun a' w' => ∃ x', A x' a' w' ∧ μ x' < μ x) Q) a w) {x : σ} {a : Act} {w : World} (h : A x a w) : (Code.loop c).wp P Q a w := by
  let I : Act → World → Prop := fun a w => ∃ x, A x a w
  let least : Act → World → Nat := fun a w => sInfN fun n => ∃ x, A x a w ∧ μ x = n
  exact wp_loop I least ⟨x, h⟩ fun a w hI => by
    obtain ⟨y, hy, hmin⟩ : ∃ y, A y a w ∧ μ y = least a w := by
      obtain ⟨x, hx⟩ := hI
      have := sInfN_mem (p := fun n => ∃ x, A x a w ∧ μ x = n) ⟨μ x, x, hx, rfl⟩
      exact this
    refine wp_mono (round y a w hy) fun e a' w' hq => ?_
    cases e with
    | normal =>
      obtain ⟨x', h1, h2⟩ := hq
      refine ⟨⟨x', h1⟩, ?_⟩
      have h3 : least a' w' ≤ μ x' := sInfN_le (p := fun n => ∃ x, A x a' w' ∧ μ x = n) ⟨x', h1, rfl⟩
      show least a' w' < least a w
      omega
    | _ => exact hq
theorem nlVec_ok (cv : List (Nat × Nat × Ty)) : ∀ {s : St} {β : Nat → Option Nat} {K : St → Prop}, InvB W0 F X N s β a w → nlVecK N cv s K → ∃ s' β', K s' ∧ InvB W0 F X N s' β' a w := by
  induction cv with
  | nil => intro s β K hI h; exact ⟨s, β, h, hI⟩
  | cons p r ih =>
    intro s β K hI h
    obtain ⟨n, id, τ⟩ := p
    have h : stFrzK id s fun s => lookK s.slots n fun v => match v with
      | .nl => stPutK N s (some n) (.vec id τ []) fun s => nlVecK N r s K
      | .vec id' τ' l => bif Nat.beq id' id then stPutK N s (some n) (.vec id' τ' l) fun s => nlVecK N r s K else False
      | _ => False := h
    rw [stFrzK_eq, lookK_eq] at h
    have hI1 := hI.frz id
    cases hv : look (s.frz id).slots n with
    | nl =>
      rw [hv] at h
      have h : stPutK N (s.frz id) (some n) (.vec id τ []) fun s => nlVecK N r s K := h
      rw [stPutK_some] at h
      cases hb : Nat.blt n N with
      | false => rw [hb] at h; exact h.elim
      | true =>
        rw [hb, cond_true] at h
        exact ih (hI1.nlVec hv (not_frz s id) τ) h
    | vec id' τ' l =>
      rw [hv] at h
      have h : bif Nat.beq id' id then stPutK N (s.frz id) (some n) (.vec id' τ' l) fun s => nlVecK N r s K else False := h
      cases hb : Nat.beq id' id with
      | false => rw [hb] at h; exact h.elim
      | true =>
        have := Nat.eq_of_beq_eq_true hb
        subst this
        exfalso
        exact not_frz s id' (.inr (.inl ⟨n, by rw [hv]; simp [SX.ids, ids0]⟩))
    | _ => rw [hv] at h; exact h.elim

theorem vc_ok (hΓ : Γ.good P) {L : List Nat} (c : Code) : ∀ (Q : Exit → St → Prop) (Q' : Exit → Act → World → Prop) (s : St) (a : Act) (w : World), (∀ e s a w, Q e s → Inv W0 F X N s a w → Q' e a w) → vc P Γ N L c Q s → Inv W0 F X N s a w → c.wp P Q' a w := by
  induction c with
  | skip => intro Q Q' s a w hQ h hI; exact wp_skip (hQ _ _ _ _ h hI)
  | region id ops draw =>
    intro Q Q' s a w hQ h hI
    cases draw with
    | true =>
      obtain ⟨pl, hpl, h⟩ := (show ∃ pl, planOK ops pl = true ∧ vcPlan P Γ N ops.toList pl [] s fun s => stKeepK L s (Q .normal) from h)
      exact draw_ok hΓ (fun s a w hk ⟨β, hI⟩ => by
        obtain ⟨s', h1, h2⟩ := keep_ok hI hk
        exact hQ .normal s' a w h1 ⟨β, h2⟩) hpl h hI
    | false => exact wp_region_list (by
      have := vcOps_ok hΓ (Q' := Q') (fun s a w hk ⟨β, hI⟩ => by
        obtain ⟨s', h1, h2⟩ := keep_ok hI hk
        exact hQ .normal s' a w h1 ⟨β, h2⟩) ops.toList [] s a w h hI
      simpa using this)
  | seq x y ihx ihy =>
    intro Q Q' s a w hQ h hI
    refine wp_seq (ihx _ _ s a w (fun e s' a' w' hq hI' => ?_) h hI)
    cases e with
    | normal => exact ihy Q Q' s' a' w' hQ hq hI'
    | _ => exact hQ _ _ _ _ hq hI'
  | cond c x y ihx ihy =>
    intro Q Q' s a w hQ h hI
    have h : evK s c fun v => match v with
      | .b t => (t = true → vc P Γ N L x Q s) ∧ (t = false → vc P Γ N L y Q s)
      | _ => False := h
    rw [evK_eq] at h
    obtain ⟨β, hI⟩ := hI
    have hr := (ev_rel hI c).1
    cases hv : ev s c with
    | b t =>
      rw [hv] at h hr
      exact wp_cond_split hr.inv_b (fun ht => ihx Q Q' s a w hQ (h.1 ht) ⟨β, hI⟩) (fun ht => ihy Q Q' s a w hQ (h.2 ht) ⟨β, hI⟩)
    | _ => rw [hv] at h; exact h.elim
  | block id c ih =>
    intro Q Q' s a w hQ h hI
    refine wp_block (ih _ _ s a w (fun e s' a' w' hq hI' => ?_) h hI)
    cases e with
    | exit id' =>
      have hq : bif Nat.beq id' id then Q .normal s' else Q (.exit id') s' := hq
      cases hb : Nat.beq id' id with
      | true =>
        rw [hb] at hq
        have hq1 : Q .normal s' := hq
        have e := Nat.eq_of_beq_eq_true hb
        subst e
        simp only [Exit.inBlock, if_true]
        exact hQ _ _ _ _ hq1 hI'
      | false =>
        rw [hb] at hq
        have hne : id' ≠ id := fun e => by subst e; rw [Nat.beq_refl] at hb; cases hb
        simp only [Exit.inBlock, hne, if_false]; exact hQ _ _ _ _ hq hI'
    | _ => exact hQ _ _ _ _ hq hI'
  | loop c ih =>
    intro Q Q' s a w hQ h ⟨β, hI⟩
    obtain ⟨cv, cb, rn, h⟩ := (show LoopVC N (vc P Γ N L c) Q s from h)
    obtain ⟨s00, β00, h, hI00⟩ := nlVec_ok cv hI h
    obtain ⟨s0, β0, h, hI0⟩ := nlBox_ok cb hI00 h
    obtain ⟨s1, β1, ⟨σ, I, S, μ, x, hix, hwk, hround⟩, hI1⟩ := renSt_ok rn hI0 h
    refine wp_loop' (fun x a w => I x ∧ Inv W0 F X N (S x) a w) μ (fun x a w hIx => ?_) (x := x) ⟨hix, β1, hI1.wk hwk⟩
    refine ih _ _ (S x) a w (fun e s' a' w' hq hI' => ?_) (hround x hIx.1) hIx.2
    cases e with
    | normal =>
      obtain ⟨rn, hq⟩ := hq
      obtain ⟨β', hI'⟩ := hI'
      obtain ⟨s2, β2, ⟨x', h0, h1, h2⟩, hI2⟩ := renSt_ok rn hI' hq
      exact ⟨x', ⟨h0, β2, hI2.wk h1⟩, h2⟩
    | _ => exact hQ _ _ _ _ hq hI'
  | exit id => intro Q Q' s a w hQ h hI; exact wp_exit (hQ _ _ _ _ h hI)
  | ret => intro Q Q' s a w hQ h hI; exact wp_ret (hQ _ _ _ _ h hI)
  | label l => intro Q Q' s a w hQ h hI; exact wp_label (hQ _ _ _ _ h hI)
  | _ => intro Q Q' s a w hQ h hI; exact h.elim
end
end Go.SX
