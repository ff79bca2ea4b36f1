/-
  Calls that take and hand back the caller's own memory.
-/
import Derived.Test.YtjlbaagnoppfgaaSxRen
namespace Go.SX
set_option linter.unusedSectionVars false
variable [Globs]
section
variable {P : Program} {N : Nat} {Γ : Ctx} {W0 : World} {F : Fr} {X : Nat → Prop} {s : St} {β : Nat → Option Nat} {a : Act} {w : World}

/-- WHAT A FUNCTION COMES TO, that writes what it is handed: called with 'args' beside the boxes, under names of the contract's own, it hands back 'r' and leaves the boxes so. -/
def CSpec (P : Program) (f : FuncId) (args : List AV) (boxes : List (Nat × List AV)) (r : AV) (boxes' : List (Nat × List AV)) : Prop :=
  (∀ (vs : Array Value) (w : World), (callFunc f vs).run P w = .ok (.enter f vs) w) ∧
  ∀ (F : Fr) (X : Nat → Prop) (β : Nat → Option Nat) (w : World) (vs : List Value), vs.length = args.length → (∀ n g, F.pin n = some g → ∃ cs, lookB boxes n = some cs) →
    InvB w F X vs.length ⟨argSlots 0 args, boxes⟩ β ⟨vs.toArray, []⟩ w →
    Calls P f vs.toArray w fun e w' => ∃ v β', e = .returned v ∧ InvB w F X 1 ⟨[(0, r)], boxes'⟩ β' ⟨#[v], []⟩ w'

/-- the names among values, and among boxes -/
def namesL (l : List AV) : List Nat := l.flatMap ids
def namesB : List (Nat × List AV) → List Nat
  | [] => []
  | (n, cs) :: r => n :: (namesL cs ++ namesB r)
def namesV (l : List AV) (b : List (Nat × List AV)) : List Nat := namesL l ++ namesB b
def boxNames : List (Nat × List AV) → List Nat
  | [] => []
  | (n, _) :: r => n :: boxNames r
theorem lookB_mem {b : List (Nat × List AV)} {n : Nat} {cs : List AV} (h : lookB b n = some cs) : (n, cs) ∈ b := by
  induction b with
  | nil => cases h
  | cons p r ih =>
    obtain ⟨m, v⟩ := p
    simp only [lookB] at h
    cases hb : Nat.beq m n with
    | true => rw [hb] at h; injection h with h; subst h; have := Nat.eq_of_beq_eq_true hb; subst this; exact List.mem_cons_self ..
    | false => rw [hb] at h; exact List.mem_cons_of_mem _ (ih h)
theorem namesB_mem {b : List (Nat × List AV)} {n : Nat} {cs : List AV} (h : (n, cs) ∈ b) : n ∈ namesB b ∧ ∀ c ∈ cs, ∀ k ∈ ids c, k ∈ namesB b := by
  induction b with
  | nil => cases h
  | cons p r ih =>
    obtain ⟨m, v⟩ := p
    simp only [namesB, List.mem_cons, List.mem_append]
    rcases List.mem_cons.1 h with h | h
    · injection h with h1 h2; subst h1 h2
      exact ⟨.inl rfl, fun c hc k hk => .inr (.inl (List.mem_flatMap.2 ⟨c, hc, hk⟩))⟩
    · obtain ⟨h1, h2⟩ := ih h
      exact ⟨.inr (.inr h1), fun c hc k hk => .inr (.inr (h2 c hc k hk))⟩
theorem Nm_names {sl : List (Nat × AV)} {l : List AV} {b : List (Nat × List AV)} (hsl : ∀ m, look sl m = .x ∨ look sl m ∈ l) {n : Nat} (h : Nm ⟨sl, b⟩ n) : n ∈ namesV l b := by
  rcases h with ⟨cs, h⟩ | ⟨m, h⟩ | ⟨k, cs, h, c, hc, hn⟩
  · exact List.mem_append_right _ (namesB_mem (lookB_mem h)).1
  · rcases hsl m with e | e
    · simp only [e] at h; cases h
    · exact List.mem_append_left _ (List.mem_flatMap.2 ⟨_, e, h⟩)
  · exact List.mem_append_right _ ((namesB_mem (lookB_mem h)).2 c hc n hn)
theorem look_args_mem (l : List AV) : ∀ (k m : Nat), look (argSlots k l) m = .x ∨ look (argSlots k l) m ∈ l := by
  induction l with
  | nil => intro k m; exact .inl rfl
  | cons v r ih =>
    intro k m
    simp only [argSlots, look]
    cases Nat.beq k m with
    | true => exact .inr (List.mem_cons_self ..)
    | false => exact (ih (k + 1) m).imp id (List.mem_cons_of_mem _)

def renN : List (Nat × Nat) → Nat → Nat
  | [], n => n
  | (m, k) :: r, n => bif Nat.beq m n then k else renN r n
def setBoxes (ρ : Nat → Nat) : List (Nat × List AV) → St → St
  | [], s => s
  | (n, cs) :: r, s => (setBoxes ρ r s).setBox (ρ n) (mapC (ren ρ) cs)
theorem slots_setBoxes (ρ : Nat → Nat) (b : List (Nat × List AV)) (s : St) : (setBoxes ρ b s).slots = s.slots := by
  induction b with
  | nil => rfl
  | cons p r ih => obtain ⟨n, cs⟩ := p; exact ih
theorem lookB_setBoxes (ρ : Nat → Nat) (b : List (Nat × List AV)) (s : St) (hinj : ∀ n ∈ boxNames b, ∀ m ∈ boxNames b, ρ n = ρ m → n = m) (k : Nat) :
    (∃ n cs, lookB b n = some cs ∧ k = ρ n ∧ lookB (setBoxes ρ b s).boxes k = some (mapC (ren ρ) cs)) ∨ ((∀ n ∈ boxNames b, k ≠ ρ n) ∧ lookB (setBoxes ρ b s).boxes k = lookB s.boxes k) := by
  induction b with
  | nil => exact .inr ⟨by simp [boxNames], rfl⟩
  | cons p r ih =>
    obtain ⟨n, cs⟩ := p
    have ih := ih fun n hn m hm => hinj n (List.mem_cons_of_mem _ hn) m (List.mem_cons_of_mem _ hm)
    simp only [setBoxes, St.setBox, lookB_setL]
    by_cases hk : ρ n = k
    · rw [if_pos hk]
      exact .inl ⟨n, cs, by simp [lookB], hk.symm, rfl⟩
    · rw [if_neg hk]
      rcases ih with ⟨m, cs', h1, h2, h3⟩ | ⟨h1, h2⟩
      · refine .inl ⟨m, cs', ?_, h2, h3⟩
        have hne : n ≠ m := fun e => hk (by rw [e, h2])
        simp only [lookB, nbeq_ne hne, cond_false]
        exact h1
      · refine .inr ⟨fun m hm => ?_, h2⟩
        rcases List.mem_cons.1 hm with rfl | hm
        · exact fun e => hk e.symm
        · exact h1 m hm

/-- the frame of a call: what it may write, and where its boxes lie -/
def calleeF (β : Nat → Option Nat) (ρ : Nat → Nat) (fargs : List AV) (fboxes : List (Nat × List AV)) : Fr :=
  ⟨fun k => ∃ n ∈ namesV fargs fboxes, β (ρ n) = some k, fun n => if n ∈ boxNames fboxes then β (ρ n) else none⟩
def calleeX (X : Nat → Prop) (s : St) (β : Nat → Option Nat) (F : Fr) (k : Nat) : Prop := Own X s β k ∧ ¬ F.own k
theorem boxNames_mem {b : List (Nat × List AV)} {n : Nat} : n ∈ boxNames b ↔ ∃ cs, lookB b n = some cs := by
  induction b with
  | nil => simp [boxNames, lookB]
  | cons p r ih =>
    obtain ⟨m, cs⟩ := p
    simp only [boxNames, List.mem_cons, lookB, ih]
    cases hb : Nat.beq m n with
    | true => have := Nat.eq_of_beq_eq_true hb; subst this; simp
    | false =>
      have : n ≠ m := fun e => by subst e; rw [Nat.beq_refl] at hb; cases hb
      simp [this]

/-- what is handed in suits the callee -/
structure CallOK (s : St) (β : Nat → Option Nat) (N : Nat) (ρ : Nat → Nat) (fargs : List AV) (fboxes : List (Nat × List AV)) (r : AV) (fboxes' : List (Nat × List AV)) : Prop where
  names : ∀ k ∈ namesL fargs, Nm s (ρ k)
  boxes : ∀ n cs, (n, cs) ∈ fboxes → lookB s.boxes (ρ n) = some (mapC (ren ρ) cs)
  inj : ∀ k ∈ namesV fargs fboxes ++ namesV [r] fboxes', ∀ k' ∈ namesV fargs fboxes ++ namesV [r] fboxes', ρ k = ρ k' → k = k'
  new : ∀ k ∈ namesV [r] fboxes', k ∉ namesV fargs fboxes → ρ k < N ∧ ¬ Nm s (ρ k)
  old : ∀ k ∈ boxNames fboxes', k ∈ namesV fargs fboxes → k ∈ boxNames fboxes
  sep : ∀ k ∈ boxNames fboxes', k ∈ namesV fargs fboxes → (∀ m, ρ k ∉ vids (look s.slots m)) ∧ ∀ b cs, lookB s.boxes b = some cs → ∀ c ∈ cs, ρ k ∉ vids c
  low : ∀ n ∈ boxNames fboxes, fargs.length ≤ n
  uniq : ∀ n cs, (n, cs) ∈ fboxes' → lookB fboxes' n = some cs

theorem CallOK.pre {ρ : Nat → Nat} {fargs : List AV} {fboxes fboxes' : List (Nat × List AV)} {r : AV} (h : CallOK s β N ρ fargs fboxes r fboxes') : ∀ k ∈ namesV fargs fboxes, Nm s (ρ k) := by
  intro k hk
  rcases List.mem_append.1 hk with hk | hk
  · exact h.names k hk
  · have key : ∀ l : List (Nat × List AV), (∀ p ∈ l, p ∈ fboxes) → k ∈ namesB l → Nm s (ρ k) := by
      intro l
      induction l with
      | nil => intro _ hk; cases hk
      | cons p t ih =>
        obtain ⟨n, cs⟩ := p
        intro hs hk
        have hb := h.boxes n cs (hs _ (List.mem_cons_self ..))
        simp only [namesB, List.mem_cons, List.mem_append] at hk
        rcases hk with rfl | hk | hk
        · exact .inl ⟨_, hb⟩
        · obtain ⟨c, hc, hkc⟩ := List.mem_flatMap.1 hk
          refine .inr (.inr ⟨_, _, hb, ren ρ c, ?_, ?_⟩)
          · rw [mapC_eq]; exact List.mem_map.2 ⟨c, hc, rfl⟩
          · rw [ids_ren]; exact List.mem_map.2 ⟨k, hkc, rfl⟩
        · exact ih (fun p hp => hs p (List.mem_cons_of_mem _ hp)) hk
    exact key fboxes (fun _ h => h) hk

theorem callIn (hI : InvB W0 F X N s β a w) {ρ : Nat → Nat} {fargs : List AV} {fboxes fboxes' : List (Nat × List AV)} {r : AV} (h : CallOK s β N ρ fargs fboxes r fboxes') {vs : List Value}
    (hvs : All2 (Rel β (Own X s β) w) (mapC (ren ρ) fargs) vs) :
    (∀ n g, (calleeF β ρ fargs fboxes).pin n = some g → ∃ cs, lookB fboxes n = some cs) ∧
    InvB w (calleeF β ρ fargs fboxes) (calleeX X s β (calleeF β ρ fargs fboxes)) vs.length ⟨argSlots 0 fargs, fboxes⟩ (fun k => β (ρ k)) ⟨vs.toArray, []⟩ w := by
  have hpin : ∀ n g, (calleeF β ρ fargs fboxes).pin n = some g → n ∈ boxNames fboxes := fun n g hg => by
    simp only [calleeF] at hg
    split at hg
    · assumption
    · cases hg
  have hNm : ∀ n, Nm ⟨argSlots 0 fargs, fboxes⟩ n → n ∈ namesV fargs fboxes := fun n => Nm_names (look_args_mem fargs 0)
  have hO : ∀ k, Own (calleeX X s β (calleeF β ρ fargs fboxes)) ⟨argSlots 0 fargs, fboxes⟩ (fun k => β (ρ k)) k → Own X s β k := by
    rintro k (⟨hk, _⟩ | ⟨n, hn, hb⟩)
    · exact hk
    · exact .inr ⟨ρ n, h.pre n (hNm n hn), hb⟩
  have hlen : vs.length = fargs.length := by have := hvs.1; simpa [mapC_eq] using this.symm
  refine ⟨fun n g hg => boxNames_mem.1 (hpin n g hg), Stp.refl _ _, fun n => ?_, by simp, fun n cs hc => ?_, fun n m g hn hm h1 h2 => ?_, fun n g hn hg => ?_, rfl, fun k hk => ?_, fun n cs g hc hg => ?_, fun n hn => ?_, hI.globs.step (Stp.refl (fun _ => False) w) (fun _ _ h => h.elim) fun k _ hk => hk.elim (fun h => h.1) fun ⟨n, hn, hb⟩ => .inr ⟨ρ n, h.pre n hn, hb⟩⟩
  · have h1 := look_args fargs 0 n
    rw [Nat.zero_add] at h1
    show Rel _ _ _ (look (argSlots 0 fargs) n) _
    rw [h1]
    by_cases hm : n < fargs.length
    · have hmv : n < vs.length := by omega
      have h2 := hvs.2 n (ren ρ fargs[n]) _ (by rw [mapC_eq, List.getElem?_map, List.getElem?_eq_getElem hm]; rfl) (List.getElem?_eq_getElem hmv)
      rw [List.getD_eq_getElem?_getD, List.getElem?_eq_getElem hm]
      have h3 : vs.toArray.getD n undef = vs[n] := by simp [hmv]
      rw [show (some fargs[n]).getD AV.x = fargs[n] from rfl]
      show Rel _ _ _ _ (vs.toArray.getD n undef)
      rw [h3]
      exact ((Rel.ren (β := fun k => β (ρ k)) fun _ _ => rfl).1 h2).mono hO
    · rw [List.getD_eq_getElem?_getD, List.getElem?_eq_none (by omega)]
      exact Rel.x
  · obtain ⟨g, us, e, h1, h2, h3⟩ := hI.boxes (ρ n) _ (h.boxes n cs (lookB_mem hc))
    refine ⟨g, us, e, h1, h2, ?_⟩
    refine ((All2.iff (R := RelC β (Own X s β) w) (S := RelC (fun k => β (ρ k)) (Own X s β) w) (f := ren ρ) fun v _ u => ?_).1 h3).mono fun j c v _ hr => ⟨hr.1.mono hO, hr.2⟩
    exact and_congr (Rel.ren (β := fun k => β (ρ k)) fun _ _ => rfl) Iff.rfl
  · exact h.inj n (List.mem_append_left _ (hNm n hn)) m (List.mem_append_left _ (hNm m hm)) (hI.inj (ρ n) (ρ m) g (h.pre n (hNm n hn)) (h.pre m (hNm m hm)) h1 h2)
  · exact ⟨(hI.own (ρ n) g (h.pre n (hNm n hn)) hg).1, .inr ⟨n, hNm n hn, hg⟩⟩
  · exact ⟨own_lt hI k hk.1, hk.2⟩
  · simp only [calleeF] at hg
    split at hg
    · exact hg
    · cases hg
  · simp only [calleeF]
    rw [if_neg fun hm => ?_]
    have := h.low n hm
    omega

/-- the names after a call -/
def backβ (ρ : Nat → Nat) (post : List Nat) (β β' : Nat → Option Nat) (m : Nat) : Option Nat := match post.find? fun k => Nat.beq (ρ k) m with
  | some k => β' k
  | none => β m
def deadL (ρ : Nat → Nat) (pre : List Nat) (bn : List Nat) : List Nat := (pre.filter fun k => !(inB k bn)).map ρ
def backSt (ρ : Nat → Nat) (pre : List Nat) (fboxes' : List (Nat × List AV)) (s : St) : St := setBoxes ρ fboxes' (killAll (deadL ρ pre (boxNames fboxes')) s)

theorem callOut (hI : InvB W0 F X N s β a w) {ρ : Nat → Nat} {fargs : List AV} {fboxes fboxes' : List (Nat × List AV)} {r : AV} (h : CallOK s β N ρ fargs fboxes r fboxes') {v : Value} {β' : Nat → Option Nat} {w' : World}
    (hP : InvB w (calleeF β ρ fargs fboxes) (calleeX X s β (calleeF β ρ fargs fboxes)) 1 ⟨[(0, r)], fboxes'⟩ β' ⟨#[v], []⟩ w') {dst : Option Nat} (hd : ∀ d, dst = some d → d < N) :
    InvB W0 F X N (putO (backSt ρ (namesV fargs fboxes) fboxes' s) dst (ren ρ r)) (backβ ρ (namesV [r] fboxes') β β') (a.put dst v) w' := by
  generalize hpre : namesV fargs fboxes = pre
  generalize hpost : namesV [r] fboxes' = post
  have B1 : ∀ k ∈ post, backβ ρ post β β' (ρ k) = β' k := by
    intro k hk
    unfold backβ
    cases hf : post.find? fun k' => Nat.beq (ρ k') (ρ k) with
    | none => exact absurd (List.find?_eq_none.1 hf k hk) (by simp)
    | some k' =>
      have h1 := List.find?_some hf
      have h2 := List.mem_of_find?_eq_some hf
      have := h.inj k' (by rw [hpost]; exact List.mem_append_right _ h2) k (by rw [hpost]; exact List.mem_append_right _ hk) (Nat.eq_of_beq_eq_true h1)
      rw [this]
  have B2 : ∀ m, (∀ k ∈ post, m ≠ ρ k) → backβ ρ post β β' m = β m := by
    intro m hm
    unfold backβ
    cases hf : post.find? fun k' => Nat.beq (ρ k') m with
    | none => rfl
    | some k' => 
      have h1 := List.find?_some hf
      exact absurd (Nat.eq_of_beq_eq_true h1).symm (hm k' (List.mem_of_find?_eq_some hf))
  have hdead : ∀ k ∈ pre, ρ k ∉ deadL ρ pre (boxNames fboxes') → k ∈ boxNames fboxes' := by
    intro k hk hnd
    by_cases hb : k ∈ boxNames fboxes'
    · exact hb
    · exfalso
      apply hnd
      refine List.mem_map.2 ⟨k, List.mem_filter.2 ⟨hk, ?_⟩, rfl⟩
      cases hi : inB k (boxNames fboxes') with
      | true => exact absurd (inB_iff.1 hi) hb
      | false => rfl
  have hboxpost : ∀ k ∈ boxNames fboxes', k ∈ post := fun k hk => by
    obtain ⟨cs, hc⟩ := boxNames_mem.1 hk
    rw [← hpost]; exact List.mem_append_right _ (namesB_mem (lookB_mem hc)).1
  have hrpost : ∀ k ∈ ids r, k ∈ post := fun k hk => by rw [← hpost]; exact List.mem_append_left _ (List.mem_flatMap.2 ⟨r, List.mem_singleton.2 rfl, hk⟩)
  have hcpost : ∀ n cs, lookB fboxes' n = some cs → ∀ c ∈ cs, ∀ k ∈ ids c, k ∈ post := fun n cs hc c hcc k hk => by rw [← hpost]; exact List.mem_append_right _ ((namesB_mem (lookB_mem hc)).2 c hcc k hk)
  have hPre : ∀ k ∈ pre, Nm s (ρ k) := fun k hk => h.pre k (by rw [hpre]; exact hk)
  have hbinj : ∀ n ∈ boxNames fboxes', ∀ m ∈ boxNames fboxes', ρ n = ρ m → n = m := fun n hn m hm e =>
    h.inj n (List.mem_append_right _ (by rw [hpost]; exact hboxpost n hn)) m (List.mem_append_right _ (by rw [hpost]; exact hboxpost m hm)) e
  -- the boxes of the new state
  have hbox : ∀ k cs, lookB (putO (backSt ρ pre fboxes' s) dst (ren ρ r)).boxes k = some cs →
      (∃ n cs', lookB fboxes' n = some cs' ∧ k = ρ n ∧ cs = mapC (ren ρ) cs') ∨
      ((∀ n ∈ boxNames fboxes', k ≠ ρ n) ∧ k ∉ deadL ρ pre (boxNames fboxes') ∧ ∃ cs0, lookB s.boxes k = some cs0 ∧ cs.length = cs0.length ∧
        ∀ (j : Nat) c, cs[j]? = some c → (cs0[j]? = some c ∨ c = .x) ∧ ∀ k ∈ ids c, k ∉ deadL ρ pre (boxNames fboxes')) := by
    intro k cs hk
    rw [boxes_putO] at hk
    rcases lookB_setBoxes ρ fboxes' (killAll (deadL ρ pre (boxNames fboxes')) s) hbinj k with ⟨n, cs', h1, h2, h3⟩ | ⟨h1, h2⟩
    · rw [show lookB (backSt ρ pre fboxes' s).boxes k = _ from h3] at hk
      injection hk with hk
      exact .inl ⟨n, cs', h1, h2, hk.symm⟩
    · rw [show lookB (backSt ρ pre fboxes' s).boxes k = _ from h2] at hk
      obtain ⟨h3, h4⟩ := lookB_killAll _ _ _ _ hk
      exact .inr ⟨h1, h3, h4⟩
  have hslot : ∀ q, (dst = some q ∧ look (putO (backSt ρ pre fboxes' s) dst (ren ρ r)).slots q = ren ρ r) ∨
      (dst ≠ some q ∧ (look (putO (backSt ρ pre fboxes' s) dst (ren ρ r)).slots q = look s.slots q ∨ look (putO (backSt ρ pre fboxes' s) dst (ren ρ r)).slots q = .x) ∧
        ∀ k ∈ ids (look (putO (backSt ρ pre fboxes' s) dst (ren ρ r)).slots q), k ∉ deadL ρ pre (boxNames fboxes')) := by
    intro q
    rw [look_putO]
    by_cases hq : dst = some q
    · rw [if_pos hq]; exact .inl ⟨hq, rfl⟩
    · rw [if_neg hq, show (backSt ρ pre fboxes' s).slots = _ from slots_setBoxes _ _ _]
      exact .inr ⟨hq, look_killAll _ _ _⟩
  have hNm : ∀ m, Nm (putO (backSt ρ pre fboxes' s) dst (ren ρ r)) m → (∃ k ∈ post, m = ρ k) ∨ (Nm s m ∧ m ∉ deadL ρ pre (boxNames fboxes') ∧ ∀ k ∈ post, m ≠ ρ k) := by
    intro m hm
    by_cases hmp : ∃ k ∈ post, m = ρ k
    · exact .inl hmp
    have hno : ∀ k ∈ post, m ≠ ρ k := fun k hk e => hmp ⟨k, hk, e⟩
    refine .inr ?_
    rcases hm with ⟨cs, hc⟩ | ⟨q, hq⟩ | ⟨b, cs, hc, c, hcc, hk⟩
    · rcases hbox m cs hc with ⟨n, cs', h1, h2, _⟩ | ⟨_, h2, cs0, h3, _⟩
      · exact absurd h2 (hno n (hboxpost n (boxNames_mem.2 ⟨cs', h1⟩)))
      · exact ⟨.inl ⟨cs0, h3⟩, h2, hno⟩
    · rcases hslot q with ⟨_, h2⟩ | ⟨_, h2, h3⟩
      · rw [h2, ids_ren] at hq
        obtain ⟨k, hk, rfl⟩ := List.mem_map.1 hq
        exact absurd rfl (hno k (hrpost k hk))
      · refine ⟨?_, h3 m hq, hno⟩
        rcases h2 with h2 | h2
        · rw [h2] at hq; exact .inr (.inl ⟨q, hq⟩)
        · rw [h2] at hq; cases hq
    · rcases hbox b cs hc with ⟨n, cs', h1, h2, rfl⟩ | ⟨_, h2, cs0, h3, h4, h5⟩
      · rw [mapC_eq] at hcc
        obtain ⟨c', hc', rfl⟩ := List.mem_map.1 hcc
        rw [ids_ren] at hk
        obtain ⟨k, hk', e⟩ := List.mem_map.1 hk
        exact absurd e.symm (hno k (hcpost n cs' h1 c' hc' k hk'))
      · obtain ⟨j, hj⟩ := List.getElem?_of_mem hcc
        obtain ⟨h6, h7⟩ := h5 j c hj
        refine ⟨?_, h7 m hk, hno⟩
        rcases h6 with h6 | h6
        · exact .inr (.inr ⟨b, cs0, h3, c, List.mem_of_getElem? h6, hk⟩)
        · rw [h6] at hk; cases hk
  have hPost : ∀ m, Nm ⟨[(0, r)], fboxes'⟩ m → m ∈ post := fun m hm => by
    rw [← hpost]
    refine Nm_names (fun q => ?_) hm
    simp only [look]
    cases Nat.beq 0 q with
    | true => exact .inr (List.mem_singleton.2 rfl)
    | false => exact .inl rfl
  have hPostNm : ∀ k ∈ post, Nm ⟨[(0, r)], fboxes'⟩ k := by
    intro k hk
    rw [← hpost] at hk
    rcases List.mem_append.1 hk with hk | hk
    · obtain ⟨c, hc, hk2⟩ := List.mem_flatMap.1 hk
      rw [List.mem_singleton] at hc
      exact .inr (.inl ⟨0, hc ▸ hk2⟩)
    · have key : ∀ l : List (Nat × List AV), (∀ p ∈ l, p ∈ fboxes') → k ∈ namesB l → Nm ⟨[(0, r)], fboxes'⟩ k := by
        intro l
        induction l with
        | nil => intro _ hk; cases hk
        | cons p t ih =>
          obtain ⟨n, cs⟩ := p
          intro hs hk
          have hb := h.uniq n cs (hs _ (List.mem_cons_self ..))
          simp only [namesB, List.mem_cons, List.mem_append] at hk
          rcases hk with rfl | hk | hk
          · exact .inl ⟨_, hb⟩
          · obtain ⟨c, hc, hkc⟩ := List.mem_flatMap.1 hk
            exact .inr (.inr ⟨_, _, hb, c, hc, hkc⟩)
          · exact ih (fun p hp => hs p (List.mem_cons_of_mem _ hp)) hk
      exact key fboxes' (fun _ h => h) hk
  -- old names that are still there were not handed over, but for boxes
  have hold : ∀ m, Nm s m → m ∉ deadL ρ pre (boxNames fboxes') → ∀ k ∈ pre, m = ρ k → k ∈ boxNames fboxes' := fun m _ hnd k hk e => hdead k hk (e ▸ hnd)
  have hnotpre : ∀ m, Nm s m → m ∉ deadL ρ pre (boxNames fboxes') → (∀ k ∈ post, m ≠ ρ k) → ∀ k ∈ pre, m ≠ ρ k := fun m hm hnd hno k hk e => hno k (hboxpost k (hold m hm hnd k hk e)) e
  have hF : ∀ g, (calleeF β ρ fargs fboxes).own g ↔ ∃ n ∈ pre, β (ρ n) = some g := fun g => by rw [← hpre]; exact Iff.rfl
  have hFown : ∀ g, (calleeF β ρ fargs fboxes).own g → OwnN s β g := fun g hg => by
    obtain ⟨n, hn, hb⟩ := (hF g).1 hg
    exact ⟨ρ n, hPre n hn, hb⟩
  have hβ : ∀ m, Nm s m → m ∉ deadL ρ pre (boxNames fboxes') → backβ ρ post β β' m = β m := by
    intro m hm hnd
    by_cases hmp : ∃ k ∈ post, m = ρ k
    · obtain ⟨k, hk, rfl⟩ := hmp
      rw [B1 k hk]
      by_cases hkp : k ∈ pre
      · have hkb := hdead k hkp hnd
        obtain ⟨cs, hcs⟩ := boxNames_mem.1 hkb
        have hkold := h.old k hkb (by rw [hpre]; exact hkp)
        obtain ⟨cs0, hcs0⟩ := boxNames_mem.1 hkold
        obtain ⟨g, _, _, hg, _⟩ := hI.boxes _ _ (h.boxes k cs0 (lookB_mem hcs0))
        rw [hP.pin k cs g hcs (by simp only [calleeF]; rw [if_pos hkold]; exact hg), hg]
      · exact absurd hm (h.new k (by rw [hpost]; exact hk) (by rw [hpre]; exact hkp)).2
    · exact B2 m fun k hk e => hmp ⟨k, hk, e⟩
  have hO : ∀ k, k < w.heap.size → Own X (putO (backSt ρ pre fboxes' s) dst (ren ρ r)) (backβ ρ post β β') k → Own X s β k := by
    rintro k hk (hX | ⟨m, hm, hb⟩)
    · exact .inl hX
    rcases hNm m hm with ⟨k', hk', rfl⟩ | ⟨h1, h2, h3⟩
    · rw [B1 k' hk'] at hb
      rcases (hP.own k' k (hPostNm k' hk') hb).2 with h4 | h4
      · omega
      · exact .inr (hFown k h4)
    · rw [B2 m h3] at hb
      exact .inr ⟨m, h1, hb⟩
  have hO' : ∀ k, Own X (putO (backSt ρ pre fboxes' s) dst (ren ρ r)) (backβ ρ post β β') k → Own (calleeX X s β (calleeF β ρ fargs fboxes)) ⟨[(0, r)], fboxes'⟩ β' k := by
    rintro k (hX | ⟨m, hm, hb⟩)
    · refine .inl ⟨.inl hX, fun hF' => ?_⟩
      obtain ⟨n, hn, hb⟩ := hFown k hF'
      exact hI.disj n k hn hb hX
    rcases hNm m hm with ⟨k', hk', rfl⟩ | ⟨h1, h2, h3⟩
    · rw [B1 k' hk'] at hb
      exact .inr ⟨k', hPostNm k' hk', hb⟩
    · rw [B2 m h3] at hb
      refine .inl ⟨.inr ⟨m, h1, hb⟩, fun hF' => ?_⟩
      obtain ⟨n, hn, hb'⟩ := (hF k).1 hF'
      exact hnotpre m h1 h2 h3 n hn (hI.inj m (ρ n) k h1 (hPre n hn) hb hb')
  have hkeep : ∀ {v1 : AV} {u : Value}, (∀ k ∈ ids v1, Nm s k ∧ k ∉ deadL ρ pre (boxNames fboxes')) → (∀ k ∈ boxNames fboxes', k ∈ pre → ρ k ∉ vids v1) → Rel β (Own X s β) w v1 u →
      Rel (backβ ρ post β β') (Own X (putO (backSt ρ pre fboxes' s) dst (ren ρ r)) (backβ ρ post β β')) w' v1 u := fun {v1 u} hids hv hr =>
    hI.keep hP.ext (fun k _ hk => hFown k hk) hO hr (fun n hn => hβ n (hids n hn).1 (hids n hn).2) (fun n hn g hg => hP.ext.block g (hI.own n g (hids n (vids_ids hn)).1 hg).1 (fun hF' => by
      obtain ⟨n', hn', hb⟩ := (hF g).1 hF'
      have e := hI.inj n (ρ n') g (hids n (vids_ids hn)).1 (hPre n' hn') hg hb
      exact hv n' (hold n (hids n (vids_ids hn)).1 (hids n (vids_ids hn)).2 n' hn' e) hn' (e ▸ hn)))
  refine hI.upd hP.ext (fun k _ hk => hFown k hk) (fun n => ?_) (fun n cs hc => ?_) (fun m m' g hm hm' h1 h2 => ?_) (fun m g hm hg => ?_) (size_put _ _ _) (defers_put _ _ _) (fun n cs g hc hg => ?_)
  · rcases hslot n with ⟨h1, h2⟩ | ⟨h1, h2, h3⟩
    · have e : (a.put dst v).tmps.getD n undef = v := by rw [h1, getD_put a n v (by rw [hI.size]; exact hd n h1), if_pos rfl]
      rw [h2, e]
      refine (Rel.ren fun k hk => B1 k (hrpost k hk)).2 ?_
      have := hP.slots 0
      exact Rel.mono (show Rel β' _ w' r v from this) hO'
    · have e : (a.put dst v).tmps.getD n undef = a.tmps.getD n undef := by
        cases dst with
        | none => rfl
        | some d =>
          have hne : d ≠ n := fun e => h1 (by rw [e])
          rw [getD_put a d v (by rw [hI.size]; exact hd d rfl), if_neg hne]
      rw [e]
      rcases h2 with h2 | h2
      · rw [h2] at h3 ⊢
        exact hkeep (fun k hk => ⟨.inr (.inl ⟨n, hk⟩), h3 k hk⟩) (fun k hk hkp => (h.sep k hk (by rw [hpre]; exact hkp)).1 n) (hI.slots n)
      · rw [h2]; exact Rel.x
  · rcases hbox n cs hc with ⟨k, cs', h1, rfl, rfl⟩ | ⟨hnb, hnd, cs0, h3, h4, h5⟩
    · obtain ⟨g, us, e, h6, h7, h8⟩ := hP.boxes k cs' h1
      refine ⟨g, us, e, (B1 k (hboxpost k (boxNames_mem.2 ⟨cs', h1⟩))).trans h6, h7, ?_⟩
      rw [mapC_eq]
      refine ⟨by rw [List.length_map]; exact h8.1, fun j c u hcj hu => ?_⟩
      rw [List.getElem?_map, Option.map_eq_some_iff] at hcj
      obtain ⟨c0, hc0, rfl⟩ := hcj
      have hr := h8.2 j c0 u hc0 hu
      exact ⟨(Rel.ren fun k hk => B1 k (hcpost _ cs' h1 c0 (List.mem_of_getElem? hc0) k hk)).2 (hr.1.mono hO'), hr.2⟩
    · obtain ⟨g, us, e, h6, h7, h8⟩ := hI.boxes n cs0 h3
      have hN : Nm s n := .inl ⟨cs0, h3⟩
      have hng : ∀ k ∈ post, n ≠ ρ k := fun k hk e => by
        by_cases hkp : k ∈ pre
        · exact hnb k (hdead k hkp (e ▸ hnd)) e
        · exact (h.new k (by rw [hpost]; exact hk) (by rw [hpre]; exact hkp)).2 (e ▸ hN)
      refine ⟨g, us, e, (B2 n hng).trans h6, (hP.ext.block g (hI.own n g hN h6).1 (fun hF' => ?_)).trans h7, ⟨by rw [h4]; exact h8.1, fun j c u hcj hu => ?_⟩⟩
      · obtain ⟨n', hn', hb⟩ := (hF g).1 hF'
        exact hnotpre n hN hnd hng n' hn' (hI.inj n (ρ n') g hN (hPre n' hn') h6 hb)
      · obtain ⟨h9, h10⟩ := h5 j c hcj
        have hus : ∃ c0, cs0[j]? = some c0 := by
          have hlt := (List.getElem?_eq_some_iff.1 hcj).1
          exact ⟨cs0[j]'(by omega), List.getElem?_eq_getElem _⟩
        obtain ⟨c0, hc0⟩ := hus
        have hr := h8.2 j c0 u hc0 hu
        rcases h9 with h9 | h9
        · rw [hc0] at h9; injection h9 with h9; subst h9
          exact ⟨hkeep (fun k hk => ⟨.inr (.inr ⟨n, cs0, h3, c0, List.mem_of_getElem? hc0, hk⟩), h10 k hk⟩) (fun k hk hkp => (h.sep k hk (by rw [hpre]; exact hkp)).2 n cs0 h3 c0 (List.mem_of_getElem? hc0)) hr.1, hr.2⟩
        · rw [h9]; exact ⟨Rel.x, hr.2⟩
  · have aux : ∀ k m, k ∈ post → Nm s m → m ∉ deadL ρ pre (boxNames fboxes') → (∀ k ∈ post, m ≠ ρ k) → ∀ g, β' k = some g → β m = some g → False := by
      intro k m hk hm hnd hno g hg1 hg2
      rcases (hP.own k g (hPostNm k hk) hg1).2 with h4 | h4
      · have := (hI.own m g hm hg2).1; omega
      · obtain ⟨n', hn', hb⟩ := (hF g).1 h4
        exact hnotpre m hm hnd hno n' hn' (hI.inj m (ρ n') g hm (hPre n' hn') hg2 hb)
    rcases hNm m hm with ⟨k, hk, rfl⟩ | ⟨n1, n2, n3⟩ <;> rcases hNm m' hm' with ⟨k', hk', rfl⟩ | ⟨m1, m2, m3⟩
    · rw [B1 k hk] at h1; rw [B1 k' hk'] at h2
      rw [hP.inj k k' g (hPostNm k hk) (hPostNm k' hk') h1 h2]
    · rw [B1 k hk] at h1; rw [B2 m' m3] at h2; exact (aux k m' hk m1 m2 m3 g h1 h2).elim
    · rw [B2 m n3] at h1; rw [B1 k' hk'] at h2; exact (aux k' m hk' n1 n2 n3 g h2 h1).elim
    · rw [B2 m n3] at h1; rw [B2 m' m3] at h2; exact hI.inj m m' g n1 m1 h1 h2
  · rcases hNm m hm with ⟨k, hk, rfl⟩ | ⟨n1, n2, n3⟩
    · rw [B1 k hk] at hg
      obtain ⟨h1, h2⟩ := hP.own k g (hPostNm k hk) hg
      refine ⟨h1, ?_⟩
      rcases h2 with h2 | h2
      · exact .inl (Nat.le_trans hI.ext.size h2)
      · obtain ⟨n, hn, hb⟩ := hFown g h2
        exact (hI.own n g hn hb).2
    · rw [B2 m n3] at hg
      obtain ⟨h1, h2⟩ := hI.own m g n1 hg
      exact ⟨Nat.lt_of_lt_of_le h1 hP.ext.size, h2⟩
  · rcases hbox n cs hc with ⟨k, cs', h1, rfl, rfl⟩ | ⟨hnb, hnd, cs0, h3, h4, h5⟩
    · have hkb := boxNames_mem.2 ⟨cs', h1⟩
      have hk := hboxpost k hkb
      rw [B1 k hk]
      by_cases hkp : k ∈ pre
      · have hkold := h.old k hkb (by rw [hpre]; exact hkp)
        obtain ⟨cs0, hcs0⟩ := boxNames_mem.1 hkold
        have h6 := hI.pin (ρ k) _ g (h.boxes k cs0 (lookB_mem hcs0)) hg
        exact hP.pin k cs' g h1 (by simp only [calleeF]; rw [if_pos hkold]; exact h6)
      · rw [hI.pinN _ (h.new k (by rw [hpost]; exact hk) (by rw [hpre]; exact hkp)).1] at hg
        cases hg
    · have hN : Nm s n := .inl ⟨cs0, h3⟩
      rw [hβ n hN hnd]
      exact hI.pin n cs0 g h3 hg
end
end Go.SX
