/-
  The rule for calls that write what they are handed.
-/
import Derived.Test.YtjlbaagnoppfgaaSxCall
namespace Go.SX
set_option linter.unusedSectionVars false
variable [Globs]
section
variable {P : Program} {N : Nat} {Γ : Ctx} {W0 : World} {F : Fr} {X : Nat → Prop} {s : St} {β : Nat → Option Nat} {a : Act} {w : World}

/-- a nil slice in a box is taken for an own one -/
theorem InvB.nlBox (hI : InvB W0 F X N s β a w) {n j id : Nat} {cs : List AV} (hb : lookB s.boxes n = some cs) (hj : cs[j]? = some .nl) (hfree : ¬ Nm s id) (τ : Ty) :
    InvB W0 F X N (s.setBox n (cs.set j (.vec id τ []))) (setβ β id none) a w := by
  have hmem : ∀ c ∈ cs.set j (.vec id τ []), c = .vec id τ [] ∨ c ∈ cs := fun c hc => by
    rcases List.mem_or_eq_of_mem_set hc with h | h
    · exact .inr h
    · exact .inl h
  have hNm : ∀ m, Nm (s.setBox n (cs.set j (.vec id τ []))) m → m = id ∨ (Nm s m ∧ m ≠ id) := by
    intro m hm
    by_cases e : m = id
    · exact .inl e
    · refine .inr ⟨?_, e⟩
      rcases hm with ⟨cs', h⟩ | ⟨q, h⟩ | ⟨b, cs', h, c, hc, hk⟩
      · simp only [St.setBox, lookB_setL] at h
        split at h
        · rename_i e'; exact .inl ⟨cs, e' ▸ hb⟩
        · exact .inl ⟨cs', h⟩
      · exact .inr (.inl ⟨q, h⟩)
      · simp only [St.setBox, lookB_setL] at h
        split at h
        · injection h with h
          subst h
          rcases hmem c hc with rfl | hc
          · simp [ids, ids0] at hk; exact absurd hk e
          · exact .inr (.inr ⟨n, cs, hb, c, hc, hk⟩)
        · exact .inr (.inr ⟨b, cs', h, c, hc, hk⟩)
  have hβ : ∀ m, Nm s m → setβ β id none m = β m := fun m hm => by unfold setβ; rw [if_neg]; rintro rfl; exact hfree hm
  have hO : ∀ k, k < w.heap.size → Own X (s.setBox n (cs.set j (.vec id τ []))) (setβ β id none) k → Own X s β k := by
    rintro k _ (hX | ⟨m, hm, hb⟩)
    · exact .inl hX
    rcases hNm m hm with rfl | ⟨hm, _⟩
    · simp [setβ] at hb
    · exact .inr ⟨m, hm, (hβ m hm) ▸ hb⟩
  have hk : ∀ {av : AV} {v : Value}, (∀ m ∈ SX.ids av, Nm s m) → Rel β (Own X s β) w av v → Rel (setβ β id none) (Own X (s.setBox n (cs.set j (.vec id τ []))) (setβ β id none)) w av v := fun hav hrel =>
    hI.keep (Stp.refl (fun _ => False) w) (fun _ _ h => h.elim) hO hrel (fun m hm => hβ m (hav m hm)) (fun _ _ _ _ => rfl)
  refine hI.upd (Stp.refl (fun _ => False) w) (fun _ _ h => h.elim) (fun m => ?_) (fun m cs' hcs => ?_) (fun m k g hm hk h1 h2 => ?_) (fun m g hm hg => ?_) rfl rfl (fun m cs' g hc hp => ?_)
  · exact hk (fun k hk => .inr (.inl ⟨m, hk⟩)) (hI.slots m)
  · simp only [St.setBox, lookB_setL] at hcs
    split at hcs
    · rename_i e'
      subst e'
      injection hcs with hcs
      subst hcs
      obtain ⟨g, us, e, h1, h2, h3⟩ := hI.boxes _ cs hb
      refine ⟨g, us, e, (hβ _ (.inl ⟨cs, hb⟩)).trans h1, h2, ⟨by rw [List.length_set]; exact h3.1, fun i c v hc hv => ?_⟩⟩
      rw [List.getElem?_set] at hc
      split at hc
      · rename_i e'
        subst e'
        split at hc
        · injection hc with hc
          subst hc
          have hr := h3.2 _ _ v hj hv
          have hv0 : v = .slice none 0 0 := by cases (show Im _ _ _ _ from hr.1); rfl
          subst hv0
          exact ⟨.inl ⟨rfl, rfl, by simp [setβ]⟩, hr.2⟩
        · cases hc
      · have hr := h3.2 i c v hc hv
        exact ⟨hk (fun k hk => .inr (.inr ⟨_, cs, hb, c, List.mem_of_getElem? hc, hk⟩)) hr.1, hr.2⟩
    · obtain ⟨g, us, e, h1, h2, h3⟩ := hI.boxes m cs' hcs
      exact ⟨g, us, e, (hβ m (.inl ⟨cs', hcs⟩)).trans h1, h2, h3.mono fun i c v hc hr => ⟨hk (fun k hk => .inr (.inr ⟨m, cs', hcs, c, List.mem_of_getElem? hc, hk⟩)) hr.1, hr.2⟩⟩
  · rcases hNm m hm with rfl | ⟨hm, _⟩
    · simp [setβ] at h1
    · rcases hNm k hk with rfl | ⟨hk, _⟩
      · simp [setβ] at h2
      · rw [hβ m hm] at h1; rw [hβ k hk] at h2; exact hI.inj m k g hm hk h1 h2
  · rcases hNm m hm with rfl | ⟨hm, _⟩
    · simp [setβ] at hg
    · rw [hβ m hm] at hg; exact hI.own m g hm hg
  · simp only [St.setBox, lookB_setL] at hc
    split at hc
    · rename_i e'
      subst e'
      exact (hβ _ (.inl ⟨cs, hb⟩)).trans (hI.pin _ cs g hb hp)
    · exact (hβ m (.inl ⟨cs', hc⟩)).trans (hI.pin m cs' g hc hp)
def setNthK : List AV → Nat → AV → (List AV → Prop) → Prop
  | [], _, _, _ => False
  | .nl :: r, 0, v, K => K (v :: r)
  | _ :: _, 0, _, _ => False
  | u :: r, j + 1, v, K => setNthK r j v fun r => K (u :: r)
theorem setNth_spec (l : List AV) : ∀ (j : Nat) (v : AV) (K : List AV → Prop), setNthK l j v K → l[j]? = some .nl ∧ K (l.set j v) := by
  induction l with
  | nil => intro j v K h; cases j <;> exact h.elim
  | cons u r ih =>
    intro j v K h
    cases j with
    | zero => cases u <;> first | exact ⟨rfl, h⟩ | exact h.elim
    | succ j =>
      have h : setNthK r j v fun r => K (u :: r) := by cases u <;> exact h
      obtain ⟨h1, h2⟩ := ih j v _ h
      exact ⟨by simpa using h1, by simpa using h2⟩
def nlBoxK : List (Nat × Nat × Nat × Ty) → St → (St → Prop) → Prop
  | [], s, K => K s
  | (n, j, id, τ) :: r, s, K => stFrzK id s fun s => lookBK s.boxes n fun cs => setNthK cs j (.vec id τ []) fun cs => match s with
    | ⟨sl, b⟩ => setLK b n cs fun b => nlBoxK r ⟨sl, b⟩ K
theorem nlBox_ok (cv : List (Nat × Nat × Nat × Ty)) : ∀ {s : St} {β : Nat → Option Nat} {K : St → Prop}, InvB W0 F X N s β a w → nlBoxK cv s K → ∃ s' β', K s' ∧ InvB W0 F X N s' β' a w := by
  induction cv with
  | nil => intro s β K hI h; exact ⟨s, β, h, hI⟩
  | cons p r ih =>
    intro s β K hI h
    obtain ⟨n, j, id, τ⟩ := p
    simp only [nlBoxK, stFrzK_eq] at h
    have hI1 := hI.frz id
    have hfree := not_frz s id
    obtain ⟨cs, h1, h⟩ := (lookBK_iff _ _ _).1 h
    obtain ⟨h2, h⟩ := setNth_spec _ _ _ _ h
    rw [setLK_eq] at h
    exact ih (hI1.nlBox h1 h2 hfree τ) h

def renNK : List (Nat × Nat) → Nat → (Nat → Prop) → Prop
  | [], n, K => K n
  | (m, k) :: r, n, K => bif Nat.beq m n then K k else renNK r n K
theorem renNK_eq (l : List (Nat × Nat)) (n : Nat) (K : Nat → Prop) : renNK l n K = K (renN l n) := by
  induction l with
  | nil => rfl
  | cons p r ih => obtain ⟨m, k⟩ := p; simp only [renNK, renN]; cases Nat.beq m n <;> simp [ih]
def ren0K (l : List (Nat × Nat)) : AV → (AV → Prop) → Prop
  | .pt n o, K => renNK l n fun m => K (.pt m o)
  | .vec n τ x, K => renNK l n fun m => K (.vec m τ x)
  | .vp n τ x i o, K => renNK l n fun m => K (.vp m τ x i o)
  | .vs n τ x k, K => renNK l n fun m => K (.vs m τ x k)
  | .ob n n2 o, K => renNK l n fun m => renNK l n2 fun m2 => K (.ob m m2 o)
  | v, K => K v
theorem ren0K_eq (l : List (Nat × Nat)) (v : AV) (K : AV → Prop) : ren0K l v K = K (ren0 (renN l) v) := by
  cases v <;> first | exact renNK_eq _ _ _ | rfl | (simp only [ren0K, renNK_eq]; rfl)
def renK (l : List (Nat × Nat)) : AV → (AV → Prop) → Prop
  | .fn f caps, K => mapCK (ren0K l) caps fun caps => K (.fn f caps)
  | .tup cs, K => mapCK (ren0K l) cs fun cs => K (.tup cs)
  | .ag cs, K => mapCK (ren0K l) cs fun cs => K (.ag cs)
  | v, K => ren0K l v K
theorem renK_eq (l : List (Nat × Nat)) (v : AV) (K : AV → Prop) : renK l v K = K (ren (renN l) v) := by
  cases v with
  | fn f caps => exact mapCK_eq (ren0K_eq l) caps _
  | tup cs => exact mapCK_eq (ren0K_eq l) cs _
  | ag cs => exact mapCK_eq (ren0K_eq l) cs _
  | vs n τ x k => exact ren0K_eq l (.vs n τ x k) K
  | ob n n2 o => exact ren0K_eq l (.ob n n2 o) K
  | pt n o => exact ren0K_eq l (.pt n o) K
  | vec n τ x => exact ren0K_eq l (.vec n τ x) K
  | vp n τ x i o => exact ren0K_eq l (.vp n τ x i o) K
  | _ => rfl
def setBoxesK (l : List (Nat × Nat)) : List (Nat × List AV) → St → (St → Prop) → Prop
  | [], s, K => K s
  | (n, cs) :: r, s, K => setBoxesK l r s fun s => renNK l n fun n => mapCK (renK l) cs fun cs => match s with
    | ⟨sl, b⟩ => setLK b n cs fun b => K ⟨sl, b⟩
theorem setBoxesK_eq (l : List (Nat × Nat)) (b : List (Nat × List AV)) : ∀ (s : St) (K : St → Prop), setBoxesK l b s K = K (setBoxes (renN l) b s) := by
  induction b with
  | nil => intro s K; rfl
  | cons p r ih =>
    obtain ⟨n, cs⟩ := p
    intro s K
    simp only [setBoxesK, setBoxes, ih, renNK_eq, mapCK_eq (renK_eq l)]
    generalize setBoxes (renN l) r s = s'
    obtain ⟨sl, b⟩ := s'
    simp only [setLK_eq]; rfl
def newL (ρ : Nat → Nat) (pre post : List Nat) : List Nat := (post.filter fun k => !(inB k pre)).map ρ
def injB (ρ : Nat → Nat) : List Nat → Bool
  | [] => true
  | k :: r => r.all (fun k' => !(Nat.beq (ρ k) (ρ k')) || Nat.beq k k') && injB ρ r
def uniqB : List Nat → Bool
  | [] => true
  | k :: r => !(inB k r) && uniqB r
def callB (N : Nat) (ρ : Nat → Nat) (pre post : List Nat) (bn bn' : List Nat) (nargs : Nat) : Bool :=
  injB ρ (pre ++ post) && (post.all fun k => inB k pre || Nat.blt (ρ k) N) && (bn'.all fun k => !(inB k pre) || inB k bn) && (bn.all fun n => Nat.ble nargs n) && uniqB bn'
def sepB (s : St) (ρ : Nat → Nat) (pre : List Nat) (bn' : List Nat) : Bool := bn'.all fun k => !(inB k pre) || (noVs (ρ k) s.slots && noVb (ρ k) s.boxes)
def boxEqK (s : St) (l : List (Nat × Nat)) : List (Nat × List AV) → Prop → Prop
  | [], K => K
  | (n, cs) :: r, K => renNK l n fun n => lookBK s.boxes n fun cs' => mapC (ren (renN l)) cs = cs' ∧ boxEqK s l r K
theorem boxEqK_spec {s : St} {l : List (Nat × Nat)} (b : List (Nat × List AV)) : ∀ {K : Prop}, boxEqK s l b K → (∀ n cs, (n, cs) ∈ b → lookB s.boxes (renN l n) = some (mapC (ren (renN l)) cs)) ∧ K := by
  induction b with
  | nil => intro K h; exact ⟨(by intro n cs h; cases h), h⟩
  | cons p r ih =>
    obtain ⟨n, cs⟩ := p
    intro K h
    simp only [boxEqK, renNK_eq] at h
    obtain ⟨cs', h1, h2, h3⟩ := (lookBK_iff _ _ _).1 h
    obtain ⟨h4, h5⟩ := ih h3
    refine ⟨fun m cs0 hm => ?_, h5⟩
    rcases List.mem_cons.1 hm with hm | hm
    · injection hm with e1 e2; subst e1 e2; rw [h1, h2]
    · exact h4 m cs0 hm
def callBK (P : Program) (N : Nat) (s : St) (f : Operand) (args : List Operand) (dst : Option Nat) (K : St → Prop) : Prop :=
  ∃ cv, nlBoxK cv s fun s => ∃ g fargs fboxes r fboxes' ρ, CSpec P g fargs fboxes r fboxes' ∧
    frzAllK (newL (renN ρ) (namesV fargs fboxes) (namesV [r] fboxes')) s fun s => evsK s args fun vs => evK s f fun fv => match fv with
      | .fn g' caps => g' = g ∧ mapC (ren (renN ρ)) fargs = vs ++ caps ∧ boxEqK s ρ fboxes (callB N (renN ρ) (namesV fargs fboxes) (namesV [r] fboxes') (boxNames fboxes) (boxNames fboxes') fargs.length = true ∧
          sepB s (renN ρ) (namesV fargs fboxes) (boxNames fboxes') = true ∧
          killAllK (deadL (renN ρ) (namesV fargs fboxes) (boxNames fboxes')) s fun s => setBoxesK ρ fboxes' s fun s => renK ρ r fun r => stPutK N s dst r K)
      | _ => False

theorem Nm.of_frzAll {l : List Nat} : ∀ {s : St} {n : Nat}, Nm (frzAll l s) n → Nm s n ∧ n ∉ l := by
  induction l with
  | nil => intro s n h; exact ⟨h, by simp⟩
  | cons m r ih =>
    intro s n h
    obtain ⟨h1, h2⟩ := ih (s := s.frz m) h
    obtain ⟨h3, h4⟩ := Nm.of_frz h1
    exact ⟨h3, by simp [h4, h2]⟩
theorem injB_spec {ρ : Nat → Nat} {l : List Nat} (h : injB ρ l = true) : ∀ k ∈ l, ∀ k' ∈ l, ρ k = ρ k' → k = k' := by
  induction l with
  | nil => intro k hk; cases hk
  | cons m r ih =>
    simp only [injB, Bool.and_eq_true, List.all_eq_true, Bool.or_eq_true, Bool.not_eq_true'] at h
    have h1 : ∀ k ∈ r, ρ m = ρ k → m = k := fun k hk e => by
      rcases h.1 k hk with h2 | h2
      · rw [e, Nat.beq_refl] at h2; cases h2
      · exact Nat.eq_of_beq_eq_true h2
    intro k hk k' hk' e
    rcases List.mem_cons.1 hk with e1 | k1 <;> rcases List.mem_cons.1 hk' with e2 | k2
    · rw [e1, e2]
    · rw [e1] at e ⊢; exact h1 k' k2 e
    · rw [e2] at e ⊢; exact (h1 k k1 e.symm).symm
    · exact ih h.2 k k1 k' k2 e
theorem uniqB_spec {b : List (Nat × List AV)} (h : uniqB (boxNames b) = true) : ∀ n cs, (n, cs) ∈ b → lookB b n = some cs := by
  induction b with
  | nil => intro n cs h; cases h
  | cons p r ih =>
    obtain ⟨m, cs0⟩ := p
    simp only [boxNames, uniqB, Bool.and_eq_true, Bool.not_eq_true'] at h
    intro n cs hn
    simp only [lookB]
    rcases List.mem_cons.1 hn with hn | hn
    · injection hn with e1 e2; subst e1 e2; simp
    · have hne : m ≠ n := fun e => by
        subst e
        have h2 : m ∈ boxNames r := boxNames_mem.2 ⟨cs, ih h.2 m cs hn⟩
        rw [inB_iff.2 h2] at h; cases h.1
      rw [nbeq_ne hne]
      exact ih h.2 n cs hn
theorem callB_ok (hI : InvB W0 F X N s β a w) {o : Oper} {f : Operand} {args : Array Operand} {ts : Array TypeId} (ho : o.op = .call { callee := .value f, args := args, argTypes := ts }) {K : St → Prop}
    (h : callBK P N s f args.toList o.dst K) {next : Act → World → Prop} {Q : Exit → Act → World → Prop} (hn : ∀ s' a' w', K s' → Inv W0 F X N s' a' w' → next a' w') : o.wp P a w next Q := by
  obtain ⟨cv, h⟩ := h
  obtain ⟨s0, β, ⟨g, fargs, fboxes, r, fboxes', ρ, ⟨hcall, hspec⟩, h⟩, hI0⟩ := nlBox_ok cv hI h
  rw [frzAllK_eq, evsK_eq, evK_eq] at h
  have hI1 := hI0.frzAll (newL (renN ρ) (namesV fargs fboxes) (namesV [r] fboxes'))
  have hnew : ∀ n, n ∈ newL (renN ρ) (namesV fargs fboxes) (namesV [r] fboxes') → ¬ Nm (frzAll (newL (renN ρ) (namesV fargs fboxes) (namesV [r] fboxes')) s0) n := fun n hn hm => (Nm.of_frzAll hm).2 hn
  generalize frzAll (newL (renN ρ) (namesV fargs fboxes) (namesV [r] fboxes')) s0 = s1 at h hI1 hnew
  have hf := ev_rel hI1 f
  have hvs := evs_rel hI1 args.toList
  cases hfv : ev s1 f with
  | fn g' caps =>
    rw [hfv] at h hf
    obtain ⟨rfl, hargs, h⟩ := h
    obtain ⟨hbox, hchk, hsep, h⟩ := boxEqK_spec fboxes h
    simp only [callB, Bool.and_eq_true, List.all_eq_true, Bool.or_eq_true, Bool.not_eq_true', Nat.blt_eq] at hchk
    obtain ⟨⟨⟨⟨c1, c2⟩, c3⟩, c4⟩, c5⟩ := hchk
    obtain ⟨cvs, hfe, hcaps⟩ := hf.1
    have hall : All2 (Rel β (Own X s1 β) w) (mapC (ren (renN ρ)) fargs) (args.toList.map a.eval ++ cvs) := by
      rw [hargs]
      exact hvs.1.append (hcaps.mono fun _ _ _ _ hr => Rel.rel0 hr)
    have hidsAll : ∀ k ∈ namesL (mapC (ren (renN ρ)) fargs), Nm s1 k := by
      rw [hargs]
      intro k hk
      obtain ⟨c, hc, hk⟩ := List.mem_flatMap.1 hk
      rcases List.mem_append.1 hc with hc | hc
      · exact hvs.2 c hc k hk
      · obtain ⟨j, hj⟩ := List.getElem?_of_mem hc
        have hlt := (List.getElem?_eq_some_iff.1 hj).1
        have hr := hcaps.2 j c _ hj (List.getElem?_eq_getElem (by rw [← hcaps.1]; exact hlt))
        exact hf.2 k (List.mem_flatMap.2 ⟨c, hc, hr.ids hk⟩)
    have hok : CallOK s1 β N (renN ρ) fargs fboxes r fboxes' := by
      refine ⟨fun k hk => ?_, hbox, injB_spec c1, fun k hk hkp => ⟨?_, hnew _ ?_⟩, fun k hk hkp => ?_, fun k hk hkp => ?_, fun n hn' => Nat.le_of_ble_eq_true (c4 n hn'), uniqB_spec c5⟩
      · obtain ⟨c, hc, hkc⟩ := List.mem_flatMap.1 hk
        refine hidsAll _ (List.mem_flatMap.2 ⟨ren (renN ρ) c, ?_, ?_⟩)
        · rw [mapC_eq]; exact List.mem_map.2 ⟨c, hc, rfl⟩
        · rw [ids_ren]; exact List.mem_map.2 ⟨k, hkc, rfl⟩
      · rcases c2 k hk with h1 | h1
        · exact absurd (inB_iff.1 h1) hkp
        · exact h1
      · refine List.mem_map.2 ⟨k, List.mem_filter.2 ⟨hk, ?_⟩, rfl⟩
        cases hi : inB k (namesV fargs fboxes) with
        | true => exact absurd (inB_iff.1 hi) hkp
        | false => rfl
      · rcases c3 k hk with h1 | h1
        · rw [inB_iff.2 hkp] at h1; cases h1
        · exact inB_iff.1 h1
      · simp only [sepB, List.all_eq_true, Bool.or_eq_true, Bool.not_eq_true', Bool.and_eq_true] at hsep
        rcases hsep k hk with h1 | h1
        · rw [inB_iff.2 hkp] at h1; cases h1
        · exact ⟨noVs_spec h1.1, noVb_spec h1.2⟩
    obtain ⟨hpin, hIn⟩ := callIn hI1 hok hall
    have hlen : (args.toList.map a.eval ++ cvs).length = fargs.length := by have := hall.1; simpa [mapC_eq] using this.symm
    have hs := hspec _ _ _ w _ hlen hpin hIn
    unfold Oper.wp
    have hrun : (execOp a.eval o).run P w = .ok (.enter g' (args.toList.map a.eval ++ cvs).toArray) w := by
      have e1 : args.map a.eval ++ cvs.toArray = (args.toList.map a.eval ++ cvs).toArray := by apply Array.ext'; simp
      simp [execOp, ho, resolve, hfe, Deferred.ofValue, invoke]
      rw [e1]
      exact hcall _ w
    rw [hrun]
    refine hs.mono fun e w' hp => ?_
    obtain ⟨v, β', rfl, hP⟩ := hp
    rw [killAllK_eq, setBoxesK_eq, renK_eq] at h
    obtain ⟨h1, h2⟩ := stPut_inv h
    exact hn _ _ _ h1 ⟨_, callOut hI1 hok hP h2⟩
  | _ => rw [hfv] at h; exact h.elim

/-! ### one name for another -/
def ren1 (n m k : Nat) : Nat := if k = n then m else k
theorem InvB.ren1 (hI : InvB W0 F X N s β a w) {n m : Nat} (hfree : ¬ Nm s m) (hnb : lookB s.boxes n = none) : InvB W0 F X N (s.map (ren (SX.ren1 n m))) (setβ β m (β n)) a w := by
  have hbox : ∀ k cs, lookB (s.map (ren (SX.ren1 n m))).boxes k = some cs → ∃ cs', lookB s.boxes k = some cs' ∧ cs = cs'.map (ren (SX.ren1 n m)) := fun k cs hk => by
    simp only [St.map, lookB_mapB, Option.map_eq_some_iff] at hk
    obtain ⟨cs', h1, rfl⟩ := hk
    exact ⟨cs', h1, mapC_eq _ _⟩
  have hslot : ∀ q, look (s.map (ren (SX.ren1 n m))).slots q = ren (SX.ren1 n m) (look s.slots q) := fun q => look_mapV _ rfl _ _
  have hNm : ∀ k, Nm (s.map (ren (SX.ren1 n m))) k → ∃ j, Nm s j ∧ k = SX.ren1 n m j := by
    rintro k (⟨cs, h⟩ | ⟨q, h⟩ | ⟨b, cs, h, c, hc, hk⟩)
    · obtain ⟨cs', h1, _⟩ := hbox k cs h
      refine ⟨k, .inl ⟨cs', h1⟩, ?_⟩
      unfold SX.ren1
      rw [if_neg]
      rintro rfl
      rw [hnb] at h1; cases h1
    · rw [hslot, ids_ren] at h
      obtain ⟨j, hj, rfl⟩ := List.mem_map.1 h
      exact ⟨j, .inr (.inl ⟨q, hj⟩), rfl⟩
    · obtain ⟨cs', h1, rfl⟩ := hbox b cs h
      obtain ⟨c', hc', rfl⟩ := List.mem_map.1 hc
      rw [ids_ren] at hk
      obtain ⟨j, hj, rfl⟩ := List.mem_map.1 hk
      exact ⟨j, .inr (.inr ⟨b, cs', h1, c', hc', hj⟩), rfl⟩
  have hβ : ∀ k, Nm s k → setβ β m (β n) (SX.ren1 n m k) = β k := by
    intro k hk
    unfold SX.ren1 setβ
    by_cases e : k = n
    · subst e; simp
    · rw [if_neg e, if_neg]
      rintro rfl
      exact hfree hk
  have hO : ∀ k, Own X (s.map (ren (SX.ren1 n m))) (setβ β m (β n)) k → Own X s β k := by
    rintro k (hX | ⟨q, hq, hb⟩)
    · exact .inl hX
    · obtain ⟨j, hj, rfl⟩ := hNm q hq
      rw [hβ j hj] at hb
      exact .inr ⟨j, hj, hb⟩
  refine hI.upd (Stp.refl (fun _ => False) w) (fun _ _ h => h.elim) (fun q => ?_) (fun k cs hc => ?_) (fun k k' g hk hk' h1 h2 => ?_) (fun k g hk hg => ?_) rfl rfl (fun k cs g hc hp => ?_)
  · rw [hslot]
    exact (Rel.ren fun k hk => hβ k (.inr (.inl ⟨q, hk⟩))).2 ((hI.slots q).mono hO)
  · obtain ⟨cs', h1, rfl⟩ := hbox k cs hc
    obtain ⟨g, us, e, h2, h3, h4⟩ := hI.boxes k cs' h1
    have hk : SX.ren1 n m k = k := by unfold SX.ren1; rw [if_neg]; rintro rfl; rw [hnb] at h1; cases h1
    refine ⟨g, us, e, by rw [← hk, hβ k (.inl ⟨cs', h1⟩)]; exact h2, h3, ⟨by rw [List.length_map]; exact h4.1, fun j c u hj hu => ?_⟩⟩
    rw [List.getElem?_map, Option.map_eq_some_iff] at hj
    obtain ⟨c', hc', rfl⟩ := hj
    have hr := h4.2 j c' u hc' hu
    exact ⟨(Rel.ren fun q hq => hβ q (.inr (.inr ⟨k, cs', h1, c', List.mem_of_getElem? hc', hq⟩))).2 (hr.1.mono hO), hr.2⟩
  · obtain ⟨j, hj, rfl⟩ := hNm k hk
    obtain ⟨j', hj', rfl⟩ := hNm k' hk'
    rw [hβ j hj] at h1
    rw [hβ j' hj'] at h2
    rw [hI.inj j j' g hj hj' h1 h2]
  · obtain ⟨j, hj, rfl⟩ := hNm k hk
    rw [hβ j hj] at hg
    exact hI.own j g hj hg
  · obtain ⟨cs', h1, rfl⟩ := hbox k cs hc
    have hk : SX.ren1 n m k = k := by unfold SX.ren1; rw [if_neg]; rintro rfl; rw [hnb] at h1; cases h1
    rw [← hk, hβ k (.inl ⟨cs', h1⟩)]
    exact hI.pin k cs' g h1 hp
def noBoxB (n : Nat) : List (Nat × List AV) → Bool
  | [] => true
  | (m, _) :: r => bif Nat.beq m n then false else noBoxB n r
theorem noBox_spec {n : Nat} {b : List (Nat × List AV)} (h : noBoxB n b = true) : lookB b n = none := by
  induction b with
  | nil => rfl
  | cons p r ih =>
    obtain ⟨m, cs⟩ := p
    simp only [noBoxB] at h
    simp only [lookB]
    cases hb : Nat.beq m n with
    | true => rw [hb] at h; cases h
    | false => rw [hb] at h; exact ih h
/-- names of own slices turned, one by one: (from, to) -/
def renStK : List (Nat × Nat) → St → (St → Prop) → Prop
  | [], s, K => K s
  | (n, m) :: r, s, K => stFrzK m s fun s => match s with
    | ⟨sl, b⟩ => chkK (noBoxB n b) (mapVK (renK [(n, m)]) sl fun sl => mapBK (renK [(n, m)]) b fun b => renStK r ⟨sl, b⟩ K)
theorem renN_one (n m : Nat) : renN [(n, m)] = SX.ren1 n m := by
  funext k
  simp only [renN, SX.ren1]
  cases hb : Nat.beq n k with
  | true => have := Nat.eq_of_beq_eq_true hb; subst this; simp
  | false => have : k ≠ n := fun e => by subst e; rw [Nat.beq_refl] at hb; cases hb
             simp [this]
theorem renSt_ok (l : List (Nat × Nat)) : ∀ {s : St} {β : Nat → Option Nat} {K : St → Prop}, InvB W0 F X N s β a w → renStK l s K → ∃ s' β', K s' ∧ InvB W0 F X N s' β' a w := by
  induction l with
  | nil => intro s β K hI h; exact ⟨s, β, h, hI⟩
  | cons p r ih =>
    obtain ⟨n, m⟩ := p
    intro s β K hI h
    simp only [renStK, stFrzK_eq] at h
    have hI1 := hI.frz m
    have hfree := not_frz s m
    generalize s.frz m = s1 at h hI1 hfree
    obtain ⟨sl, b⟩ := s1
    obtain ⟨h1, h⟩ := (chkK_iff _ _).1 h
    rw [mapVK_eq (renK_eq [(n, m)]), mapBK_eq (renK_eq [(n, m)]), renN_one] at h
    exact ih (hI1.ren1 hfree (noBox_spec h1)) h
end
end Go.SX
