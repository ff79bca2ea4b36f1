/-
  One state for another that knows no more.
-/
import Derived.Test.YtjlbaagnoppfgaaSxCalm
namespace Go.SX
set_option linter.unusedSectionVars false
variable [Globs]
section
variable {P : Program} {N : Nat} {Γ : Ctx} {W0 : World} {F : Fr} {X : Nat → Prop} {s : St} {β : Nat → Option Nat} {a : Act} {w : World}

/-- one value for another: the same, or less -/
def WkV (v t : AV) : Prop := v = t ∨ (v = .nl ∧ ∃ τ, t = .rd τ []) ∨ t = .x ∨ ∃ id τ l, v = .vec id τ l ∧ t = .vs id τ l 0
def wkS (s : St) : List (Nat × AV) → Prop
  | [] => True
  | (n, v) :: r => lookK s.slots n (fun u => WkV u v) ∧ wkS s r
def wkC : List AV → List AV → Prop
  | [], [] => True
  | u :: r, v :: t => WkV u v ∧ wkC r t
  | _, _ => False
def wkB (s : St) : List (Nat × List AV) → Prop
  | [] => True
  | (n, cs) :: r => lookBK s.boxes n (fun us => wkC us cs) ∧ wkB s r
/-- the state t knows no more than s -/
def Wk (s t : St) : Prop := wkS s t.slots ∧ wkB s t.boxes

theorem WkV.rel {u v : AV} {O : Nat → Prop} {x : Value} (h : WkV u v) (hr : Rel β O w u x) : Rel β O w v x := by
  rcases h with rfl | ⟨rfl, τ, rfl⟩ | rfl | ⟨id, τ, l, rfl, rfl⟩
  · exact hr
  · have : x = .slice none 0 0 := by cases (show Im _ _ _ _ from hr); rfl
    subst this
    exact Im.rd0 τ none 0 (Nat.zero_le _)
  · exact Rel.x
  · exact ⟨Nat.zero_le _, x, hr, .inl ⟨rfl, rfl⟩⟩
theorem WkV.ids {u v : AV} (h : WkV u v) : ∀ n ∈ ids v, n ∈ ids u := by
  rcases h with rfl | ⟨rfl, τ, rfl⟩ | rfl | ⟨id, τ, l, rfl, rfl⟩
  · exact fun _ h => h
  · intro n hn; cases hn
  · intro n hn; cases hn
  · exact fun _ h => h
theorem wkS_look {t : List (Nat × AV)} (h : wkS s t) : ∀ n, WkV (look s.slots n) (look t n) := by
  induction t with
  | nil => intro n; exact .inr (.inr (.inl rfl))
  | cons p r ih =>
    obtain ⟨m, v⟩ := p
    obtain ⟨h1, h2⟩ := h
    rw [lookK_eq] at h1
    intro n
    simp only [look]
    cases hb : Nat.beq m n with
    | true => have := Nat.eq_of_beq_eq_true hb; subst this; exact h1
    | false => exact ih h2 n
theorem wkB_look {t : List (Nat × List AV)} (h : wkB s t) : ∀ n cs, lookB t n = some cs → ∃ us, lookB s.boxes n = some us ∧ wkC us cs := by
  induction t with
  | nil => intro n cs hn; cases hn
  | cons p r ih =>
    obtain ⟨m, v⟩ := p
    obtain ⟨h1, h2⟩ := h
    intro n cs hn
    simp only [lookB] at hn
    cases hb : Nat.beq m n with
    | true => rw [hb] at hn; injection hn with hn; subst hn; have := Nat.eq_of_beq_eq_true hb; subst this; exact (lookBK_iff _ _ _).1 h1
    | false => rw [hb] at hn; exact ih h2 n cs hn
theorem wkC_rel {us cs : List AV} {vs : List Value} {O : Nat → Prop} (h : wkC us cs) (hr : All2 (RelC β O w) us vs) : All2 (RelC β O w) cs vs ∧ ∀ c ∈ cs, ∀ n ∈ ids c, ∃ u ∈ us, n ∈ ids u := by
  induction us generalizing cs vs with
  | nil => cases cs with
    | nil => exact ⟨hr, by intro c hc; cases hc⟩
    | cons _ _ => exact h.elim
  | cons u r ih => cases cs with
    | nil => exact h.elim
    | cons c t =>
      obtain ⟨v, vs', rfl, h1, h2⟩ := hr.cons_inv
      obtain ⟨h3, h4⟩ := ih h.2 h2
      refine ⟨All2.cons ⟨h.1.rel h1.1, h1.2⟩ h3, fun c' hc' n hn => ?_⟩
      rcases List.mem_cons.1 hc' with rfl | hc'
      · exact ⟨u, List.mem_cons_self .., h.1.ids n hn⟩
      · obtain ⟨u', hu', hn'⟩ := h4 c' hc' n hn
        exact ⟨u', List.mem_cons_of_mem _ hu', hn'⟩
theorem InvB.wk (hI : InvB W0 F X N s β a w) {t : St} (h : Wk s t) : InvB W0 F X N t β a w := by
  have hNm : ∀ n, Nm t n → Nm s n := by
    rintro n (⟨cs, hc⟩ | ⟨m, hm⟩ | ⟨b, cs, hb, c, hc, hn⟩)
    · obtain ⟨us, hu, _⟩ := wkB_look h.2 n cs hc
      exact .inl ⟨us, hu⟩
    · exact .inr (.inl ⟨m, (wkS_look h.1 m).ids n hm⟩)
    · obtain ⟨us, hu, hw⟩ := wkB_look h.2 b cs hb
      obtain ⟨g, us', e, h1, h2, h3⟩ := hI.boxes b us hu
      obtain ⟨u, hu', hn'⟩ := (wkC_rel hw h3).2 c hc n hn
      exact .inr (.inr ⟨b, us, hu, u, hu', hn'⟩)
  have hO : ∀ k, Own X t β k → Own X s β k := fun k hk => hk.imp id fun ⟨n, hn, hb⟩ => ⟨n, hNm n hn, hb⟩
  refine hI.upd (Stp.refl (fun _ => False) w) (fun _ _ h => h.elim) (fun n => ?_) (fun n cs hcs => ?_) (fun n m g hn hm => hI.inj n m g (hNm n hn) (hNm m hm)) (fun n g hn hg => hI.own n g (hNm n hn) hg) rfl rfl (fun n cs g hc hp => by
    obtain ⟨us, hu, _⟩ := wkB_look h.2 n cs hc
    exact hI.pin n us g hu hp)
  · exact ((wkS_look h.1 n).rel (hI.slots n)).mono hO
  · obtain ⟨us, hu, hw⟩ := wkB_look h.2 n cs hcs
    obtain ⟨g, us', e, h1, h2, h3⟩ := hI.boxes n us hu
    exact ⟨g, us', e, h1, h2, (wkC_rel hw h3).1.mono fun _ _ _ _ hr => ⟨hr.1.mono hO, hr.2⟩⟩
end
end Go.SX
