/-
  Names turned into others; many names dropped at once.
-/
import Derived.Test.YtjlbaagnoppfgaaSxCore
namespace Go.SX
set_option linter.unusedSectionVars false
variable [Globs]
def ren0 (ρ : Nat → Nat) : AV → AV
  | .pt n o => .pt (ρ n) o
  | .vec id τ l => .vec (ρ id) τ l
  | .vp id τ l n off => .vp (ρ id) τ l n off
  | .vs id τ l k => .vs (ρ id) τ l k
  | .ob i i2 o => .ob (ρ i) (ρ i2) o
  | v => v
def ren (ρ : Nat → Nat) : AV → AV
  | .fn f caps => .fn f (mapC (ren0 ρ) caps)
  | .tup cs => .tup (mapC (ren0 ρ) cs)
  | .ag cs => .ag (mapC (ren0 ρ) cs)
  | v => ren0 ρ v
theorem VecAt.ren {β β' : Nat → Option Nat} {O : Nat → Prop} {w : World} {id id' : Nat} {τ : Ty} {l : List (den τ)} {u : Value} (h : β' id' = β id) : VecAt β' O w id' τ l u ↔ VecAt β O w id τ l u := by
  unfold VecAt; rw [h]
theorem Rel0.ren {β β' : Nat → Option Nat} {O : Nat → Prop} {w : World} {ρ : Nat → Nat} {v : AV} {u : Value} (h : ∀ k ∈ ids0 v, β' (ρ k) = β k) : Rel0 β' O w (ren0 ρ v) u ↔ Rel0 β O w v u := by
  cases v with
  | pt n o => simp only [ren0, Rel0]; rw [h n (by simp [ids0])]
  | vec id τ l => exact VecAt.ren (h id (by simp [ids0]))
  | vp id τ l n off => simp only [ren0, Rel0, VecAt.ren (h id (by simp [ids0]))]; rw [h id (by simp [ids0])]
  | vs id τ l k => simp only [ren0, Rel0, VsAt, VecAt.ren (h id (by simp [ids0]))]
  | ob i i2 o =>
    have h1 := h i (by simp [ids0])
    have h2 := h i2 (by simp [ids0])
    cases o <;> simp only [ren0, Rel0, ObAt, BufAt, h1, h2]
  | _ => exact Iff.rfl
theorem All2.iff {R S : AV → Value → Prop} {f : AV → AV} {l : List AV} {us : List Value} (h : ∀ v ∈ l, ∀ u, R (f v) u ↔ S v u) : All2 R (mapC f l) us ↔ All2 S l us := by
  rw [mapC_eq]
  constructor
  · rintro ⟨h1, h2⟩
    refine ⟨by simpa using h1, fun j c u hc hu => (h c (List.mem_of_getElem? hc) u).1 (h2 j (f c) u (by rw [List.getElem?_map, hc]; rfl) hu)⟩
  · rintro ⟨h1, h2⟩
    refine ⟨by simpa using h1, fun j c u hc hu => ?_⟩
    rw [List.getElem?_map, Option.map_eq_some_iff] at hc
    obtain ⟨c', hc', rfl⟩ := hc
    exact (h c' (List.mem_of_getElem? hc') u).2 (h2 j c' u hc' hu)
theorem Rel.ren {β β' : Nat → Option Nat} {O : Nat → Prop} {w : World} {ρ : Nat → Nat} {v : AV} {u : Value} (h : ∀ k ∈ ids v, β' (ρ k) = β k) : Rel β' O w (ren ρ v) u ↔ Rel β O w v u := by
  cases v with
  | fn f caps =>
    have hh : ∀ us : List Value, All2 (Rel0 β' O w) (mapC (ren0 ρ) caps) us ↔ All2 (Rel0 β O w) caps us := fun us => All2.iff fun v hv u => Rel0.ren fun k hk => h k (List.mem_flatMap.2 ⟨v, hv, hk⟩)
    simp only [SX.ren, Rel, hh]
  | tup cs =>
    have hh : ∀ us : List Value, All2 (Rel0 β' O w) (mapC (ren0 ρ) cs) us ↔ All2 (Rel0 β O w) cs us := fun us => All2.iff fun v hv u => Rel0.ren fun k hk => h k (List.mem_flatMap.2 ⟨v, hv, hk⟩)
    simp only [SX.ren, Rel, hh]
  | ag cs =>
    have hh : ∀ us : List Value, All2 (Rel0 β' O w) (mapC (ren0 ρ) cs) us ↔ All2 (Rel0 β O w) cs us := fun us => All2.iff fun v hv u => Rel0.ren fun k hk => h k (List.mem_flatMap.2 ⟨v, hv, hk⟩)
    simp only [SX.ren, Rel, hh]
  | vs id τ l k => exact Rel0.ren (O := O) (w := w) (v := .vs id τ l k) h
  | ob i i2 o => exact Rel0.ren (O := O) (w := w) (v := .ob i i2 o) h
  | pt n o => exact Rel0.ren (O := O) (w := w) (v := .pt n o) h
  | vec id τ l => exact Rel0.ren (O := O) (w := w) (v := .vec id τ l) h
  | vp id τ l n off => exact Rel0.ren (O := O) (w := w) (v := .vp id τ l n off) h
  | _ => exact Iff.rfl
theorem ids0_ren (ρ : Nat → Nat) (v : AV) : ids0 (ren0 ρ v) = (ids0 v).map ρ := by cases v <;> rfl
theorem ids_ren (ρ : Nat → Nat) (v : AV) : ids (ren ρ v) = (ids v).map ρ := by
  have h : ∀ l : List AV, (mapC (ren0 ρ) l).flatMap ids0 = (l.flatMap ids0).map ρ := by
    intro l
    induction l with
    | nil => rfl
    | cons v r ih => simp only [mapC, List.flatMap_cons, List.map_append, ih, ids0_ren]
  cases v with
  | fn f caps => exact h caps
  | tup cs => exact h cs
  | ag cs => exact h cs
  | vs id τ l k => rfl
  | ob i i2 o => rfl
  | pt n o => rfl
  | vec id τ l => rfl
  | vp id τ l n off => rfl
  | _ => rfl

/-! ### many names dropped -/
def killAll : List Nat → St → St
  | [], s => s
  | n :: r, s => killAll r (s.kill n)
def killAllK : List Nat → St → (St → Prop) → Prop
  | [], s, K => K s
  | n :: r, s, K => stKillK n s fun s' => killAllK r s' K
theorem killAllK_eq (l : List Nat) : ∀ (s : St) (K : St → Prop), killAllK l s K = K (killAll l s) := by
  induction l with
  | nil => intro s K; rfl
  | cons n r ih => intro s K; simp only [killAllK, killAll, stKillK_eq, ih]
theorem kill_cases (n : Nat) (v : AV) : (kill n v = v ∨ kill n v = .x) ∧ n ∉ ids (kill n v) := by
  refine ⟨?_, fun h => (kill_ids n v n h).2 rfl⟩
  unfold kill
  cases inL n (ids v)
  · exact .inl rfl
  · exact .inr rfl
theorem look_killAll (l : List Nat) : ∀ (s : St) (m : Nat), (look (killAll l s).slots m = look s.slots m ∨ look (killAll l s).slots m = .x) ∧ ∀ k ∈ ids (look (killAll l s).slots m), k ∉ l := by
  induction l with
  | nil => intro s m; exact ⟨.inl rfl, fun k _ h => by cases h⟩
  | cons n r ih =>
    intro s m
    obtain ⟨h1, h2⟩ := ih (s.kill n) m
    have hk : look (s.kill n).slots m = SX.kill n (look s.slots m) := look_mapV _ (kill_x n) _ _
    obtain ⟨h3, h4⟩ := kill_cases n (look s.slots m)
    simp only [killAll]
    rw [hk] at h1
    constructor
    · rcases h1 with h1 | h1
      · rw [h1]; exact h3
      · exact .inr h1
    · intro k hk' hkl
      rcases List.mem_cons.1 hkl with rfl | hkl
      · rcases h1 with h1 | h1
        · rw [h1] at hk'; exact h4 hk'
        · rw [h1] at hk'; cases hk'
      · exact h2 k hk' hkl
theorem lookB_killAll (l : List Nat) : ∀ (s : St) (n : Nat) (cs : List AV), lookB (killAll l s).boxes n = some cs → n ∉ l ∧ ∃ cs0, lookB s.boxes n = some cs0 ∧ cs.length = cs0.length ∧
    ∀ (j : Nat) c, cs[j]? = some c → (cs0[j]? = some c ∨ c = .x) ∧ ∀ k ∈ ids c, k ∉ l := by
  induction l with
  | nil => intro s n cs h; exact ⟨by simp, cs, h, rfl, fun j c hc => ⟨.inl hc, fun k _ h => by cases h⟩⟩
  | cons m r ih =>
    intro s n cs h
    obtain ⟨h1, cs1, h2, h3, h4⟩ := ih (s.kill m) n cs h
    simp only [St.kill, St.delBox, St.map, lookB_delL, lookB_mapB] at h2
    split at h2
    · cases h2
    · rename_i hne
      obtain ⟨cs0, h5, rfl⟩ := Option.map_eq_some_iff.1 h2
      refine ⟨?_, cs0, h5, by rw [h3, mapC_eq, List.length_map], fun j c hc => ?_⟩
      · intro hm
        rcases List.mem_cons.1 hm with rfl | hm
        · exact hne rfl
        · exact h1 hm
      · obtain ⟨h6, h7⟩ := h4 j c hc
        rcases h6 with h6 | h6
        · rw [mapC_eq, List.getElem?_map, Option.map_eq_some_iff] at h6
          obtain ⟨c0, h8, h9⟩ := h6
          obtain ⟨h10, h11⟩ := kill_cases m c0
          rw [h9] at h10 h11
          refine ⟨?_, fun k hk hkm => ?_⟩
          · rcases h10 with h10 | h10
            · exact .inl (h10 ▸ h8)
            · exact .inr h10
          · rcases List.mem_cons.1 hkm with rfl | hkm
            · exact h11 hk
            · exact h7 k hk hkm
        · subst h6
          exact ⟨.inr rfl, fun k hk => by cases hk⟩

section
variable {N : Nat} {s : St}
def inB (j : Nat) : List Nat → Bool
  | [] => false
  | k :: r => bif Nat.beq k j then true else inB j r
theorem inB_iff {j : Nat} {l : List Nat} : inB j l = true ↔ j ∈ l := by
  induction l with
  | nil => simp [inB]
  | cons k r ih =>
    simp only [inB]
    cases h : Nat.beq k j with
    | true => have := Nat.eq_of_beq_eq_true h; subst this; simp
    | false => have : j ≠ k := fun e => by subst e; rw [Nat.beq_refl] at h; cases h
               simp [ih, this]
def putO (s : St) (d : Option Nat) (v : AV) : St := match d with
  | some d => s.put d v
  | none => s
theorem look_putO (s : St) (d : Option Nat) (v : AV) (x : Nat) : look (putO s d v).slots x = if d = some x then v else look s.slots x := by
  cases d with
  | none => simp [putO]
  | some d => simp [putO, St.put, look_setL]
theorem boxes_putO (s : St) (d : Option Nat) (v : AV) : (putO s d v).boxes = s.boxes := by cases d <;> rfl
theorem stPut_inv {d : Option Nat} {v : AV} {K : St → Prop} (h : stPutK N s d v K) : K (putO s d v) ∧ ∀ e, d = some e → e < N := by
  cases d with
  | none => exact ⟨h, by intro e he; cases he⟩
  | some d =>
    rw [stPutK_some] at h
    cases hb : Nat.blt d N with
    | false => rw [hb] at h; exact h.elim
    | true => rw [hb] at h; exact ⟨h, by intro e he; injection he with he; subst he; rw [Nat.blt_eq] at hb; exact hb⟩
theorem stPut_mk {d : Option Nat} {v : AV} {K : St → Prop} (hd : ∀ e, d = some e → e < N) (h : K (putO s d v)) : stPutK N s d v K := by
  cases d with
  | none => exact h
  | some d => rw [stPutK_some, show Nat.blt d N = true from by rw [Nat.blt_eq]; exact hd d rfl]; exact h

end
end Go.SX
