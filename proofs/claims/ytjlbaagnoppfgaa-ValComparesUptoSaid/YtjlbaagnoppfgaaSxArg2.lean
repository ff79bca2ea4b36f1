/-
  Arguments of a call, read by a claim: a slice, its elements beside what the claim reads of them.
-/
import Derived.Test.YtjlbaagnoppfgaaSxArg
namespace Go.SX
set_option linter.unusedSectionVars false
variable [Globs]
open Go.RowKit Go.WideShapes Go.ChangeShapes Go.Deep
section
variable {H : Type} {encH : TypeId × Value → H} {P : Program} {W : World} {sp : Nat → Bool} {hd : Bool} {O : Nat → Prop}
/-- a slice, by its elements, beside what is read of them -/
theorem arg_sliceR {t e : TypeId} {τ : Ty} {R : den τ → DataW H → Prop} (hO : ∀ k, ¬ O k) (ht : P.underlying t = some (.slice e)) (hc : P.cellsOf e = esz τ)
    (hel : ∀ (n : Nat) (cs : List Value) (x : DataW H × List MemPlace), DataW.trod encH P W 0 sp hd n e cs = some x → ∃ y : den τ, All2 (Im O W) (enc τ y) cs ∧ R y x.1)
    {fuel : Nat} {cs : List Value} {x : DataW H × List MemPlace} (h : DataW.trod encH P W 0 sp hd fuel t cs = some x) : ∃ (l : List (den τ)) (v : Value), cs = [v] ∧ Im O W (.rd τ l) v ∧ ((x.1 = .nil ∧ l = []) ∨ ∃ els rest, x.1 = .slice els rest ∧ els.length = l.length ∧ ∀ (i : Nat) y d, l[i]? = some y → els[i]? = some d → R y d) := by
  rcases open_slice ht h with ⟨rfl, rfl⟩ | ⟨a, len, cap, m, n, D, Pl, rfl, hb, hlc, hcm, hm, rfl, hall⟩
  · exact ⟨[], _, rfl, .rd0 τ none 0 (Nat.zero_le _), .inl ⟨rfl, rfl⟩⟩
  have hlm : len ≤ m := by rw [hm]; split <;> omega
  by_cases h0 : len = 0
  · subst h0; exact ⟨[], _, rfl, .rd0 τ _ _ hcm, .inr ⟨_, _, rfl, rfl, fun i y d hy _ => by simp at hy⟩⟩
  have hch : ∀ i, i < len → ∃ (y : den τ) (us : List Value), (All2 (Im O W) (enc τ y) us ∧ R y (D i)) ∧ us.length = esz τ ∧ ∀ (j : Nat) v, us[j]? = some v → W.cell? ⟨a.block, a.off + (i * esz τ + j), none⟩ = some v := by
    intro i hi
    obtain ⟨us, h1, h2⟩ := hall i (by omega)
    obtain ⟨y, hy⟩ := hel _ _ _ h2
    rw [hc] at h1
    obtain ⟨h3, h4⟩ := cells_get h1
    refine ⟨y, us, hy, h3, fun j v hv => ?_⟩
    have h5 := h4 j v hv
    have hs : ∀ j v, us[j]? = some v → ((a.add (i * esz τ)).add j).spot = none := fun j v hv => World.cell?_spot (h4 j v hv)
    have hpos := esz_pos τ
    have h00 : (a.add (i * esz τ)).spot = none := by
      have := hs 0 (us[0]'(by omega)) (List.getElem?_eq_getElem _)
      simpa [Addr.add] using this
    have e1 := add_of h00
    rw [e1] at h5
    rw [add_none] at h5
    rw [← h5, Nat.add_assoc]
  have ys : ∃ l : List (den τ), l.length = len ∧ ∀ (i : Nat) y, l[i]? = some y → ∃ us : List Value, (All2 (Im O W) (enc τ y) us ∧ R y (D i)) ∧ ∀ (j : Nat) v, us[j]? = some v → W.cell? ⟨a.block, a.off + (i * esz τ + j), none⟩ = some v := by
    have hch' := fun (i : Fin len) => hch i.1 i.2
    refine ⟨List.ofFn fun i : Fin len => Classical.choose (hch' i), by simp, fun i y hy => ?_⟩
    have hi : i < len := by have := (List.getElem?_eq_some_iff.1 hy).1; simpa using this
    rw [List.getElem?_ofFn, dif_pos hi] at hy
    injection hy with hy
    subst hy
    obtain ⟨us, h1, _, h2⟩ := Classical.choose_spec (hch' ⟨i, hi⟩)
    exact ⟨us, h1, h2⟩
  obtain ⟨l, hll, hl⟩ := ys
  refine ⟨l, _, rfl, ?_, .inr ⟨_, _, rfl, by simp [hll], fun i y d hy hd => ?_⟩⟩
  rotate_left
  · obtain ⟨us, h1, _⟩ := hl i y hy
    have hi : i < len := by rw [← hll]; exact (List.getElem?_eq_some_iff.1 hy).1
    rw [List.getElem?_map, List.getElem?_range hi] at hd
    injection hd with hd
    subst hd
    exact h1.2
  have hane : a = ⟨a.block, a.off, none⟩ := by
    obtain ⟨y, us, _, h3, h4⟩ := hch 0 (by omega)
    obtain ⟨us', h1, h2⟩ := hall 0 (by omega)
    have hpos := esz_pos τ
    rw [hc] at h1
    obtain ⟨h5, h6⟩ := cells_get h1
    have := World.cell?_spot (h6 0 (us'[0]'(by omega)) (List.getElem?_eq_getElem _))
    simp [Addr.add] at this
    obtain ⟨b, o, s⟩ := a
    simp only at this
    subst this
    rfl
  rw [hane, ← hll]
  refine .rd τ l a.block a.off cap (fun i j => (W.cell? ⟨a.block, a.off + (i * esz τ + j), none⟩).getD undef) (hO _) (by omega) hcm (fun e => h0 (by rw [← hll, e]; rfl)) (fun i y j av hy hav => ?_) (fun i y j av hy hav => ?_)
  · obtain ⟨us, h1, h2⟩ := hl i y hy
    have hj : j < us.length := by rw [← h1.1.1]; exact (List.getElem?_eq_some_iff.1 hav).1
    rw [h2 j _ (List.getElem?_eq_getElem hj)]; rfl
  · obtain ⟨us, h1, h2⟩ := hl i y hy
    have hj : j < us.length := by rw [← h1.1.1]; exact (List.getElem?_eq_some_iff.1 hav).1
    rw [h2 j _ (List.getElem?_eq_getElem hj)]
    exact h1.1.2 j av _ hav (List.getElem?_eq_getElem hj)
end
end Go.SX
