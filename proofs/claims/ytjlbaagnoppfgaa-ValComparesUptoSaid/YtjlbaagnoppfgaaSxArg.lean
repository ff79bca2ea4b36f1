/-
  Arguments: what a claim says of an argument's data gives an abstract value that reads it.
-/
import Derived.Test.YtjlbaagnoppfgaaSxLaw
import Derived.Deep.Slices
import Derived.Carry
import Derived.DataReads
namespace Go.SX
set_option linter.unusedSectionVars false
variable [Globs]
open Go.RowKit Go.WideShapes Go.ChangeShapes Go.Deep
theorem mapM_at {α β : Type} {f : α → Option β} : ∀ {l : List α} {r : List β}, l.mapM f = some r → r.length = l.length ∧ ∀ (j : Nat) x, l[j]? = some x → f x = r[j]? := by
  intro l
  induction l with
  | nil => intro r h; simp at h; subst h; exact ⟨rfl, fun j x h => by simp at h⟩
  | cons a l ih =>
    intro r h
    simp only [List.mapM_cons, Option.bind_eq_bind, Option.bind_eq_some_iff] at h
    obtain ⟨b, hb, bs, hbs, h⟩ := h
    have h : b :: bs = r := by injection h
    subst h
    obtain ⟨h1, h2⟩ := ih hbs
    refine ⟨by simp [h1], fun j x hx => ?_⟩
    cases j with
    | zero => simp at hx; subst hx; simpa using hb
    | succ j => simpa using h2 j x (by simpa using hx)
section
variable {H : Type} {encH : TypeId × Value → H} {P : Program} {W : World} {sp : Nat → Bool} {hd : Bool} {O : Nat → Prop}

theorem cells_get {w : World} {base : Nat} {a : Addr} {n : Nat} {cs : List Value} (h : w.cells? base a n = some cs) : cs.length = n ∧ ∀ (j : Nat) v, cs[j]? = some v → w.cell? (a.add j) = some v := by
  unfold World.cells? at h
  split at h
  · obtain ⟨h1, h2⟩ := mapM_at h
    rw [List.length_range] at h1
    refine ⟨h1, fun j v hv => ?_⟩
    have hj : j < n := by rw [← h1]; exact (List.getElem?_eq_some_iff.1 hv).1
    rw [h2 j j (by simp [hj]), hv]
  · cases h
theorem add_of {a : Addr} {n : Nat} (h : (a.add n).spot = none) : a.add n = ⟨a.block, a.off + n, none⟩ := by
  unfold Addr.add at h ⊢
  split
  · rename_i h0
    rw [if_pos h0] at h
    obtain ⟨b, o, s⟩ := a
    simp only at h
    subst h h0
    rfl
  · rfl
theorem arg_int {t : TypeId} {k : IntKind} {fuel : Nat} {cs : List Value} {x : DataW H × List MemPlace} (ht : P.underlying t = some (.int k)) (h : DataW.trod encH P W 0 sp hd fuel t cs = some x) : ∃ n, cs = [.int k n] ∧ Im O W (.i k n) (.int k n) ∧ (Lit.int k n).wf = true := by
  obtain ⟨n, h1, _, h2⟩ := DataW.trod_int ht h
  exact ⟨n, h1, .i k n, h2⟩
theorem arg_str {t : TypeId} {fuel : Nat} {cs : List Value} {x : DataW H × List MemPlace} (ht : P.underlying t = some .string) (h : DataW.trod encH P W 0 sp hd fuel t cs = some x) : ∃ (l : Str) (v : Value), cs = [v] ∧ Im O W (.s l) v := by
  obtain ⟨s, h1, _, h2⟩ := DataW.trod_string ht h
  refine ⟨s.data.toList, .string s, h1, ?_⟩
  have := Im.s (O := O) (w := W) s.data.toList (by rw [Array.length_toList]; exact h2)
  simpa using this
theorem arg_bool {t : TypeId} {fuel : Nat} {cs : List Value} {x : DataW H × List MemPlace} (ht : P.underlying t = some .bool) (h : DataW.trod encH P W 0 sp hd fuel t cs = some x) : ∃ b, cs = [.bool b] ∧ Im O W (.b b) (.bool b) := by
  obtain ⟨b, h1, _⟩ := DataW.trod_bool ht h
  exact ⟨b, h1, .b b⟩
/-- a slice, by its elements -/
theorem arg_slice {t e : TypeId} {τ : Ty} (hO : ∀ k, ¬ O k) (ht : P.underlying t = some (.slice e)) (hc : P.cellsOf e = esz τ)
    (hel : ∀ (n : Nat) (cs : List Value) (x : DataW H × List MemPlace), DataW.trod encH P W 0 sp hd n e cs = some x → ∃ y : den τ, All2 (Im O W) (enc τ y) cs)
    {fuel : Nat} {cs : List Value} {x : DataW H × List MemPlace} (h : DataW.trod encH P W 0 sp hd fuel t cs = some x) : ∃ (l : List (den τ)) (v : Value), cs = [v] ∧ Im O W (.rd τ l) v := by
  rcases open_slice ht h with ⟨rfl, _⟩ | ⟨a, len, cap, m, n, D, Pl, rfl, hb, hlc, hcm, hm, _, hall⟩
  · exact ⟨[], _, rfl, .rd0 τ none 0 (Nat.zero_le _)⟩
  have hlm : len ≤ m := by rw [hm]; split <;> omega
  by_cases h0 : len = 0
  · subst h0; exact ⟨[], _, rfl, .rd0 τ _ _ hcm⟩
  have hch : ∀ i, i < len → ∃ (y : den τ) (us : List Value), All2 (Im O W) (enc τ y) us ∧ us.length = esz τ ∧ ∀ (j : Nat) v, us[j]? = some v → W.cell? ⟨a.block, a.off + (i * esz τ + j), none⟩ = some v := by
    intro i hi
    obtain ⟨us, h1, h2⟩ := hall i (by omega)
    obtain ⟨y, hy⟩ := hel _ _ _ h2
    rw [hc] at h1
    obtain ⟨h3, h4⟩ := cells_get h1
    refine ⟨y, us, hy, h3, fun j v hv => ?_⟩
    have h5 := h4 j v hv
    have hs : ∀ j v, us[j]? = some v → ((a.add (i * esz τ)).add j).spot = none := fun j v hv => World.cell?_spot (h4 j v hv)
    have hpos := esz_pos τ
    have h00 : (a.add (i * esz τ)).spot = none := by
      have := hs 0 (us[0]'(by omega)) (List.getElem?_eq_getElem _)
      simpa [Addr.add] using this
    have e1 := add_of h00
    rw [e1] at h5
    rw [add_none] at h5
    rw [← h5, Nat.add_assoc]
  have ys : ∃ l : List (den τ), l.length = len ∧ ∀ (i : Nat) y, l[i]? = some y → ∃ us : List Value, All2 (Im O W) (enc τ y) us ∧ ∀ (j : Nat) v, us[j]? = some v → W.cell? ⟨a.block, a.off + (i * esz τ + j), none⟩ = some v := by
    have hch' := fun (i : Fin len) => hch i.1 i.2
    refine ⟨List.ofFn fun i : Fin len => Classical.choose (hch' i), by simp, fun i y hy => ?_⟩
    have hi : i < len := by have := (List.getElem?_eq_some_iff.1 hy).1; simpa using this
    rw [List.getElem?_ofFn, dif_pos hi] at hy
    injection hy with hy
    subst hy
    obtain ⟨us, h1, _, h2⟩ := Classical.choose_spec (hch' ⟨i, hi⟩)
    exact ⟨us, h1, h2⟩
  obtain ⟨l, hll, hl⟩ := ys
  refine ⟨l, _, rfl, ?_⟩
  have hane : a = ⟨a.block, a.off, none⟩ := by
    obtain ⟨y, us, _, h3, h4⟩ := hch 0 (by omega)
    obtain ⟨us', h1, h2⟩ := hall 0 (by omega)
    have hpos := esz_pos τ
    rw [hc] at h1
    obtain ⟨h5, h6⟩ := cells_get h1
    have := World.cell?_spot (h6 0 (us'[0]'(by omega)) (List.getElem?_eq_getElem _))
    simp [Addr.add] at this
    obtain ⟨b, o, s⟩ := a
    simp only at this
    subst this
    rfl
  rw [hane, ← hll]
  refine .rd τ l a.block a.off cap (fun i j => (W.cell? ⟨a.block, a.off + (i * esz τ + j), none⟩).getD undef) (hO _) (by omega) hcm (fun e => h0 (by rw [← hll, e]; rfl)) (fun i y j av hy hav => ?_) (fun i y j av hy hav => ?_)
  · obtain ⟨us, h1, h2⟩ := hl i y hy
    have hj : j < us.length := by rw [← h1.1]; exact (List.getElem?_eq_some_iff.1 hav).1
    rw [h2 j _ (List.getElem?_eq_getElem hj)]; rfl
  · obtain ⟨us, h1, h2⟩ := hl i y hy
    have hj : j < us.length := by rw [← h1.1]; exact (List.getElem?_eq_some_iff.1 hav).1
    rw [h2 j _ (List.getElem?_eq_getElem hj)]
    exact h1.2 j av _ hav (List.getElem?_eq_getElem hj)
/-- a struct of cells: each field's one -/
theorem one_field {t : TypeId} {fs : Array Field} {fuel : Nat} {cs : List Value} {x : DataW H × List MemPlace} (ht : P.underlying t = some (.struct fs)) (h : DataW.trod encH P W 0 sp hd fuel t cs = some x) :
    cs.length = P.cellsOf t ∧ ∃ n, ∀ (i : Nat) (f : Field), fs[i]? = some f → ∃ y, DataW.trod encH P W 0 sp hd n f.type ((cs.drop f.offset).take (P.cellsOf f.type)) = some y := by
  obtain ⟨xs, n, _, _, h1, h2, h3⟩ := DataW.trod_struct ht h
  refine ⟨h1, n, fun i f hf => ?_⟩
  have hi : i < xs.length := by rw [h2]; exact (Array.getElem?_eq_some_iff.1 hf).1
  rw [h3 i f hf, List.getElem?_eq_getElem hi]
  exact ⟨_, rfl⟩
theorem arg_part {t : TypeId} {f0 f1 f2 : Field} {fuel : Nat} {cs : List Value} {x : DataW H × List MemPlace} (ht : P.underlying t = some (.struct #[f0, f1, f2])) (hC : P.cellsOf t = 3)
    (ho : f0.offset = 0 ∧ f1.offset = 1 ∧ f2.offset = 2) (hc : P.cellsOf f0.type = 1 ∧ P.cellsOf f1.type = 1 ∧ P.cellsOf f2.type = 1)
    (h0 : P.underlying f0.type = some (.int .i64)) (h1 : P.underlying f1.type = some (.int .i64)) (h2 : P.underlying f2.type = some .string)
    (h : DataW.trod encH P W 0 sp hd fuel t cs = some x) : ∃ y : den .part, All2 (Im O W) (enc .part y) cs := by
  obtain ⟨hl, n, hf⟩ := one_field ht h
  rw [hC] at hl
  match cs, hl with
  | [u0, u1, u2], _ =>
    obtain ⟨_, g0⟩ := hf 0 f0 rfl
    obtain ⟨_, g1⟩ := hf 1 f1 rfl
    obtain ⟨_, g2⟩ := hf 2 f2 rfl
    rw [ho.1, hc.1] at g0
    rw [ho.2.1, hc.2.1] at g1
    rw [ho.2.2, hc.2.2] at g2
    obtain ⟨a, e0, i0, _⟩ := arg_int (O := O) h0 g0
    obtain ⟨b, e1, i1, _⟩ := arg_int (O := O) h1 g1
    obtain ⟨s, v, e2, i2⟩ := arg_str (O := O) h2 g2
    simp at e0 e1 e2
    subst e0 e1 e2
    exact ⟨⟨a, b, s⟩, All2.cons i0 (All2.cons i1 (All2.cons i2 (All2.nil _)))⟩
theorem slice_shape {t e : TypeId} {fuel : Nat} {cs : List Value} {x : DataW H × List MemPlace} (ht : P.underlying t = some (.slice e)) (h : DataW.trod encH P W 0 sp hd fuel t cs = some x) : ∃ u, cs = [u] ∧ u.oneCell' = true := by
  rcases open_slice ht h with ⟨rfl, _⟩ | ⟨a, len, cap, m, n, D, Pl, rfl, _⟩
  · exact ⟨_, rfl, rfl⟩
  · exact ⟨_, rfl, rfl⟩
/-- a node, of whose kids nothing is asked -/
theorem arg_node {t e : TypeId} {f0 f1 f2 f3 : Field} {fuel : Nat} {cs : List Value} {x : DataW H × List MemPlace} (ht : P.underlying t = some (.struct #[f0, f1, f2, f3])) (hC : P.cellsOf t = 4)
    (ho : f0.offset = 0 ∧ f1.offset = 1 ∧ f2.offset = 2 ∧ f3.offset = 3) (hc : P.cellsOf f0.type = 1 ∧ P.cellsOf f1.type = 1 ∧ P.cellsOf f2.type = 1 ∧ P.cellsOf f3.type = 1)
    (h0 : P.underlying f0.type = some (.int .i64)) (h1 : P.underlying f1.type = some (.int .i64)) (h2 : P.underlying f2.type = some (.int .i64)) (h3 : P.underlying f3.type = some (.slice e))
    (h : DataW.trod encH P W 0 sp hd fuel t cs = some x) : ∃ (a b c : Int) (u : Value), cs = [.int .i64 a, .int .i64 b, .int .i64 c, u] ∧ u.oneCell' = true ∧ (Lit.int .i64 c).wf = true := by
  obtain ⟨hl, n, hf⟩ := one_field ht h
  rw [hC] at hl
  match cs, hl with
  | [u0, u1, u2, u3], _ =>
    obtain ⟨_, g0⟩ := hf 0 f0 rfl
    obtain ⟨_, g1⟩ := hf 1 f1 rfl
    obtain ⟨_, g2⟩ := hf 2 f2 rfl
    obtain ⟨_, g3⟩ := hf 3 f3 rfl
    rw [ho.1, hc.1] at g0
    rw [ho.2.1, hc.2.1] at g1
    rw [ho.2.2.1, hc.2.2.1] at g2
    rw [ho.2.2.2, hc.2.2.2] at g3
    obtain ⟨a, e0, _, _⟩ := arg_int (O := fun _ => False) h0 g0
    obtain ⟨b, e1, _, _⟩ := arg_int (O := fun _ => False) h1 g1
    obtain ⟨c, e2, _, w2⟩ := arg_int (O := fun _ => False) h2 g2
    obtain ⟨u, e3, o3⟩ := slice_shape h3 g3
    simp at e0 e1 e2 e3
    subst e0 e1 e2 e3
    exact ⟨a, b, c, _, rfl, o3, w2⟩
end
theorem wf_i64 {n : Int} (h : (Lit.int .i64 n).wf = true) : (-9223372036854775808 : Int) ≤ n ∧ n ≤ (9223372036854775807 : Int) := by
  simp only [Lit.wf, Bool.and_eq_true, decide_eq_true_eq] at h; exact h
theorem wf_i32 {n : Int} (h : (Lit.int .i32 n).wf = true) : (-2147483648 : Int) ≤ n ∧ n ≤ (2147483647 : Int) := by
  simp only [Lit.wf, Bool.and_eq_true, decide_eq_true_eq] at h; exact h
theorem wf_u8 {n : Int} (h : (Lit.int .u8 n).wf = true) : (0 : Int) ≤ n ∧ n ≤ (255 : Int) := by
  simp only [Lit.wf, Bool.and_eq_true, decide_eq_true_eq] at h; exact h
theorem wf_u32 {n : Int} (h : (Lit.int .u32 n).wf = true) : (0 : Int) ≤ n ∧ n ≤ (4294967295 : Int) := by
  simp only [Lit.wf, Bool.and_eq_true, decide_eq_true_eq] at h; exact h
theorem wf_u64 {n : Int} (h : (Lit.int .u64 n).wf = true) : (0 : Int) ≤ n ∧ n ≤ (18446744073709551615 : Int) := by
  simp only [Lit.wf, Bool.and_eq_true, decide_eq_true_eq] at h; exact h
end Go.SX
