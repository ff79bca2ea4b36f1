/-
  Arguments of a call that are values, beside the bulk of what a claim reads of them. 
-/
import Derived.Test.YtjlbaagnoppfgaaSxArg3
namespace Go.SX
set_option linter.unusedSectionVars false
set_option linter.unusedVariables false
set_option linter.unusedSimpArgs false
variable [Globs]
open Go.RowKit Go.WideShapes Go.ChangeShapes Go.Deep
/-- no list of it, at whatever depth, is longer than n -/
inductive VN (n : Nat) : Val → Prop
  | mk (a : Val) : a.l.length ≤ n → a.e.length ≤ n → (∀ x ∈ a.l, VN n x) → (∀ p ∈ a.e, VN n p.2) → VN n a
theorem VN.mono {n m : Nat} (h : n ≤ m) {a : Val} (ha : VN n a) : VN m a := by
  induction ha with
  | mk a h1 h2 _ _ i1 i2 => exact .mk a (Nat.le_trans h1 h) (Nat.le_trans h2 h) i1 i2
/-- a measure of data by which a whole is no less than its parts -/
structure Bulk {H : Type} (bk : DataW H → Nat) : Prop where
  len : ∀ els rest, els.length ≤ bk (.slice els rest)
  el : ∀ els rest, ∀ d ∈ els, bk d ≤ bk (.slice els rest)
  part : ∀ ds, ∀ d ∈ ds, bk d ≤ bk (.agg ds)
section
variable {H : Type} {encH : TypeId × Value → H} {P : Program} {W : World} {sp : Nat → Bool} {hd : Bool} {O : Nat → Prop} {bk : DataW H → Nat}
/-- a slice, by its elements, which are read with less fuel -/
theorem arg_sliceB {t e : TypeId} {τ : Ty} {R : Nat → den τ → Prop} (hbk : Bulk bk) (hR : ∀ n m y, n ≤ m → R n y → R m y) (hO : ∀ k, ¬ O k) (ht : P.underlying t = some (.slice e)) (hc : P.cellsOf e = esz τ) {fuel : Nat}
    (hel : ∀ n, n < fuel → ∀ (cs : List Value) (x : DataW H × List MemPlace), DataW.trod encH P W 0 sp hd n e cs = some x → ∃ y : den τ, All2 (Im O W) (enc τ y) cs ∧ R (bk x.1) y)
    {cs : List Value} {x : DataW H × List MemPlace} (h : DataW.trod encH P W 0 sp hd fuel t cs = some x) : ∃ (l : List (den τ)) (v : Value), cs = [v] ∧ Im O W (.rd τ l) v ∧ l.length ≤ bk x.1 ∧ ∀ y ∈ l, R (bk x.1) y := by
  rcases DataW.trod_slice ht h with ⟨rfl, _⟩ | ⟨a, len, cap, elems, rest, n, rfl, rfl, rfl, hb, hlc, hcm, hlen, hall, _, _⟩
  · exact ⟨[], _, rfl, .rd0 τ none 0 (Nat.zero_le _), Nat.zero_le _, fun y hy => nomatch hy⟩
  by_cases h0 : len = 0
  · subst h0; exact ⟨[], _, rfl, .rd0 τ _ _ hcm, Nat.zero_le _, fun y hy => nomatch hy⟩
  have hall : ∀ i, i < len → ∃ (us : List Value) (y : DataW H × List MemPlace), W.cells? 0 (a.add (i * P.cellsOf e)) (P.cellsOf e) = some us ∧ DataW.trod encH P W 0 sp hd n e us = some y ∧ y ∈ elems := fun i hi => by
    have := hall i hi
    rw [List.getElem?_eq_getElem (by omega)] at this
    obtain ⟨us, h1, h2⟩ := Option.bind_eq_some_iff.1 this
    exact ⟨us, _, h1, h2, List.getElem_mem _⟩
  have hch : ∀ i, i < len → ∃ (y : den τ) (us : List Value), (All2 (Im O W) (enc τ y) us ∧ R (bk (DataW.slice (elems.map (·.1)) (rest.map (·.1)))) y) ∧ us.length = esz τ ∧ ∀ (j : Nat) v, us[j]? = some v → W.cell? ⟨a.block, a.off + (i * esz τ + j), none⟩ = some v := by
    intro i hi
    obtain ⟨us, yy, h1, h2, hm⟩ := hall i hi
    obtain ⟨y, hy⟩ := hel n (Nat.lt_succ_self n) _ _ h2
    replace hy := And.intro hy.1 (hR _ _ _ (hbk.el _ (rest.map (·.1)) yy.1 (List.mem_map.2 ⟨yy, hm, rfl⟩)) hy.2)
    rw [hc] at h1
    obtain ⟨h3, h4⟩ := cells_get h1
    refine ⟨y, us, hy, h3, fun j v hv => ?_⟩
    have h5 := h4 j v hv
    have hs : ∀ j v, us[j]? = some v → ((a.add (i * esz τ)).add j).spot = none := fun j v hv => World.cell?_spot (h4 j v hv)
    have hpos := esz_pos τ
    have h00 : (a.add (i * esz τ)).spot = none := by
      have := hs 0 (us[0]'(by omega)) (List.getElem?_eq_getElem _)
      simpa [Addr.add] using this
    have e1 := add_of h00
    rw [e1] at h5
    rw [add_none] at h5
    rw [← h5, Nat.add_assoc]
  have ys : ∃ l : List (den τ), l.length = len ∧ ∀ (i : Nat) y, l[i]? = some y → ∃ us : List Value, (All2 (Im O W) (enc τ y) us ∧ R (bk (DataW.slice (elems.map (·.1)) (rest.map (·.1)))) y) ∧ ∀ (j : Nat) v, us[j]? = some v → W.cell? ⟨a.block, a.off + (i * esz τ + j), none⟩ = some v := by
    have hch' := fun (i : Fin len) => hch i.1 i.2
    refine ⟨List.ofFn fun i : Fin len => Classical.choose (hch' i), by simp, fun i y hy => ?_⟩
    have hi : i < len := by have := (List.getElem?_eq_some_iff.1 hy).1; simpa using this
    rw [List.getElem?_ofFn, dif_pos hi] at hy
    injection hy with hy
    subst hy
    obtain ⟨us, h1, _, h2⟩ := Classical.choose_spec (hch' ⟨i, hi⟩)
    exact ⟨us, h1, h2⟩
  obtain ⟨l, hll, hl⟩ := ys
  refine ⟨l, _, rfl, ?_, by rw [hll, ← hlen]; exact Nat.le_trans (Nat.le_of_eq (List.length_map ..).symm) (hbk.len _ _), fun y hy => ?_⟩
  rotate_left
  · obtain ⟨i, hi, rfl⟩ := List.getElem_of_mem hy
    obtain ⟨us, h1, _⟩ := hl i _ (List.getElem?_eq_getElem hi)
    exact h1.2
  have hane : a = ⟨a.block, a.off, none⟩ := by
    obtain ⟨us', yy, h1, h2, _⟩ := hall 0 (by omega)
    have hpos := esz_pos τ
    rw [hc] at h1
    obtain ⟨h5, h6⟩ := cells_get h1
    have := World.cell?_spot (h6 0 (us'[0]'(by omega)) (List.getElem?_eq_getElem _))
    simp [Addr.add] at this
    obtain ⟨b, o, s⟩ := a
    simp only at this
    subst this
    rfl
  rw [hane, ← hll]
  refine .rd τ l a.block a.off cap (fun i j => (W.cell? ⟨a.block, a.off + (i * esz τ + j), none⟩).getD undef) (hO _) (by omega) hcm (fun e => h0 (by rw [← hll, e]; rfl)) (fun i y j av hy hav => ?_) (fun i y j av hy hav => ?_)
  · obtain ⟨us, h1, h2⟩ := hl i y hy
    have hj : j < us.length := by rw [← h1.1.1]; exact (List.getElem?_eq_some_iff.1 hav).1
    rw [h2 j _ (List.getElem?_eq_getElem hj)]; rfl
  · obtain ⟨us, h1, h2⟩ := hl i y hy
    have hj : j < us.length := by rw [← h1.1.1]; exact (List.getElem?_eq_some_iff.1 hav).1
    rw [h2 j _ (List.getElem?_eq_getElem hj)]
    exact h1.1.2 j av _ hav (List.getElem?_eq_getElem hj)
theorem one_fieldB {t : TypeId} {fs : Array Field} {fuel : Nat} {cs : List Value} {x : DataW H × List MemPlace} (hbk : Bulk bk) (ht : P.underlying t = some (.struct fs)) (h : DataW.trod encH P W 0 sp hd fuel t cs = some x) :
    ∃ n, fuel = n + 1 ∧ cs.length = P.cellsOf t ∧ ∀ (i off : Nat) (t' : TypeId), HasF fs i off t' → ∃ y, DataW.trod encH P W 0 sp hd n t' ((cs.drop off).take (P.cellsOf t')) = some y ∧ bk y.1 ≤ bk x.1 := by
  obtain ⟨xs, n, hn, rfl, h1, h2, h3⟩ := DataW.trod_struct ht h
  refine ⟨n, hn, h1, fun i off t' hf => ?_⟩
  obtain ⟨f, hf, rfl, rfl⟩ := hf
  have hi : i < xs.length := by rw [h2]; exact (Array.getElem?_eq_some_iff.1 hf).1
  rw [h3 i f hf, List.getElem?_eq_getElem hi]
  exact ⟨_, rfl, hbk.part _ _ (List.mem_map.2 ⟨xs[i], List.getElem_mem hi, rfl⟩)⟩
theorem arg_valB {V : TypeId} (hbk : Bulk bk) (T : VTy P V) (hO : ∀ k, ¬ O k) : ∀ (fuel : Nat) (cs : List Value) (x : DataW H × List MemPlace), DataW.trod encH P W 0 sp hd fuel V cs = some x → ∃ y : Val, All2 (Im O W) (encVal y) cs ∧ VB y ∧ VN (bk x.1) y := by
  intro fuel
  induction fuel using Nat.strongRecOn with
  | _ fuel ih =>
  intro cs x h
  obtain ⟨n, rfl, hl, hf⟩ := one_fieldB hbk T.hV h
  rw [T.cV] at hl
  obtain ⟨c0, c1, c2, c3, c4, c5⟩ := T.c
  match cs, hl with
  | [u0, u1, u2, u3, u4, u5], _ =>
    obtain ⟨_, q0, k0⟩ := hf 0 0 _ T.h0
    obtain ⟨_, q1, k1⟩ := hf 1 1 _ T.h1
    obtain ⟨_, q2, k2⟩ := hf 2 2 _ T.h2
    obtain ⟨_, q3, k3⟩ := hf 3 3 _ T.h3
    obtain ⟨_, q4, k4⟩ := hf 4 4 _ T.h4
    obtain ⟨_, q5, k5⟩ := hf 5 5 _ T.h5
    rw [c0] at q0
    rw [c1] at q1
    rw [c2] at q2
    rw [c3] at q3
    rw [c4] at q4
    rw [c5] at q5
    obtain ⟨k, e0, i0, w0⟩ := arg_int (O := O) T.uK q0
    obtain ⟨m, e1, i1, w1⟩ := arg_int (O := O) T.uN q1
    obtain ⟨f, e2, i2, w2⟩ := arg_int (O := O) T.uU q2
    obtain ⟨s, vs, e3, i3⟩ := arg_str (O := O) T.uS q3
    obtain ⟨l, vl, e4, i4, z4, r4⟩ := arg_sliceB (O := O) (τ := .val) (R := fun n y => VB y ∧ VN n y) hbk (fun _ _ _ hle hy => ⟨hy.1, hy.2.mono hle⟩) hO T.uL T.cV (fun n' hn cs' x' hx => ih n' (by omega) cs' x' hx) q4
    obtain ⟨es, ve, e5, i5, z5, r5⟩ := arg_sliceB (O := O) (τ := .ent) (R := fun n p => VB p.2 ∧ VN n p.2) hbk (fun _ _ _ hle hy => ⟨hy.1, hy.2.mono hle⟩) hO T.uE T.cE (fun n' hn cs' x' hx => by
      obtain ⟨n2, rfl, hl2, hf2⟩ := one_fieldB hbk T.hE hx
      rw [T.cE] at hl2
      match cs', hl2 with
      | [z0, z1, z2, z3, z4, z5, z6], _ =>
        obtain ⟨_, p0, m0⟩ := hf2 0 0 _ T.g0
        obtain ⟨_, p1, m1⟩ := hf2 1 1 _ T.g1
        rw [c3] at p0
        rw [T.cV] at p1
        obtain ⟨ks, kv, d0, j0⟩ := arg_str (O := O) T.uS p0
        obtain ⟨y, j1, hy⟩ := ih n2 (by omega) _ _ p1
        simp at d0
        subst d0
        exact ⟨(ks, y), All2.cons j0 (by simpa using j1), hy.1, hy.2.mono m1⟩) q5
    simp at e0 e1 e2 e3 e4 e5
    subst e0 e1 e2 e3 e4 e5
    exact ⟨⟨k, m, f, s, l, es⟩, All2.cons i0 (All2.cons i1 (All2.cons i2 (All2.cons i3 (All2.cons i4 (All2.cons i5 (All2.nil _)))))), .mk _ (wf_i64 w0) (wf_i64 w1) (wf_u64 w2) (fun x hx => (r4 x hx).1) (fun p hp => (r5 p hp).1), .mk _ (Nat.le_trans z4 k4) (Nat.le_trans z5 k5) (fun x hx => (r4 x hx).2.mono k4) (fun p hp => (r5 p hp).2.mono k5)⟩
theorem arg_entB {V : TypeId} (hbk : Bulk bk) (T : VTy P V) (hO : ∀ k, ¬ O k) {fuel : Nat} {cs : List Value} {x : DataW H × List MemPlace} (hx : DataW.trod encH P W 0 sp hd fuel T.En cs = some x) : ∃ p : Str × Val, All2 (Im O W) (enc .ent p) cs ∧ VB p.2 ∧ VN (bk x.1) p.2 := by
  obtain ⟨n2, rfl, hl2, hf2⟩ := one_fieldB hbk T.hE hx
  rw [T.cE] at hl2
  match cs, hl2 with
  | [z0, z1, z2, z3, z4, z5, z6], _ =>
    obtain ⟨_, p0, m0⟩ := hf2 0 0 _ T.g0
    obtain ⟨_, p1, m1⟩ := hf2 1 1 _ T.g1
    obtain ⟨c0, c1, c2, c3, c4, c5⟩ := T.c
    rw [c3] at p0
    rw [T.cV] at p1
    obtain ⟨ks, kv, d0, j0⟩ := arg_str (O := O) T.uS p0
    obtain ⟨y, j1, hy⟩ := arg_valB hbk T hO n2 _ _ p1
    simp at d0
    subst d0
    exact ⟨(ks, y), All2.cons j0 (by simpa using j1), hy.1, hy.2.mono m1⟩
end
end Go.SX
