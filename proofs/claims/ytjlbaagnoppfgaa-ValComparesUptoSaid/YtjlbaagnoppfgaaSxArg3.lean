/-
  Arguments of a call that are values, changes of types and links: what a claim says of them gives what reads them.
-/
import Derived.Test.YtjlbaagnoppfgaaSxArg2
namespace Go.SX
set_option linter.unusedSectionVars false
variable [Globs]
open Go.RowKit Go.WideShapes Go.ChangeShapes Go.Deep
/-- what a value bears: its numbers are of their kinds -/
inductive VB : Val → Prop
  | mk (v : Val) : (-9223372036854775808 ≤ v.kind ∧ v.kind ≤ 9223372036854775807) → (-9223372036854775808 ≤ v.n ∧ v.n ≤ 9223372036854775807) → (0 ≤ v.f ∧ v.f ≤ 18446744073709551615) → (∀ x ∈ v.l, VB x) → (∀ p ∈ v.e, VB p.2) → VB v
section
variable {H : Type} {encH : TypeId × Value → H} {P : Program} {W : World} {sp : Nat → Bool} {hd : Bool} {O : Nat → Prop}
/-- a slice, by its elements, which are read with less fuel -/
theorem arg_sliceF {t e : TypeId} {τ : Ty} {R : den τ → Prop} (hO : ∀ k, ¬ O k) (ht : P.underlying t = some (.slice e)) (hc : P.cellsOf e = esz τ) {fuel : Nat}
    (hel : ∀ n, n < fuel → ∀ (cs : List Value) (x : DataW H × List MemPlace), DataW.trod encH P W 0 sp hd n e cs = some x → ∃ y : den τ, All2 (Im O W) (enc τ y) cs ∧ R y)
    {cs : List Value} {x : DataW H × List MemPlace} (h : DataW.trod encH P W 0 sp hd fuel t cs = some x) : ∃ (l : List (den τ)) (v : Value), cs = [v] ∧ Im O W (.rd τ l) v ∧ ∀ y ∈ l, R y := by
  rcases DataW.trod_slice ht h with ⟨rfl, _⟩ | ⟨a, len, cap, elems, rest, n, rfl, rfl, _, hb, hlc, hcm, hlen, hall, _, _⟩
  · exact ⟨[], _, rfl, .rd0 τ none 0 (Nat.zero_le _), fun y hy => nomatch hy⟩
  by_cases h0 : len = 0
  · subst h0; exact ⟨[], _, rfl, .rd0 τ _ _ hcm, fun y hy => nomatch hy⟩
  have hall : ∀ i, i < len → ∃ (us : List Value) (y : DataW H × List MemPlace), W.cells? 0 (a.add (i * P.cellsOf e)) (P.cellsOf e) = some us ∧ DataW.trod encH P W 0 sp hd n e us = some y := fun i hi => by
    have := hall i hi
    rw [List.getElem?_eq_getElem (by omega)] at this
    obtain ⟨us, h1, h2⟩ := Option.bind_eq_some_iff.1 this
    exact ⟨us, _, h1, h2⟩
  have hch : ∀ i, i < len → ∃ (y : den τ) (us : List Value), (All2 (Im O W) (enc τ y) us ∧ R y) ∧ us.length = esz τ ∧ ∀ (j : Nat) v, us[j]? = some v → W.cell? ⟨a.block, a.off + (i * esz τ + j), none⟩ = some v := by
    intro i hi
    obtain ⟨us, yy, h1, h2⟩ := hall i hi
    obtain ⟨y, hy⟩ := hel n (Nat.lt_succ_self n) _ _ h2
    rw [hc] at h1
    obtain ⟨h3, h4⟩ := cells_get h1
    refine ⟨y, us, hy, h3, fun j v hv => ?_⟩
    have h5 := h4 j v hv
    have hs : ∀ j v, us[j]? = some v → ((a.add (i * esz τ)).add j).spot = none := fun j v hv => World.cell?_spot (h4 j v hv)
    have hpos := esz_pos τ
    have h00 : (a.add (i * esz τ)).spot = none := by
      have := hs 0 (us[0]'(by omega)) (List.getElem?_eq_getElem _)
      simpa [Addr.add] using this
    have e1 := add_of h00
    rw [e1] at h5
    rw [add_none] at h5
    rw [← h5, Nat.add_assoc]
  have ys : ∃ l : List (den τ), l.length = len ∧ ∀ (i : Nat) y, l[i]? = some y → ∃ us : List Value, (All2 (Im O W) (enc τ y) us ∧ R y) ∧ ∀ (j : Nat) v, us[j]? = some v → W.cell? ⟨a.block, a.off + (i * esz τ + j), none⟩ = some v := by
    have hch' := fun (i : Fin len) => hch i.1 i.2
    refine ⟨List.ofFn fun i : Fin len => Classical.choose (hch' i), by simp, fun i y hy => ?_⟩
    have hi : i < len := by have := (List.getElem?_eq_some_iff.1 hy).1; simpa using this
    rw [List.getElem?_ofFn, dif_pos hi] at hy
    injection hy with hy
    subst hy
    obtain ⟨us, h1, _, h2⟩ := Classical.choose_spec (hch' ⟨i, hi⟩)
    exact ⟨us, h1, h2⟩
  obtain ⟨l, hll, hl⟩ := ys
  refine ⟨l, _, rfl, ?_, fun y hy => ?_⟩
  rotate_left
  · obtain ⟨i, hi, rfl⟩ := List.getElem_of_mem hy
    obtain ⟨us, h1, _⟩ := hl i _ (List.getElem?_eq_getElem hi)
    exact h1.2
  have hane : a = ⟨a.block, a.off, none⟩ := by
    obtain ⟨us', yy, h1, h2⟩ := hall 0 (by omega)
    have hpos := esz_pos τ
    rw [hc] at h1
    obtain ⟨h5, h6⟩ := cells_get h1
    have := World.cell?_spot (h6 0 (us'[0]'(by omega)) (List.getElem?_eq_getElem _))
    simp [Addr.add] at this
    obtain ⟨b, o, s⟩ := a
    simp only at this
    subst this
    rfl
  rw [hane, ← hll]
  refine .rd τ l a.block a.off cap (fun i j => (W.cell? ⟨a.block, a.off + (i * esz τ + j), none⟩).getD undef) (hO _) (by omega) hcm (fun e => h0 (by rw [← hll, e]; rfl)) (fun i y j av hy hav => ?_) (fun i y j av hy hav => ?_)
  · obtain ⟨us, h1, h2⟩ := hl i y hy
    have hj : j < us.length := by rw [← h1.1.1]; exact (List.getElem?_eq_some_iff.1 hav).1
    rw [h2 j _ (List.getElem?_eq_getElem hj)]; rfl
  · obtain ⟨us, h1, h2⟩ := hl i y hy
    have hj : j < us.length := by rw [← h1.1.1]; exact (List.getElem?_eq_some_iff.1 hav).1
    rw [h2 j _ (List.getElem?_eq_getElem hj)]
    exact h1.1.2 j av _ hav (List.getElem?_eq_getElem hj)
/-- the fields of a struct, by their places and types -/
def HasF (fs : Array Field) (i off : Nat) (t : TypeId) : Prop := ∃ f, fs[i]? = some f ∧ f.offset = off ∧ f.type = t
theorem one_fieldF {t : TypeId} {fs : Array Field} {fuel : Nat} {cs : List Value} {x : DataW H × List MemPlace} (ht : P.underlying t = some (.struct fs)) (h : DataW.trod encH P W 0 sp hd fuel t cs = some x) :
    ∃ n, fuel = n + 1 ∧ cs.length = P.cellsOf t ∧ ∀ (i off : Nat) (t' : TypeId), HasF fs i off t' → ∃ y, DataW.trod encH P W 0 sp hd n t' ((cs.drop off).take (P.cellsOf t')) = some y := by
  obtain ⟨xs, n, hn, _, h1, h2, h3⟩ := DataW.trod_struct ht h
  refine ⟨n, hn, h1, fun i off t' hf => ?_⟩
  obtain ⟨f, hf, rfl, rfl⟩ := hf
  have hi : i < xs.length := by rw [h2]; exact (Array.getElem?_eq_some_iff.1 hf).1
  rw [h3 i f hf, List.getElem?_eq_getElem hi]
  exact ⟨_, rfl⟩
/-- the types that a value is made of -/
structure VTy (P : Program) (V : TypeId) where
  (fs gs : Array Field) (K N U S L E En : TypeId)
  hV : P.underlying V = some (.struct fs)
  cV : P.cellsOf V = 6
  h0 : HasF fs 0 0 K
  h1 : HasF fs 1 1 N
  h2 : HasF fs 2 2 U
  h3 : HasF fs 3 3 S
  h4 : HasF fs 4 4 L
  h5 : HasF fs 5 5 E
  uK : P.underlying K = some (.int .i64)
  uN : P.underlying N = some (.int .i64)
  uU : P.underlying U = some (.int .u64)
  uS : P.underlying S = some .string
  uL : P.underlying L = some (.slice V)
  uE : P.underlying E = some (.slice En)
  c : P.cellsOf K = 1 ∧ P.cellsOf N = 1 ∧ P.cellsOf U = 1 ∧ P.cellsOf S = 1 ∧ P.cellsOf L = 1 ∧ P.cellsOf E = 1
  hE : P.underlying En = some (.struct gs)
  cE : P.cellsOf En = 7
  g0 : HasF gs 0 0 S
  g1 : HasF gs 1 1 V
theorem arg_val {V : TypeId} (T : VTy P V) (hO : ∀ k, ¬ O k) : ∀ (fuel : Nat) (cs : List Value) (x : DataW H × List MemPlace), DataW.trod encH P W 0 sp hd fuel V cs = some x → ∃ y : Val, All2 (Im O W) (encVal y) cs ∧ VB y := by
  intro fuel
  induction fuel using Nat.strongRecOn with
  | _ fuel ih =>
  intro cs x h
  obtain ⟨n, rfl, hl, hf⟩ := one_fieldF T.hV h
  rw [T.cV] at hl
  obtain ⟨c0, c1, c2, c3, c4, c5⟩ := T.c
  match cs, hl with
  | [u0, u1, u2, u3, u4, u5], _ =>
    obtain ⟨_, q0⟩ := hf 0 0 _ T.h0
    obtain ⟨_, q1⟩ := hf 1 1 _ T.h1
    obtain ⟨_, q2⟩ := hf 2 2 _ T.h2
    obtain ⟨_, q3⟩ := hf 3 3 _ T.h3
    obtain ⟨_, q4⟩ := hf 4 4 _ T.h4
    obtain ⟨_, q5⟩ := hf 5 5 _ T.h5
    rw [c0] at q0
    rw [c1] at q1
    rw [c2] at q2
    rw [c3] at q3
    rw [c4] at q4
    rw [c5] at q5
    obtain ⟨k, e0, i0, w0⟩ := arg_int (O := O) T.uK q0
    obtain ⟨m, e1, i1, w1⟩ := arg_int (O := O) T.uN q1
    obtain ⟨f, e2, i2, w2⟩ := arg_int (O := O) T.uU q2
    obtain ⟨s, vs, e3, i3⟩ := arg_str (O := O) T.uS q3
    obtain ⟨l, vl, e4, i4, r4⟩ := arg_sliceF (O := O) (τ := .val) (R := VB) hO T.uL T.cV (fun n' hn cs' x' hx => ih n' (by omega) cs' x' hx) q4
    obtain ⟨es, ve, e5, i5, r5⟩ := arg_sliceF (O := O) (τ := .ent) (R := fun p => VB p.2) hO T.uE T.cE (fun n' hn cs' x' hx => by
      obtain ⟨n2, rfl, hl2, hf2⟩ := one_fieldF T.hE hx
      rw [T.cE] at hl2
      match cs', hl2 with
      | [z0, z1, z2, z3, z4, z5, z6], _ =>
        obtain ⟨_, p0⟩ := hf2 0 0 _ T.g0
        obtain ⟨_, p1⟩ := hf2 1 1 _ T.g1
        rw [c3] at p0
        rw [T.cV] at p1
        obtain ⟨ks, kv, d0, j0⟩ := arg_str (O := O) T.uS p0
        obtain ⟨y, j1, hy⟩ := ih n2 (by omega) _ _ p1
        simp at d0
        subst d0
        exact ⟨(ks, y), All2.cons j0 (by simpa using j1), hy⟩) q5
    simp at e0 e1 e2 e3 e4 e5
    subst e0 e1 e2 e3 e4 e5
    exact ⟨⟨k, m, f, s, l, es⟩, All2.cons i0 (All2.cons i1 (All2.cons i2 (All2.cons i3 (All2.cons i4 (All2.cons i5 (All2.nil _)))))), .mk _ (wf_i64 w0) (wf_i64 w1) (wf_u64 w2) r4 r5⟩
/-- the types that a change of types is made of -/
structure MTy (P : Program) (M : TypeId) where
  (fs : Array Field) (K Q S V : TypeId) (T : VTy P V)
  hM : P.underlying M = some (.struct fs)
  cM : P.cellsOf M = 10
  h0 : HasF fs 0 0 K
  h1 : HasF fs 1 1 Q
  h2 : HasF fs 2 2 S
  h3 : HasF fs 3 3 S
  h4 : HasF fs 4 4 V
  uK : P.underlying K = some (.int .i64)
  uQ : P.underlying Q = some (.slice S)
  uS : P.underlying S = some .string
  c : P.cellsOf K = 1 ∧ P.cellsOf Q = 1 ∧ P.cellsOf S = 1
/-- what a change of types bears -/
def MB (m : Move) : Prop := (-9223372036854775808 ≤ m.kind ∧ m.kind ≤ 9223372036854775807) ∧ VB m.v
theorem arg_move {M : TypeId} (T : MTy P M) (hO : ∀ k, ¬ O k) {fuel : Nat} {cs : List Value} {x : DataW H × List MemPlace} (h : DataW.trod encH P W 0 sp hd fuel M cs = some x) : ∃ y : Move, All2 (Im O W) (enc .move y) cs ∧ MB y := by
  obtain ⟨n, rfl, hl, hf⟩ := one_fieldF T.hM h
  rw [T.cM] at hl
  obtain ⟨c0, c1, c2⟩ := T.c
  match cs, hl with
  | [u0, u1, u2, u3, u4, u5, u6, u7, u8, u9], _ =>
    obtain ⟨_, q0⟩ := hf 0 0 _ T.h0
    obtain ⟨_, q1⟩ := hf 1 1 _ T.h1
    obtain ⟨_, q2⟩ := hf 2 2 _ T.h2
    obtain ⟨_, q3⟩ := hf 3 3 _ T.h3
    obtain ⟨_, q4⟩ := hf 4 4 _ T.h4
    rw [c0] at q0
    rw [c1] at q1
    rw [c2] at q2 q3
    rw [T.T.cV] at q4
    obtain ⟨k, e0, i0, w0⟩ := arg_int (O := O) T.uK q0
    obtain ⟨p, vp, e1, i1, _⟩ := arg_sliceF (O := O) (τ := .str) (R := fun _ => True) hO T.uQ c2 (fun n' hn cs' x' hx => by
      obtain ⟨ks, kv, d0, j0⟩ := arg_str (O := O) T.uS hx
      subst d0
      exact ⟨ks, All2.cons j0 (All2.nil _), trivial⟩) q1
    obtain ⟨s, vs, e2, i2⟩ := arg_str (O := O) T.uS q2
    obtain ⟨s', vs', e3, i3⟩ := arg_str (O := O) T.uS q3
    obtain ⟨y, j1, hy⟩ := arg_val T.T hO _ _ _ q4
    simp at e0 e1 e2 e3
    subst e0 e1 e2 e3
    exact ⟨⟨k, p, s, s', y⟩, All2.cons i0 (All2.cons i1 (All2.cons i2 (All2.cons i3 (by simpa using j1)))), wf_i64 w0, hy⟩
/-- the types that a link is made of -/
structure KTy (P : Program) (L : TypeId) where
  (fs : Array Field) (K Q M : TypeId) (T : MTy P M)
  hL : P.underlying L = some (.struct fs)
  cL : P.cellsOf L = 3
  h0 : HasF fs 0 0 K
  h1 : HasF fs 1 1 K
  h2 : HasF fs 2 2 Q
  uK : P.underlying K = some (.int .i64)
  uQ : P.underlying Q = some (.slice M)
  c : P.cellsOf K = 1 ∧ P.cellsOf Q = 1
def KB (k : Link) : Prop := (-9223372036854775808 ≤ k.fr ∧ k.fr ≤ 9223372036854775807) ∧ (-9223372036854775808 ≤ k.to ∧ k.to ≤ 9223372036854775807) ∧ ∀ m ∈ k.moves, MB m
theorem arg_link {L : TypeId} (T : KTy P L) (hO : ∀ k, ¬ O k) {fuel : Nat} {cs : List Value} {x : DataW H × List MemPlace} (h : DataW.trod encH P W 0 sp hd fuel L cs = some x) : ∃ y : Link, All2 (Im O W) (enc .link y) cs ∧ KB y := by
  obtain ⟨n, rfl, hl, hf⟩ := one_fieldF T.hL h
  rw [T.cL] at hl
  obtain ⟨c0, c1⟩ := T.c
  match cs, hl with
  | [u0, u1, u2], _ =>
    obtain ⟨_, q0⟩ := hf 0 0 _ T.h0
    obtain ⟨_, q1⟩ := hf 1 1 _ T.h1
    obtain ⟨_, q2⟩ := hf 2 2 _ T.h2
    rw [c0] at q0 q1
    rw [c1] at q2
    obtain ⟨k, e0, i0, w0⟩ := arg_int (O := O) T.uK q0
    obtain ⟨k', e1, i1, w1⟩ := arg_int (O := O) T.uK q1
    obtain ⟨p, vp, e2, i2, r2⟩ := arg_sliceF (O := O) (τ := .move) (R := MB) hO T.uQ T.T.cM (fun n' hn cs' x' hx => arg_move T.T hO hx) q2
    simp at e0 e1 e2
    subst e0 e1 e2
    exact ⟨⟨k, k', p⟩, All2.cons i0 (All2.cons i1 (All2.cons i2 (All2.nil _))), wf_i64 w0, wf_i64 w1, r2⟩
end
end Go.SX
