/-
  A Builder's buffer grows: a text's bytes are appended to it.
-/
import Derived.Test.YtjlbaagnoppfgaaDoorSxOb
import Derived.Lib.FrozenHead
import Derived.Lib.FrozenHead2
namespace Go.SX
section
variable {P : Program} {β : Nat → Option Nat} {w : World} {id2 : Nat} {e : TypeId} {l : Str} {u : Value}

theorem bcells_strCells (s : Str) : Lib.strCells ⟨s.toArray⟩ = bcells s := by simp [Lib.strCells, bcells]
theorem bcells_length (s : Str) : (bcells s).length = s.length := by simp [bcells]
theorem bcells_append (s t : Str) : bcells (s ++ t) = bcells s ++ bcells t := by simp [bcells]
theorem bcells_one (s : Str) : ∀ v ∈ bcells s, v.oneCell' = true := by
  intro v hv
  simp only [bcells, List.mem_map] at hv
  obtain ⟨b, _, rfl⟩ := hv
  rfl
/-- what a buffer is behind an append -/
structure BufNext (β : Nat → Option Nat) (w w' : World) (id2 : Nat) (e : TypeId) (l : Str) (v : Value) (b2 : Option Nat) : Prop where
  stp : Stp (fun k => β id2 = some k) w w'
  blk : ∀ g, b2 = some g → g < w'.heap.size ∧ (β id2 = some g ∨ w.heap.size ≤ g)
  buf : ∀ (β' : Nat → Option Nat) (w'' : World), β' id2 = b2 → (∀ g, b2 = some g → w''.heap[g]? = w'.heap[g]?) → BufAt β' w'' id2 e l v
  sl : ∃ a n c, v = .slice a n c
theorem BufAt.same (h : BufAt β w id2 e l u) : BufNext β w w id2 e l u (β id2) := by
  refine ⟨Stp.refl _ _, fun g hg => ⟨?_, .inl hg⟩, fun β' w'' hβ hk => ?_, ?_⟩
  · rcases h with ⟨_, _, h3⟩ | ⟨g', c, cur, fz, h1, h2, h3, _⟩
    · rw [h3] at hg; cases hg
    · rw [h1] at hg; injection hg with hg; subst hg; exact (Array.getElem?_eq_some_iff.1 h3).1
  · rcases h with ⟨h1, h2, h3⟩ | ⟨g', c, cur, fz, h1, h2, h3, h4⟩
    · exact .inl ⟨h1, h2, hβ.trans h3⟩
    · exact .inr ⟨g', c, cur, fz, hβ.trans h1, h2, (hk g' h1).trans h3, h4⟩
  · rcases h with ⟨_, h2, _⟩ | ⟨g', c, cur, fz, h1, h2, _⟩
    · exact ⟨_, _, _, h2⟩
    · exact ⟨_, _, _, h2⟩
/-- a new buffer -/
theorem buf_new {w' : World} {b : Str} {cur : Array Value} {c : Nat} (hb : b ≠ []) (hst : Stp (fun _ => False) w w') (hh : w'.heap[w.heap.size]? = some (.cells cur e (0, 0))) (hc : b.length ≤ c) (hm : c ≤ maxLen) (hsz : cur.size = c) (ht : cur.toList.take b.length = bcells b) :
    BufNext β w w' id2 e b (.slice (some ⟨w.heap.size, 0, none⟩) b.length c) (some w.heap.size) := by
  refine ⟨hst.mono fun _ _ h => h.elim, fun g hg => ?_, fun β' w'' hβ hk => .inr ⟨w.heap.size, c, cur, (0, 0), hβ, rfl, (hk _ rfl).trans hh, Nat.zero_le _, hc, hm, hsz, ht, hb⟩, _, _, _, rfl⟩
  injection hg with hg
  subst hg
  exact ⟨(Array.getElem?_eq_some_iff.1 hh).1, .inr (Nat.le_refl _)⟩
theorem buf_app (h : BufAt β w id2 e l u) (s : Str) {t x ty : TypeId} {i : TypeInfo} (ht : P.underlying t = some (.slice e)) (hx : P.underlying x = some .string) (hi : P.info? e = some i) (hz : i.zero = some (.int .u8 0)) (hsize : i.size = 1) (hby : i.bytes = 1)
    (hlen : l.length + s.length ≤ 140737488355328) :
    ∃ v' w' b2, (Builtin.append_ #[t, x] ty #[u, .string ⟨s.toArray⟩]).run P w = .ok v' w' ∧ BufNext β w w' id2 e (l ++ s) v' b2 := by
  have hss : (⟨s.toArray⟩ : ByteArray).size = s.length := by simp [ByteArray.size]
  have hml : (140737488355328 : Nat) ≤ maxLen := by unfold maxLen; omega
  rcases h with ⟨rfl, rfl, h3⟩ | ⟨g, c, cur, fz, h1, rfl, h2, h3, h4, h5, h6, h7, h8⟩
  · simp only [List.length_nil, Nat.zero_add] at hlen
    obtain ⟨v', w', hr, hown, hg, hnil⟩ := Lib.run_append_own_stringF (P := P) w w.heap.size t x ty e i ht hx hi hz hsize hby (.slice none 0 0) 0 [] (World.ownsRowF_nil _ _ _ _) ⟨s.toArray⟩ (by rw [hss]; omega) (by rw [hss]; omega) (Nat.le_refl _)
    have hst : Stp (fun _ => False) w w' := ⟨hg.os, hg.tape, hg.output, hg.size, fun k hk _ => hg.block k hk (by simp [Value.ownBlock])⟩
    rw [hss, bcells_strCells] at hown
    rw [hss] at hnil
    simp only [List.nil_append, Nat.zero_add] at hown
    by_cases hs : s = []
    · subst hs
      have hv : v' = .slice none 0 0 := hnil.2 ⟨rfl, rfl⟩
      subst hv
      refine ⟨_, w', none, hr, hst.mono fun _ _ h => h.elim, fun g hg => (nomatch hg), fun β' w'' hβ _ => .inl ⟨rfl, rfl, hβ⟩, _, _, _, rfl⟩
    · rcases hown.2 with ⟨hv, hn⟩ | ⟨g, cap, cur, fz, rfl, hB, k2, k3, k4, k5, k6, k7⟩
      · exact absurd (List.eq_nil_of_length_eq_zero hn) hs
      · refine ⟨_, w', some g, hr, hst.mono fun _ _ h => h.elim, fun g' hg' => ?_, fun β' w'' hβ hk => .inr ⟨g, cap, cur, fz, hβ, rfl, (hk g rfl).trans k2, by simpa using k3, k4, k5, by simpa using k6, by simpa using k7, hs⟩, _, _, _, rfl⟩
        injection hg' with hg'
        subst hg'
        exact ⟨(Array.getElem?_eq_some_iff.1 k2).1, .inr hB⟩
  · by_cases hroom : l.length + s.length ≤ c
    · have hr := Lib.run_append_room_stringF (P := P) w t x ty e i ht hx hi hsize g l.length c cur fz h2 h3 ⟨s.toArray⟩ (by rw [hss]; exact hroom) (by rw [hss, h6]; exact hroom)
      rw [hss, bcells_strCells] at hr
      refine ⟨_, _, some g, hr, ⟨rfl, rfl, rfl, by simp, fun k _ hk => setRow_other w g k _ fun e => hk (by rw [e]; exact h1)⟩, fun g' hg' => ?_, fun β' w'' hβ hk => .inr ⟨g, c, _, fz, hβ, ?_, (hk g rfl).trans (setRow_heap w g cur _ e _ h2), ?_, ?_, h5, ?_, ?_, ?_⟩, _, _, _, rfl⟩
      · injection hg' with hg'
        subst hg'
        exact ⟨by simpa using (Array.getElem?_eq_some_iff.1 h2).1, .inl h1⟩
      · rw [List.length_append]
      · rw [List.length_append]; omega
      · rw [List.length_append]; omega
      · simp only [List.size_toArray, List.length_append, List.length_take, List.length_drop, Array.length_toList, bcells_length, h6]
        omega
      · rw [h7, List.length_append, bcells_append]
        have : (bcells l ++ bcells s).length = l.length + s.length := by simp [bcells_length]
        rw [← this]
        exact List.take_left
      · simp [h8]
    · have hold : ∀ (j : Nat) v, (bcells l)[j]? = some v → w.cell? ((⟨g, 0, none⟩ : Addr).add j) = some v := by
        intro j v hv
        have hadd : (⟨g, 0, none⟩ : Addr).add j = ⟨g, j, none⟩ := by unfold Addr.add; split <;> simp_all
        rw [hadd, cell_of_row w g j cur e fz h2]
        rw [← h7, List.getElem?_take] at hv
        split at hv
        · simpa using hv
        · cases hv
      have hr := Lib.run_append_grow_string (P := P) w t x ty e i (.int .u8 0) ht hx hi hz ⟨g, 0, none⟩ l.length c (bcells l) (by rw [hsize, bcells_length, Nat.mul_one]) hold ⟨s.toArray⟩ (by rw [hss]; omega) (by rw [hss]; omega)
        (by rw [hby]; exact growslice_fits (by rw [hss]; omega) (by rw [hss]; omega))
      rw [hss, bcells_strCells] at hr
      have hge := grownCap_ge w (l.length + s.length) c e
      have hcm := grownCap_le_maxLen w (l.length + s.length) c e (by omega)
      refine ⟨_, _, some w.heap.size, hr, ?_⟩
      rw [show l.length + s.length = (l ++ s).length by rw [List.length_append]] at *
      refine buf_new (by simp [h8]) ⟨rfl, rfl, rfl, by simp, fun k hk _ => Lib.alloc_old w.drew _ k hk⟩ (heap_alloc_new w.drew _) hge hcm ?_ ?_
      · have hz1 : (Value.int IntKind.u8 0).cells.size = 1 := rfl
        simp only [Array.size_append, List.size_toArray, size_zeroCells, hz1, bcells_length, List.length_append] at hge ⊢
        omega
      · simp only [Array.toList_append, List.append_assoc]
        rw [bcells_append, show (l ++ s).length = (bcells l ++ bcells s).length by simp [bcells_length], ← List.append_assoc]
        exact List.take_left
/-- the append, for the kit's walk -/
theorem wpList_buf {ops : Array Oper} {rest : List Oper} {o : Oper} {a : Act} {Q : Exit → Act → World → Prop} (hgd : o.guard = none) (sl x : Operand) (t xt : TypeId)
    (ho : o.op = .call { callee := .builtin .append, args := #[sl, x], argTypes := #[t, xt] }) {i : TypeInfo} (ht : P.underlying t = some (.slice e)) (hx : P.underlying xt = some .string) (hi : P.info? e = some i) (hz : i.zero = some (.int .u8 0)) (hsize : i.size = 1) (hby : i.bytes = 1)
    (h : BufAt β w id2 e l u) (s : Str) (hs : a.eval sl = u) (hxe : a.eval x = .string ⟨s.toArray⟩) (hlen : l.length + s.length ≤ 140737488355328)
    (k : ∀ v' w' b2, BufNext β w w' id2 e (l ++ s) v' b2 → wpList P ops Q rest (a.put o.dst v') w') : wpList P ops Q (o :: rest) a w := by
  refine wpList_plain hgd fun K hK => ?_
  obtain ⟨v', w', b2, hr, hn⟩ := buf_app (P := P) h s (t := t) (x := xt) (ty := o.type) ht hx hi hz hsize hby hlen
  have hrun : (execOp a.eval o).run P w = .ok (.value v') w' := by
    simp [execOp, ho, resolve, invoke, builtin, hs, hxe, hr]
  unfold Oper.wp
  rw [hrun]
  exact hK _ _ (k v' w' b2 hn)
/-- bytes out of a slice are appended -/
theorem buf_appB (h : BufAt β w id2 e l u) (s : Str) (hs : s ≠ []) {ad : Addr} {c0 : Nat} (hsrc : ∀ (j : Nat) v, (bcells s)[j]? = some v → w.cell? (ad.add j) = some v) {t ty : TypeId} {i : TypeInfo} (ht : P.underlying t = some (.slice e)) (hi : P.info? e = some i) (hz : i.zero = some (.int .u8 0)) (hsize : i.size = 1) (hby : i.bytes = 1)
    (hlen : l.length + s.length ≤ 140737488355328) :
    ∃ v' w' b2, (Builtin.append_ #[t, t] ty #[u, .slice (some ad) s.length c0]).run P w = .ok v' w' ∧ BufNext β w w' id2 e (l ++ s) v' b2 := by
  have hml : (140737488355328 : Nat) ≤ maxLen := by unfold maxLen; omega
  have hz1 : (Value.int IntKind.u8 0).cells.size = 1 := rfl
  rcases h with ⟨rfl, rfl, h3⟩ | ⟨g, c, cur, fz, h1, rfl, h2, h3, h4, h5, h6, h7, h8⟩
  · simp only [List.length_nil, Nat.zero_add] at hlen
    obtain ⟨v', w', hr, hown, hg, hnil⟩ := run_append_ownF (P := P) w w.heap.size t ty e i (.int .u8 0) 1 1 ht hi hz hsize hby hz1 (by decide) (.slice none 0 0) 0 [] (World.ownsRowF_nil _ _ _ _) ad s.length c0 (bcells s) (by rw [bcells_length, Nat.mul_one]) hsrc (bcells_one s) (by omega) (by omega) (Nat.le_refl _)
    have hst : Stp (fun _ => False) w w' := ⟨hg.os, hg.tape, hg.output, hg.size, fun k hk _ => hg.block k hk (by simp [Value.ownBlock])⟩
    simp only [List.nil_append, Nat.zero_add] at hown
    rcases hown.2 with ⟨hv, hn⟩ | ⟨g, cap, cur, fz, rfl, hB, k2, k3, k4, k5, k6, k7⟩
    · exact absurd (List.eq_nil_of_length_eq_zero hn) hs
    · refine ⟨_, w', some g, hr, hst.mono fun _ _ h => h.elim, fun g' hg' => ?_, fun β' w'' hβ hk => .inr ⟨g, cap, cur, fz, hβ, rfl, (hk g rfl).trans k2, by simpa using k3, k4, k5, by simpa using k6, by simpa using k7, hs⟩, _, _, _, rfl⟩
      injection hg' with hg'
      subst hg'
      exact ⟨(Array.getElem?_eq_some_iff.1 k2).1, .inr hB⟩
  · by_cases hroom : l.length + s.length ≤ c
    · have hr := run_append_roomF (P := P) w t ty e i ht hi g l.length c cur fz h2 (by rw [hsize, Nat.mul_one]; exact h3) ad s.length c0 (bcells s) (by rw [bcells_length, hsize, Nat.mul_one]) hsrc (bcells_one s) hroom (by rw [bcells_length, hsize, Nat.mul_one, h6]; exact hroom)
      rw [bcells_length, hsize, Nat.mul_one] at hr
      refine ⟨_, _, some g, hr, ⟨rfl, rfl, rfl, by simp, fun k _ hk => setRow_other w g k _ fun e => hk (by rw [e]; exact h1)⟩, fun g' hg' => ?_, fun β' w'' hβ hk => .inr ⟨g, c, _, fz, hβ, ?_, (hk g rfl).trans (setRow_heap w g cur _ e _ h2), ?_, ?_, h5, ?_, ?_, ?_⟩, _, _, _, rfl⟩
      · injection hg' with hg'
        subst hg'
        exact ⟨by simpa using (Array.getElem?_eq_some_iff.1 h2).1, .inl h1⟩
      · rw [List.length_append]
      · rw [List.length_append]; omega
      · rw [List.length_append]; omega
      · simp only [List.size_toArray, List.length_append, List.length_take, List.length_drop, Array.length_toList, bcells_length, h6]
        omega
      · rw [h7, List.length_append, bcells_append]
        have : (bcells l ++ bcells s).length = l.length + s.length := by simp [bcells_length]
        rw [← this]
        exact List.take_left
      · simp [h8]
    · have hold : ∀ (j : Nat) v, (bcells l)[j]? = some v → w.cell? ((⟨g, 0, none⟩ : Addr).add j) = some v := by
        intro j v hv
        have hadd : (⟨g, 0, none⟩ : Addr).add j = ⟨g, j, none⟩ := by unfold Addr.add; split <;> simp_all
        rw [hadd, cell_of_row w g j cur e fz h2]
        rw [← h7, List.getElem?_take] at hv
        split at hv
        · simpa using hv
        · cases hv
      have hr := run_append_grow (P := P) w t ty e i (.int .u8 0) ht hi hz ⟨g, 0, none⟩ l.length c (bcells l) (by rw [hsize, bcells_length, Nat.mul_one]) hold ad s.length c0 (bcells s) (by rw [hsize, bcells_length, Nat.mul_one]) hsrc (by omega) (by omega)
        (by rw [hby]; exact growslice_fits (by omega) (by omega))
      have hge := grownCap_ge w (l.length + s.length) c e
      have hcm := grownCap_le_maxLen w (l.length + s.length) c e (by omega)
      refine ⟨_, _, some w.heap.size, hr, ?_⟩
      rw [show l.length + s.length = (l ++ s).length by rw [List.length_append]] at *
      refine buf_new (by simp [h8]) ⟨rfl, rfl, rfl, by simp, fun k hk _ => Lib.alloc_old w.drew _ k hk⟩ (heap_alloc_new w.drew _) hge hcm ?_ ?_
      · simp only [Array.size_append, List.size_toArray, size_zeroCells, hz1, bcells_length, List.length_append] at hge ⊢
        omega
      · simp only [Array.toList_append, List.append_assoc]
        rw [bcells_append, show (l ++ s).length = (bcells l ++ bcells s).length by simp [bcells_length], ← List.append_assoc]
        exact List.take_left
/-- the append, for the kit's walk -/
theorem wpList_bufB {ops : Array Oper} {rest : List Oper} {o : Oper} {a : Act} {Q : Exit → Act → World → Prop} (hgd : o.guard = none) (sl x : Operand) (t : TypeId)
    (ho : o.op = .call { callee := .builtin .append, args := #[sl, x], argTypes := #[t, t] }) {i : TypeInfo} (ht : P.underlying t = some (.slice e)) (hi : P.info? e = some i) (hz : i.zero = some (.int .u8 0)) (hsize : i.size = 1) (hby : i.bytes = 1)
    (h : BufAt β w id2 e l u) (s : Str) (hs0 : s ≠ []) {ad : Addr} {m c0 : Nat} (hsrc : ∀ (j : Nat) v, (bcells s)[j]? = some v → w.cell? (ad.add j) = some v) (hm : m = s.length) (hs : a.eval sl = u) (hxe : a.eval x = .slice (some ad) m c0) (hlen : l.length + s.length ≤ 140737488355328)
    (k : ∀ v' w' b2, BufNext β w w' id2 e (l ++ s) v' b2 → wpList P ops Q rest (a.put o.dst v') w') : wpList P ops Q (o :: rest) a w := by
  refine wpList_plain hgd fun K hK => ?_
  subst hm
  obtain ⟨v', w', b2, hr, hn⟩ := buf_appB (P := P) h s hs0 hsrc (t := t) (ty := o.type) (c0 := c0) ht hi hz hsize hby hlen
  have hrun : (execOp a.eval o).run P w = .ok (.value v') w' := by
    simp [execOp, ho, resolve, invoke, builtin, hs, hxe, hr]
  unfold Oper.wp
  rw [hrun]
  exact hK _ _ (k v' w' b2 hn)
end
end Go.SX
