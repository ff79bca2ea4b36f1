/-
  'typecaselaw.PackTells' returns true, whatever the input, where what comes in is of bulk at most 1048576, and the input reads as it did. No conditions.
-/
import Derived.Test.YtdcdmojbkmedpaaDoorPa5
import Derived.Lib.FrozenHead
import Derived.Lib.FrozenHead2
import Derived.Lib.Builder
import Derived.Lib.UnsafeStr
import Derived.Lib.Walk
import Derived.BigRegion
import Derived.Laws.Externs
import Derived.Test.YtdcdmojbkmedpaaDoorRows
import Derived.WalkKit
import Derived.ProofKit
import Derived.OpenShut
import Derived.JoinedCond
import Derived.ChangeMaps5
import Derived.Test.YtdcdmojbkmedpaaDoorCards
import Derived.Test.YtdcdmojbkmedpaaDoorTie
import Derived.Deep.DeepHandedRow
import Derived.Lib.LaidU8
import Derived.PinnedBridge
set_option linter.constructorNameAsVariable false
set_option linter.unusedVariables false
set_option linter.unusedSimpArgs false
set_option linter.unusedSectionVars false
section
namespace Go.SX
section
variable {P : Program} {β : Nat → Option Nat} {w : World} {id2 : Nat} {e : TypeId} {l : Str} {u : Value}

theorem bcells_strCells (s : Str) : Lib.strCells ⟨s.toArray⟩ = bcells s := by simp [Lib.strCells, bcells]
theorem bcells_length (s : Str) : (bcells s).length = s.length := by simp [bcells]
theorem bcells_append (s t : Str) : bcells (s ++ t) = bcells s ++ bcells t := by simp [bcells]
theorem bcells_one (s : Str) : ∀ v ∈ bcells s, v.oneCell' = true := by
  intro v hv
  simp only [bcells, List.mem_map] at hv
  obtain ⟨b, _, rfl⟩ := hv
  rfl
/-- what a buffer is behind an append -/
structure BufNext (β : Nat → Option Nat) (w w' : World) (id2 : Nat) (e : TypeId) (l : Str) (v : Value) (b2 : Option Nat) : Prop where
  stp : Stp (fun k => β id2 = some k) w w'
  blk : ∀ g, b2 = some g → g < w'.heap.size ∧ (β id2 = some g ∨ w.heap.size ≤ g)
  buf : ∀ (β' : Nat → Option Nat) (w'' : World), β' id2 = b2 → (∀ g, b2 = some g → w''.heap[g]? = w'.heap[g]?) → BufAt β' w'' id2 e l v
  sl : ∃ a n c, v = .slice a n c
theorem BufAt.same (h : BufAt β w id2 e l u) : BufNext β w w id2 e l u (β id2) := by
  refine ⟨Stp.refl _ _, fun g hg => ⟨?_, .inl hg⟩, fun β' w'' hβ hk => ?_, ?_⟩
  · rcases h with ⟨_, _, h3⟩ | ⟨g', c, cur, fz, h1, h2, h3, _⟩
    · rw [h3] at hg; cases hg
    · rw [h1] at hg; injection hg with hg; subst hg; exact (Array.getElem?_eq_some_iff.1 h3).1
  · rcases h with ⟨h1, h2, h3⟩ | ⟨g', c, cur, fz, h1, h2, h3, h4⟩
    · exact .inl ⟨h1, h2, hβ.trans h3⟩
    · exact .inr ⟨g', c, cur, fz, hβ.trans h1, h2, (hk g' h1).trans h3, h4⟩
  · rcases h with ⟨_, h2, _⟩ | ⟨g', c, cur, fz, h1, h2, _⟩
    · exact ⟨_, _, _, h2⟩
    · exact ⟨_, _, _, h2⟩
/-- a new buffer -/
theorem buf_new {w' : World} {b : Str} {cur : Array Value} {c : Nat} (hb : b ≠ []) (hst : Stp (fun _ => False) w w') (hh : w'.heap[w.heap.size]? = some (.cells cur e (0, 0))) (hc : b.length ≤ c) (hm : c ≤ maxLen) (hsz : cur.size = c) (ht : cur.toList.take b.length = bcells b) :
    BufNext β w w' id2 e b (.slice (some ⟨w.heap.size, 0, none⟩) b.length c) (some w.heap.size) := by
  refine ⟨hst.mono fun _ _ h => h.elim, fun g hg => ?_, fun β' w'' hβ hk => .inr ⟨w.heap.size, c, cur, (0, 0), hβ, rfl, (hk _ rfl).trans hh, Nat.zero_le _, hc, hm, hsz, ht, hb⟩, _, _, _, rfl⟩
  injection hg with hg
  subst hg
  exact ⟨(Array.getElem?_eq_some_iff.1 hh).1, .inr (Nat.le_refl _)⟩
theorem buf_app (h : BufAt β w id2 e l u) (s : Str) {t x ty : TypeId} {i : TypeInfo} (ht : P.underlying t = some (.slice e)) (hx : P.underlying x = some .string) (hi : P.info? e = some i) (hz : i.zero = some (.int .u8 0)) (hsize : i.size = 1) (hby : i.bytes = 1)
    (hlen : l.length + s.length ≤ 140737488355328) :
    ∃ v' w' b2, (Builtin.append_ #[t, x] ty #[u, .string ⟨s.toArray⟩]).run P w = .ok v' w' ∧ BufNext β w w' id2 e (l ++ s) v' b2 := by
  have hss : (⟨s.toArray⟩ : ByteArray).size = s.length := by simp [ByteArray.size]
  have hml : (140737488355328 : Nat) ≤ maxLen := by unfold maxLen; omega
  rcases h with ⟨rfl, rfl, h3⟩ | ⟨g, c, cur, fz, h1, rfl, h2, h3, h4, h5, h6, h7, h8⟩
  · simp only [List.length_nil, Nat.zero_add] at hlen
    obtain ⟨v', w', hr, hown, hg, hnil⟩ := Lib.run_append_own_stringF (P := P) w w.heap.size t x ty e i ht hx hi hz hsize hby (.slice none 0 0) 0 [] (World.ownsRowF_nil _ _ _ _) ⟨s.toArray⟩ (by rw [hss]; omega) (by rw [hss]; omega) (Nat.le_refl _)
    have hst : Stp (fun _ => False) w w' := ⟨hg.os, hg.tape, hg.output, hg.size, fun k hk _ => hg.block k hk (by simp [Value.ownBlock])⟩
    rw [hss, bcells_strCells] at hown
    rw [hss] at hnil
    simp only [List.nil_append, Nat.zero_add] at hown
    by_cases hs : s = []
    · subst hs
      have hv : v' = .slice none 0 0 := hnil.2 ⟨rfl, rfl⟩
      subst hv
      refine ⟨_, w', none, hr, hst.mono fun _ _ h => h.elim, fun g hg => (nomatch hg), fun β' w'' hβ _ => .inl ⟨rfl, rfl, hβ⟩, _, _, _, rfl⟩
    · rcases hown.2 with ⟨hv, hn⟩ | ⟨g, cap, cur, fz, rfl, hB, k2, k3, k4, k5, k6, k7⟩
      · exact absurd (List.eq_nil_of_length_eq_zero hn) hs
      · refine ⟨_, w', some g, hr, hst.mono fun _ _ h => h.elim, fun g' hg' => ?_, fun β' w'' hβ hk => .inr ⟨g, cap, cur, fz, hβ, rfl, (hk g rfl).trans k2, by simpa using k3, k4, k5, by simpa using k6, by simpa using k7, hs⟩, _, _, _, rfl⟩
        injection hg' with hg'
        subst hg'
        exact ⟨(Array.getElem?_eq_some_iff.1 k2).1, .inr hB⟩
  · by_cases hroom : l.length + s.length ≤ c
    · have hr := Lib.run_append_room_stringF (P := P) w t x ty e i ht hx hi hsize g l.length c cur fz h2 h3 ⟨s.toArray⟩ (by rw [hss]; exact hroom) (by rw [hss, h6]; exact hroom)
      rw [hss, bcells_strCells] at hr
      refine ⟨_, _, some g, hr, ⟨rfl, rfl, rfl, by simp, fun k _ hk => setRow_other w g k _ fun e => hk (by rw [e]; exact h1)⟩, fun g' hg' => ?_, fun β' w'' hβ hk => .inr ⟨g, c, _, fz, hβ, ?_, (hk g rfl).trans (setRow_heap w g cur _ e _ h2), ?_, ?_, h5, ?_, ?_, ?_⟩, _, _, _, rfl⟩
      · injection hg' with hg'
        subst hg'
        exact ⟨by simpa using (Array.getElem?_eq_some_iff.1 h2).1, .inl h1⟩
      · rw [List.length_append]
      · rw [List.length_append]; omega
      · rw [List.length_append]; omega
      · simp only [List.size_toArray, List.length_append, List.length_take, List.length_drop, Array.length_toList, bcells_length, h6]
        omega
      · rw [h7, List.length_append, bcells_append]
        have : (bcells l ++ bcells s).length = l.length + s.length := by simp [bcells_length]
        rw [← this]
        exact List.take_left
      · simp [h8]
    · have hold : ∀ (j : Nat) v, (bcells l)[j]? = some v → w.cell? ((⟨g, 0, none⟩ : Addr).add j) = some v := by
        intro j v hv
        have hadd : (⟨g, 0, none⟩ : Addr).add j = ⟨g, j, none⟩ := by unfold Addr.add; split <;> simp_all
        rw [hadd, cell_of_row w g j cur e fz h2]
        rw [← h7, List.getElem?_take] at hv
        split at hv
        · simpa using hv
        · cases hv
      have hr := Lib.run_append_grow_string (P := P) w t x ty e i (.int .u8 0) ht hx hi hz ⟨g, 0, none⟩ l.length c (bcells l) (by rw [hsize, bcells_length, Nat.mul_one]) hold ⟨s.toArray⟩ (by rw [hss]; omega) (by rw [hss]; omega)
        (by rw [hby]; exact growslice_fits (by rw [hss]; omega) (by rw [hss]; omega))
      rw [hss, bcells_strCells] at hr
      have hge := grownCap_ge w (l.length + s.length) c e
      have hcm := grownCap_le_maxLen w (l.length + s.length) c e (by omega)
      refine ⟨_, _, some w.heap.size, hr, ?_⟩
      rw [show l.length + s.length = (l ++ s).length by rw [List.length_append]] at *
      refine buf_new (by simp [h8]) ⟨rfl, rfl, rfl, by simp, fun k hk _ => Lib.alloc_old w.drew _ k hk⟩ (heap_alloc_new w.drew _) hge hcm ?_ ?_
      · have hz1 : (Value.int IntKind.u8 0).cells.size = 1 := rfl
        simp only [Array.size_append, List.size_toArray, size_zeroCells, hz1, bcells_length, List.length_append] at hge ⊢
        omega
      · simp only [Array.toList_append, List.append_assoc]
        rw [bcells_append, show (l ++ s).length = (bcells l ++ bcells s).length by simp [bcells_length], ← List.append_assoc]
        exact List.take_left
/-- the append, for the kit's walk -/
theorem wpList_buf {ops : Array Oper} {rest : List Oper} {o : Oper} {a : Act} {Q : Exit → Act → World → Prop} (hgd : o.guard = none) (sl x : Operand) (t xt : TypeId)
    (ho : o.op = .call { callee := .builtin .append, args := #[sl, x], argTypes := #[t, xt] }) {i : TypeInfo} (ht : P.underlying t = some (.slice e)) (hx : P.underlying xt = some .string) (hi : P.info? e = some i) (hz : i.zero = some (.int .u8 0)) (hsize : i.size = 1) (hby : i.bytes = 1)
    (h : BufAt β w id2 e l u) (s : Str) (hs : a.eval sl = u) (hxe : a.eval x = .string ⟨s.toArray⟩) (hlen : l.length + s.length ≤ 140737488355328)
    (k : ∀ v' w' b2, BufNext β w w' id2 e (l ++ s) v' b2 → wpList P ops Q rest (a.put o.dst v') w') : wpList P ops Q (o :: rest) a w := by
  refine wpList_plain hgd fun K hK => ?_
  obtain ⟨v', w', b2, hr, hn⟩ := buf_app (P := P) h s (t := t) (x := xt) (ty := o.type) ht hx hi hz hsize hby hlen
  have hrun : (execOp a.eval o).run P w = .ok (.value v') w' := by
    simp [execOp, ho, resolve, invoke, builtin, hs, hxe, hr]
  unfold Oper.wp
  rw [hrun]
  exact hK _ _ (k v' w' b2 hn)
/-- bytes out of a slice are appended -/
theorem buf_appB (h : BufAt β w id2 e l u) (s : Str) (hs : s ≠ []) {ad : Addr} {c0 : Nat} (hsrc : ∀ (j : Nat) v, (bcells s)[j]? = some v → w.cell? (ad.add j) = some v) {t ty : TypeId} {i : TypeInfo} (ht : P.underlying t = some (.slice e)) (hi : P.info? e = some i) (hz : i.zero = some (.int .u8 0)) (hsize : i.size = 1) (hby : i.bytes = 1)
    (hlen : l.length + s.length ≤ 140737488355328) :
    ∃ v' w' b2, (Builtin.append_ #[t, t] ty #[u, .slice (some ad) s.length c0]).run P w = .ok v' w' ∧ BufNext β w w' id2 e (l ++ s) v' b2 := by
  have hml : (140737488355328 : Nat) ≤ maxLen := by unfold maxLen; omega
  have hz1 : (Value.int IntKind.u8 0).cells.size = 1 := rfl
  rcases h with ⟨rfl, rfl, h3⟩ | ⟨g, c, cur, fz, h1, rfl, h2, h3, h4, h5, h6, h7, h8⟩
  · simp only [List.length_nil, Nat.zero_add] at hlen
    obtain ⟨v', w', hr, hown, hg, hnil⟩ := run_append_ownF (P := P) w w.heap.size t ty e i (.int .u8 0) 1 1 ht hi hz hsize hby hz1 (by decide) (.slice none 0 0) 0 [] (World.ownsRowF_nil _ _ _ _) ad s.length c0 (bcells s) (by rw [bcells_length, Nat.mul_one]) hsrc (bcells_one s) (by omega) (by omega) (Nat.le_refl _)
    have hst : Stp (fun _ => False) w w' := ⟨hg.os, hg.tape, hg.output, hg.size, fun k hk _ => hg.block k hk (by simp [Value.ownBlock])⟩
    simp only [List.nil_append, Nat.zero_add] at hown
    rcases hown.2 with ⟨hv, hn⟩ | ⟨g, cap, cur, fz, rfl, hB, k2, k3, k4, k5, k6, k7⟩
    · exact absurd (List.eq_nil_of_length_eq_zero hn) hs
    · refine ⟨_, w', some g, hr, hst.mono fun _ _ h => h.elim, fun g' hg' => ?_, fun β' w'' hβ hk => .inr ⟨g, cap, cur, fz, hβ, rfl, (hk g rfl).trans k2, by simpa using k3, k4, k5, by simpa using k6, by simpa using k7, hs⟩, _, _, _, rfl⟩
      injection hg' with hg'
      subst hg'
      exact ⟨(Array.getElem?_eq_some_iff.1 k2).1, .inr hB⟩
  · by_cases hroom : l.length + s.length ≤ c
    · have hr := run_append_roomF (P := P) w t ty e i ht hi g l.length c cur fz h2 (by rw [hsize, Nat.mul_one]; exact h3) ad s.length c0 (bcells s) (by rw [bcells_length, hsize, Nat.mul_one]) hsrc (bcells_one s) hroom (by rw [bcells_length, hsize, Nat.mul_one, h6]; exact hroom)
      rw [bcells_length, hsize, Nat.mul_one] at hr
      refine ⟨_, _, some g, hr, ⟨rfl, rfl, rfl, by simp, fun k _ hk => setRow_other w g k _ fun e => hk (by rw [e]; exact h1)⟩, fun g' hg' => ?_, fun β' w'' hβ hk => .inr ⟨g, c, _, fz, hβ, ?_, (hk g rfl).trans (setRow_heap w g cur _ e _ h2), ?_, ?_, h5, ?_, ?_, ?_⟩, _, _, _, rfl⟩
      · injection hg' with hg'
        subst hg'
        exact ⟨by simpa using (Array.getElem?_eq_some_iff.1 h2).1, .inl h1⟩
      · rw [List.length_append]
      · rw [List.length_append]; omega
      · rw [List.length_append]; omega
      · simp only [List.size_toArray, List.length_append, List.length_take, List.length_drop, Array.length_toList, bcells_length, h6]
        omega
      · rw [h7, List.length_append, bcells_append]
        have : (bcells l ++ bcells s).length = l.length + s.length := by simp [bcells_length]
        rw [← this]
        exact List.take_left
      · simp [h8]
    · have hold : ∀ (j : Nat) v, (bcells l)[j]? = some v → w.cell? ((⟨g, 0, none⟩ : Addr).add j) = some v := by
        intro j v hv
        have hadd : (⟨g, 0, none⟩ : Addr).add j = ⟨g, j, none⟩ := by unfold Addr.add; split <;> simp_all
        rw [hadd, cell_of_row w g j cur e fz h2]
        rw [← h7, List.getElem?_take] at hv
        split at hv
        · simpa using hv
        · cases hv
      have hr := run_append_grow (P := P) w t ty e i (.int .u8 0) ht hi hz ⟨g, 0, none⟩ l.length c (bcells l) (by rw [hsize, bcells_length, Nat.mul_one]) hold ad s.length c0 (bcells s) (by rw [hsize, bcells_length, Nat.mul_one]) hsrc (by omega) (by omega)
        (by rw [hby]; exact growslice_fits (by omega) (by omega))
      have hge := grownCap_ge w (l.length + s.length) c e
      have hcm := grownCap_le_maxLen w (l.length + s.length) c e (by omega)
      refine ⟨_, _, some w.heap.size, hr, ?_⟩
      rw [show l.length + s.length = (l ++ s).length by rw [List.length_append]] at *
      refine buf_new (by simp [h8]) ⟨rfl, rfl, rfl, by simp, fun k hk _ => Lib.alloc_old w.drew _ k hk⟩ (heap_alloc_new w.drew _) hge hcm ?_ ?_
      · simp only [Array.size_append, List.size_toArray, size_zeroCells, hz1, bcells_length, List.length_append] at hge ⊢
        omega
      · simp only [Array.toList_append, List.append_assoc]
        rw [bcells_append, show (l ++ s).length = (bcells l ++ bcells s).length by simp [bcells_length], ← List.append_assoc]
        exact List.take_left
/-- the append, for the kit's walk -/
theorem wpList_bufB {ops : Array Oper} {rest : List Oper} {o : Oper} {a : Act} {Q : Exit → Act → World → Prop} (hgd : o.guard = none) (sl x : Operand) (t : TypeId)
    (ho : o.op = .call { callee := .builtin .append, args := #[sl, x], argTypes := #[t, t] }) {i : TypeInfo} (ht : P.underlying t = some (.slice e)) (hi : P.info? e = some i) (hz : i.zero = some (.int .u8 0)) (hsize : i.size = 1) (hby : i.bytes = 1)
    (h : BufAt β w id2 e l u) (s : Str) (hs0 : s ≠ []) {ad : Addr} {m c0 : Nat} (hsrc : ∀ (j : Nat) v, (bcells s)[j]? = some v → w.cell? (ad.add j) = some v) (hm : m = s.length) (hs : a.eval sl = u) (hxe : a.eval x = .slice (some ad) m c0) (hlen : l.length + s.length ≤ 140737488355328)
    (k : ∀ v' w' b2, BufNext β w w' id2 e (l ++ s) v' b2 → wpList P ops Q rest (a.put o.dst v') w') : wpList P ops Q (o :: rest) a w := by
  refine wpList_plain hgd fun K hK => ?_
  subst hm
  obtain ⟨v', w', b2, hr, hn⟩ := buf_appB (P := P) h s hs0 hsrc (t := t) (ty := o.type) (c0 := c0) ht hi hz hsize hby hlen
  have hrun : (execOp a.eval o).run P w = .ok (.value v') w' := by
    simp [execOp, ho, resolve, invoke, builtin, hs, hxe, hr]
  unfold Oper.wp
  rw [hrun]
  exact hK _ _ (k v' w' b2 hn)
end
end Go.SX
end
section
namespace Go.Proofs.YtdcdmojbkmedpaaDoor
set_option linter.unusedSectionVars false
set_option linter.unusedSimpArgs false
set_option linter.unusedVariables false
open Go Go.SX Go.RowKit
set_option maxRecDepth 100000
set_option maxHeartbeats 4000000
theorem sbInfo : ∃ j, Tryd.prog.info? 265 = some j ∧ j.size = 2 := Option.map_eq_some_iff.1 (show (Tryd.prog.info? 265).map (·.size) = some 2 by kernel_rfl)
theorem u8Info : ∃ i, Tryd.prog.info? 5 = some i ∧ i.zero = some (.int .u8 0) ∧ i.size = 1 ∧ i.bytes = 1 := by
  obtain ⟨i, h1, h2⟩ := Option.map_eq_some_iff.1 (show (Tryd.prog.info? 5).map (fun i => (i.zero, i.size, i.bytes)) = some (some (.int .u8 0), 1, 1) by kernel_rfl)
  simp only [Prod.mk.injEq] at h2
  exact ⟨i, h1, h2.1, h2.2.1, h2.2.2⟩
theorem cc_used (b : Nat) (w : World) (h0 : w.cell? ⟨b, 0, none⟩ = some (.pointer (some ⟨b, 0, none⟩))) :
    Calls Tryd.prog 236 #[.pointer (some ⟨b, 0, none⟩)] w fun e w' => e = .returned (.tuple #[]) ∧ w' = w := by
  obtain ⟨j, hj, _⟩ := sbInfo
  go_enter Tryd.func236, Tryd.ntmps236
  go_wp2
  rw [Lib.run_neq_ptr_same w _ Tryd.underlying263 hj]
  go_wp2
  go_end0
  exact ⟨rfl, rfl⟩
theorem cc_fresh (b : Nat) (w : World) (h0 : w.cell? ⟨b, 0, none⟩ = some (.pointer none)) (hsh : w.shape? b = some (265, 2)) (hfz : w.frozen? ⟨b, 0, none⟩ = false) :
    Calls Tryd.prog 236 #[.pointer (some ⟨b, 0, none⟩)] w fun e w' => e = .returned (.tuple #[]) ∧ w' = w.setCell ⟨b, 0, none⟩ (.pointer (some ⟨b, 0, none⟩)) := by
  obtain ⟨j, hj, hjs⟩ := sbInfo
  go_enter Tryd.func236, Tryd.ntmps236
  go_wp2
  rw [Lib.run_to_unsafe w ⟨b, 0, none⟩ Tryd.underlying263 Tryd.underlying317 hj (by rw [hjs]; decide) hsh (Nat.zero_lt_succ 1)]
  simp only [Result.andThen]
  rw [Oper.upon_value]
  go_wp2
  rw [run_callFunc_extern Tryd.func257 (by kernel_rfl) (by kernel_rfl) (by kernel_rfl) (e := Extern.AbiNoEscape.same) (by kernel_rfl)]
  rw [Lib.run_noEscape]
  simp only [Result.andThen]
  rw [Oper.upon_value]
  go_wp2
  rw [Lib.run_from_unsafe w ⟨b, 0, none⟩ Tryd.underlying317 Tryd.underlying263 hj hsh (by kernel_rfl)]
  simp only [Result.andThen]
  rw [Oper.upon_value]
  go_wp2
  go_end0
  exact ⟨rfl, rfl⟩
theorem set_cell0 {w : World} {b : Nat} {p v q : Value} (h : w.heap[b]? = some (.cells #[p, v] 265 (0, 0))) : (w.setCell ⟨b, 0, none⟩ q).heap[b]? = some (.cells #[q, v] 265 (0, 0)) :=
  heap_setCell_same w b 0 #[p, v] 265 q h
theorem set_cell1 {w : World} {b : Nat} {p v q : Value} (h : w.heap[b]? = some (.cells #[p, v] 265 (0, 0))) : (w.setCell ⟨b, 1, none⟩ q).heap[b]? = some (.cells #[p, q] 265 (0, 0)) :=
  heap_setCell_same w b 1 #[p, v] 265 q h
theorem set_stp (w : World) (b i : Nat) (q : Value) : Stp (fun k => k = b) w (w.setCell ⟨b, i, none⟩ q) :=
  ⟨rfl, rfl, rfl, by simp [World.setCell], fun k _ hk => heap_setCell_other w ⟨b, i, none⟩ k q hk⟩
/-- copyCheck: the builder's first cell is its own address. -/
theorem cc (b : Nat) (p v : Value) (w : World) (hp : p = .pointer none ∨ p = .pointer (some ⟨b, 0, none⟩)) (h : w.heap[b]? = some (.cells #[p, v] 265 (0, 0))) :
    Calls Tryd.prog 236 #[.pointer (some ⟨b, 0, none⟩)] w fun e w' => e = .returned (.tuple #[]) ∧ w'.heap[b]? = some (.cells #[.pointer (some ⟨b, 0, none⟩), v] 265 (0, 0)) ∧ Stp (fun k => k = b) w w' := by
  have c0 : w.cell? ⟨b, 0, none⟩ = some p := by rw [Lib.cell_of_heap h]; rfl
  rcases hp with rfl | rfl
  · refine (cc_fresh b w c0 (by simp [World.shape?, h]) (Lib.frozen_of_heap h 0)).mono ?_
    rintro e w' ⟨rfl, rfl⟩
    exact ⟨rfl, set_cell0 h, set_stp _ _ _ _⟩
  · refine (cc_used b w c0).mono ?_
    rintro e w' ⟨rfl, rfl⟩
    exact ⟨rfl, h, Stp.refl _ _⟩
/-- what a method that writes must show behind copyCheck -/
theorem sb_end {β : Nat → Option Nat} {w w1 w2 : World} {id id2 b : Nat} {l : Str} {q u v : Value} {b2 : Option Nat} (hne : id ≠ id2) (hb : β id = some b) (hdis : ∀ g, β id2 = some g → β id ≠ some g) (hlt : b < w.heap.size)
    (hs1 : Stp (fun k => k = b) w w1) (hb1 : w1.heap[b]? = some (.cells #[q, u] 265 (0, 0))) (hq : q = .pointer none ∨ q = .pointer (some ⟨b, 0, none⟩)) (hn : BufNext β w1 w2 id2 5 l v b2) :
    Stp (fun k => β id = some k ∨ β id2 = some k) w (w2.setCell ⟨b, 1, none⟩ v) ∧ (∀ g, b2 = some g → g < (w2.setCell ⟨b, 1, none⟩ v).heap.size ∧ (β id2 = some g ∨ w.heap.size ≤ g)) ∧
      ∀ O' : Nat → Prop, (∀ k, k < w.heap.size → O' k → True) → ObAt (setβ β id2 b2) O' (w2.setCell ⟨b, 1, none⟩ v) id id2 (.sb 265 5 l) (.pointer (some ⟨b, 0, none⟩)) := by
  have hb2 : w2.heap[b]? = some (.cells #[q, u] 265 (0, 0)) := by
    rw [hn.stp.block b (Nat.lt_of_lt_of_le hlt hs1.size) fun e => hdis b e hb]
    exact hb1
  have hnb : ∀ g, b2 = some g → g ≠ b := by
    rintro g hg rfl
    rcases (hn.blk g hg).2 with h | h
    · exact hdis g h hb
    · exact absurd (Nat.lt_of_lt_of_le hlt hs1.size) (by omega)
  refine ⟨((hs1.mono fun k _ hk => .inl (by rw [hb, hk])).trans (hn.stp.mono fun k _ hk => .inr hk) fun _ _ h => h).trans (set_stp w2 b 1 _) fun k _ hk => .inl (by rw [hb, hk]), fun g hg => ?_, fun O' _ => ?_⟩
  · refine ⟨by rw [show (w2.setCell ⟨b, 1, none⟩ v).heap.size = w2.heap.size by simp [World.setCell]]; exact (hn.blk g hg).1, ?_⟩
    exact (hn.blk g hg).2.imp (fun h => h) fun h => Nat.le_trans hs1.size h
  · refine ⟨b, q, v, by unfold setβ; rw [if_neg hne]; exact hb, rfl, set_cell1 hb2, hq, hn.buf _ _ (by simp [setβ]) fun g hg => ?_⟩
    exact heap_setCell_other w2 ⟨b, 1, none⟩ g v (hnb g hg)
/-- the buffer does not see copyCheck -/
theorem buf_kept {β : Nat → Option Nat} {w w1 : World} {id2 : Nat} {e : TypeId} {l : Str} {u : Value} (h : BufAt β w id2 e l u) (hk : ∀ g, β id2 = some g → w1.heap[g]? = w.heap[g]?) : BufAt β w1 id2 e l u := by
  rcases h with h | ⟨g, c, cur, fz, h1, h2, h3, h4⟩
  · exact .inl h
  · exact .inr ⟨g, c, cur, fz, h1, h2, (hk g h1).trans h3, h4⟩
theorem buf_lt {β : Nat → Option Nat} {w : World} {id2 : Nat} {e : TypeId} {l : Str} {u : Value} (h : BufAt β w id2 e l u) {g : Nat} (hg : β id2 = some g) : g < w.heap.size := by
  rcases h with ⟨_, _, h⟩ | ⟨g', c, cur, fz, h1, h2, h3, h4⟩
  · rw [h] at hg; cases hg
  · rw [h1] at hg; injection hg with hg; subst hg; exact (Array.getElem?_eq_some_iff.1 h3).1
variable [Globs]
/-- **String** -/
theorem sb_String (l : Str) : ObSpec Tryd.prog 194 (.sb 265 5 l) [] (.s l) (.sb 265 5 l) := by
  refine ⟨Tryd.call194, fun β O w id id2 v vs hne hO hid hid2 hdis hG hob hargs => ?_⟩
  obtain rfl := hargs.nil_inv
  obtain ⟨b, p, u, hb, rfl, hbk, hp, hbuf⟩ := hob
  have hlt : b < w.heap.size := (Array.getElem?_eq_some_iff.1 hbk).1
  have hcell : Tryd.prog.cellsOf 5 = 1 := by kernel_rfl
  have c1 : w.drew.cell? ⟨b, 1, none⟩ = some u := by
    have : w.drew.heap[b]? = some (.cells #[p, u] 265 (0, 0)) := hbk
    rw [Lib.cell_of_heap this]; rfl
  rcases hbuf with ⟨rfl, rfl, h3⟩ | ⟨g, c, cur, fz, h1, rfl, h2, h3, h4, h5, h6, h7, h8⟩
  · have hSD : (Builtin.unsafeSliceData_ #[27] 300 #[.slice none 0 0]).run Tryd.prog w.drew = .ok (.pointer none) w.drew := Lib.run_unsafeSliceData_nil _ _ _ _ _
    have hUS : (Builtin.unsafeString_ #[300, 3] 9 #[.pointer none, .int .i64 0]).run Tryd.prog w.drew = .ok (.string .empty) w.drew := Lib.run_unsafeString_none w.drew _ _ _ _
    have hob : ∀ O' : Nat → Prop, ObAt (setβ β id2 (β id2)) O' w.drew id id2 (.sb 265 5 []) (.pointer (some ⟨b, 0, none⟩)) := fun O' =>
      ⟨b, p, _, by unfold setβ; rw [if_neg hne]; exact hb, rfl, hbk, hp, .inl ⟨rfl, rfl, by simp [setβ, h3]⟩⟩
    have fin : Stp (fun k => β id = some k ∨ β id2 = some k) w w.drew := (Stp.drew w).mono fun _ _ h => h.elim
    have him : Im (fun _ => True) w.drew (.s []) (.string .empty) := .s [] (Nat.zero_le _)
    go_enter Tryd.func194, Tryd.ntmps194
    go_wp2
    go_region
    all_goals
      go_wp2
      go_ret
      exact ⟨_, β id2, rfl, fin, (fun g hg => by rw [h3] at hg; cases hg), him, fun O' _ => hob O'⟩
  · have hl0 : l.length ≠ 0 := by simpa using h8
    have hgb : g ≠ b := fun e => hdis g h1 (by rw [hb, e])
    have hSD : (Builtin.unsafeSliceData_ #[27] 300 #[.slice (some ⟨g, 0, none⟩) l.length c]).run Tryd.prog w.drew = .ok (.pointer (some ⟨g, 0, none⟩)) w.drew :=
      Lib.run_unsafeSliceData_row _ _ _ _ _ _ (by omega)
    have h2' : w.drew.heap[g]? = some (.cells cur 5 fz) := h2
    have hUS : (Builtin.unsafeString_ #[300, 3] 9 #[.pointer (some ⟨g, 0, none⟩), .int .i64 l.length]).run Tryd.prog w.drew = .ok (.string ⟨l.toArray⟩) (w.drew.freeze ⟨g, 0, none⟩ l.length) := by
      refine Lib.run_unsafeString_row w.drew 300 3 9 5 Tryd.underlying300 hcell g cur.size (by simp [World.shape?, h2']) l h8 (by omega) (by unfold maxLen at h5; omega) ?_
      intro j x hx
      have hadd : (⟨g, 0, none⟩ : Addr).add j = ⟨g, j, none⟩ := by unfold Addr.add; split <;> simp_all
      rw [hadd, cell_of_row w.drew g j cur 5 fz h2']
      have hv : (bcells l)[j]? = some (.int .u8 x.toNat) := by simp [bcells, hx]
      rw [← h7, List.getElem?_take] at hv
      split at hv
      · simpa using hv
      · cases hv
    have hheap : ∀ k, k ≠ g → (w.drew.freeze ⟨g, 0, none⟩ l.length).heap[k]? = w.heap[k]? := by
      intro k hk
      unfold World.freeze
      rw [if_neg hl0]
      simp only [Array.getElem?_modify]
      rw [if_neg (fun e => hk e.symm)]
      rfl
    have hsz : (w.drew.freeze ⟨g, 0, none⟩ l.length).heap.size = w.heap.size := by
      unfold World.freeze
      rw [if_neg hl0]
      simp only [Array.size_modify]
      rfl
    have hg2 : ∃ fz', (w.drew.freeze ⟨g, 0, none⟩ l.length).heap[g]? = some (.cells cur 5 fz') ∧ fz'.2 ≤ l.length := by
      obtain ⟨lo, hi⟩ := fz
      unfold World.freeze
      rw [if_neg hl0]
      refine ⟨(if lo == hi then (0, 0 + l.length) else (min lo 0, max hi (0 + l.length))), by simp [Array.getElem?_modify, h2'], ?_⟩
      simp only at h3
      split <;> simp <;> omega
    obtain ⟨fz', hg2, hfz'⟩ := hg2
    have hob : ∀ O' : Nat → Prop, ObAt (setβ β id2 (β id2)) O' (w.drew.freeze ⟨g, 0, none⟩ l.length) id id2 (.sb 265 5 l) (.pointer (some ⟨b, 0, none⟩)) := fun O' =>
      ⟨b, p, _, by unfold setβ; rw [if_neg hne]; exact hb, rfl, (hheap b (fun e => hgb e.symm)).trans hbk, hp, .inr ⟨g, c, cur, fz', by simp [setβ, h1], rfl, hg2, hfz', h4, h5, h6, h7, h8⟩⟩
    have fin : Stp (fun k => β id = some k ∨ β id2 = some k) w (w.drew.freeze ⟨g, 0, none⟩ l.length) := by
      refine ⟨?_, ?_, ?_, Nat.le_of_eq hsz.symm, fun k _ hk => hheap k fun e => hk (.inr (by rw [h1, e]))⟩ <;> (unfold World.freeze; rw [if_neg hl0]; rfl)
    have him : Im (fun _ => True) (w.drew.freeze ⟨g, 0, none⟩ l.length) (.s l) (.string ⟨l.toArray⟩) := .s l (by omega)
    have hblk : ∀ g', β id2 = some g' → g' < (w.drew.freeze ⟨g, 0, none⟩ l.length).heap.size ∧ (β id2 = some g' ∨ w.heap.size ≤ g') := fun g' hg' => by
      refine ⟨?_, .inl hg'⟩
      rw [h1] at hg'
      injection hg' with hg'
      subst hg'
      rw [hsz]
      exact (Array.getElem?_eq_some_iff.1 h2).1
    go_enter Tryd.func194, Tryd.ntmps194
    go_wp2
    go_region
    all_goals
      go_wp2
      go_ret
      exact ⟨_, β id2, rfl, fin, hblk, him, fun O' _ => hob O'⟩
end Go.Proofs.YtdcdmojbkmedpaaDoor
end
section
namespace Go.Proofs.YtdcdmojbkmedpaaDoor
set_option linter.unusedSectionVars false
set_option linter.unusedSimpArgs false
set_option linter.unusedVariables false
open Go Go.SX Go.RowKit
set_option maxRecDepth 100000
set_option maxHeartbeats 4000000
theorem next_allocB {β : Nat → Option Nat} {w w' : World} {o : Obj} {id2 : Nat} {e : TypeId} {l : Str} {v : Value} {b2 : Option Nat} (h : BufNext β (w.alloc o) w' id2 e l v b2) : BufNext β w w' id2 e l v b2 := by
  have hs : Stp (fun _ => False) w (w.alloc o) := letI : Globs := ⟨[]⟩; Stp.alloc w o
  refine ⟨(hs.mono fun _ _ h => h.elim).trans h.stp fun _ _ h => h, fun g hg => ⟨(h.blk g hg).1, ?_⟩, h.buf, h.sl⟩
  rcases (h.blk g hg).2 with h | h
  · exact .inl h
  · exact .inr (Nat.le_trans hs.size h)
variable [Globs]
/-- **WriteByte** -/
theorem sb_WriteByte (l : Str) (c : UInt8) (hlen : l.length + 1 ≤ 140737488355328) : ObSpec Tryd.prog 193 (.sb 265 5 l) [.i .u8 (c.toNat : Int)] (.x) (.sb 265 5 (l ++ [c])) := by
  refine ⟨Tryd.call193, fun β O w id id2 v vs hne hO hid hid2 hdis hG hob hargs => ?_⟩
  obtain ⟨v1, vs', rfl, h1, h⟩ := hargs.cons_inv
  obtain rfl := h.nil_inv
  cases h1
  obtain ⟨b, p, u, hb, rfl, hbk, hp, hbuf⟩ := hob
  obtain ⟨i0, hi, hz0, hz1, hz2⟩ := u8Info
  have hc : bcells [c] = [.int .u8 (c.toNat : Int)] := rfl
  have hlt : b < w.heap.size := (Array.getElem?_eq_some_iff.1 hbk).1
  go_enter Tryd.func193, Tryd.ntmps193
  go_wp2_with (go_at_call 236; refine (cc b p u _ hp hbk).mono ?_)
  rintro e w1 ⟨rfl, hb1, hs1⟩
  have c1 : w1.cell? ⟨b, 1, none⟩ = some u := by rw [Lib.cell_of_heap hb1]; rfl
  have hbuf1 := buf_kept hbuf fun g hg => hs1.block g (buf_lt hbuf hg) fun e => hdis g hg (by rw [hb, e])
  go_wp2_with (at_builtin; refine wpList_bufB rfl _ _ 27 rfl Tryd.underlying27 hi hz0 hz1 hz2 (buf_kept hbuf1 fun g hg => Lib.alloc_old _ _ g (buf_lt hbuf1 hg)) [c] (by simp) (ad := ⟨w1.heap.size, 0, none⟩) (m := 1) (c0 := 1) ?_ rfl rfl rfl hlen ?_)
  · intro j v hj
    rw [hc] at hj
    match j, hj with
    | 0, hj => simp at hj; subst hj; simp [Addr.add]
    | (j + 1), hj => simp at hj
  intro v' w2 b2 hn0
  have hn := next_allocB hn0
  obtain ⟨hst, hblk, hob⟩ := sb_end hne hb hdis hlt hs1 hb1 (.inr rfl) hn
  have hb2 : w2.heap[b]? = some (.cells #[.pointer (some ⟨b, 0, none⟩), u] 265 (0, 0)) := by
    rw [hn.stp.block b (Nat.lt_of_lt_of_le hlt hs1.size) fun e => hdis b e hb]
    exact hb1
  have d1 : w2.cell? ⟨b, 1, none⟩ = some u := by rw [Lib.cell_of_heap hb2]; rfl
  have f1 : w2.frozen? ⟨b, 1, none⟩ = false := Lib.frozen_of_heap hb2 1
  obtain ⟨ao, n', cap, rfl⟩ := hn.sl
  go_wp2
  go_ret
  exact ⟨_, b2, rfl, hst, hblk, .x _, fun O' _ => hob O' fun _ _ _ => trivial⟩
end Go.Proofs.YtdcdmojbkmedpaaDoor
end
section
namespace Go.Proofs.YtdcdmojbkmedpaaDoor
set_option linter.unusedSectionVars false
set_option linter.unusedSimpArgs false
set_option linter.unusedVariables false
open Go Go.SX Go.Ck Go.Vl Go.Ut Go.Up Go.Pk
set_option maxRecDepth 100000
set_option maxHeartbeats 1000000
/-- a text out of bytes: it, what is left, whether the bytes end or err ahead of its end -/
def unch : Str → Str × Str × Bool
  | [] => ([], [], true)
  | [c] => if c = 0 then ([], [], true) else ([c], [], true)
  | c :: d :: r => if c = 0 then (if d = 0 then ([], r, false) else if d = 255 then (0 :: (unch r).1, (unch r).2) else ([0], r, true)) else (c :: (unch (d :: r)).1, (unch (d :: r)).2)
/-- what the reader's chain comes to -/
def chF (bad : Bool) (o s : Str) : Str × Str × Bool := if bad then (o, s, true) else (o ++ (unch s).1, (unch s).2)
theorem chF_brk (o : Str) : ∀ {r : Str}, hd r = 0 → hd (r.drop 1) = 0 → chF false o r = (o, (r.drop 1).drop 1, (false || r.isEmpty) || (r.drop 1).isEmpty)
  | [], _, _ => by simp [chF, unch]
  | [c], h, _ => by have h : c = 0 := h; subst h; simp [chF, unch]
  | c :: d :: r, h, h2 => by have h : c = 0 := h; have h2 : d = 0 := h2; subst h; subst h2; simp [chF, unch]
theorem chF_bad (o : Str) : ∀ {r : Str}, hd r = 0 → hd (r.drop 1) ≠ 0 → hd (r.drop 1) ≠ 255 → chF true (o ++ [hd r]) ((r.drop 1).drop 1) = chF false o r
  | [], _, h, _ => absurd rfl h
  | [c], _, h, _ => absurd rfl h
  | c :: d :: r, h, h2, h3 => by have h : c = 0 := h; have h2' : d ≠ 0 := h2; have h3' : d ≠ 255 := h3; subst h; simp [chF, unch, if_neg h2', if_neg h3', hd]
theorem chF_ff (o : Str) : ∀ {r : Str}, hd r = 0 → hd (r.drop 1) = 255 → chF ((false || r.isEmpty) || (r.drop 1).isEmpty) (o ++ [hd r]) ((r.drop 1).drop 1) = chF false o r
  | [], _, h => absurd h (by decide)
  | [c], _, h => absurd (show (0 : UInt8) = 255 from h) (by decide)
  | c :: d :: r, h, h2 => by have h : c = 0 := h; have h2 : d = 255 := h2; subst h; subst h2; simp [chF, unch, hd]
theorem chF_c (o : Str) : ∀ {r : Str}, hd r ≠ 0 → chF (false || r.isEmpty) (o ++ [hd r]) (r.drop 1) = chF false o r
  | [], h => absurd rfl h
  | [c], h => by have h : c ≠ 0 := h; simp [chF, unch, h, hd]
  | c :: d :: r, h => by have h : c ≠ 0 := h; simp [chF, unch, h, hd]
theorem hd_pos {r : Str} (h : hd r ≠ 0) : 0 < r.length := by
  cases r with
  | nil => exact absurd rfl h
  | cons c r => exact Nat.succ_pos _
theorem u8_eq {c d : UInt8} (h : ((c.toNat : Nat) : Int) = ((d.toNat : Nat) : Int)) : c = d := UInt8.toNat_inj.1 (by omega)
section
variable [G : Globs]
theorem w_rchain (s : Str) (bad : Bool) (hs : s.length ≤ 70368744177664) : vc Tryd.prog Γ 27 [0, 2, 3, 4, 5, 10, 14, 18, 20, 1000] (Tryd.f123.body.getD .skip) (postBK Γ [.tmp 2] (.s (chF bad [] s).1) [(1000, [.rd .u8 (toI (chF bad [] s).2.1), .b (chF bad [] s).2.2])]) ⟨argSlots 0 [.pt 1000 0], [(1000, [.rd .u8 (toI s), .b bad])]⟩ := by
  refine Exists.intro 100 (And.intro rfl ?_)
  refine Exists.intro [] (Exists.intro [] (Exists.intro [] (Exists.intro (Str × Str × Bool) (Exists.intro (fun q => q.1.length + q.2.1.length ≤ s.length ∧ chF q.2.2 q.1 q.2.1 = chF bad [] s) (Exists.intro (fun ⟨o, r, b⟩ => ⟨[(0, .pt 1000 0), (3, .ob 3 100 (.sb 265 5 o))], [(1000, [.rd .u8 (toI r), .b b])]⟩) (Exists.intro (fun q => q.2.1.length) (Exists.intro ([], s, bad) (And.intro ⟨by simp, rfl⟩ (And.intro ?_ ?_)))))))))
  · (repeat' (first | exact trivial | exact Or.inl rfl | exact Or.inr (Or.inl ⟨rfl, _, rfl⟩) | exact Or.inr (Or.inr (Or.inr ⟨_, _, _, rfl, rfl⟩)) | refine And.intro ?_ ?_))
  · rintro ⟨o, r, b⟩ ⟨hl, hI⟩
    simp only at hl hI
    refine And.intro (fun hz => ?_) (fun hz => ?_)
    · have hb0 : b = false := by simpa using hz
      subst hb0
      have hb := s_byte r false
      refine Or.inr (Or.inl (Exists.intro [] (Exists.intro _ (Exists.intro _ (Exists.intro _ (Exists.intro _ (Exists.intro _ (Exists.intro [(1000, 1000)] (And.intro (hb) ?_)))))))))
      refine (And.intro rfl (And.intro rfl (And.intro rfl (And.intro rfl (And.intro rfl ?_)))))
      refine And.intro (fun h0 => ?_) (fun h0 => ?_)
      · have h0 : hd r = 0 := u8_eq (eq_of_beq h0)
        have hb2 := s_byte (r.drop 1) (false || r.isEmpty)
        refine Or.inr (Or.inl (Exists.intro [] (Exists.intro _ (Exists.intro _ (Exists.intro _ (Exists.intro _ (Exists.intro _ (Exists.intro [(1000, 1000)] (And.intro (hb2) ?_)))))))))
        refine (And.intro rfl (And.intro rfl (And.intro rfl (And.intro rfl (And.intro rfl ?_)))))
        refine And.intro (fun h1 => ?_) (fun h1 => ?_)
        · have h1 : hd (r.drop 1) = 0 := u8_eq (eq_of_beq h1)
          have hf := chF_brk o h0 h1
          rw [hI] at hf
          refine Exists.intro _ (Exists.intro _ (And.intro (sb_String o) ?_))
          refine Exists.intro [] (And.intro (congrArg AV.s (by rw [hf])) ?_)
          rw [hf]
          (repeat' (first | exact trivial | exact Or.inl rfl | exact Or.inr (Or.inl ⟨rfl, _, rfl⟩) | exact Or.inr (Or.inr (Or.inr ⟨_, _, _, rfl, rfl⟩)) | refine And.intro ?_ ?_))
        · have h1 : hd (r.drop 1) ≠ 0 := fun h => ne_of_beq_false h1 (by rw [h]; rfl)
          have hp := hd_pos h1
          rw [List.length_drop] at hp
          refine And.intro (fun h2 => ?_) (fun h2 => ?_)
          · have h2 : hd (r.drop 1) ≠ 255 := fun h => bne_iff_ne.1 h2 (by rw [h]; rfl)
            have hf := chF_bad o h0 h1 h2
            rw [hI] at hf
            refine Exists.intro _ (Exists.intro _ (And.intro (sb_WriteByte o (hd r) (by omega)) ?_))
            refine Exists.intro [] (Exists.intro (o ++ [hd r], (r.drop 1).drop 1, true) (And.intro ⟨by simp only [List.length_append, List.length_cons, List.length_nil, List.length_drop]; omega, hf⟩ (And.intro ?_ ?_)))
            · (repeat' (first | exact trivial | exact Or.inl rfl | exact Or.inr (Or.inl ⟨rfl, _, rfl⟩) | exact Or.inr (Or.inr (Or.inr ⟨_, _, _, rfl, rfl⟩)) | refine And.intro ?_ ?_))
            · show ((r.drop 1).drop 1).length < r.length
              rw [List.length_drop, List.length_drop]
              omega
          · have h2 : hd (r.drop 1) = 255 := u8_eq (by simpa using h2)
            have hf := chF_ff o h0 h2
            rw [hI] at hf
            refine Exists.intro _ (Exists.intro _ (And.intro (sb_WriteByte o (hd r) (by omega)) ?_))
            refine Exists.intro [] (Exists.intro (o ++ [hd r], (r.drop 1).drop 1, ((false || r.isEmpty) || (r.drop 1).isEmpty)) (And.intro ⟨by simp only [List.length_append, List.length_cons, List.length_nil, List.length_drop]; omega, hf⟩ (And.intro ?_ ?_)))
            · (repeat' (first | exact trivial | exact Or.inl rfl | exact Or.inr (Or.inl ⟨rfl, _, rfl⟩) | exact Or.inr (Or.inr (Or.inr ⟨_, _, _, rfl, rfl⟩)) | refine And.intro ?_ ?_))
            · show ((r.drop 1).drop 1).length < r.length
              rw [List.length_drop, List.length_drop]
              omega
      · have h0 : hd r ≠ 0 := fun h => ne_of_beq_false h0 (by rw [h]; rfl)
        have hp := hd_pos h0
        have hf := chF_c o h0
        rw [hI] at hf
        refine Exists.intro _ (Exists.intro _ (And.intro (sb_WriteByte o (hd r) (by omega)) ?_))
        refine Exists.intro [] (Exists.intro (o ++ [hd r], r.drop 1, (false || r.isEmpty)) (And.intro ⟨by simp only [List.length_append, List.length_cons, List.length_nil, List.length_drop]; omega, hf⟩ (And.intro ?_ ?_)))
        · (repeat' (first | exact trivial | exact Or.inl rfl | exact Or.inr (Or.inl ⟨rfl, _, rfl⟩) | exact Or.inr (Or.inr (Or.inr ⟨_, _, _, rfl, rfl⟩)) | refine And.intro ?_ ?_))
        · show (r.drop 1).length < r.length
          rw [List.length_drop]
          omega
    · have hb0 : b = true := by simpa using hz
      subst hb0
      refine Exists.intro _ (Exists.intro _ (And.intro (sb_String o) ?_))
      refine Exists.intro [] (And.intro (congrArg AV.s (by rw [← hI]; rfl)) ?_)
      rw [← hI]
      (repeat' (first | exact trivial | exact Or.inl rfl | exact Or.inr (Or.inl ⟨rfl, _, rfl⟩) | exact Or.inr (Or.inr (Or.inr ⟨_, _, _, rfl, rfl⟩)) | refine And.intro ?_ ?_))
theorem s_rchain (s : Str) (bad : Bool) (hs : s.length ≤ 70368744177664) : CSpec Tryd.prog 123 [.pt 1000 0] [(1000, [.rd .u8 (toI s), .b bad])] (.s (chF bad [] s).1) [(1000, [.rd .u8 (toI (chF bad [] s).2.1), .b (chF bad [] s).2.2])] :=
  cspec_of_vc Γ_good Tryd.func123 rfl Tryd.call123 Tryd.results123 Tryd.ntmps123 (Nat.le_of_ble_eq_true rfl) (Nat.le_of_ble_eq_true rfl) (by rfl) (w_rchain s bad hs)
end
end Go.Proofs.YtdcdmojbkmedpaaDoor
end
section
namespace Go.Proofs.YtdcdmojbkmedpaaDoor
set_option linter.unusedSectionVars false
set_option linter.unusedSimpArgs false
set_option linter.unusedVariables false
open Go Go.SX Go.Ck Go.Vl Go.Ut Go.Up Go.Pk
set_option maxRecDepth 100000
set_option maxHeartbeats 1000000
/-- are there more parts? -/
def moreB (s : Str) (bad : Bool) : Bool := decide (hd s = 1) && !(bad || s.isEmpty || decide (1 < hd s))
def moreX (s : Str) (bad : Bool) : Bool := bad || s.isEmpty || decide (1 < hd s)
theorem moreB_t {s : Str} {bad : Bool} (h : moreB s bad = true) : hd s = 1 ∧ bad = false ∧ 0 < s.length ∧ moreX s bad = false := by
  have h0 := h
  unfold moreB at h
  simp only [Bool.and_eq_true, decide_eq_true_eq, Bool.not_eq_true'] at h
  have h1 := h.2
  simp only [Bool.or_eq_false_iff] at h1
  refine ⟨h.1, h1.1.1, hd_pos (by rw [h.1]; decide), h.2⟩
def flipR (f : Int) : Int := if f < 9223372036854775808 then 18446744073709551615 - f else f - 9223372036854775808
mutual
/-- a value at the front: it, what is left, whether the bytes err -/
def valP : Nat → Int → Str → Bool → Val × Str × Bool
  | 0, _, s, _ => (zeroV, s, true)
  | n + 1, d, s, bad =>
    let k : Int := ((hd s).toNat : Int) - 1
    let t := s.drop 1
    let b := (bad || s.isEmpty) || decide (1000 < d)
    if k = 0 then ({ zeroV with kind := k }, t, b)
    else if k = 1 then ({ zeroV with kind := k, n := ((hd t).toNat : Int) }, t.drop 1, b || t.isEmpty)
    else if k = 2 then ({ zeroV with kind := k, n := IntKind.i64.wrap (bits .xor .u64 (numF 8 0 t) 9223372036854775808) }, t.drop 8, b || decide (t.length < 8))
    else if k = 3 then ({ zeroV with kind := k, f := flipR (numF 8 0 t) }, t.drop 8, b || decide (t.length < 8))
    else if k = 4 then ({ zeroV with kind := k, s := (chF b [] t).1 }, (chF b [] t).2)
    else if k = 5 then ({ zeroV with kind := k, l := (lisP n d t b).1 }, (lisP n d t b).2)
    else if k = 6 then ({ zeroV with kind := k, e := (entP n d t b).1 }, (entP n d t b).2)
    else ({ zeroV with kind := k }, t, true)
def lisP : Nat → Int → Str → Bool → List Val × Str × Bool
  | 0, _, s, _ => ([], s, true)
  | n + 1, d, s, bad =>
    if moreB s bad then
      let x := valP n (d + 1) (s.drop 1) false
      ((x.1 :: (lisP n d x.2.1 x.2.2).1), (lisP n d x.2.1 x.2.2).2)
    else ([], s.drop 1, moreX s bad)
def entP : Nat → Int → Str → Bool → List Ent × Str × Bool
  | 0, _, s, _ => ([], s, true)
  | n + 1, d, s, bad =>
    if moreB s bad then
      let c := chF false [] (s.drop 1)
      let x := valP n (d + 1) c.2.1 c.2.2
      (((c.1, x.1) :: (entP n d x.2.1 x.2.2).1), (entP n d x.2.1 x.2.2).2)
    else ([], s.drop 1, moreX s bad)
end
theorem unch_len : ∀ s : Str, (unch s).2.1.length ≤ s.length
  | [] => Nat.le_refl _
  | [c] => by unfold unch; split <;> simp
  | c :: d :: r => by
    have h1 := unch_len r
    have h2 := unch_len (d :: r)
    rw [unch]
    split
    · split
      · simp only [List.length_cons]; omega
      · split
        · simp only [List.length_cons]; omega
        · simp only [List.length_cons]; omega
    · simp only [List.length_cons] at h2 ⊢; omega
theorem chF_len (b : Bool) (o s : Str) : (chF b o s).2.1.length ≤ s.length := by
  unfold chF
  split
  · exact Nat.le_refl _
  · exact unch_len s
theorem rest_n : ∀ (n : Nat) (d : Int) (s : Str) (b : Bool), (valP n d s b).2.1.length ≤ s.length ∧ (lisP n d s b).2.1.length ≤ s.length ∧ (entP n d s b).2.1.length ≤ s.length
  | 0, d, s, b => by rw [valP, lisP, entP]; exact ⟨Nat.le_refl _, Nat.le_refl _, Nat.le_refl _⟩
  | n + 1, d, s, b => by
    have hdl : (s.drop 1).length ≤ s.length := by rw [List.length_drop]; omega
    refine ⟨?_, ?_, ?_⟩
    · rw [valP]
      have hl := (rest_n n d (s.drop 1) ((b || s.isEmpty) || decide (1000 < d))).2
      have hc := chF_len ((b || s.isEmpty) || decide (1000 < d)) [] (s.drop 1)
      simp only
      split
      · exact hdl
      split
      · simp only [List.length_drop]; omega
      split
      · simp only [List.length_drop]; omega
      split
      · simp only [List.length_drop]; omega
      split
      · simp only; omega
      split
      · simp only; omega
      split
      · simp only; omega
      · exact hdl
    · rw [lisP]
      split
      · have h1 := (rest_n n (d + 1) (s.drop 1) false).1
        have h2 := (rest_n n d (valP n (d + 1) (s.drop 1) false).2.1 (valP n (d + 1) (s.drop 1) false).2.2).2.1
        simp only
        omega
      · exact hdl
    · rw [entP]
      split
      · have h0 := chF_len false [] (s.drop 1)
        have h1 := (rest_n n (d + 1) (chF false [] (s.drop 1)).2.1 (chF false [] (s.drop 1)).2.2).1
        have h2 := (rest_n n d (valP n (d + 1) (chF false [] (s.drop 1)).2.1 (chF false [] (s.drop 1)).2.2).2.1 (valP n (d + 1) (chF false [] (s.drop 1)).2.1 (chF false [] (s.drop 1)).2.2).2.2).2.2
        simp only
        omega
      · exact hdl
end Go.Proofs.YtdcdmojbkmedpaaDoor
end
section
namespace Go.SX
set_option linter.unusedSectionVars false
variable [Globs]
section
variable {P : Program} {N : Nat} {W0 : World} {F : Fr} {X : Nat → Prop} {β : Nat → Option Nat} {a : Act} {w : World}
theorem InvB.aggLe {cs ds : List AV} {B : List (Nat × List AV)} (hle : AVles cs ds) (hI : InvB W0 F X N ⟨[(0, .agg cs)], B⟩ β a w) : InvB W0 F X N ⟨[(0, .agg ds)], B⟩ β a w := by
  have hNm : ∀ n, Nm ⟨[(0, .agg ds)], B⟩ n → Nm ⟨[(0, .agg cs)], B⟩ n := by
    rintro n (h | ⟨m, hm⟩ | h)
    · exact .inl h
    · exfalso
      cases m with
      | zero => cases hm
      | succ m => cases hm
    · exact .inr (.inr h)
  have hO : ∀ k, Own X ⟨[(0, .agg ds)], B⟩ β k → Own X ⟨[(0, .agg cs)], B⟩ β k := fun k hk => hk.imp id fun ⟨n, hn, hb⟩ => ⟨n, hNm n hn, hb⟩
  refine hI.upd (Stp.refl (fun _ => False) w) (fun _ _ h => h.elim) (fun n => ?_) (fun n cs hcs => ?_) (fun n m g hn hm => hI.inj n m g (hNm n hn) (hNm m hm)) (fun n g hn hg => hI.own n g (hNm n hn) hg) rfl rfl (fun n cs g hc hp => hI.pin n cs g hc hp)
  · have hs := hI.slots n
    cases n with
    | zero =>
      have hs : Im (Own X ⟨[(0, .agg cs)], B⟩ β) w (.agg cs) (a.tmps.getD 0 undef) := hs
      exact Rel.im ((im_RL1 hs (show RL1 (.agg cs) (.agg ds) from hle)).mono hO)
    | succ n => exact hs.mono hO
  · obtain ⟨g, us', e, h1, h2, h3⟩ := hI.boxes n cs hcs
    exact ⟨g, us', e, h1, h2, h3.mono fun _ _ _ _ hr => ⟨hr.1.mono hO, hr.2⟩⟩
theorem CSpec.aggLe {f : FuncId} {args : List AV} {boxes : List (Nat × List AV)} {cs ds : List AV} {boxes' : List (Nat × List AV)} (h : CSpec P f args boxes (.agg cs) boxes') (hle : AVles cs ds) : CSpec P f args boxes (.agg ds) boxes' := by
  refine ⟨h.1, fun F X β w vs h1 h2 hI => (h.2 F X β w vs h1 h2 hI).mono ?_⟩
  rintro e w' ⟨v', β'', he, hI'⟩
  exact ⟨v', β'', he, hI'.aggLe hle⟩
end
end Go.SX
end
section
namespace Go.Proofs.YtdcdmojbkmedpaaDoor
set_option linter.unusedSectionVars false
set_option linter.unusedSimpArgs false
set_option linter.unusedVariables false
open Go Go.SX Go.Ck Go.Vl Go.Ut Go.Up Go.Pk
set_option maxRecDepth 100000
set_option maxHeartbeats 1000000
/-- a value as the reader hands it back: slices that it does not fill are nil -/
def resA (v : Val) : AV := .agg [.i .i64 v.kind, .i .i64 v.n, .i .u64 v.f, .s v.s, (if v.kind = 5 then .rd .val v.l else .nl), (if v.kind = 6 then .rd .ent v.e else .nl)]
theorem numF_rng : ∀ (k : Nat) {n : Int} {s : Str}, 0 ≤ n → n ≤ 18446744073709551615 → 0 ≤ numF k n s ∧ numF k n s ≤ 18446744073709551615
  | 0, _, _, h0, h1 => ⟨h0, h1⟩
  | k + 1, n, s, _, _ => by
    rw [numF]
    refine numF_rng k ?_ ?_
    · rw [IntKind.wrap_u64]; omega
    · rw [IntKind.wrap_u64]; omega
theorem shr63o {f : Int} (h0 : 0 ≤ f) (h1 : f ≤ 18446744073709551615) : (f.fdiv (2 ^ min (Int.toNat 63) IntKind.u64.bits) == 1) = !decide (f < 9223372036854775808) := by
  rw [show (2 : Int) ^ min (Int.toNat 63) IntKind.u64.bits = 9223372036854775808 from rfl, Int.fdiv_eq_ediv_of_nonneg _ (by decide)]
  rw [Bool.eq_iff_iff, beq_iff_eq, Bool.not_eq_true', decide_eq_false_iff_not]
  omega
section
variable [G : Globs]
theorem w_rvalue (n : Nat) (d : Int) (s : Str) (bad : Bool) (hd0 : 0 ≤ d) (hd1 : d ≤ 1001) (hs : s.length ≤ 16777216) (hn : s.length ≤ n) (hc : d ≤ 1000 → ∀ (m : Nat) (s : Str) (b : Bool), m < n → s.length < m → s.length ≤ 16777216 → CSpec Tryd.prog 56 [.pt 1000 0, .i .i64 (d + 1)] [(1000, [.rd .u8 (toI s), .b b])] (.agg (encVal (valP m (d + 1) s b).1)) [(1000, [.rd .u8 (toI (valP m (d + 1) s b).2.1), .b (valP m (d + 1) s b).2.2])]) : vc Tryd.prog Γ 96 [0, 1, 4, 5, 6, 24, 28, 30, 36, 43, 51, 60, 65, 68, 78, 81, 1000] (Tryd.f56.body.getD .skip) (postBK Γ [.cell 4 26] (resA (valP (n + 1) d s bad).1) [(1000, [.rd .u8 (toI (valP (n + 1) d s bad).2.1), .b (valP (n + 1) d s bad).2.2])]) ⟨argSlots 0 [.pt 1000 0, .i .i64 d], [(1000, [.rd .u8 (toI s), .b bad])]⟩ := by
  have hb := s_byte s bad
  refine Or.inr (Or.inl (Exists.intro [] (Exists.intro _ (Exists.intro _ (Exists.intro _ (Exists.intro _ (Exists.intro _ (Exists.intro [(1000, 1000)] (And.intro (hb) ?_)))))))))
  refine (And.intro rfl (And.intro rfl (And.intro rfl (And.intro rfl (And.intro rfl ?_)))))
  have hh := hd_nat s
  have hw : IntKind.i64.wrap (((hd s).toNat : Nat) : Int) = ((hd s).toNat : Nat) := by rw [IntKind.wrap_i64]; omega
  (refine And.intro (rng64 (by omega) (by omega)) ?_)
  obtain ⟨B, hB⟩ : ∃ B, B = ((bad || s.isEmpty) || decide (1000 < d)) := ⟨_, rfl⟩
  obtain ⟨T, hT⟩ : ∃ T, T = s.drop 1 := ⟨_, rfl⟩
  have hTl : T.length = s.length - 1 := by rw [hT, List.length_drop]
  obtain ⟨K, hK⟩ : ∃ K : Int, K = ((hd s).toNat : Int) - 1 := ⟨_, rfl⟩
  obtain ⟨R, hR⟩ : ∃ R, R = valP (n + 1) d s bad := ⟨_, rfl⟩
  have hE := hR
  rw [valP] at hE
  simp only [← hK, ← hT, ← hB] at hE
  rw [← hR]
  refine And.intro (fun hq => have hB1 : B = decide (1000 < d) := (by rw [hB, hq]; rfl); ?_) (fun hq => have hB1 : B = true := (by rw [hB, hq]; rfl); ?_)
  all_goals
    rw [hw, ← hK, ← hT]
    rcases (show K = 0 ∨ K = 1 ∨ K = 2 ∨ K = 3 ∨ K = 4 ∨ K = 5 ∨ K = 6 ∨ (K < 0 ∨ 6 < K) by omega) with h | h | h | h | h | h | h | h
    · rw [h, if_pos rfl] at hE
      (repeat' (first | (refine And.intro (fun h => ?_) (fun h => ?_) <;> (try simp [-List.getD_eq_getElem?_getD, -Int.pred_toNat] at h) <;> (try (exfalso; first | omega | contradiction))) | (refine And.intro (rng64 (by omega) (by omega)) ?_) | (refine And.intro ⟨by omega, by omega⟩ ?_) | (refine And.intro ⟨by omega, by omega, by omega⟩ ?_) | (intro _)))
      rw [hE, h]
      refine Exists.intro [] (And.intro rfl ?_)
      (repeat' (first | exact trivial | exact Or.inl rfl | exact Or.inl ((congrArg AV.b hB1.symm)) | refine And.intro ?_ ?_))
    · rw [h, if_neg (by decide), if_pos rfl] at hE
      have h2 := s_byte T B
      rw [hB1] at h2
      have hT2 := hd_nat T
      have hwT : IntKind.i64.wrap (((hd T).toNat : Nat) : Int) = ((hd T).toNat : Nat) := by rw [IntKind.wrap_i64]; omega
      (repeat' (first | (refine And.intro (fun h => ?_) (fun h => ?_) <;> (try simp [-List.getD_eq_getElem?_getD, -Int.pred_toNat] at h) <;> (try (exfalso; first | omega | contradiction))) | (refine And.intro (rng64 (by omega) (by omega)) ?_) | (refine And.intro ⟨by omega, by omega⟩ ?_) | (refine And.intro ⟨by omega, by omega, by omega⟩ ?_) | (intro _)))
      refine Or.inr (Or.inl (Exists.intro [] (Exists.intro _ (Exists.intro _ (Exists.intro _ (Exists.intro _ (Exists.intro _ (Exists.intro [(1000, 1000)] (And.intro (h2) ?_)))))))))
      refine (And.intro rfl (And.intro rfl (And.intro rfl (And.intro rfl (And.intro rfl ?_)))))
      rw [hE, h, hB1]
      refine Exists.intro [] (And.intro ?_ ?_)
      · show AV.agg [.i .i64 1, .i .i64 (IntKind.i64.wrap (((hd T).toNat : Nat) : Int)), .i .u64 0, .s [], .nl, .nl] = _
        rw [hwT]
        rfl
      · (repeat' (first | exact trivial | exact Or.inl rfl | exact Or.inr (Or.inl ⟨rfl, _, rfl⟩) | exact Or.inr (Or.inr (Or.inr ⟨_, _, _, rfl, rfl⟩)) | refine And.intro ?_ ?_))
    · rw [h, if_neg (by decide), if_neg (by decide), if_pos rfl] at hE
      have h2 := s_wordR T B
      rw [hB1] at h2
      (repeat' (first | (refine And.intro (fun h => ?_) (fun h => ?_) <;> (try simp [-List.getD_eq_getElem?_getD, -Int.pred_toNat] at h) <;> (try (exfalso; first | omega | contradiction))) | (refine And.intro (rng64 (by omega) (by omega)) ?_) | (refine And.intro ⟨by omega, by omega⟩ ?_) | (refine And.intro ⟨by omega, by omega, by omega⟩ ?_) | (intro _)))
      refine Or.inr (Or.inl (Exists.intro [] (Exists.intro _ (Exists.intro _ (Exists.intro _ (Exists.intro _ (Exists.intro _ (Exists.intro [(1000, 1000)] (And.intro (h2) ?_)))))))))
      refine (And.intro rfl (And.intro rfl (And.intro rfl (And.intro rfl (And.intro rfl ?_)))))
      rw [hE, h, hB1]
      refine Exists.intro [] (And.intro rfl ?_)
      (repeat' (first | exact trivial | exact Or.inl rfl | exact Or.inr (Or.inl ⟨rfl, _, rfl⟩) | exact Or.inr (Or.inr (Or.inr ⟨_, _, _, rfl, rfl⟩)) | refine And.intro ?_ ?_))
    · rw [h, if_neg (by decide), if_neg (by decide), if_neg (by decide), if_pos rfl] at hE
      have h2 := s_wordR T B
      rw [hB1] at h2
      obtain ⟨f0, f1⟩ := numF_rng 8 (n := 0) (s := T) (by decide) (by decide)
      have hsh := shr63o f0 f1
      (repeat' (first | (refine And.intro (fun h => ?_) (fun h => ?_) <;> (try simp [-List.getD_eq_getElem?_getD, -Int.pred_toNat] at h) <;> (try (exfalso; first | omega | contradiction))) | (refine And.intro (rng64 (by omega) (by omega)) ?_) | (refine And.intro ⟨by omega, by omega⟩ ?_) | (refine And.intro ⟨by omega, by omega, by omega⟩ ?_) | (intro _)))
      refine Or.inr (Or.inl (Exists.intro [] (Exists.intro _ (Exists.intro _ (Exists.intro _ (Exists.intro _ (Exists.intro _ (Exists.intro [(1000, 1000)] (And.intro (h2) ?_)))))))))
      refine (And.intro rfl (And.intro rfl (And.intro rfl (And.intro rfl (And.intro rfl ?_)))))
      rw [hE, h, hB1]
      refine And.intro (by decide) ?_
      refine And.intro (fun hq => ?_) (fun hq => ?_)
      · have hq : ¬ numF 8 0 T < 9223372036854775808 := by
          have := hsh.symm.trans hq
          simpa using this
        refine Exists.intro [] (And.intro ?_ ?_)
        · show AV.agg [.i .i64 3, .i .i64 0, .i .u64 (bits .xor .u64 (numF 8 0 T) 9223372036854775808), .s [], .nl, .nl] = _
          rw [show bits .xor .u64 (numF 8 0 T) 9223372036854775808 = flipR (numF 8 0 T) by
            rw [xor_flip f0 f1, IntKind.wrap_u64]
            unfold flipR
            rw [if_neg hq]
            omega]
          generalize flipR (numF 8 0 T) = z
          rfl
        · (repeat' (first | exact trivial | exact Or.inl rfl | exact Or.inr (Or.inl ⟨rfl, _, rfl⟩) | exact Or.inr (Or.inr (Or.inr ⟨_, _, _, rfl, rfl⟩)) | refine And.intro ?_ ?_))
      · have hq : numF 8 0 T < 9223372036854775808 := by
          have := hsh.symm.trans hq
          simpa using this
        refine Exists.intro [] (And.intro ?_ ?_)
        · show AV.agg [.i .i64 3, .i .i64 0, .i .u64 (bits .xor .u64 (if IntKind.u64.signed = true then -1 else IntKind.u64.max) (numF 8 0 T)), .s [], .nl, .nl] = _
          rw [show bits .xor .u64 (if IntKind.u64.signed = true then -1 else IntKind.u64.max) (numF 8 0 T) = flipR (numF 8 0 T) by
            rw [xor63 f0 f1]
            unfold flipR
            rw [if_pos hq]]
          generalize flipR (numF 8 0 T) = z
          rfl
        · (repeat' (first | exact trivial | exact Or.inl rfl | exact Or.inr (Or.inl ⟨rfl, _, rfl⟩) | exact Or.inr (Or.inr (Or.inr ⟨_, _, _, rfl, rfl⟩)) | refine And.intro ?_ ?_))
    · rw [h, if_neg (by decide), if_neg (by decide), if_neg (by decide), if_neg (by decide), if_pos rfl] at hE
      have h2 := s_rchain T B (by omega)
      rw [hB1] at h2
      (repeat' (first | (refine And.intro (fun h => ?_) (fun h => ?_) <;> (try simp [-List.getD_eq_getElem?_getD, -Int.pred_toNat] at h) <;> (try (exfalso; first | omega | contradiction))) | (refine And.intro (rng64 (by omega) (by omega)) ?_) | (refine And.intro ⟨by omega, by omega⟩ ?_) | (refine And.intro ⟨by omega, by omega, by omega⟩ ?_) | (intro _)))
      refine Or.inr (Or.inl (Exists.intro [] (Exists.intro _ (Exists.intro _ (Exists.intro _ (Exists.intro _ (Exists.intro _ (Exists.intro [(1000, 1000)] (And.intro (h2) ?_)))))))))
      refine (And.intro rfl (And.intro rfl (And.intro rfl (And.intro rfl (And.intro rfl ?_)))))
      rw [hE, h, hB1]
      refine Exists.intro [] (And.intro rfl ?_)
      (repeat' (first | exact trivial | exact Or.inl rfl | exact Or.inr (Or.inl ⟨rfl, _, rfl⟩) | exact Or.inr (Or.inr (Or.inr ⟨_, _, _, rfl, rfl⟩)) | refine And.intro ?_ ?_))
    · rw [h, if_neg (by decide), if_neg (by decide), if_neg (by decide), if_neg (by decide), if_neg (by decide), if_pos rfl] at hE
      have hsp : 0 < s.length := hd_pos fun hx => by rw [hx] at hK; rw [hK] at h; exact absurd h (by decide)
      (repeat' (first | (refine And.intro (fun h => ?_) (fun h => ?_) <;> (try simp [-List.getD_eq_getElem?_getD, -Int.pred_toNat] at h) <;> (try (exfalso; first | omega | contradiction))) | (refine And.intro (rng64 (by omega) (by omega)) ?_) | (refine And.intro ⟨by omega, by omega⟩ ?_) | (refine And.intro ⟨by omega, by omega, by omega⟩ ?_) | (intro _)))
      refine Exists.intro [] (Exists.intro [(5, 4, 97, .val)] (Exists.intro [] (Exists.intro (List Val × Str × Bool × Nat) (Exists.intro (fun q => q.1.length + q.2.1.length ≤ T.length ∧ q.2.1.length < q.2.2.2 ∧ q.2.2.2 ≤ n ∧ (q.2.2.1 = false → d ≤ 1000) ∧ (q.1 ++ (lisP q.2.2.2 d q.2.1 q.2.2.1).1, (lisP q.2.2.2 d q.2.1 q.2.2.1).2) = lisP n d T B) (Exists.intro (fun ⟨acc, r, b, m⟩ => ⟨[(0, .pt 1000 0), (1, .i .i64 d), (4, .pt 4 0), (5, .pt 5 0)], [(1000, [.rd .u8 (toI r), .b b]), (4, [.i .i64 0, .i .i64 0, .i .u64 0, .s [], .nl, .nl]), (5, [.i .i64 K, .i .i64 0, .i .u64 0, .s [], .vec 97 .val acc, .nl])]⟩) (Exists.intro (fun q => q.2.2.2) (Exists.intro ([], T, B, n) (And.intro ⟨by simp, by simp only; omega, Nat.le_refl _, (fun hb => by simp only at hb; rw [hb] at hB1; first | exact Int.not_lt.1 (of_decide_eq_false hB1.symm) | cases hB1), rfl⟩ (And.intro ?_ ?_)))))))))
      · (repeat' (first | exact trivial | exact Or.inl rfl | exact Or.inl ((congrArg AV.b hB1.symm)) | refine And.intro ?_ ?_))
      · rintro ⟨acc, r, b, m⟩ ⟨hl, hm, hmn, hbd, hI⟩
        simp only at hl hm hmn hbd hI
        refine Or.inr (Or.inl (Exists.intro [] (Exists.intro _ (Exists.intro _ (Exists.intro _ (Exists.intro _ (Exists.intro _ (Exists.intro [(1000, 1000)] (And.intro (s_more r b) ?_)))))))))
        refine (And.intro rfl (And.intro rfl (And.intro rfl (And.intro rfl (And.intro rfl ?_)))))
        refine And.intro (fun hz => ?_) (fun hz => ?_)
        · obtain ⟨h1, hb0, hrp, hx⟩ := moreB_t hz
          obtain ⟨m, rfl⟩ : ∃ k, m = k + 1 := ⟨m - 1, by omega⟩
          rw [lisP, if_pos (show moreB r b = true from hz)] at hI
          rw [show (b || r.isEmpty || decide (1 < hd r)) = false from hx]
          have hd2 := hbd hb0
          have hdl : (r.drop 1).length = r.length - 1 := List.length_drop ..
          have hh := hc hd2 m (r.drop 1) false (by omega) (by omega) (by omega)
          have hrl := (rest_n m (d + 1) (r.drop 1) false).1
          simp only at hI
          generalize valP m (d + 1) (r.drop 1) false = x at hh hI hrl
          refine Exists.intro [.take 0, .take 2, .take 3, .take 4, .tree 3 [1, 5, 6] (.opt 1 (.opt 5 (.opt 6 .fin .non) .non) (.opt 5 (.opt 1 (.opt 6 .fin .non) (.opt 6 (.opt 1 .fin .non) .non)) .non)), .one 7, .take 8, .one 9] (And.intro (by kernel_rfl) ?_)
          (refine And.intro (rng64 (by omega) (by omega)) ?_)
          refine Exists.intro ⟨[(0, .pt 1000 0), (1, .i .i64 d), (4, .pt 4 0), (5, .pt 5 0), (70, .vec 97 .val acc), (75, .vec 75 .val [x.1])], [(1000, [.rd .u8 (toI x.2.1), .b x.2.2]), (4, [.i .i64 0, .i .i64 0, .i .u64 0, .s [], .nl, .nl]), (5, [.i .i64 K, .i .i64 0, .i .u64 0, .s [], .vec 97 .val acc, .nl])]⟩ (And.intro ?_ ?_)
          · repeat' (first | exact trivial | exact Or.inl rfl | (refine Or.inr (Or.inl (Exists.intro [] (Exists.intro _ (Exists.intro _ (Exists.intro _ (Exists.intro _ (Exists.intro _ (Exists.intro [(1000, 1000)] (And.intro hh ?_))))))))); refine (And.intro rfl (And.intro rfl (And.intro rfl (And.intro rfl ?_))))) | refine And.intro ?_ ?_)
            all_goals first | exact Or.inl (congrArg (fun z => AV.vec 75 .val [z]) (val_eta x.1)) | rfl
          refine And.intro (show (acc.length + 1) * 88 ≤ 140737488355328 by omega) ?_
          refine Exists.intro [(76, 97)] (Exists.intro (acc ++ [x.1], x.2.1, x.2.2, m) (And.intro ⟨by simp only [List.length_append, List.length_cons, List.length_nil]; omega, by simp only; omega, by simp only; omega, fun _ => hd2, by rw [← hI, List.append_assoc]; rfl⟩ (And.intro ?_ ?_)))
          · (repeat' (first | exact trivial | exact Or.inl rfl | exact Or.inr (Or.inl ⟨rfl, _, rfl⟩) | exact Or.inr (Or.inr (Or.inr ⟨_, _, _, rfl, rfl⟩)) | refine And.intro ?_ ?_))
          · exact Nat.lt_succ_self m
        · have hz : moreB r b = false := hz
          obtain ⟨m, rfl⟩ : ∃ k, m = k + 1 := ⟨m - 1, by omega⟩
          rw [lisP, if_neg (by rw [hz]; decide), List.append_nil] at hI
          rw [← hI] at hE
          rw [hE, h]
          refine Exists.intro [] (And.intro rfl ?_)
          (repeat' (first | exact trivial | exact Or.inl rfl | exact Or.inr (Or.inl ⟨rfl, _, rfl⟩) | exact Or.inr (Or.inr (Or.inr ⟨_, _, _, rfl, rfl⟩)) | refine And.intro ?_ ?_))
    · rw [h, if_neg (by decide), if_neg (by decide), if_neg (by decide), if_neg (by decide), if_neg (by decide), if_neg (by decide), if_pos rfl] at hE
      have hsp : 0 < s.length := hd_pos fun hx => by rw [hx] at hK; rw [hK] at h; exact absurd h (by decide)
      (repeat' (first | (refine And.intro (fun h => ?_) (fun h => ?_) <;> (try simp [-List.getD_eq_getElem?_getD, -Int.pred_toNat] at h) <;> (try (exfalso; first | omega | contradiction))) | (refine And.intro (rng64 (by omega) (by omega)) ?_) | (refine And.intro ⟨by omega, by omega⟩ ?_) | (refine And.intro ⟨by omega, by omega, by omega⟩ ?_) | (intro _)))
      refine Exists.intro [] (Exists.intro [(5, 5, 97, .ent)] (Exists.intro [] (Exists.intro (List Ent × Str × Bool × Nat) (Exists.intro (fun q => q.1.length + q.2.1.length ≤ T.length ∧ q.2.1.length < q.2.2.2 ∧ q.2.2.2 ≤ n ∧ (q.2.2.1 = false → d ≤ 1000) ∧ (q.1 ++ (entP q.2.2.2 d q.2.1 q.2.2.1).1, (entP q.2.2.2 d q.2.1 q.2.2.1).2) = entP n d T B) (Exists.intro (fun ⟨acc, r, b, m⟩ => ⟨[(0, .pt 1000 0), (1, .i .i64 d), (4, .pt 4 0), (5, .pt 5 0)], [(1000, [.rd .u8 (toI r), .b b]), (4, [.i .i64 0, .i .i64 0, .i .u64 0, .s [], .nl, .nl]), (5, [.i .i64 K, .i .i64 0, .i .u64 0, .s [], .nl, .vec 97 .ent acc])]⟩) (Exists.intro (fun q => q.2.2.2) (Exists.intro ([], T, B, n) (And.intro ⟨by simp, by simp only; omega, Nat.le_refl _, (fun hb => by simp only at hb; rw [hb] at hB1; first | exact Int.not_lt.1 (of_decide_eq_false hB1.symm) | cases hB1), rfl⟩ (And.intro ?_ ?_)))))))))
      · (repeat' (first | exact trivial | exact Or.inl rfl | exact Or.inl ((congrArg AV.b hB1.symm)) | refine And.intro ?_ ?_))
      · rintro ⟨acc, r, b, m⟩ ⟨hl, hm, hmn, hbd, hI⟩
        simp only at hl hm hmn hbd hI
        refine Or.inr (Or.inl (Exists.intro [] (Exists.intro _ (Exists.intro _ (Exists.intro _ (Exists.intro _ (Exists.intro _ (Exists.intro [(1000, 1000)] (And.intro (s_more r b) ?_)))))))))
        refine (And.intro rfl (And.intro rfl (And.intro rfl (And.intro rfl (And.intro rfl ?_)))))
        refine And.intro (fun hz => ?_) (fun hz => ?_)
        · obtain ⟨h1, hb0, hrp, hx⟩ := moreB_t hz
          obtain ⟨m, rfl⟩ : ∃ k, m = k + 1 := ⟨m - 1, by omega⟩
          rw [entP, if_pos (show moreB r b = true from hz)] at hI
          rw [show (b || r.isEmpty || decide (1 < hd r)) = false from hx]
          have hd2 := hbd hb0
          have hdl : (r.drop 1).length = r.length - 1 := List.length_drop ..
          have hch := s_rchain (r.drop 1) false (by omega)
          have hcl := chF_len false [] (r.drop 1)
          simp only at hI
          generalize chF false [] (r.drop 1) = c at hch hcl hI
          have hh := hc hd2 m c.2.1 c.2.2 (by omega) (by omega) (by omega)
          have hrl := (rest_n m (d + 1) c.2.1 c.2.2).1
          generalize valP m (d + 1) c.2.1 c.2.2 = x at hh hI hrl
          refine Or.inr (Or.inl (Exists.intro [] (Exists.intro _ (Exists.intro _ (Exists.intro _ (Exists.intro _ (Exists.intro _ (Exists.intro [(1000, 1000)] (And.intro (hch) ?_)))))))))
          refine (And.intro rfl (And.intro rfl (And.intro rfl (And.intro rfl (And.intro rfl ?_)))))
          refine Exists.intro [.take 0, .take 2, .take 3, .take 4, .take 5, .tree 4 [1, 6, 7, 8] (.opt 1 (.opt 6 (.opt 7 (.opt 8 .fin .non) .non) .non) (.opt 6 (.opt 1 (.opt 7 (.opt 8 .fin .non) .non) (.opt 7 (.opt 1 (.opt 8 .fin .non) (.opt 8 (.opt 1 .fin .non) .non)) .non)) .non)), .one 9, .take 10, .one 11] (And.intro (by kernel_rfl) ?_)
          (refine And.intro (rng64 (by omega) (by omega)) ?_)
          refine Exists.intro ⟨[(0, .pt 1000 0), (1, .i .i64 d), (4, .pt 4 0), (5, .pt 5 0), (85, .vec 97 .ent acc), (92, .vec 92 .ent [(c.1, x.1)])], [(1000, [.rd .u8 (toI x.2.1), .b x.2.2]), (4, [.i .i64 0, .i .i64 0, .i .u64 0, .s [], .nl, .nl]), (5, [.i .i64 K, .i .i64 0, .i .u64 0, .s [], .nl, .vec 97 .ent acc])]⟩ (And.intro ?_ ?_)
          · repeat' (first | exact trivial | exact Or.inl rfl | (refine Or.inr (Or.inl (Exists.intro [] (Exists.intro _ (Exists.intro _ (Exists.intro _ (Exists.intro _ (Exists.intro _ (Exists.intro [(1000, 1000)] (And.intro hh ?_))))))))); refine (And.intro rfl (And.intro rfl (And.intro rfl (And.intro rfl ?_))))) | refine And.intro ?_ ?_)
            all_goals first | exact Or.inl (congrArg (fun z => AV.vec 92 .ent [(c.1, z)]) (val_eta x.1)) | rfl
          refine And.intro (show (acc.length + 1) * 104 ≤ 140737488355328 by omega) ?_
          refine Exists.intro [(93, 97)] (Exists.intro (acc ++ [(c.1, x.1)], x.2.1, x.2.2, m) (And.intro ⟨by simp only [List.length_append, List.length_cons, List.length_nil]; omega, by simp only; omega, by simp only; omega, fun _ => hd2, by rw [← hI, List.append_assoc]; rfl⟩ (And.intro ?_ ?_)))
          · (repeat' (first | exact trivial | exact Or.inl rfl | exact Or.inr (Or.inl ⟨rfl, _, rfl⟩) | exact Or.inr (Or.inr (Or.inr ⟨_, _, _, rfl, rfl⟩)) | refine And.intro ?_ ?_))
          · exact Nat.lt_succ_self m
        · have hz : moreB r b = false := hz
          obtain ⟨m, rfl⟩ : ∃ k, m = k + 1 := ⟨m - 1, by omega⟩
          rw [entP, if_neg (by rw [hz]; decide), List.append_nil] at hI
          rw [← hI] at hE
          rw [hE, h]
          refine Exists.intro [] (And.intro rfl ?_)
          (repeat' (first | exact trivial | exact Or.inl rfl | exact Or.inr (Or.inl ⟨rfl, _, rfl⟩) | exact Or.inr (Or.inr (Or.inr ⟨_, _, _, rfl, rfl⟩)) | refine And.intro ?_ ?_))
    · rw [if_neg (by omega), if_neg (by omega), if_neg (by omega), if_neg (by omega), if_neg (by omega), if_neg (by omega), if_neg (by omega)] at hE
      (repeat' (first | (refine And.intro (fun h => ?_) (fun h => ?_) <;> (try simp [-List.getD_eq_getElem?_getD, -Int.pred_toNat] at h) <;> (try (exfalso; first | omega | contradiction))) | (refine And.intro (rng64 (by omega) (by omega)) ?_) | (refine And.intro ⟨by omega, by omega⟩ ?_) | (refine And.intro ⟨by omega, by omega, by omega⟩ ?_) | (intro _)))
      rw [hE]
      refine Exists.intro [] (And.intro ?_ ?_)
      · show AV.agg [.i .i64 K, .i .i64 0, .i .u64 0, .s [], .nl, .nl] = resA _
        unfold resA
        rw [if_neg (show ¬ K = 5 by omega), if_neg (show ¬ K = 6 by omega)]
        rfl
      · (repeat' (first | exact trivial | exact Or.inl rfl | exact Or.inr (Or.inl ⟨rfl, _, rfl⟩) | exact Or.inr (Or.inr (Or.inr ⟨_, _, _, rfl, rfl⟩)) | refine And.intro ?_ ?_))
theorem s_rvalue (n : Nat) (d : Int) (s : Str) (bad : Bool) (hd0 : 0 ≤ d) (hd1 : d ≤ 1001) (hs : s.length ≤ 16777216) (hn : s.length ≤ n) (hc : d ≤ 1000 → ∀ (m : Nat) (s : Str) (b : Bool), m < n → s.length < m → s.length ≤ 16777216 → CSpec Tryd.prog 56 [.pt 1000 0, .i .i64 (d + 1)] [(1000, [.rd .u8 (toI s), .b b])] (.agg (encVal (valP m (d + 1) s b).1)) [(1000, [.rd .u8 (toI (valP m (d + 1) s b).2.1), .b (valP m (d + 1) s b).2.2])]) : CSpec Tryd.prog 56 [.pt 1000 0, .i .i64 d] [(1000, [.rd .u8 (toI s), .b bad])] (resA (valP (n + 1) d s bad).1) [(1000, [.rd .u8 (toI (valP (n + 1) d s bad).2.1), .b (valP (n + 1) d s bad).2.2])] :=
  cspec_of_vc Γ_good Tryd.func56 rfl Tryd.call56 Tryd.results56 Tryd.ntmps56 (Nat.le_of_ble_eq_true rfl) (Nat.le_of_ble_eq_true rfl) (by rfl) (w_rvalue n d s bad hd0 hd1 hs hn hc)
theorem resA_kind : ∀ (n : Nat) (d : Int) (s : Str) (b : Bool), ((valP n d s b).1.kind ≠ 5 → (valP n d s b).1.l = []) ∧ ((valP n d s b).1.kind ≠ 6 → (valP n d s b).1.e = [])
  | 0, _, _, _ => by rw [valP]; exact ⟨fun _ => rfl, fun _ => rfl⟩
  | n + 1, d, s, b => by
    rw [valP]
    simp only
    split
    · exact ⟨fun _ => rfl, fun _ => rfl⟩
    split
    · exact ⟨fun _ => rfl, fun _ => rfl⟩
    split
    · exact ⟨fun _ => rfl, fun _ => rfl⟩
    split
    · exact ⟨fun _ => rfl, fun _ => rfl⟩
    split
    · exact ⟨fun _ => rfl, fun _ => rfl⟩
    split
    · rename_i h5
      exact ⟨fun h => absurd h5 h, fun _ => rfl⟩
    split
    · rename_i h6
      exact ⟨fun _ => rfl, fun h => absurd h6 h⟩
    · exact ⟨fun _ => rfl, fun _ => rfl⟩
theorem s_value : ∀ (n : Nat) (d : Int) (s : Str) (b : Bool), 0 ≤ d → d ≤ 1001 → s.length < n → s.length ≤ 16777216 → CSpec Tryd.prog 56 [.pt 1000 0, .i .i64 d] [(1000, [.rd .u8 (toI s), .b b])] (.agg (encVal (valP n d s b).1)) [(1000, [.rd .u8 (toI (valP n d s b).2.1), .b (valP n d s b).2.2])]
  | 0, _, _, _, _, _, h, _ => absurd h (Nat.not_lt_zero _)
  | n + 1, d, s, b, h0, h1, hn, hs => by
    have h := s_rvalue n d s b h0 h1 hs (by omega) fun hd m s b hm hl hs => s_value m (d + 1) s b (by omega) (by omega) hl hs
    obtain ⟨k5, k6⟩ := resA_kind (n + 1) d s b
    unfold resA at h
    refine h.aggLe ⟨.inl rfl, .inl rfl, .inl rfl, .inl rfl, ?_, ?_, trivial⟩
    · by_cases c : (valP (n + 1) d s b).1.kind = 5
      · rw [if_pos c]; exact .inl rfl
      · rw [if_neg c, k5 c]; exact .inr ⟨rfl, _, rfl⟩
    · by_cases c : (valP (n + 1) d s b).1.kind = 6
      · rw [if_pos c]; exact .inl rfl
      · rw [if_neg c, k6 c]; exact .inr ⟨rfl, _, rfl⟩
end
end Go.Proofs.YtdcdmojbkmedpaaDoor
end
section
namespace Go.Proofs.YtdcdmojbkmedpaaDoor
set_option linter.unusedSectionVars false
set_option linter.unusedSimpArgs false
set_option linter.unusedVariables false
open Go Go.SX Go.Ck Go.Vl Go.Ut Go.Up Go.Pk
set_option maxRecDepth 100000
set_option maxHeartbeats 1000000
/-- a value out of all the bytes, and what is wrong -/
def unpV (s : Str) : Val × Int :=
  let q := valP (s.length + 1) 0 s false
  if q.2.2 = true ∨ q.2.1 ≠ [] then (zeroV, 4) else if faultV q.1 ≠ 0 then (zeroV, faultV q.1) else (q.1, 0)
section
variable [G : Globs]
theorem w_unpack (hu : HasU8) (s : Str) (hs : s.length ≤ 16777216) (hv : ∀ n d s b, VB (valP n d s b).1) (hb : (sizV (valP (s.length + 1) 0 s false).1).2 ≤ 1000000000) : vc Tryd.prog Γ 32 [0, 2, 3, 4, 5, 6, 9, 23, 28] (Tryd.f12.body.getD .skip) (postK Γ [.cell 2 26, .tmp 3] (fun v => RL v (.tup [.agg (encVal (unpV s).1), .i .i64 (unpV s).2]))) ⟨argSlots 0 [.rd .u8 (toI s)], []⟩ := by
  have h := s_value (s.length + 1) 0 s false (Int.le_refl _) (by decide) (Nat.lt_succ_self _) hs
  have hq : ∃ q, q = valP (s.length + 1) 0 s false := ⟨_, rfl⟩
  unfold unpV
  have hv := hv (s.length + 1) 0 s false
  simp only
  generalize valP (s.length + 1) 0 s false = q at h hb hv
  have hC := s_Check hu q.1 hv hb
  rw [chk_T] at hC
  refine Or.inr (Or.inl (Exists.intro [] (Exists.intro _ (Exists.intro _ (Exists.intro _ (Exists.intro _ (Exists.intro _ (Exists.intro [(1000, 9)] (And.intro (h) ?_)))))))))
  refine (And.intro rfl (And.intro rfl (And.intro rfl (And.intro rfl (And.intro rfl ?_)))))
  have hlen : (toI q.2.1).length = q.2.1.length := toI_len _
  refine And.intro (fun hq => ?_) (fun hq => ?_)
  · have hq : q.2.2 = false := hq
    intro _
    refine And.intro (fun hz => ?_) (fun hz => ?_)
    · have hz : ¬ q.2.1 = [] := fun hn => by
        have hz : decide ((((toI q.2.1).length : Nat) : Int) > 0) = true := hz
        rw [hn] at hz
        exact absurd hz (by decide)
      rw [if_pos (Or.inr hz)]
      (repeat' (first | exact trivial | exact Or.inl rfl | exact Or.inr ⟨rfl, _, rfl⟩ | refine And.intro ?_ ?_))
    · have hz : q.2.1 = [] := by
        have hz : ¬ ((((toI q.2.1).length : Nat) : Int) > 0) := of_decide_eq_false hz
        rw [hlen] at hz
        exact List.length_eq_zero_iff.1 (by omega)
      rw [if_neg (show ¬ (q.2.2 = true ∨ q.2.1 ≠ []) by rw [hq, hz]; simp)]
      refine Or.inl (Exists.intro _ (And.intro (hC) ?_))
      refine And.intro (fun hq => ?_) (fun hq => ?_)
      · have hq : faultV q.1 ≠ 0 := by simpa using hq
        rw [if_pos hq]
        (repeat' (first | exact trivial | exact Or.inl rfl | exact Or.inr ⟨rfl, _, rfl⟩ | refine And.intro ?_ ?_))
      · have hq : ¬ faultV q.1 ≠ 0 := by simpa using hq
        rw [if_neg hq]
        (repeat' (first | exact trivial | exact Or.inl rfl | exact Or.inr ⟨rfl, _, rfl⟩ | refine And.intro ?_ ?_))
  · have hq : q.2.2 = true := hq
    rw [if_pos (Or.inl hq)]
    refine And.intro (fun _ => ?_) (fun hz => absurd hz (by decide))
    (repeat' (first | exact trivial | exact Or.inl rfl | exact Or.inr ⟨rfl, _, rfl⟩ | refine And.intro ?_ ?_))
theorem s_unpack (hu : HasU8) (s : Str) (hs : s.length ≤ 16777216) (hv : ∀ n d s b, VB (valP n d s b).1) (hb : (sizV (valP (s.length + 1) 0 s false).1).2 ≤ 1000000000) : PSpec Tryd.prog 12 [.rd .u8 (toI s)] (.tup [.agg (encVal (unpV s).1), .i .i64 (unpV s).2]) :=
  pspec_of_vcL Γ_good Tryd.func12 rfl Tryd.call12 Tryd.results12 Tryd.ntmps12 (Nat.le_of_ble_eq_true rfl) (w_unpack hu s hs hv hb)
end
end Go.Proofs.YtdcdmojbkmedpaaDoor
end
section
namespace Go.Proofs.YtdcdmojbkmedpaaDoor
set_option linter.unusedSectionVars false
set_option linter.unusedSimpArgs false
set_option linter.unusedVariables false
open Go Go.SX Go.Ck Go.Vl Go.Ut Go.Up Go.Pk
set_option maxRecDepth 100000
set_option maxHeartbeats 1000000
theorem unch_bulk : ∀ s : Str, (unch s).1.length + (unch s).2.1.length ≤ s.length
  | [] => Nat.le_refl _
  | [c] => by unfold unch; split <;> simp
  | c :: d :: r => by
    have h1 := unch_bulk r
    have h2 := unch_bulk (d :: r)
    rw [unch]
    split
    · split
      · simp only [List.length_cons, List.length_nil]; omega
      · split
        · simp only [List.length_cons]; omega
        · simp only [List.length_cons, List.length_nil]; omega
    · simp only [List.length_cons] at h2 ⊢; omega
theorem chF_bulk (b : Bool) (s : Str) : (chF b [] s).1.length + (chF b [] s).2.1.length ≤ s.length := by
  unfold chF
  split
  · simp
  · simpa using unch_bulk s
theorem bk_n : ∀ (n : Nat) (d : Int) (s : Str) (b : Bool), bkV (valP n d s b).1 + 9 * (valP n d s b).2.1.length ≤ 9 * s.length + 7 ∧ ((lisP n d s b).1.map bkV).sum + 9 * (lisP n d s b).2.1.length ≤ 9 * s.length ∧ ((entP n d s b).1.map bkP).sum + 9 * (entP n d s b).2.1.length ≤ 9 * s.length
  | 0, d, s, b => by
    rw [valP, lisP, entP]
    refine ⟨?_, ?_, ?_⟩
    · rw [bkV_eq]; simp [zeroV]; omega
    · simp
    · simp
  | n + 1, d, s, b => by
    have hdl : (s.drop 1).length ≤ s.length := by rw [List.length_drop]; omega
    refine ⟨?_, ?_, ?_⟩
    · rw [valP]
      obtain ⟨_, hl, he⟩ := bk_n n d (s.drop 1) ((b || s.isEmpty) || decide (1000 < d))
      have hc := chF_bulk ((b || s.isEmpty) || decide (1000 < d)) (s.drop 1)
      simp only
      have hz : ∀ (k m f : Int) (t : Str), t.length ≤ s.length → bkV ⟨k, m, f, [], [], []⟩ + 9 * t.length ≤ 9 * s.length + 7 := fun k m f t ht => by rw [bkV_eq]; simp; omega
      split
      · exact hz _ _ _ _ hdl
      split
      · exact hz _ _ _ _ (by rw [List.length_drop]; omega)
      split
      · exact hz _ _ _ _ (by rw [List.length_drop]; omega)
      split
      · exact hz _ _ _ _ (by rw [List.length_drop]; omega)
      split
      · rw [bkV_eq]; simp only [zeroV, List.map_nil, List.sum_nil]; omega
      split
      · rw [bkV_eq]; simp only [zeroV, List.map_nil, List.sum_nil, List.length_nil]; omega
      split
      · rw [bkV_eq]; simp only [zeroV, List.map_nil, List.sum_nil, List.length_nil]; omega
      · exact hz _ _ _ _ hdl
    · rw [lisP]
      split
      · rename_i hm
        obtain ⟨_, _, hp, _⟩ := moreB_t hm
        have h1 := (bk_n n (d + 1) (s.drop 1) false).1
        have h2 := (bk_n n d (valP n (d + 1) (s.drop 1) false).2.1 (valP n (d + 1) (s.drop 1) false).2.2).2.1
        have h3 : (s.drop 1).length = s.length - 1 := List.length_drop ..
        simp only [List.map_cons, List.sum_cons]
        omega
      · simp only [List.map_nil, List.sum_nil]; omega
    · rw [entP]
      split
      · rename_i hm
        obtain ⟨_, _, hp, _⟩ := moreB_t hm
        have h0 := chF_bulk false (s.drop 1)
        have h1 := (bk_n n (d + 1) (chF false [] (s.drop 1)).2.1 (chF false [] (s.drop 1)).2.2).1
        have h2 := (bk_n n d (valP n (d + 1) (chF false [] (s.drop 1)).2.1 (chF false [] (s.drop 1)).2.2).2.1 (valP n (d + 1) (chF false [] (s.drop 1)).2.1 (chF false [] (s.drop 1)).2.2).2.2).2.2
        have h3 : (s.drop 1).length = s.length - 1 := List.length_drop ..
        simp only [List.map_cons, List.sum_cons]
        rw [bkP_eq]
        simp only
        omega
      · simp only [List.map_nil, List.sum_nil]; omega
theorem siz_val (n : Nat) (d : Int) (s : Str) (b : Bool) (hs : s.length ≤ 16777216) : (sizV (valP n d s b).1).2 ≤ 1000000000 := by
  have h1 := siz_bulk (valP n d s b).1
  have h2 := (bk_n n d s b).1
  omega
theorem vbk {k n f : Int} {s : Str} {l : List Val} {e : List Ent} (hk : -1 ≤ k ∧ k ≤ 254) (hn : -9223372036854775808 ≤ n ∧ n ≤ 9223372036854775807) (hf : 0 ≤ f ∧ f ≤ 18446744073709551615) (hl : ∀ x ∈ l, VB x) (he : ∀ p ∈ e, VB p.2) : VB ⟨k, n, f, s, l, e⟩ :=
  .mk _ ⟨by show -9223372036854775808 ≤ k; omega, by show k ≤ 9223372036854775807; omega⟩ hn hf hl he
theorem vb_n : ∀ (n : Nat) (d : Int) (s : Str) (b : Bool), VB (valP n d s b).1 ∧ (∀ x ∈ (lisP n d s b).1, VB x) ∧ (∀ p ∈ (entP n d s b).1, VB p.2)
  | 0, d, s, b => by
    rw [valP, lisP, entP]
    exact ⟨vbk ⟨by decide, by decide⟩ ⟨by decide, by decide⟩ ⟨by decide, by decide⟩ (fun x h => nomatch h) (fun x h => nomatch h), (fun x h => nomatch h), (fun x h => nomatch h)⟩
  | n + 1, d, s, b => by
    refine ⟨?_, ?_, ?_⟩
    · have hh := hd_nat s
      have h2 := hd_nat (s.drop 1)
      obtain ⟨_, hl, he⟩ := vb_n n d (s.drop 1) ((b || s.isEmpty) || decide (1000 < d))
      obtain ⟨f0, f1⟩ := numF_rng 8 (n := 0) (s := s.drop 1) (by decide) (by decide)
      have hr : 0 ≤ flipR (numF 8 0 (s.drop 1)) ∧ flipR (numF 8 0 (s.drop 1)) ≤ 18446744073709551615 := by unfold flipR; split <;> omega
      have hw : ∀ z : Int, -9223372036854775808 ≤ IntKind.i64.wrap z ∧ IntKind.i64.wrap z ≤ 9223372036854775807 := fun z => by rw [IntKind.wrap_i64]; omega
      have hk : -1 ≤ ((hd s).toNat : Int) - 1 ∧ ((hd s).toNat : Int) - 1 ≤ 254 := by omega
      have hn2 : -9223372036854775808 ≤ ((hd (s.drop 1)).toNat : Int) ∧ ((hd (s.drop 1)).toNat : Int) ≤ 9223372036854775807 := by omega
      have n0 : (-9223372036854775808 : Int) ≤ 0 ∧ (0 : Int) ≤ 9223372036854775807 := ⟨by decide, by decide⟩
      have f0' : (0 : Int) ≤ 0 ∧ (0 : Int) ≤ 18446744073709551615 := ⟨by decide, by decide⟩
      rw [valP]
      simp only
      split
      · exact vbk hk n0 f0' (fun x h => nomatch h) (fun x h => nomatch h)
      split
      · exact vbk hk hn2 f0' (fun x h => nomatch h) (fun x h => nomatch h)
      split
      · exact vbk hk (hw _) f0' (fun x h => nomatch h) (fun x h => nomatch h)
      split
      · exact vbk hk n0 hr (fun x h => nomatch h) (fun x h => nomatch h)
      split
      · exact vbk hk n0 f0' (fun x h => nomatch h) (fun x h => nomatch h)
      split
      · exact vbk hk n0 f0' hl (fun x h => nomatch h)
      split
      · exact vbk hk n0 f0' (fun x h => nomatch h) he
      · exact vbk hk n0 f0' (fun x h => nomatch h) (fun x h => nomatch h)
    · rw [lisP]
      split
      · intro x hx
        rcases List.mem_cons.1 hx with rfl | hx
        · exact (vb_n n (d + 1) (s.drop 1) false).1
        · exact (vb_n n d _ _).2.1 x hx
      · exact fun x h => nomatch h
    · rw [entP]
      split
      · intro x hx
        rcases List.mem_cons.1 hx with rfl | hx
        · exact (vb_n n (d + 1) _ _).1
        · exact (vb_n n d _ _).2.2 x hx
      · exact fun x h => nomatch h
section
variable [G : Globs]
theorem s_Unpack (hu : HasU8) (s : Str) (hs : s.length ≤ 16777216) : PSpec Tryd.prog 12 [.rd .u8 (toI s)] (.tup [.agg (encVal (unpV s).1), .i .i64 (unpV s).2]) :=
  s_unpack hu s hs (fun n d s b => (vb_n n d s b).1) (siz_val _ _ _ _ hs)
end
end Go.Proofs.YtdcdmojbkmedpaaDoor
end
section
namespace Go.Proofs.YtdcdmojbkmedpaaDoor
set_option linter.unusedSectionVars false
set_option linter.unusedSimpArgs false
set_option linter.unusedVariables false
open Go Go.SX Go.Ck Go.Vl Go.Ut Go.Up Go.Pk
set_option maxRecDepth 100000
set_option maxHeartbeats 1000000
theorem hd_drop (s : Str) (i : Nat) : hd (s.drop i) = s.getD i 0 := by
  unfold hd
  rw [List.headD_eq_head?_getD, List.head?_drop, List.getD_eq_getElem?_getD]
/-- a text out of bytes, as the document tells it -/
def unchT (s : Str) : Str × Int := if (unch s).2.2 = true then ([], 0) else ((unch s).1, (s.length : Int) - (unch s).2.1.length)
theorem drop_two {s : Str} {i : Nat} (h : i + 1 < s.length) : s.drop i = s.getD i 0 :: s.getD (i + 1) 0 :: s.drop (i + 2) := by
  rw [List.drop_eq_getElem_cons (by omega), List.drop_eq_getElem_cons (by omega)]
  simp [List.getD_eq_getElem?_getD, List.getElem?_eq_getElem h, List.getElem?_eq_getElem (show i < s.length by omega)]
theorem drop_1 {s : Str} {i : Nat} (h : i + 1 < s.length) : s.drop (i + 1) = s.getD (i + 1) 0 :: s.drop (i + 2) := by
  rw [List.drop_eq_getElem_cons h]
  simp [List.getD_eq_getElem?_getD, List.getElem?_eq_getElem h]
theorem cut_one {s : Str} {i : Nat} (h : i + 1 < s.length) : ((s.take (Int.toNat ((i : Int) + 1))).drop (Int.toNat (i : Int))) = [s.getD i 0] := by
  have e : i + 1 - i = 1 := by omega
  rw [show Int.toNat ((i : Int) + 1) = i + 1 by omega, Int.toNat_natCast, List.drop_take, e, drop_two h]
  rfl
theorem unch_short : ∀ {s : Str}, s.length ≤ 1 → (unch s).2.2 = true
  | [], _ => by simp [unch]
  | [c], _ => by unfold unch; split <;> rfl
  | _ :: _ :: _, h => by simp at h
section
variable [G : Globs]
theorem w_numberR (s : Str) (hs : 8 ≤ s.length) : vc Tryd.prog Γ 17 [0, 2, 3, 4, 5, 6] (Tryd.f125.body.getD .skip) (postK Γ [.tmp 2] (fun v => v = .i .u64 (numF 8 0 s))) ⟨argSlots 0 [.s s], []⟩ := by
  refine Exists.intro [] (Exists.intro [] (Exists.intro [] (Exists.intro (Nat × Int) (Exists.intro (fun q => q.1 ≤ 8 ∧ 0 ≤ q.2 ∧ numF (8 - q.1) q.2 (s.drop q.1) = numF 8 0 s) (Exists.intro (fun ⟨i, n⟩ => ⟨[(0, .s s), (3, .i .u64 n), (5, .i .i64 (i : Int))], []⟩) (Exists.intro (fun q => 8 - q.1) (Exists.intro (0, 0) (And.intro ⟨Nat.zero_le _, Int.le_refl _, rfl⟩ (And.intro ?_ ?_)))))))))
  · (repeat' (first | exact trivial | exact Or.inl rfl | exact Or.inr (Or.inl ⟨rfl, _, rfl⟩) | exact Or.inr (Or.inr (Or.inr ⟨_, _, _, rfl, rfl⟩)) | refine And.intro ?_ ?_))
  · rintro ⟨i, n⟩ ⟨hi, hn, hI⟩
    simp only at hi hn hI
    refine And.intro (fun hz => ?_) (fun hz => ?_)
    · have hi : i < 8 := by have : (i : Int) < 8 := of_decide_eq_true hz
                            omega
      refine And.intro ⟨by omega, by omega⟩ ?_
      (refine And.intro (rng64 (by omega) (by omega)) ?_)
      rw [show 8 - i = (8 - (i + 1)) + 1 by omega, numF, List.drop_drop] at hI
      have hh := hd_nat (s.drop i)
      have hor : IntKind.u64.wrap (IntKind.u64.wrap (n * 256) + IntKind.u64.wrap (((s.getD (Int.toNat (i : Int)) 0).toNat : Nat) : Int)) = IntKind.u64.wrap (n * 256 + ((hd (s.drop i)).toNat : Nat)) := by
        rw [Int.toNat_natCast, ← hd_drop, IntKind.wrap_u64, IntKind.wrap_u64, IntKind.wrap_u64, IntKind.wrap_u64]
        omega
      refine Exists.intro [] (Exists.intro (i + 1, IntKind.u64.wrap (n * 256 + ((hd (s.drop i)).toNat : Nat))) (And.intro ⟨hi, by rw [IntKind.wrap_u64]; omega, hI⟩ (And.intro ?_ ?_)))
      · (repeat' (first | exact trivial | exact Or.inl rfl | exact Or.inl ((congrArg (AV.i .u64) hor)) | refine And.intro ?_ ?_))
      · show 8 - (i + 1) < 8 - i
        omega
    · have hi : i = 8 := by have : ¬ (i : Int) < 8 := of_decide_eq_false hz
                            omega
      subst hi
      exact congrArg (AV.i .u64) hI
theorem s_numberR (s : Str) (hs : 8 ≤ s.length) : PSpec Tryd.prog 125 [.s s] (.i .u64 (numF 8 0 s)) :=
  pspec_of_vc Γ_good Tryd.func125 rfl Tryd.call125 Tryd.results125 Tryd.ntmps125 (Nat.le_of_ble_eq_true rfl) (w_numberR s hs)
theorem w_unchainR (s : Str) (hs : s.length ≤ 16777216) : vc Tryd.prog Γ 41 [0, 2, 3, 4, 5, 10, 16, 28, 36] (Tryd.f126.body.getD .skip) (postK Γ [.tmp 2, .tmp 3] (fun v => v = .tup [.s (unchT s).1, .i .i64 (unchT s).2])) ⟨argSlots 0 [.s s], []⟩ := by
  refine Exists.intro [] (Exists.intro [] (Exists.intro [] (Exists.intro (Str × Nat) (Exists.intro (fun q => q.2 ≤ s.length ∧ q.1.length ≤ q.2 ∧ (q.1 ++ (unch (s.drop q.2)).1, (unch (s.drop q.2)).2) = unch s) (Exists.intro (fun ⟨o, i⟩ => ⟨[(0, .s s), (2, .s []), (3, .i .i64 0), (4, .s o), (5, .i .i64 (i : Int))], []⟩) (Exists.intro (fun q => s.length - q.2) (Exists.intro ([], 0) (And.intro ⟨Nat.zero_le _, Nat.le_refl _, rfl⟩ (And.intro ?_ ?_)))))))))
  · (repeat' (first | exact trivial | exact Or.inl rfl | exact Or.inr (Or.inl ⟨rfl, _, rfl⟩) | exact Or.inr (Or.inr (Or.inr ⟨_, _, _, rfl, rfl⟩)) | refine And.intro ?_ ?_))
  · rintro ⟨o, i⟩ ⟨hi, ho, hI⟩
    simp only at hi ho hI
    (refine And.intro (rng64 (by omega) (by omega)) ?_)
    intro _
    refine And.intro (fun hz => ?_) (fun hz => ?_)
    · have hi : i + 1 < s.length := by have : (i : Int) + 1 < (s.length : Int) := of_decide_eq_true hz
                                       omega
      rw [drop_two hi, unch] at hI
      refine And.intro ⟨by omega, by omega⟩ ?_
      refine And.intro (fun h0 => ?_) (fun h0 => ?_)
      · have c0 : s.getD i 0 ≠ 0 := fun hx => by
          have h0 : ((((s.getD i 0).toNat : Nat) : Int) != 0) = true := h0
          rw [hx] at h0
          exact absurd h0 (by decide)
        rw [if_neg c0, ← drop_1 hi] at hI
        (refine And.intro (rng64 (by omega) (by omega)) ?_)
        refine And.intro ⟨by omega, by omega, by omega⟩ ?_
        have e1 : ((s.take (Int.toNat ((i : Int) + 1))).drop (Int.toNat (i : Int))) = [s.getD i 0] := cut_one hi
        rw [e1]
        refine And.intro (show o.length + 1 ≤ maxLen by unfold maxLen; omega) ?_
        (refine And.intro (rng64 (by omega) (by omega)) ?_)
        refine Exists.intro [] (Exists.intro (o ++ [s.getD i 0], i + 1) (And.intro ⟨by omega, by simp only [List.length_append, List.length_cons, List.length_nil]; omega, by rw [← hI, List.append_assoc]; rfl⟩ (And.intro ?_ ?_)))
        · (repeat' (first | exact trivial | exact Or.inl rfl | exact Or.inr (Or.inl ⟨rfl, _, rfl⟩) | exact Or.inr (Or.inr (Or.inr ⟨_, _, _, rfl, rfl⟩)) | refine And.intro ?_ ?_))
        · show s.length - (i + 1) < s.length - i
          omega
      · have c0 : s.getD i 0 = 0 := by
          have h0 : ((((s.getD i 0).toNat : Nat) : Int) != 0) = false := h0
          exact UInt8.toNat_inj.1 (by simpa using h0)
        rw [if_pos c0] at hI
        (refine And.intro (rng64 (by omega) (by omega)) ?_)
        refine And.intro ⟨by omega, by omega⟩ ?_
        have hin : Int.toNat ((i : Int) + 1) = i + 1 := by omega
        rw [hin]
        refine And.intro (fun h1 => ?_) (fun h1 => ?_)
        · have d0 : s.getD (i + 1) 0 = 0 := u8_eq (eq_of_beq h1)
          rw [if_pos d0] at hI
          (refine And.intro (rng64 (by omega) (by omega)) ?_)
          unfold unchT
          rw [← hI]
          have hdl : (s.drop (i + 2)).length = s.length - (i + 2) := List.length_drop ..
          show AV.tup [.s o, .i .i64 ((i : Int) + 2)] = AV.tup [.s (o ++ []), .i .i64 ((s.length : Int) - (s.drop (i + 2)).length)]
          rw [List.append_nil, hdl, show (s.length : Int) - ((s.length - (i + 2) : Nat) : Int) = (i : Int) + 2 by omega]
        · have d0 : s.getD (i + 1) 0 ≠ 0 := fun hx => ne_of_beq_false h1 (by rw [hx]; rfl)
          rw [if_neg d0] at hI
          (refine And.intro (rng64 (by omega) (by omega)) ?_)
          refine And.intro ⟨by omega, by omega⟩ ?_
          rw [hin]
          refine And.intro (fun h2 => ?_) (fun h2 => ?_)
          · have d2 : s.getD (i + 1) 0 ≠ 255 := fun hx => bne_iff_ne.1 h2 (by rw [hx]; rfl)
            rw [if_neg d2] at hI
            unfold unchT
            rw [← hI]
            rfl
          · have d2 : s.getD (i + 1) 0 = 255 := u8_eq (by simpa using h2)
            rw [if_pos d2] at hI
            refine And.intro (show o.length + 1 ≤ maxLen by unfold maxLen; omega) ?_
            (repeat' (first | (refine And.intro (fun h => ?_) (fun h => ?_) <;> (try simp [-List.getD_eq_getElem?_getD, -Int.pred_toNat] at h) <;> (try (exfalso; first | omega | contradiction))) | (refine And.intro (rng64 (by omega) (by omega)) ?_) | (refine And.intro ⟨by omega, by omega⟩ ?_) | (refine And.intro ⟨by omega, by omega, by omega⟩ ?_) | (intro _)))
            refine Exists.intro [] (Exists.intro (o ++ [0], i + 2) (And.intro ⟨by omega, by simp only [List.length_append, List.length_cons, List.length_nil]; omega, by rw [← hI, List.append_assoc]; rfl⟩ (And.intro ?_ ?_)))
            · (repeat' (first | exact trivial | exact Or.inl rfl | exact Or.inl ((congrArg (AV.i .i64) (show (i : Int) + 1 + 1 = ((i + 2 : Nat) : Int) by omega))) | refine And.intro ?_ ?_))
            · show s.length - (i + 2) < s.length - i
              omega
    · have hi : s.length ≤ i + 1 := by have : ¬ (i : Int) + 1 < (s.length : Int) := of_decide_eq_false hz
                                       omega
      have hb : (unch s).2.2 = true := by
        rw [← hI]
        exact unch_short (by rw [List.length_drop]; omega)
      unfold unchT
      rw [if_pos hb]
      rfl
theorem s_unchainR (s : Str) (hs : s.length ≤ 16777216) : PSpec Tryd.prog 126 [.s s] (.tup [.s (unchT s).1, .i .i64 (unchT s).2]) :=
  pspec_of_vc Γ_good Tryd.func126 rfl Tryd.call126 Tryd.results126 Tryd.ntmps126 (Nat.le_of_ble_eq_true rfl) (w_unchainR s hs)
end
end Go.Proofs.YtdcdmojbkmedpaaDoor
end
section
namespace Go.Proofs.YtdcdmojbkmedpaaDoor
set_option linter.unusedSectionVars false
set_option linter.unusedSimpArgs false
set_option linter.unusedVariables false
open Go Go.SX Go.Ck Go.Vl Go.Ut Go.Up Go.Pk
set_option maxRecDepth 100000
set_option maxHeartbeats 1000000
theorem moreB_bad (s : Str) : moreB s true = false := by simp [moreB]
theorem lis_bad : ∀ (n : Nat) (d : Int) (s : Str), (lisP n d s true).2.2 = true
  | 0, _, _ => by rw [lisP]
  | n + 1, d, s => by rw [lisP, moreB_bad]; simp [moreX]
theorem ent_bad : ∀ (n : Nat) (d : Int) (s : Str), (entP n d s true).2.2 = true
  | 0, _, _ => by rw [entP]
  | n + 1, d, s => by rw [entP, moreB_bad]; simp [moreX]
/-- a value whose bytes err ahead of it, or that lies too deep, errs -/
theorem val_bad (n : Nat) (d : Int) (s : Str) (b : Bool) (h : b = true ∨ s = [] ∨ 1000 < d) : (valP n d s b).2.2 = true := by
  cases n with
  | zero => rw [valP]
  | succ n =>
    have hB : ((b || s.isEmpty) || decide (1000 < d)) = true := by
      rcases h with h | h | h
      · rw [h]; simp
      · rw [h]; simp
      · rw [decide_eq_true h]; simp
    rw [valP]
    simp only [hB]
    repeat' split
    all_goals first | rfl | exact lis_bad _ _ _ | exact ent_bad _ _ _ | simp [chF]
/-- a value that does not err takes a byte at least -/
theorem val_lt (n : Nat) (d : Int) (s : Str) (b : Bool) (h : (valP n d s b).2.2 = false) : (valP n d s b).2.1.length < s.length := by
  cases n with
  | zero => rw [valP] at h; cases h
  | succ n =>
    have hs : s ≠ [] := fun e => by rw [val_bad _ _ _ _ (Or.inr (Or.inl e))] at h; cases h
    have hp : 0 < s.length := List.length_pos_iff.2 hs
    have hl := (rest_n n d (s.drop 1) ((b || s.isEmpty) || decide (1000 < d))).2
    have hc := chF_len ((b || s.isEmpty) || decide (1000 < d)) [] (s.drop 1)
    have hdl : (s.drop 1).length = s.length - 1 := List.length_drop ..
    rw [valP]
    simp only
    split
    · simp only; omega
    split
    · simp only [List.length_drop]; omega
    split
    · simp only [List.length_drop]; omega
    split
    · simp only [List.length_drop]; omega
    split
    · simp only; omega
    split
    · simp only; omega
    split
    · simp only; omega
    · simp only; omega
end Go.Proofs.YtdcdmojbkmedpaaDoor
end
section
namespace Go.Proofs.YtdcdmojbkmedpaaDoor
set_option linter.unusedSectionVars false
set_option linter.unusedSimpArgs false
set_option linter.unusedVariables false
open Go Go.SX Go.Ck Go.Vl Go.Ut Go.Up Go.Pk
set_option maxRecDepth 100000
set_option maxHeartbeats 1000000
/-- a value at the front, and how many bytes, as the document tells it -/
def unpD (n : Nat) (d : Int) (s : Str) : Val × Int := if (valP n d s false).2.2 = true then (zeroV, 0) else ((valP n d s false).1, (s.length : Int) - (valP n d s false).2.1.length)
theorem unch_lt : ∀ {s : Str}, (unch s).2.2 ≠ true → (unch s).2.1.length < s.length
  | [], h => absurd (by simp [unch]) h
  | [c], h => absurd (unch_short (s := [c]) (Nat.le_refl 1)) h
  | c :: d :: r, h => by
    have h1 := unch_len r
    have h2 := unch_len (d :: r)
    rw [unch]
    split
    · split
      · simp only [List.length_cons]; omega
      · split
        · simp only [List.length_cons]; omega
        · simp only [List.length_cons]; omega
    · simp only [List.length_cons] at h2 ⊢; omega
/-- what is left is an end of what was there -/
def SufL (r s : Str) : Prop := s.drop (s.length - r.length) = r
theorem sufL_drop (s : Str) (k : Nat) : SufL (s.drop k) s := by
  unfold SufL
  rw [List.length_drop]
  by_cases h : k ≤ s.length
  · rw [show s.length - (s.length - k) = k by omega]
  · rw [List.drop_eq_nil_of_le (by omega), List.drop_eq_nil_of_le (by omega)]
theorem SufL.of {r s : Str} (h : ∃ k, r = s.drop k) : SufL r s := by obtain ⟨k, rfl⟩ := h; exact sufL_drop s k
theorem unch_suf : ∀ s : Str, ∃ k, (unch s).2.1 = s.drop k
  | [] => ⟨0, by simp [unch]⟩
  | [c] => by
    unfold unch
    split
    · exact ⟨1, rfl⟩
    · exact ⟨1, rfl⟩
  | c :: d :: r => by
    obtain ⟨k1, h1⟩ := unch_suf r
    obtain ⟨k2, h2⟩ := unch_suf (d :: r)
    rw [unch]
    split
    · split
      · exact ⟨2, rfl⟩
      · split
        · exact ⟨k1 + 2, h1⟩
        · exact ⟨2, rfl⟩
    · exact ⟨k2 + 1, h2⟩
theorem chF_suf (b : Bool) (o s : Str) : ∃ k, (chF b o s).2.1 = s.drop k := by
  unfold chF
  split
  · exact ⟨0, rfl⟩
  · exact unch_suf s
theorem sufE_n : ∀ (n : Nat) (d : Int) (s : Str) (b : Bool), (∃ k, (valP n d s b).2.1 = s.drop k) ∧ (∃ k, (lisP n d s b).2.1 = s.drop k) ∧ (∃ k, (entP n d s b).2.1 = s.drop k)
  | 0, d, s, b => by rw [valP, lisP, entP]; exact ⟨⟨0, rfl⟩, ⟨0, rfl⟩, ⟨0, rfl⟩⟩
  | n + 1, d, s, b => by
    refine ⟨?_, ?_, ?_⟩
    · rw [valP]
      obtain ⟨_, ⟨k1, hl⟩, ⟨k2, he⟩⟩ := sufE_n n d (s.drop 1) ((b || s.isEmpty) || decide (1000 < d))
      obtain ⟨k3, hc⟩ := chF_suf ((b || s.isEmpty) || decide (1000 < d)) [] (s.drop 1)
      simp only
      split
      · exact ⟨1, rfl⟩
      split
      · exact ⟨1 + 1, List.drop_drop⟩
      split
      · exact ⟨1 + 8, List.drop_drop⟩
      split
      · exact ⟨1 + 8, List.drop_drop⟩
      split
      · exact ⟨1 + k3, hc.trans List.drop_drop⟩
      split
      · exact ⟨1 + k1, hl.trans List.drop_drop⟩
      split
      · exact ⟨1 + k2, he.trans List.drop_drop⟩
      · exact ⟨1, rfl⟩
    · rw [lisP]
      split
      · obtain ⟨k1, h1⟩ := (sufE_n n (d + 1) (s.drop 1) false).1
        obtain ⟨k2, h2⟩ := (sufE_n n d (valP n (d + 1) (s.drop 1) false).2.1 (valP n (d + 1) (s.drop 1) false).2.2).2.1
        exact ⟨1 + k1 + k2, h2.trans (by rw [h1, List.drop_drop, List.drop_drop, Nat.add_assoc])⟩
      · exact ⟨1, rfl⟩
    · rw [entP]
      split
      · obtain ⟨k0, h0⟩ := chF_suf false [] (s.drop 1)
        obtain ⟨k1, h1⟩ := (sufE_n n (d + 1) (chF false [] (s.drop 1)).2.1 (chF false [] (s.drop 1)).2.2).1
        obtain ⟨k2, h2⟩ := (sufE_n n d (valP n (d + 1) (chF false [] (s.drop 1)).2.1 (chF false [] (s.drop 1)).2.2).2.1 (valP n (d + 1) (chF false [] (s.drop 1)).2.1 (chF false [] (s.drop 1)).2.2).2.2).2.2
        exact ⟨1 + k0 + k1 + k2, h2.trans (by rw [h1, h0, List.drop_drop, List.drop_drop, List.drop_drop]; simp only [Nat.add_assoc])⟩
      · exact ⟨1, rfl⟩
theorem suf_n (n : Nat) (d : Int) (s : Str) (b : Bool) : SufL (valP n d s b).2.1 s ∧ SufL (lisP n d s b).2.1 s ∧ SufL (entP n d s b).2.1 s :=
  ⟨.of (sufE_n n d s b).1, .of (sufE_n n d s b).2.1, .of (sufE_n n d s b).2.2⟩
section
variable [G : Globs]
theorem w_unpk (n : Nat) (d : Int) (s : Str) (hd0 : 0 ≤ d) (hd1 : d ≤ 1001) (hs : s.length ≤ 16777216) (hn : s.length ≤ n) (hc : d ≤ 1000 → ∀ (m : Nat) (s : Str), m < n → s.length < m → s.length ≤ 16777216 → PSpec Tryd.prog 57 [.s s, .i .i64 (d + 1)] (.tup [.agg (encVal (unpD m (d + 1) s).1), .i .i64 (unpD m (d + 1) s).2])) : vc Tryd.prog Γ 166 [0, 1, 4, 5, 6, 7, 8, 9, 10, 11, 12, 13, 14, 15, 16, 32, 40, 41, 44, 48, 55, 60, 67, 73, 81, 90, 106, 114, 119, 128, 144, 151] (Tryd.f57.body.getD .skip) (postK Γ [.cell 4 26, .tmp 5] (fun v => RL v (.tup [.agg (encVal (unpD (n + 1) d s).1), .i .i64 (unpD (n + 1) d s).2]))) ⟨argSlots 0 [.s s, .i .i64 d], []⟩ := by
  by_cases hz : s = []
  · have e : unpD (n + 1) d s = (zeroV, 0) := by unfold unpD; rw [if_pos (val_bad _ _ _ _ (Or.inr (Or.inl hz)))]
    rw [e]
    subst hz
    (repeat' (first | (refine And.intro (fun h => ?_) (fun h => ?_) <;> (try simp [-List.getD_eq_getElem?_getD, -Int.pred_toNat] at h) <;> (try (exfalso; first | omega | contradiction))) | (refine And.intro (rng64 (by omega) (by omega)) ?_) | (refine And.intro ⟨by omega, by omega⟩ ?_) | (refine And.intro ⟨by omega, by omega, by omega⟩ ?_) | (intro _)))
    (repeat' (first | exact trivial | exact Or.inl rfl | exact Or.inr ⟨rfl, _, rfl⟩ | refine And.intro ?_ ?_))
  by_cases hdd : 1000 < d
  · have e : unpD (n + 1) d s = (zeroV, 0) := by unfold unpD; rw [if_pos (val_bad _ _ _ _ (Or.inr (Or.inr hdd)))]
    rw [e]
    (repeat' (first | (refine And.intro (fun h => ?_) (fun h => ?_) <;> (try simp [-List.getD_eq_getElem?_getD, -Int.pred_toNat] at h) <;> (try (exfalso; first | omega | contradiction))) | (refine And.intro (rng64 (by omega) (by omega)) ?_) | (refine And.intro ⟨by omega, by omega⟩ ?_) | (refine And.intro ⟨by omega, by omega, by omega⟩ ?_) | (intro _)))
    (repeat' (first | exact trivial | exact Or.inl rfl | exact Or.inr ⟨rfl, _, rfl⟩ | refine And.intro ?_ ?_))
  have hp : 0 < s.length := List.length_pos_iff.2 hz
  have hh := hd_nat s
  have hg : s.getD (Int.toNat 0) 0 = hd s := by rw [show Int.toNat 0 = 0 from rfl, ← hd_drop, List.drop_zero]
  have hgn : (s.getD 0 0).toNat = (hd s).toNat := congrArg UInt8.toNat hg
  by_cases hk : (hd s).toNat < 1 ∨ 7 < (hd s).toNat
  · have e : unpD (n + 1) d s = (zeroV, 0) := by
      unfold unpD
      rw [if_pos]
      rw [valP]
      simp only
      rw [if_neg (by omega), if_neg (by omega), if_neg (by omega), if_neg (by omega), if_neg (by omega), if_neg (by omega), if_neg (by omega)]
    rw [e]
    (repeat' (first | (refine And.intro (fun h => ?_) (fun h => ?_) <;> (try simp [-List.getD_eq_getElem?_getD, -Int.pred_toNat] at h) <;> (try (exfalso; first | omega | contradiction))) | (refine And.intro (rng64 (by omega) (by omega)) ?_) | (refine And.intro ⟨by omega, by omega⟩ ?_) | (refine And.intro ⟨by omega, by omega, by omega⟩ ?_) | (intro _)))
    all_goals (repeat' (first | exact trivial | exact Or.inl rfl | exact Or.inr ⟨rfl, _, rfl⟩ | refine And.intro ?_ ?_))
  (repeat' (first | (refine And.intro (fun h => ?_) (fun h => ?_) <;> (try simp [-List.getD_eq_getElem?_getD, -Int.pred_toNat] at h) <;> (try (exfalso; first | omega | contradiction))) | (refine And.intro (rng64 (by omega) (by omega)) ?_) | (refine And.intro ⟨by omega, by omega⟩ ?_) | (refine And.intro ⟨by omega, by omega, by omega⟩ ?_) | (intro _)))
  have hw : IntKind.i64.wrap (((s.getD (Int.toNat 0) 0).toNat : Nat) : Int) = ((hd s).toNat : Nat) := by rw [hg, IntKind.wrap_i64]; omega
  have hB : ((false || s.isEmpty) || decide (1000 < d)) = false := by
    rw [decide_eq_false hdd, Bool.or_false, Bool.false_or]
    cases s with
    | nil => exact absurd rfl hz
    | cons _ _ => rfl
  obtain ⟨T, hT⟩ : ∃ T, T = s.drop 1 := ⟨_, rfl⟩
  have hTl : T.length = s.length - 1 := by rw [hT, List.length_drop]
  obtain ⟨K, hK⟩ : ∃ K : Int, K = ((hd s).toNat : Int) - 1 := ⟨_, rfl⟩
  obtain ⟨R, hR⟩ : ∃ R, R = valP (n + 1) d s false := ⟨_, rfl⟩
  have hE := hR
  rw [valP] at hE
  simp only [← hK, ← hT, hB] at hE
  unfold unpD
  rw [← hR]
  (refine And.intro (rng64 (by omega) (by omega)) ?_)
  rw [hw, ← hK]
  rcases (show K = 0 ∨ K = 1 ∨ K = 2 ∨ K = 3 ∨ K = 4 ∨ K = 5 ∨ K = 6 by omega) with h | h | h | h | h | h | h
  · rw [h, if_pos rfl] at hE
    (repeat' (first | (refine And.intro (fun h => ?_) (fun h => ?_) <;> (try simp [-List.getD_eq_getElem?_getD, -Int.pred_toNat] at h) <;> (try (exfalso; first | omega | contradiction))) | (refine And.intro (rng64 (by omega) (by omega)) ?_) | (refine And.intro ⟨by omega, by omega⟩ ?_) | (refine And.intro ⟨by omega, by omega, by omega⟩ ?_) | (intro _)))
    rw [hE, if_neg Bool.false_ne_true, h]
    simp only
    rw [show (s.length : Int) - (T.length : Int) = 1 by omega]
    (repeat' (first | exact trivial | exact Or.inl rfl | exact Or.inr ⟨rfl, _, rfl⟩ | refine And.intro ?_ ?_))
  · rw [h, if_neg (by decide), if_pos rfl, Bool.false_or] at hE
    have h0 : T.length = 0 ↔ T.isEmpty = true := by rw [List.isEmpty_iff, List.length_eq_zero_iff]
    by_cases ht : T.isEmpty = true
    · rw [hE, if_pos ht]
      have := h0.2 ht
      (repeat' (first | (refine And.intro (fun h => ?_) (fun h => ?_) <;> (try simp [-List.getD_eq_getElem?_getD, -Int.pred_toNat] at h) <;> (try (exfalso; first | omega | contradiction))) | (refine And.intro (rng64 (by omega) (by omega)) ?_) | (refine And.intro ⟨by omega, by omega⟩ ?_) | (refine And.intro ⟨by omega, by omega, by omega⟩ ?_) | (intro _)))
      (repeat' (first | exact trivial | exact Or.inl rfl | exact Or.inr ⟨rfl, _, rfl⟩ | refine And.intro ?_ ?_))
    · rw [hE, if_neg ht, h]
      have ht : ¬ T.length = 0 := fun hx => ht (h0.1 hx)
      have hg1 : s.getD (Int.toNat 1) 0 = hd T := by rw [hT, hd_drop]; rfl
      have hT2 := hd_nat T
      have hwT : IntKind.i64.wrap (((s.getD (Int.toNat 1) 0).toNat : Nat) : Int) = ((hd T).toNat : Nat) := by rw [hg1, IntKind.wrap_i64]; omega
      (repeat' (first | (refine And.intro (fun h => ?_) (fun h => ?_) <;> (try simp [-List.getD_eq_getElem?_getD, -Int.pred_toNat] at h) <;> (try (exfalso; first | omega | contradiction))) | (refine And.intro (rng64 (by omega) (by omega)) ?_) | (refine And.intro ⟨by omega, by omega⟩ ?_) | (refine And.intro ⟨by omega, by omega, by omega⟩ ?_) | (intro _)))
      have hdl : (T.drop 1).length = T.length - 1 := List.length_drop ..
      exact And.intro ⟨.inl rfl, .inl (congrArg (AV.i .i64) hwT), .inl rfl, .inl rfl, .inr ⟨rfl, _, rfl⟩, .inr ⟨rfl, _, rfl⟩, trivial⟩ ⟨.inl (congrArg (AV.i .i64) (show (2 : Int) = (s.length : Int) - ((T.drop 1).length : Nat) by omega)), trivial⟩
  · rw [h, if_neg (by decide), if_neg (by decide), if_pos rfl, Bool.false_or] at hE
    have hts : (s.take (Int.toNat (s.length : Int))).drop (Int.toNat 1) = T := by rw [Int.toNat_natCast, List.take_length, hT]; rfl
    by_cases ht : T.length < 8
    · rw [hE, if_pos (decide_eq_true ht)]
      (repeat' (first | (refine And.intro (fun h => ?_) (fun h => ?_) <;> (try simp [-List.getD_eq_getElem?_getD, -Int.pred_toNat] at h) <;> (try (exfalso; first | omega | contradiction))) | (refine And.intro (rng64 (by omega) (by omega)) ?_) | (refine And.intro ⟨by omega, by omega⟩ ?_) | (refine And.intro ⟨by omega, by omega, by omega⟩ ?_) | (intro _)))
      (repeat' (first | exact trivial | exact Or.inl rfl | exact Or.inr ⟨rfl, _, rfl⟩ | refine And.intro ?_ ?_))
    · rw [hE, if_neg (by rw [decide_eq_false ht]; exact Bool.false_ne_true), h]
      have hq := s_numberR T (by omega)
      obtain ⟨f0, f1⟩ := numF_rng 8 (n := 0) (s := T) (by decide) (by decide)
      have hx : IntKind.i64.wrap (IntKind.u64.wrap (numF 8 0 T - 9223372036854775808)) = IntKind.i64.wrap (bits .xor .u64 (numF 8 0 T) 9223372036854775808) := by
        rw [xor_flip f0 f1, IntKind.wrap_u64, IntKind.wrap_u64]
        congr 1
        omega
      have hdl : (T.drop 8).length = T.length - 8 := List.length_drop ..
      (repeat' (first | (refine And.intro (fun h => ?_) (fun h => ?_) <;> (try simp [-List.getD_eq_getElem?_getD, -Int.pred_toNat] at h) <;> (try (exfalso; first | omega | contradiction))) | (refine And.intro (rng64 (by omega) (by omega)) ?_) | (refine And.intro ⟨by omega, by omega⟩ ?_) | (refine And.intro ⟨by omega, by omega, by omega⟩ ?_) | (intro _)))
      rw [hts]
      refine Or.inl (Exists.intro _ (And.intro (hq) ?_))
      (repeat' (first | (refine And.intro (fun h => ?_) (fun h => ?_) <;> (try simp [-List.getD_eq_getElem?_getD, -Int.pred_toNat] at h) <;> (try (exfalso; first | omega | contradiction))) | (refine And.intro (rng64 (by omega) (by omega)) ?_) | (refine And.intro ⟨by omega, by omega⟩ ?_) | (refine And.intro ⟨by omega, by omega, by omega⟩ ?_) | (intro _)))
      exact And.intro ⟨.inl rfl, .inl (congrArg (AV.i .i64) hx), .inl rfl, .inl rfl, .inr ⟨rfl, _, rfl⟩, .inr ⟨rfl, _, rfl⟩, trivial⟩ ⟨.inl (congrArg (AV.i .i64) (show (9 : Int) = (s.length : Int) - ((T.drop 8).length : Nat) by omega)), trivial⟩
  · rw [h, if_neg (by decide), if_neg (by decide), if_neg (by decide), if_pos rfl, Bool.false_or] at hE
    have hts : (s.take (Int.toNat (s.length : Int))).drop (Int.toNat 1) = T := by rw [Int.toNat_natCast, List.take_length, hT]; rfl
    by_cases ht : T.length < 8
    · rw [hE, if_pos (decide_eq_true ht)]
      (repeat' (first | (refine And.intro (fun h => ?_) (fun h => ?_) <;> (try simp [-List.getD_eq_getElem?_getD, -Int.pred_toNat] at h) <;> (try (exfalso; first | omega | contradiction))) | (refine And.intro (rng64 (by omega) (by omega)) ?_) | (refine And.intro ⟨by omega, by omega⟩ ?_) | (refine And.intro ⟨by omega, by omega, by omega⟩ ?_) | (intro _)))
      (repeat' (first | exact trivial | exact Or.inl rfl | exact Or.inr ⟨rfl, _, rfl⟩ | refine And.intro ?_ ?_))
    · rw [hE, if_neg (by rw [decide_eq_false ht]; exact Bool.false_ne_true), h]
      have hq := s_numberR T (by omega)
      obtain ⟨f0, f1⟩ := numF_rng 8 (n := 0) (s := T) (by decide) (by decide)
      have hdl : (T.drop 8).length = T.length - 8 := List.length_drop ..
      have hF : flipR (numF 8 0 T) = if numF 8 0 T < 9223372036854775808 then 18446744073709551615 - numF 8 0 T else numF 8 0 T - 9223372036854775808 := rfl
      generalize flipR (numF 8 0 T) = z at hF
      generalize numF 8 0 T = f at hq f0 f1 hF
      (repeat' (first | (refine And.intro (fun h => ?_) (fun h => ?_) <;> (try simp [-List.getD_eq_getElem?_getD, -Int.pred_toNat] at h) <;> (try (exfalso; first | omega | contradiction))) | (refine And.intro (rng64 (by omega) (by omega)) ?_) | (refine And.intro ⟨by omega, by omega⟩ ?_) | (refine And.intro ⟨by omega, by omega, by omega⟩ ?_) | (intro _)))
      rw [hts]
      refine Or.inl (Exists.intro _ (And.intro (hq) ?_))
      refine And.intro (fun h9 => absurd h9 (by decide)) (fun _ => ?_)
      refine And.intro (fun h9 => ?_) (fun h9 => ?_)
      · have h9 : 9223372036854775808 ≤ f := of_decide_eq_true h9
        have hx : IntKind.u64.wrap (f - 9223372036854775808) = z := by rw [hF, if_neg (by omega), IntKind.wrap_u64]; omega
        exact And.intro ⟨.inl rfl, .inl rfl, .inl (congrArg (AV.i .u64) hx), .inl rfl, .inr ⟨rfl, _, rfl⟩, .inr ⟨rfl, _, rfl⟩, trivial⟩ ⟨.inl (congrArg (AV.i .i64) (show (9 : Int) = (s.length : Int) - ((T.drop 8).length : Nat) by omega)), trivial⟩
      · have h9 : ¬ 9223372036854775808 ≤ f := of_decide_eq_false h9
        have hx : IntKind.u64.wrap (18446744073709551615 - f) = z := by rw [hF, if_pos (by omega), IntKind.wrap_u64]; omega
        exact And.intro ⟨.inl rfl, .inl rfl, .inl (congrArg (AV.i .u64) hx), .inl rfl, .inr ⟨rfl, _, rfl⟩, .inr ⟨rfl, _, rfl⟩, trivial⟩ ⟨.inl (congrArg (AV.i .i64) (show (9 : Int) = (s.length : Int) - ((T.drop 8).length : Nat) by omega)), trivial⟩
  · rw [h, if_neg (by decide), if_neg (by decide), if_neg (by decide), if_neg (by decide), if_pos rfl] at hE
    have hq := s_unchainR T (by omega)
    have hcf : chF false [] T = unch T := by simp [chF]
    rw [hcf] at hE
    have hts : (s.take (Int.toNat (s.length : Int))).drop (Int.toNat 1) = T := by rw [Int.toNat_natCast, List.take_length, hT]; rfl
    by_cases hu : (unch T).2.2 = true
    · rw [hE, if_pos hu]
      unfold unchT at hq
      rw [if_pos hu] at hq
      (repeat' (first | (refine And.intro (fun h => ?_) (fun h => ?_) <;> (try simp [-List.getD_eq_getElem?_getD, -Int.pred_toNat] at h) <;> (try (exfalso; first | omega | contradiction))) | (refine And.intro (rng64 (by omega) (by omega)) ?_) | (refine And.intro ⟨by omega, by omega⟩ ?_) | (refine And.intro ⟨by omega, by omega, by omega⟩ ?_) | (intro _)))
      rw [hts]
      refine Or.inl (Exists.intro _ (And.intro (hq) ?_))
      (repeat' (first | (refine And.intro (fun h => ?_) (fun h => ?_) <;> (try simp [-List.getD_eq_getElem?_getD, -Int.pred_toNat] at h) <;> (try (exfalso; first | omega | contradiction))) | (refine And.intro (rng64 (by omega) (by omega)) ?_) | (refine And.intro ⟨by omega, by omega⟩ ?_) | (refine And.intro ⟨by omega, by omega, by omega⟩ ?_) | (intro _)))
      (repeat' (first | exact trivial | exact Or.inl rfl | exact Or.inr ⟨rfl, _, rfl⟩ | refine And.intro ?_ ?_))
    · rw [hE, if_neg hu, h]
      unfold unchT at hq
      rw [if_neg hu] at hq
      have hlt := unch_lt hu
      have hle : T.length ≤ 16777216 := by omega
      generalize unch T = q at hq hlt
      (repeat' (first | (refine And.intro (fun h => ?_) (fun h => ?_) <;> (try simp [-List.getD_eq_getElem?_getD, -Int.pred_toNat] at h) <;> (try (exfalso; first | omega | contradiction))) | (refine And.intro (rng64 (by omega) (by omega)) ?_) | (refine And.intro ⟨by omega, by omega⟩ ?_) | (refine And.intro ⟨by omega, by omega, by omega⟩ ?_) | (intro _)))
      rw [hts]
      refine Or.inl (Exists.intro _ (And.intro (hq) ?_))
      refine And.intro (fun h9 => ?_) (fun _ => ?_)
      · exfalso
        have h9 : (T.length : Int) - (q.2.1.length : Nat) = 0 := eq_of_beq h9
        omega
      (refine And.intro (rng64 (by omega) (by omega)) ?_)
      exact And.intro ⟨.inl rfl, .inl rfl, .inl rfl, .inl rfl, .inr ⟨rfl, _, rfl⟩, .inr ⟨rfl, _, rfl⟩, trivial⟩ ⟨.inl (congrArg (AV.i .i64) (show (T.length : Int) - (q.2.1.length : Nat) + 1 = (s.length : Int) - (q.2.1.length : Nat) by omega)), trivial⟩
  · rw [h, if_neg (by decide), if_neg (by decide), if_neg (by decide), if_neg (by decide), if_neg (by decide), if_pos rfl] at hE
    have hK5 := h
    (repeat' (first | (refine And.intro (fun h => ?_) (fun h => ?_) <;> (try simp [-List.getD_eq_getElem?_getD, -Int.pred_toNat] at h) <;> (try (exfalso; first | omega | contradiction))) | (refine And.intro (rng64 (by omega) (by omega)) ?_) | (refine And.intro ⟨by omega, by omega⟩ ?_) | (refine And.intro ⟨by omega, by omega, by omega⟩ ?_) | (intro _)))
    refine Exists.intro [] (Exists.intro [(7, 4, 167, .val)] (Exists.intro [] (Exists.intro (List Val × Nat × Nat) (Exists.intro (fun q => 1 ≤ q.2.1 ∧ q.2.1 ≤ s.length ∧ q.1.length ≤ q.2.1 ∧ s.length - q.2.1 < q.2.2 ∧ q.2.2 ≤ n ∧ (q.1 ++ (lisP q.2.2 d (s.drop q.2.1) false).1, (lisP q.2.2 d (s.drop q.2.1) false).2) = lisP n d T false) (Exists.intro (fun ⟨acc, at', m⟩ => ⟨[(0, .s s), (1, .i .i64 d), (4, .pt 4 0), (5, .i .i64 0), (6, .pt 6 0), (7, .pt 7 0), (11, .i .i64 (at' : Int))], [(4, [.i .i64 0, .i .i64 0, .i .u64 0, .s [], .nl, .nl]), (6, [.i .i64 0, .i .i64 0, .i .u64 0, .s [], .nl, .nl]), (7, [.i .i64 K, .i .i64 0, .i .u64 0, .s [], .vec 167 .val acc, .nl])]⟩) (Exists.intro (fun q => q.2.2) (Exists.intro ([], 1, n) (And.intro ⟨Nat.le_refl _, hp, Nat.zero_le _, by simp only; omega, Nat.le_refl _, by rw [hT]; rfl⟩ (And.intro ?_ ?_)))))))))
    · (repeat' (first | exact trivial | exact Or.inl rfl | exact Or.inr (Or.inl ⟨rfl, _, rfl⟩) | exact Or.inr (Or.inr (Or.inr ⟨_, _, _, rfl, rfl⟩)) | refine And.intro ?_ ?_))
    · rintro ⟨acc, i, m⟩ ⟨hi1, hi, hal, hm, hmn, hI⟩
      simp only at hi1 hi hal hm hmn hI
      obtain ⟨m, rfl⟩ : ∃ k, m = k + 1 := ⟨m - 1, by omega⟩
      have hgi : s.getD (Int.toNat (i : Int)) 0 = hd (s.drop i) := by rw [hd_drop, Int.toNat_natCast]
      have hgi2 : s.getD i 0 = hd (s.drop i) := by rw [hd_drop]
      have hgn2 : (s.getD i 0).toNat = (hd (s.drop i)).toNat := congrArg UInt8.toNat hgi2
      by_cases hA : s.length ≤ i ∨ 1 < (hd (s.drop i)).toNat
      · have hfl : (lisP (m + 1) d (s.drop i) false).2.2 = true := by
          have hX : moreX (s.drop i) false = true := by
            unfold moreX
            rcases hA with hA | hA
            · rw [List.drop_eq_nil_of_le hA]; rfl
            · rw [decide_eq_true (show 1 < hd (s.drop i) from UInt8.lt_iff_toNat_lt.2 hA), Bool.or_true]
          have hM : moreB (s.drop i) false = false := by
            unfold moreX at hX
            unfold moreB
            rw [hX]; simp
          rw [lisP, hM]
          exact hX
        have hR2 : R.2.2 = true := by rw [hE]; show (lisP n d T false).2.2 = true; rw [← hI]; exact hfl
        rw [if_pos hR2]
        (repeat' (first | (refine And.intro (fun h => ?_) (fun h => ?_) <;> (try simp [-List.getD_eq_getElem?_getD, -Int.pred_toNat] at h) <;> (try (exfalso; first | omega | contradiction))) | (refine And.intro (rng64 (by omega) (by omega)) ?_) | (refine And.intro ⟨by omega, by omega⟩ ?_) | (refine And.intro ⟨by omega, by omega, by omega⟩ ?_) | (intro _)))
        all_goals (repeat' (first | exact trivial | exact Or.inl rfl | exact Or.inr ⟨rfl, _, rfl⟩ | refine And.intro ?_ ?_))
      have hi2 : i < s.length := by omega
      have hdl : (s.drop i).length = s.length - i := List.length_drop ..
      have hne : (s.drop i).isEmpty = false := by
        cases hr : s.drop i with
        | nil => rw [hr] at hdl; simp at hdl; omega
        | cons _ _ => rfl
      have hX : moreX (s.drop i) false = false := by
        unfold moreX
        rw [hne, decide_eq_false (fun hx : 1 < hd (s.drop i) => hA (Or.inr (UInt8.lt_iff_toNat_lt.1 hx)))]; rfl
      by_cases h0 : (hd (s.drop i)).toNat = 0
      · have hM : moreB (s.drop i) false = false := by
          unfold moreB
          rw [decide_eq_false (fun hx : hd (s.drop i) = 1 => by rw [hx] at h0; exact absurd h0 (by decide))]; rfl
        rw [lisP, hM, hX] at hI
        have hR2 : ¬ R.2.2 = true := by rw [hE]; show ¬ (lisP n d T false).2.2 = true; rw [← hI]; exact Bool.false_ne_true
        rw [if_neg hR2, hE, ← hI, hK5]
        have hd1 : ((s.drop i).drop 1).length = s.length - i - 1 := by rw [List.length_drop, hdl]
        (repeat' (first | (refine And.intro (fun h => ?_) (fun h => ?_) <;> (try simp [-List.getD_eq_getElem?_getD, -Int.pred_toNat] at h) <;> (try (exfalso; first | omega | contradiction))) | (refine And.intro (rng64 (by omega) (by omega)) ?_) | (refine And.intro ⟨by omega, by omega⟩ ?_) | (refine And.intro ⟨by omega, by omega, by omega⟩ ?_) | (intro _)))
        exact And.intro ⟨.inl rfl, .inl rfl, .inl rfl, .inl rfl, .inl (congrArg (AV.rd .val) (List.append_nil acc).symm), .inr ⟨rfl, _, rfl⟩, trivial⟩ ⟨.inl (congrArg (AV.i .i64) (show (i : Int) + 1 = (s.length : Int) - (((s.drop i).drop 1).length : Nat) by omega)), trivial⟩
      have h01 : (hd (s.drop i)).toNat = 1 := by omega
      have hM : moreB (s.drop i) false = true := by
        unfold moreX at hX
        unfold moreB
        rw [hX, decide_eq_true (show hd (s.drop i) = 1 from UInt8.toNat_inj.1 (by rw [h01]; rfl))]; rfl
      obtain ⟨U, hU⟩ : ∃ U, U = (s.drop i).drop 1 := ⟨_, rfl⟩
      have hUl : U.length = s.length - i - 1 := by rw [hU, List.length_drop, hdl]
      rw [lisP, if_pos hM, ← hU] at hI
      have hd2 : d ≤ 1000 := by omega
      have hh := hc hd2 m U (by omega) (by omega) (by omega)
      have hrl := (rest_n m (d + 1) U false).1
      have hvl := val_lt m (d + 1) U false
      have hsuf := (suf_n m (d + 1) U false).1
      have hus : (s.take (Int.toNat (s.length : Int))).drop (Int.toNat ((i : Int) + 1)) = U := by rw [Int.toNat_natCast, List.take_length, hU, List.drop_drop]; congr 1
      unfold unpD at hh
      simp only at hI
      generalize valP m (d + 1) U false = x at hh hI hrl hvl hsuf
      (repeat' (first | (refine And.intro (fun h => ?_) (fun h => ?_) <;> (try simp [-List.getD_eq_getElem?_getD, -Int.pred_toNat] at h) <;> (try (exfalso; first | omega | contradiction))) | (refine And.intro (rng64 (by omega) (by omega)) ?_) | (refine And.intro ⟨by omega, by omega⟩ ?_) | (refine And.intro ⟨by omega, by omega, by omega⟩ ?_) | (intro _)))
      rw [hus]
      by_cases hf : x.2.2 = true
      · rw [if_pos hf] at hh
        have hR2 : R.2.2 = true := by rw [hE]; show (lisP n d T false).2.2 = true; rw [← hI]; show (lisP m d x.2.1 x.2.2).2.2 = true; rw [hf]; exact lis_bad _ _ _
        rw [if_pos hR2]
        refine Or.inl (Exists.intro _ (And.intro (hh) ?_))
        (repeat' (first | (refine And.intro (fun h => ?_) (fun h => ?_) <;> (try simp [-List.getD_eq_getElem?_getD, -Int.pred_toNat] at h) <;> (try (exfalso; first | omega | contradiction))) | (refine And.intro (rng64 (by omega) (by omega)) ?_) | (refine And.intro ⟨by omega, by omega⟩ ?_) | (refine And.intro ⟨by omega, by omega, by omega⟩ ?_) | (intro _)))
        (repeat' (first | exact trivial | exact Or.inl rfl | exact Or.inr ⟨rfl, _, rfl⟩ | refine And.intro ?_ ?_))
      · rw [if_neg hf] at hh
        have hf : x.2.2 = false := by simpa using hf
        have hvl := hvl hf
        rw [hf] at hI
        obtain ⟨k, hk⟩ : ∃ k : Nat, (k : Int) = (U.length : Int) - (x.2.1.length : Nat) := ⟨U.length - x.2.1.length, by omega⟩
        simp only at hh
        rw [← hk] at hh
        have hsd : s.drop (i + 1 + k) = x.2.1 := by
          rw [← List.drop_drop, ← List.drop_drop, ← hU]
          have hkl : k = U.length - x.2.1.length := by omega
          rw [hkl]
          exact hsuf
        refine Or.inl (Exists.intro _ (And.intro (hh) ?_))
        refine And.intro (fun h9 => ?_) (fun _ => ?_)
        · exfalso
          have h9 : (k : Int) = 0 := eq_of_beq h9
          omega
        (repeat' (first | (refine And.intro (fun h => ?_) (fun h => ?_) <;> (try simp [-List.getD_eq_getElem?_getD, -Int.pred_toNat] at h) <;> (try (exfalso; first | omega | contradiction))) | (refine And.intro (rng64 (by omega) (by omega)) ?_) | (refine And.intro ⟨by omega, by omega⟩ ?_) | (refine And.intro ⟨by omega, by omega, by omega⟩ ?_) | (intro _)))
        refine And.intro (show (acc.length + 1) * 88 ≤ 140737488355328 by omega) ?_
        refine Exists.intro [(164, 167)] (Exists.intro (acc ++ [x.1], i + 1 + k, m) (And.intro ⟨by simp only; omega, by simp only; omega, by simp only [List.length_append, List.length_cons, List.length_nil]; omega, by simp only; omega, by simp only; omega, by simp only; rw [hsd, ← hI, List.append_assoc]; rfl⟩ (And.intro ?_ ?_)))
        · (repeat' (first | exact trivial | exact Or.inl rfl | exact Or.inl ((congrArg (fun z => AV.vec 167 .val (acc ++ [z])) (val_eta x.1))) | refine And.intro ?_ ?_))
        · exact Nat.lt_succ_self m
  · rw [h, if_neg (by decide), if_neg (by decide), if_neg (by decide), if_neg (by decide), if_neg (by decide), if_neg (by decide), if_pos rfl] at hE
    have hK6 := h
    (repeat' (first | (refine And.intro (fun h => ?_) (fun h => ?_) <;> (try simp [-List.getD_eq_getElem?_getD, -Int.pred_toNat] at h) <;> (try (exfalso; first | omega | contradiction))) | (refine And.intro (rng64 (by omega) (by omega)) ?_) | (refine And.intro ⟨by omega, by omega⟩ ?_) | (refine And.intro ⟨by omega, by omega, by omega⟩ ?_) | (intro _)))
    refine Exists.intro [] (Exists.intro [(7, 5, 167, .ent)] (Exists.intro [] (Exists.intro (List Ent × Nat × Nat) (Exists.intro (fun q => 1 ≤ q.2.1 ∧ q.2.1 ≤ s.length ∧ q.1.length ≤ q.2.1 ∧ s.length - q.2.1 < q.2.2 ∧ q.2.2 ≤ n ∧ (q.1 ++ (entP q.2.2 d (s.drop q.2.1) false).1, (entP q.2.2 d (s.drop q.2.1) false).2) = entP n d T false) (Exists.intro (fun ⟨acc, at', m⟩ => ⟨[(0, .s s), (1, .i .i64 d), (4, .pt 4 0), (5, .i .i64 0), (6, .pt 6 0), (7, .pt 7 0), (11, .i .i64 (at' : Int))], [(4, [.i .i64 0, .i .i64 0, .i .u64 0, .s [], .nl, .nl]), (6, [.i .i64 0, .i .i64 0, .i .u64 0, .s [], .nl, .nl]), (7, [.i .i64 K, .i .i64 0, .i .u64 0, .s [], .nl, .vec 167 .ent acc])]⟩) (Exists.intro (fun q => q.2.2) (Exists.intro ([], 1, n) (And.intro ⟨Nat.le_refl _, hp, Nat.zero_le _, by simp only; omega, Nat.le_refl _, by rw [hT]; rfl⟩ (And.intro ?_ ?_)))))))))
    · (repeat' (first | exact trivial | exact Or.inl rfl | exact Or.inr (Or.inl ⟨rfl, _, rfl⟩) | exact Or.inr (Or.inr (Or.inr ⟨_, _, _, rfl, rfl⟩)) | refine And.intro ?_ ?_))
    · rintro ⟨acc, i, m⟩ ⟨hi1, hi, hal, hm, hmn, hI⟩
      simp only at hi1 hi hal hm hmn hI
      obtain ⟨m, rfl⟩ : ∃ k, m = k + 1 := ⟨m - 1, by omega⟩
      have hgi : s.getD (Int.toNat (i : Int)) 0 = hd (s.drop i) := by rw [hd_drop, Int.toNat_natCast]
      have hgi2 : s.getD i 0 = hd (s.drop i) := by rw [hd_drop]
      have hgn2 : (s.getD i 0).toNat = (hd (s.drop i)).toNat := congrArg UInt8.toNat hgi2
      by_cases hA : s.length ≤ i ∨ 1 < (hd (s.drop i)).toNat
      · have hfl : (entP (m + 1) d (s.drop i) false).2.2 = true := by
          have hX : moreX (s.drop i) false = true := by
            unfold moreX
            rcases hA with hA | hA
            · rw [List.drop_eq_nil_of_le hA]; rfl
            · rw [decide_eq_true (show 1 < hd (s.drop i) from UInt8.lt_iff_toNat_lt.2 hA), Bool.or_true]
          have hM : moreB (s.drop i) false = false := by
            unfold moreX at hX
            unfold moreB
            rw [hX]; simp
          rw [entP, hM]
          exact hX
        have hR2 : R.2.2 = true := by rw [hE]; show (entP n d T false).2.2 = true; rw [← hI]; exact hfl
        rw [if_pos hR2]
        (repeat' (first | (refine And.intro (fun h => ?_) (fun h => ?_) <;> (try simp [-List.getD_eq_getElem?_getD, -Int.pred_toNat] at h) <;> (try (exfalso; first | omega | contradiction))) | (refine And.intro (rng64 (by omega) (by omega)) ?_) | (refine And.intro ⟨by omega, by omega⟩ ?_) | (refine And.intro ⟨by omega, by omega, by omega⟩ ?_) | (intro _)))
        all_goals (repeat' (first | exact trivial | exact Or.inl rfl | exact Or.inr ⟨rfl, _, rfl⟩ | refine And.intro ?_ ?_))
      have hi2 : i < s.length := by omega
      have hdl : (s.drop i).length = s.length - i := List.length_drop ..
      have hne : (s.drop i).isEmpty = false := by
        cases hr : s.drop i with
        | nil => rw [hr] at hdl; simp at hdl; omega
        | cons _ _ => rfl
      have hX : moreX (s.drop i) false = false := by
        unfold moreX
        rw [hne, decide_eq_false (fun hx : 1 < hd (s.drop i) => hA (Or.inr (UInt8.lt_iff_toNat_lt.1 hx)))]; rfl
      by_cases h0 : (hd (s.drop i)).toNat = 0
      · have hM : moreB (s.drop i) false = false := by
          unfold moreB
          rw [decide_eq_false (fun hx : hd (s.drop i) = 1 => by rw [hx] at h0; exact absurd h0 (by decide))]; rfl
        rw [entP, hM, hX] at hI
        have hR2 : ¬ R.2.2 = true := by rw [hE]; show ¬ (entP n d T false).2.2 = true; rw [← hI]; exact Bool.false_ne_true
        rw [if_neg hR2, hE, ← hI, hK6]
        have hd1 : ((s.drop i).drop 1).length = s.length - i - 1 := by rw [List.length_drop, hdl]
        (repeat' (first | (refine And.intro (fun h => ?_) (fun h => ?_) <;> (try simp [-List.getD_eq_getElem?_getD, -Int.pred_toNat] at h) <;> (try (exfalso; first | omega | contradiction))) | (refine And.intro (rng64 (by omega) (by omega)) ?_) | (refine And.intro ⟨by omega, by omega⟩ ?_) | (refine And.intro ⟨by omega, by omega, by omega⟩ ?_) | (intro _)))
        exact And.intro ⟨.inl rfl, .inl rfl, .inl rfl, .inl rfl, .inr ⟨rfl, _, rfl⟩, .inl (congrArg (AV.rd .ent) (List.append_nil acc).symm), trivial⟩ ⟨.inl (congrArg (AV.i .i64) (show (i : Int) + 1 = (s.length : Int) - (((s.drop i).drop 1).length : Nat) by omega)), trivial⟩
      have h01 : (hd (s.drop i)).toNat = 1 := by omega
      have hM : moreB (s.drop i) false = true := by
        unfold moreX at hX
        unfold moreB
        rw [hX, decide_eq_true (show hd (s.drop i) = 1 from UInt8.toNat_inj.1 (by rw [h01]; rfl))]; rfl
      obtain ⟨U, hU⟩ : ∃ U, U = (s.drop i).drop 1 := ⟨_, rfl⟩
      have hUl : U.length = s.length - i - 1 := by rw [hU, List.length_drop, hdl]
      rw [entP, if_pos hM, ← hU] at hI
      have hd2 : d ≤ 1000 := by omega
      have hq := s_unchainR U (by omega)
      have hcf : chF false [] U = unch U := by simp [chF]
      rw [hcf] at hI
      have hlt := unch_lt (s := U)
      have hcs := unch_suf U
      have hus : (s.take (Int.toNat (s.length : Int))).drop (Int.toNat ((i : Int) + 1)) = U := by rw [Int.toNat_natCast, List.take_length, hU, List.drop_drop]; congr 1
      unfold unchT at hq
      simp only at hI
      generalize unch U = q at hq hI hlt hcs
      (repeat' (first | (refine And.intro (fun h => ?_) (fun h => ?_) <;> (try simp [-List.getD_eq_getElem?_getD, -Int.pred_toNat] at h) <;> (try (exfalso; first | omega | contradiction))) | (refine And.intro (rng64 (by omega) (by omega)) ?_) | (refine And.intro ⟨by omega, by omega⟩ ?_) | (refine And.intro ⟨by omega, by omega, by omega⟩ ?_) | (intro _)))
      rw [hus]
      by_cases hu : q.2.2 = true
      · rw [if_pos hu] at hq
        have hR2 : R.2.2 = true := by
          rw [hE]; show (entP n d T false).2.2 = true; rw [← hI]
          show (entP m d (valP m (d + 1) q.2.1 q.2.2).2.1 (valP m (d + 1) q.2.1 q.2.2).2.2).2.2 = true
          rw [val_bad m (d + 1) q.2.1 q.2.2 (Or.inl hu)]; exact ent_bad _ _ _
        rw [if_pos hR2]
        refine Or.inl (Exists.intro _ (And.intro (hq) ?_))
        (repeat' (first | (refine And.intro (fun h => ?_) (fun h => ?_) <;> (try simp [-List.getD_eq_getElem?_getD, -Int.pred_toNat] at h) <;> (try (exfalso; first | omega | contradiction))) | (refine And.intro (rng64 (by omega) (by omega)) ?_) | (refine And.intro ⟨by omega, by omega⟩ ?_) | (refine And.intro ⟨by omega, by omega, by omega⟩ ?_) | (intro _)))
        (repeat' (first | exact trivial | exact Or.inl rfl | exact Or.inr ⟨rfl, _, rfl⟩ | refine And.intro ?_ ?_))
      · rw [if_neg hu] at hq
        have hlt := hlt hu
        have hu : q.2.2 = false := by simpa using hu
        rw [hu] at hI
        obtain ⟨kc, hkc⟩ : ∃ k : Nat, (k : Int) = (U.length : Int) - (q.2.1.length : Nat) := ⟨U.length - q.2.1.length, by omega⟩
        simp only at hq
        rw [← hkc] at hq
        have hcd : s.drop (i + 1 + kc) = q.2.1 := by
          rw [← List.drop_drop, ← List.drop_drop, ← hU]
          have hkl : kc = U.length - q.2.1.length := by omega
          rw [hkl]
          exact SufL.of hcs
        have hh := hc hd2 m q.2.1 (by omega) (by omega) (by omega)
        have hrl := (rest_n m (d + 1) q.2.1 false).1
        have hvl := val_lt m (d + 1) q.2.1 false
        have hsuf := (suf_n m (d + 1) q.2.1 false).1
        have hus2 : (s.take (Int.toNat (s.length : Int))).drop (Int.toNat ((i : Int) + 1 + (kc : Int))) = q.2.1 := by rw [Int.toNat_natCast, List.take_length, ← hcd]; congr 1
        unfold unpD at hh
        generalize valP m (d + 1) q.2.1 false = x at hh hI hrl hvl hsuf
        refine Or.inl (Exists.intro _ (And.intro (hq) ?_))
        refine And.intro (fun h9 => ?_) (fun _ => ?_)
        · exfalso
          have h9 : (kc : Int) = 0 := eq_of_beq h9
          omega
        (repeat' (first | (refine And.intro (fun h => ?_) (fun h => ?_) <;> (try simp [-List.getD_eq_getElem?_getD, -Int.pred_toNat] at h) <;> (try (exfalso; first | omega | contradiction))) | (refine And.intro (rng64 (by omega) (by omega)) ?_) | (refine And.intro ⟨by omega, by omega⟩ ?_) | (refine And.intro ⟨by omega, by omega, by omega⟩ ?_) | (intro _)))
        rw [hus2]
        by_cases hf : x.2.2 = true
        · rw [if_pos hf] at hh
          have hR2 : R.2.2 = true := by rw [hE]; show (entP n d T false).2.2 = true; rw [← hI]; show (entP m d x.2.1 x.2.2).2.2 = true; rw [hf]; exact ent_bad _ _ _
          rw [if_pos hR2]
          refine Or.inl (Exists.intro _ (And.intro (hh) ?_))
          (repeat' (first | (refine And.intro (fun h => ?_) (fun h => ?_) <;> (try simp [-List.getD_eq_getElem?_getD, -Int.pred_toNat] at h) <;> (try (exfalso; first | omega | contradiction))) | (refine And.intro (rng64 (by omega) (by omega)) ?_) | (refine And.intro ⟨by omega, by omega⟩ ?_) | (refine And.intro ⟨by omega, by omega, by omega⟩ ?_) | (intro _)))
          (repeat' (first | exact trivial | exact Or.inl rfl | exact Or.inr ⟨rfl, _, rfl⟩ | refine And.intro ?_ ?_))
        · rw [if_neg hf] at hh
          have hf : x.2.2 = false := by simpa using hf
          have hvl := hvl hf
          rw [hf] at hI
          obtain ⟨k, hk⟩ : ∃ k : Nat, (k : Int) = (q.2.1.length : Int) - (x.2.1.length : Nat) := ⟨q.2.1.length - x.2.1.length, by omega⟩
          simp only at hh
          rw [← hk] at hh
          have hsd : s.drop (i + 1 + kc + k) = x.2.1 := by
            rw [← List.drop_drop, hcd]
            have hkl : k = q.2.1.length - x.2.1.length := by omega
            rw [hkl]
            exact hsuf
          refine Or.inl (Exists.intro _ (And.intro (hh) ?_))
          refine And.intro (fun h9 => ?_) (fun _ => ?_)
          · exfalso
            have h9 : (k : Int) = 0 := eq_of_beq h9
            omega
          (repeat' (first | (refine And.intro (fun h => ?_) (fun h => ?_) <;> (try simp [-List.getD_eq_getElem?_getD, -Int.pred_toNat] at h) <;> (try (exfalso; first | omega | contradiction))) | (refine And.intro (rng64 (by omega) (by omega)) ?_) | (refine And.intro ⟨by omega, by omega⟩ ?_) | (refine And.intro ⟨by omega, by omega, by omega⟩ ?_) | (intro _)))
          refine And.intro (show (acc.length + 1) * 104 ≤ 140737488355328 by omega) ?_
          refine Exists.intro [(158, 167)] (Exists.intro (acc ++ [(q.1, x.1)], i + 1 + kc + k, m) (And.intro ⟨by simp only; omega, by simp only; omega, by simp only [List.length_append, List.length_cons, List.length_nil]; omega, by simp only; omega, by simp only; omega, by simp only; rw [hsd, ← hI, List.append_assoc]; rfl⟩ (And.intro ?_ ?_)))
          · (repeat' (first | exact trivial | exact Or.inl rfl | exact Or.inl ((congrArg (fun z => AV.vec 167 .ent (acc ++ [(q.1, z)])) (val_eta x.1))) | refine And.intro ?_ ?_))
          · exact Nat.lt_succ_self m
theorem s_unpk (n : Nat) (d : Int) (s : Str) (hd0 : 0 ≤ d) (hd1 : d ≤ 1001) (hs : s.length ≤ 16777216) (hn : s.length ≤ n) (hc : d ≤ 1000 → ∀ (m : Nat) (s : Str), m < n → s.length < m → s.length ≤ 16777216 → PSpec Tryd.prog 57 [.s s, .i .i64 (d + 1)] (.tup [.agg (encVal (unpD m (d + 1) s).1), .i .i64 (unpD m (d + 1) s).2])) : PSpec Tryd.prog 57 [.s s, .i .i64 d] (.tup [.agg (encVal (unpD (n + 1) d s).1), .i .i64 (unpD (n + 1) d s).2]) :=
  pspec_of_vcL Γ_good Tryd.func57 rfl Tryd.call57 Tryd.results57 Tryd.ntmps57 (Nat.le_of_ble_eq_true rfl) (w_unpk n d s hd0 hd1 hs hn hc)
end
end Go.Proofs.YtdcdmojbkmedpaaDoor
end
section
namespace Go.Proofs.YtdcdmojbkmedpaaDoor
set_option linter.unusedSectionVars false
set_option linter.unusedSimpArgs false
set_option linter.unusedVariables false
open Go Go.SX Go.Ck Go.Vl Go.Ut Go.Up Go.Pk
set_option maxRecDepth 100000
set_option maxHeartbeats 1000000
section
variable [G : Globs]
theorem s_unpackedD : ∀ (n : Nat) (d : Int) (s : Str), 0 ≤ d → d ≤ 1001 → s.length < n → s.length ≤ 16777216 → PSpec Tryd.prog 57 [.s s, .i .i64 d] (.tup [.agg (encVal (unpD n d s).1), .i .i64 (unpD n d s).2])
  | 0, _, _, _, _, h, _ => absurd h (Nat.not_lt_zero _)
  | n + 1, d, s, h0, h1, hn, hs => s_unpk n d s h0 h1 hs (by omega) fun hd m s hm hl hs => s_unpackedD m (d + 1) s (by omega) (by omega) hl hs
theorem w_unpackedR (s : Str) (hs : s.length ≤ 16777216) : vc Tryd.prog Γ 28 [0, 2, 3, 4, 5, 6, 19, 24] (Tryd.f13.body.getD .skip) (postK Γ [.cell 2 26, .tmp 3] (fun v => RL v (.tup [.agg (encVal (unpV s).1), .i .i64 (unpV s).2]))) ⟨argSlots 0 [.s s], []⟩ := by
  have h := s_unpackedD (s.length + 1) 0 s (Int.le_refl _) (by decide) (Nat.lt_succ_self _) hs
  have hv := (vb_n (s.length + 1) 0 s false).1
  have hb := siz_val (s.length + 1) 0 s false hs
  have hrl := (rest_n (s.length + 1) 0 s false).1
  have hlt := val_lt (s.length + 1) 0 s false
  unfold unpV
  unfold unpD at h
  simp only
  generalize valP (s.length + 1) 0 s false = q at h hb hv hrl hlt
  have hC := s_fault q.1 hv hb
  by_cases hf : q.2.2 = true
  · rw [if_pos (Or.inl hf)]
    rw [if_pos hf] at h
    refine Or.inl (Exists.intro _ (And.intro (h) ?_))
    (repeat' (first | (refine And.intro (fun h => ?_) (fun h => ?_) <;> (try simp [-List.getD_eq_getElem?_getD, -Int.pred_toNat] at h) <;> (try (exfalso; first | omega | contradiction))) | (refine And.intro (rng64 (by omega) (by omega)) ?_) | (refine And.intro ⟨by omega, by omega⟩ ?_) | (refine And.intro ⟨by omega, by omega, by omega⟩ ?_) | (intro _)))
    all_goals (repeat' (first | exact trivial | exact Or.inl rfl | exact Or.inr ⟨rfl, _, rfl⟩ | refine And.intro ?_ ?_))
  · rw [if_neg hf] at h
    have hlt := hlt (by simpa using hf)
    have hp : 0 < s.length := by omega
    simp only at h
    by_cases hr : q.2.1 = []
    · rw [if_neg (show ¬ (q.2.2 = true ∨ q.2.1 ≠ []) by simp [hf, hr])]
      rw [hr, List.length_nil, show (s.length : Int) - ((0 : Nat) : Int) = (s.length : Int) by omega] at h
      refine Or.inl (Exists.intro _ (And.intro (h) ?_))
      refine And.intro (fun _ => ?_) (fun h9 => ?_)
      rotate_left
      · have h9 : ((s.length : Int) == 0) = true := h9
        exact absurd (eq_of_beq h9) (by omega)
      have hne : ((s.length : Int) != (s.length : Int)) = false := by simp
      intro _
      refine And.intro (fun h9 => absurd (hne.symm.trans (show ((s.length : Int) != (s.length : Int)) = true from h9)) (by decide)) (fun _ => ?_)
      refine Or.inl (Exists.intro _ (And.intro (hC) ?_))
      by_cases hq : faultV q.1 ≠ 0
      · rw [if_pos hq]
        (repeat' (first | (refine And.intro (fun h => ?_) (fun h => ?_) <;> (try simp [-List.getD_eq_getElem?_getD, -Int.pred_toNat] at h) <;> (try (exfalso; first | omega | contradiction))) | (refine And.intro (rng64 (by omega) (by omega)) ?_) | (refine And.intro ⟨by omega, by omega⟩ ?_) | (refine And.intro ⟨by omega, by omega, by omega⟩ ?_) | (intro _)))
        all_goals (repeat' (first | exact trivial | exact Or.inl rfl | exact Or.inr ⟨rfl, _, rfl⟩ | refine And.intro ?_ ?_))
      · rw [if_neg hq]
        (repeat' (first | (refine And.intro (fun h => ?_) (fun h => ?_) <;> (try simp [-List.getD_eq_getElem?_getD, -Int.pred_toNat] at h) <;> (try (exfalso; first | omega | contradiction))) | (refine And.intro (rng64 (by omega) (by omega)) ?_) | (refine And.intro ⟨by omega, by omega⟩ ?_) | (refine And.intro ⟨by omega, by omega, by omega⟩ ?_) | (intro _)))
        all_goals (repeat' (first | exact trivial | exact Or.inl rfl | exact Or.inr ⟨rfl, _, rfl⟩ | refine And.intro ?_ ?_))
    · rw [if_pos (Or.inr hr)]
      have hr0 : 0 < q.2.1.length := List.length_pos_iff.2 hr
      refine Or.inl (Exists.intro _ (And.intro (h) ?_))
      (repeat' (first | (refine And.intro (fun h => ?_) (fun h => ?_) <;> (try simp [-List.getD_eq_getElem?_getD, -Int.pred_toNat] at h) <;> (try (exfalso; first | omega | contradiction))) | (refine And.intro (rng64 (by omega) (by omega)) ?_) | (refine And.intro ⟨by omega, by omega⟩ ?_) | (refine And.intro ⟨by omega, by omega, by omega⟩ ?_) | (intro _)))
      all_goals (repeat' (first | exact trivial | exact Or.inl rfl | exact Or.inr ⟨rfl, _, rfl⟩ | refine And.intro ?_ ?_))
theorem s_unpackedR (s : Str) (hs : s.length ≤ 16777216) : PSpec Tryd.prog 13 [.s s] (.tup [.agg (encVal (unpV s).1), .i .i64 (unpV s).2]) :=
  pspec_of_vcL Γ_good Tryd.func13 rfl Tryd.call13 Tryd.results13 Tryd.ntmps13 (Nat.le_of_ble_eq_true rfl) (w_unpackedR s hs)
end
end Go.Proofs.YtdcdmojbkmedpaaDoor
end
section
namespace Go.Proofs.YtdcdmojbkmedpaaDoor
set_option linter.unusedSectionVars false
set_option linter.unusedSimpArgs false
set_option linter.unusedVariables false
open Go Go.SX Go.Ck Go.Vl Go.Ut Go.Up Go.Pk
set_option maxRecDepth 100000
set_option maxHeartbeats 1000000
section
variable [G : Globs]
theorem s_sameW (v : Val) (h : VB v) : PSpec Tryd.prog 14 [.agg (encVal v), .agg (encVal v)] (.b true) := by
  have := s_same v v h h
  rw [cmpV_self] at this
  exact this
theorem vb_unpV (s : Str) : VB (unpV s).1 := by
  have h := (vb_n (s.length + 1) 0 s false).1
  unfold unpV
  simp only
  split
  · exact vb_zero
  · split
    · exact vb_zero
    · exact h
theorem w_law (hu : HasU8) (a : Val) (s : Str) (ha : VB a) (hb : bkV a ≤ 200000000) (hs : s.length ≤ 16777216) : vc Tryd.prog Γ 58 [1, 2, 4, 5, 6, 7, 8, 9, 10, 11, 36, 40] (Tryd.f3.body.getD .skip) (postK Γ [.tmp 4] (fun v => v = .b true)) ⟨argSlots 0 [.agg (encVal a), .rd .u8 (toI s)], []⟩ := by
  have hn : (sizV a).2 ≤ 1000000000 := by have := siz_bulk a; omega
  refine Or.inl (Exists.intro _ (And.intro (s_pack hu a ha hb) ?_))
  refine Or.inl (Exists.intro _ (And.intro (s_Unpack hu s hs) ?_))
  have hR : PSpec Tryd.prog 13 [.s ((toI s).map ofB)] (.tup [.agg (encVal (unpV s).1), .i .i64 (unpV s).2]) := by rw [ofB_toI]; exact s_unpackedR s hs
  refine Or.inl (Exists.intro _ (And.intro (hR) ?_))
  refine Or.inl (Exists.intro _ (And.intro (s_sameW (unpV s).1 (vb_unpV s)) ?_))
  have hne : ((unpV s).2 != (unpV s).2) = false := by simp
  refine And.intro (fun _ => ?_) (fun h => by cases h)
  refine And.intro (fun h => absurd (hne.symm.trans (show ((unpV s).2 != (unpV s).2) = true from h)) (by decide)) (fun _ => ?_)
  have hF : PSpec Tryd.prog 15 [.agg (encVal a)] (.i .i64 (faultV a)) := s_fault a ha hn
  refine Or.inl (Exists.intro _ (And.intro (hF) ?_))
  by_cases hq : faultV a = 0
  · refine And.intro (fun h => absurd hq (by simpa using h)) (fun _ => ?_)
    rw [if_neg (by simp [hq])]
    refine Exists.intro [.blk [0, 1, 2, 3, 4, 5, 6, 7, 8, 9]] (And.intro (by kernel_rfl) ?_)
    (repeat' (first | (refine And.intro (fun h => ?_) (fun h => ?_) <;> (try simp [-List.getD_eq_getElem?_getD, -Int.pred_toNat] at h) <;> (try (exfalso; first | omega | contradiction))) | (refine And.intro (rng64 (by omega) (by omega)) ?_) | (refine And.intro ⟨by omega, by omega⟩ ?_) | (refine And.intro ⟨by omega, by omega, by omega⟩ ?_) | (intro _)))
    · refine Exists.intro _ (And.intro (s_PackedR a (fine_of_fault hq) ha (by omega)) ?_)
      show AV.b (List.map ofB (toI (packS a)) == packS a) = AV.b true
      rw [ofB_toI]
      exact congrArg AV.b (beq_self_eq_true _)
  · refine And.intro (fun _ => ?_) (fun h => absurd (by simpa using h) hq)
    rw [if_pos hq]
    (repeat' (first | (refine And.intro (fun h => ?_) (fun h => ?_) <;> (try simp [-List.getD_eq_getElem?_getD, -Int.pred_toNat] at h) <;> (try (exfalso; first | omega | contradiction))) | (refine And.intro (rng64 (by omega) (by omega)) ?_) | (refine And.intro ⟨by omega, by omega⟩ ?_) | (refine And.intro ⟨by omega, by omega, by omega⟩ ?_) | (intro _)))
    exact congrArg AV.b (beq_self_eq_true (faultV a))
theorem s_law (hu : HasU8) (a : Val) (s : Str) (ha : VB a) (hb : bkV a ≤ 200000000) (hs : s.length ≤ 16777216) : PSpec Tryd.prog 3 [.agg (encVal a), .rd .u8 (toI s)] (.b true) :=
  pspec_of_vc Γ_good Tryd.func3 rfl Tryd.call3 Tryd.results3 Tryd.ntmps3 (Nat.le_of_ble_eq_true rfl) (w_law hu a s ha hb hs)
end
end Go.Proofs.YtdcdmojbkmedpaaDoor
end
section
namespace Go.Proofs.YtdcdmojbkmedpaaDoor.packTells
set_option linter.unusedSectionVars false
set_option linter.unusedSimpArgs false
set_option linter.unusedVariables false
open Go Go.SX Go.Ck Go.Ut Go.Up Go.Pk
open Go.ChangeShapes Go.WideShapes Go.ChangeAt Go.RowKit
set_option maxRecDepth 100000
theorem own : ownKnob Tryd.prog.godebug = none := by kernel_rfl
theorem laidOut : laidOutB Tryd.prog = true := by kernel_rfl
theorem cell_block {w : World} {g o : Nat} {k : IntKind} {n : Int} (h : w.cell? ⟨g, o, none⟩ = some (.int k n)) : ∃ cur e fz, w.heap[g]? = some (.cells cur e fz) ∧ cur[o]? = some (.int k n) := by
  unfold World.cell? at h
  split at h
  · rename_i cur e fz hh
    exact ⟨_, _, _, hh, by simpa using h⟩
  · cases h
noncomputable def vty [G : Globs] : VTy Tryd.prog 26 where
  fs := _
  gs := _
  K := 3
  N := 2
  U := 22
  S := 9
  L := 23
  E := 24
  En := 109
  hV := Tryd.underlying26
  cV := by kernel_rfl
  h0 := ⟨_, rfl, rfl, rfl⟩
  h1 := ⟨_, rfl, rfl, rfl⟩
  h2 := ⟨_, rfl, rfl, rfl⟩
  h3 := ⟨_, rfl, rfl, rfl⟩
  h4 := ⟨_, rfl, rfl, rfl⟩
  h5 := ⟨_, rfl, rfl, rfl⟩
  uK := Tryd.underlying3
  uN := Tryd.underlying2
  uU := Tryd.underlying22
  uS := Tryd.underlying9
  uL := Tryd.underlying23
  uE := Tryd.underlying24
  c := ⟨by kernel_rfl, by kernel_rfl, by kernel_rfl, by kernel_rfl, by kernel_rfl, by kernel_rfl⟩
  hE := Tryd.underlying109
  cE := by kernel_rfl
  g0 := ⟨_, rfl, rfl, rfl⟩
  g1 := ⟨_, rfl, rfl, rfl⟩
theorem bulk_pos {H : Type} (d : DataW H) : 1 ≤ Rows.uptoBulk d := by
  cases d with
  | lit l => cases l <;> simp [Rows.uptoBulk]
  | _ => simp [Rows.uptoBulk]
theorem bulk_sum {H : Type} : ∀ ds : List (DataW H), Rows.uptoBulkAll ds = (ds.map Rows.uptoBulk).sum
  | [] => by simp [Rows.uptoBulkAll]
  | d :: ds => by simp [Rows.uptoBulkAll, bulk_sum ds]
theorem bulk_law {H : Type} : BulkS (H := H) Rows.uptoBulk where
  sl := fun els rest => by
    have := bulk_sum els
    simp only [Rows.uptoBulk]
    omega
  ag := fun ds => by
    have := bulk_sum ds
    simp only [Rows.uptoBulk]
    omega
  st := fun b => by simp [Rows.uptoBulk]
  pos := bulk_pos
/-- an argument that is a value -/
theorem arg_vl {H : Type} {enc : TypeId × Value → H} {W : World} {v : Value} {d : DataW H} {ps : List MemPlace} {r : Reach} {b : Nat} (hval : Value.okWide Tryd.prog W r b 26 v)
    (h : DataW.Trod enc Tryd.prog W 0 (fun _ => true) true 26 v d ps) : ∃ y : Val, Im (fun _ => False) W (.agg (encVal y)) v ∧ VB y ∧ bkV y ≤ Rows.uptoBulk d := by
  obtain ⟨cs, rfl, _⟩ := okWide_struct Tryd.underlying26 hval
  obtain ⟨fuel, hf⟩ := h
  letI : Globs := ⟨[]⟩
  obtain ⟨y, h1, h3, h2⟩ := arg_valS (O := fun _ => False) bulk_law vty rfl rfl (fun _ h => h) fuel _ _ hf
  have h1 : All2 (Im (fun _ => False) W) (encVal y) cs.toList := h1
  obtain ⟨l⟩ := cs
  refine ⟨y, .agg _ l h1.1 (fun v hv => ?_) h1.2, h2, h3⟩
  obtain ⟨j, hj, rfl⟩ := List.getElem_of_mem hv
  have hj' : j < (encVal y).length := by rw [h1.1]; exact hj
  exact plain_one (h1.2 j _ _ (List.getElem?_eq_getElem hj') (List.getElem?_eq_getElem hj)) (enc_plain .val y _ (List.getElem_mem hj'))
theorem bytes_of : ∀ l : List Int, (∀ x ∈ l, 0 ≤ x ∧ x ≤ 255) → ∃ s : Str, l = toI s ∧ s.length = l.length
  | [], _ => ⟨[], rfl, rfl⟩
  | x :: l, h => by
    obtain ⟨s, hs, hl⟩ := bytes_of l fun y hy => h y (List.mem_cons_of_mem _ hy)
    have hx := h x (List.mem_cons_self ..)
    refine ⟨UInt8.ofNat x.toNat :: s, ?_, by rw [List.length_cons, List.length_cons, hl]⟩
    show x :: l = (((UInt8.ofNat x.toNat).toNat : Nat) : Int) :: toI s
    rw [← hs, UInt8.toNat_ofNat_of_lt' (by show x.toNat < 256; omega)]
    congr 1
    omega
theorem sum_ones {α : Type} : ∀ l : List α, (l.map fun _ => 1).sum = l.length
  | [] => rfl
  | _ :: l => by rw [List.map_cons, List.sum_cons, sum_ones l, List.length_cons]; omega
/-- an argument that is a list of bytes -/
theorem arg_bytes {H : Type} {enc : TypeId × Value → H} {W : World} {v : Value} {d : DataW H} {ps : List MemPlace} {r : Reach} {b : Nat} (hval : Value.okWide Tryd.prog W r b 27 v)
    (h : DataW.Trod enc Tryd.prog W 0 (fun _ => true) true 27 v d ps) : ∃ s : Str, Im (fun _ => False) W (.rd .u8 (toI s)) v ∧ s.length + 1 ≤ Rows.uptoBulk d := by
  obtain ⟨a, n, c, rfl⟩ := okWide_slice Tryd.underlying27 hval
  obtain ⟨fuel, hf⟩ := h
  letI : Globs := ⟨[]⟩
  obtain ⟨l, v', h1, h2, h3, h4⟩ := arg_sliceS (O := fun _ => False) (τ := .u8) (m := fun _ => 1) (R := fun x => (0 : Int) ≤ x ∧ x ≤ 255) bulk_law (fun _ h => h) Tryd.underlying27 (by kernel_rfl) (fun n' hn cs' x' hx => by
    obtain ⟨y, rfl, hy, hw⟩ := arg_int Tryd.underlying5 hx
    exact ⟨y, .cons hy (.nil _), bulk_pos _, (letI : Globs := ⟨[]⟩; wf_u8 hw)⟩) hf
  have : [Value.slice a n c] = [v'] := by simpa [Value.cells] using h1
  injection this with h5
  subst h5
  obtain ⟨s, rfl, hs⟩ := bytes_of l h4
  rw [sum_ones] at h3
  have h6 : (toI s).length + 1 ≤ Rows.uptoBulk d := h3
  exact ⟨s, h2, by omega⟩
theorem contract (H : Type) (enc : TypeId × Value → H) (W : World) (base : Nat) (args : Array Value) (ds gs : List (DataW H)) (before : List MemPlace)
    (hval : ∀ (j : Nat) t v, Tryd.f3.params[j]? = some t → args[j]? = some v → Value.okWide Tryd.prog W .any base t v)
    (hW : DataW.Whole enc Tryd.prog Tryd.f3.params.toList Rows.packTellsSpec.vars false W args.toList ds gs before) (hk : Rows.uptoSmall H (ds ++ gs) = true) (hL : laidMetH Tryd.prog Rows.packTellsUptoRow.laid W) :
    Calls Tryd.prog 3 args W fun e W' => ∃ v, e = .returned v ∧ Rows.packTellsSpec.post enc Tryd.prog Tryd.f3 false true false false W args v W' := by
  have hW' := hW
  obtain ⟨p, q, hA0, hV, rfl, hfz, hnd⟩ := hW
  have hA : DataW.TrodAll enc Tryd.prog W 0 (fun _ => true) true Tryd.f3.params.toList args.toList ds p := hA0
  rw [Tryd.params3] at hA hval
  obtain ⟨v0, vs0, d0, ds0, p0, q0, hargs0, rfl, rfl, h0, r0⟩ := trodAll_cons hA
  obtain ⟨v1, vs1, d1, ds1, p1, q1, hargs1, rfl, rfl, h1, r1⟩ := trodAll_cons r0
  obtain ⟨rfl, rfl, rfl⟩ := trodAll_nil r1
  obtain rfl : args = #[v0, v1] := by cases args; simp_all
  obtain ⟨rfl, rfl⟩ := trodVars_none hV
  obtain ⟨a0, i0, b0, bn0⟩ := arg_vl (hval 0 26 v0 rfl rfl) h0
  obtain ⟨s1, i1, bl1⟩ := arg_bytes (hval 1 27 v1 rfl rfl) h1
  have hW'' := hW'
  have bk : Rows.uptoBulkAll _ ≤ 1048576 := of_decide_eq_true hk
  simp only [List.append_nil, List.cons_append, List.nil_append, Rows.uptoBulkAll, Rows.uptoBulk, Array.length_toList] at bk
  have hL' : laidMet Tryd.prog Rows.packTellsUptoRow.laid W := hL
  have hU : Lib.Utf8Tabs 1 2 W := utf8Tabs_of_reads (ρ := Tryd.lays260_ren) Tryd.lays260 ⟨by kernel_rfl, by kernel_rfl, by kernel_rfl, by kernel_rfl, by kernel_rfl, by kernel_rfl, by kernel_rfl⟩ (by have := Lib.laidMet.reads hL' (.tail _ (.head _)); rw [show Rows.laid_unicode_utf8_first = Lib.firstData from Pinned.utf8First_eq] at this; exact this) (by have := Lib.laidMet.reads hL' (.head _); rw [show Rows.laid_unicode_utf8_acceptRanges = Lib.acceptData by kernel_rfl] at this; exact this)
  obtain ⟨cur0, e0, fz0, hh0, _⟩ := cell_block (hU.1 0 (by decide))
  obtain ⟨cur1, e1, fz1, hh1, _⟩ := cell_block (hU.2 0 (by decide)).1
  let G : Globs := ⟨[(1, .cells cur0 e0 fz0), (2, .cells cur1 e1 fz1)]⟩
  have hu : @HasU8 G := ⟨_, _, .head _, .tail _ (.head _), fun w k0 k1 => by
    have c0 : ∀ o, w.cell? ⟨1, o, none⟩ = W.cell? ⟨1, o, none⟩ := fun o => World.cell?_of_block (k0.trans hh0.symm)
    have c1 : ∀ o, w.cell? ⟨2, o, none⟩ = W.cell? ⟨2, o, none⟩ := fun o => World.cell?_of_block (k1.trans hh1.symm)
    exact ⟨fun c hc => (c0 c).trans (hU.1 c hc), fun i hi => ⟨(c1 _).trans (hU.2 i hi).1, (c1 _).trans (hU.2 i hi).2⟩⟩⟩
  have hG : @GlobOK G (fun _ => False) W := fun p hp => by
    rcases List.mem_cons.1 hp with rfl | hp
    · exact ⟨fun h => h, hh0⟩
    · cases List.mem_singleton.1 hp
      exact ⟨fun h => h, hh1⟩
  refine ((s_law (G := G) hu a0 s1 b0 (by omega) (by omega)).2 (fun _ => False) W [v0, v1] (fun _ h => h.elim) hG (All2.cons i0 (All2.cons i1 (All2.nil _)))).mono fun e W' ⟨v, he, hst, hv⟩ => ?_
  subst he
  cases hv
  have hb := hst.below
  have hlt : ∀ x : MemPlace, x ∈ (p0 ++ (p1 ++ [])) ++ [] → x.block < W.heap.size := fun x hx => hW''.lt x hx
  have hargs' : ∀ sp : Nat → Bool, (∀ x : MemPlace, x ∈ (p0 ++ (p1 ++ [])) ++ [] → sp x.block = true) → DataW.TrodAll enc Tryd.prog W' 0 sp true [26, 27] [v0, v1] [d0, d1] (p0 ++ (p1 ++ [])) := fun sp hsp =>
    trodAll_cons_mk (WideElems.Trod_stays laidOut (by kernel_rfl) (of_decide_eq_true (by kernel_rfl)) h0 (fun x hx => hb.same (hlt x (by simp [hx]))) (fun x hx => hsp x (by simp [hx]))) (trodAll_cons_mk (WideElems.Trod_stays laidOut (by kernel_rfl) (of_decide_eq_true (by kernel_rfl)) h1 (fun x hx => hb.same (hlt x (by simp [hx]))) (fun x hx => hsp x (by simp [hx]))) (trodAll_mk0))
  exact ⟨_, rfl, post_of_below (pa := p0 ++ (p1 ++ [])) (pv := []) hW'' (fun _ _ _ => (trodAll_cons_mk (shut_bool Tryd.underlying4 _) trodAll_mk0)) (fun sp hsp => hargs' sp hsp) (fun _ _ => rfl) rfl
    hb (ok_one (by kernel_rfl) rfl (okWide_bool_mk Tryd.underlying4 _))⟩
/-- a world for the witness: the tables as their initialisers lay them -/
def layB (cs : List Value) : Obj → Obj
  | .cells _ t frozen => .cells cs.toArray t frozen
  | o => o
noncomputable def laidWorld (os : Os) : World :=
  { World.holding Tryd.prog os ⟨#[], #[], []⟩ with
    heap := ((World.holding Tryd.prog os ⟨#[], #[], []⟩).heap.modify 1 (layB (Pinned.utf8FirstZ.map fun (n : Nat) => Value.int .u8 (n : Int)))).modify 2
      (layB ([128, 191, 160, 191, 128, 159, 144, 191, 128, 143, 0, 0, 0, 0, 0, 0, 0, 0, 0, 0, 0, 0, 0, 0, 0, 0, 0, 0, 0, 0, 0, 0].map fun n => Value.int .u8 n)) }
theorem laid_met (os : Os) : laidMet Tryd.prog Rows.packTellsUptoRow.laid ((laidWorld os).forCall (fun _ _ => 0) ⟨#[], #[.agg #[.int .i64 0, .int .i64 0, .int .u64 0, .string .empty, .slice none 0 0, .slice none 0 0], .slice none 0 0], []⟩).memory :=
  laidMet_of_run' 8 (by kernel_rfl) (by kernel_rfl)
theorem reads (os : Os) {H : Type} (enc : TypeId × Value → H) : ∃ places, DataW.whole enc Tryd.prog ((laidWorld os).forCall (fun _ _ => 0) ⟨#[], #[.agg #[.int .i64 0, .int .i64 0, .int .u64 0, .string .empty, .slice none 0 0, .slice none 0 0], .slice none 0 0], []⟩).memory Tryd.f3.params.toList Rows.packTellsSpec.vars false #[.agg #[.int .i64 0, .int .i64 0, .int .u64 0, .string .empty, .slice none 0 0, .slice none 0 0], .slice none 0 0].toList 8 = some ([.agg [.lit (.int .i64 0), .lit (.int .i64 0), .lit (.int .u64 0), .lit (.string []), .nil, .nil], .nil], [], places) :=
  ⟨[], by kernel_rfl⟩
set_option maxRecDepth 100000 in
theorem lifted (os : Os) (started : os.Started) (H : Type) (enc : TypeId × Value → H) (F : Stop.Interp) :
    ReturnsInHanded {} Tryd.checked os 3 .any ((Rows.OpenSpec.upto Rows.packTellsSpec).preRow enc Tryd.prog Tryd.f3 Rows.packTellsUptoRow.domain false Rows.packTellsUptoRow.laid) (((Rows.OpenSpec.upto Rows.packTellsSpec).at F).post enc Tryd.prog Tryd.f3 false true false false) := by
  obtain ⟨places, hx⟩ := reads os enc
  refine returnsInHanded_of_row (C := Tryd.checked) (s := Rows.OpenSpec.upto Rows.packTellsSpec) own started (by kernel_rfl) Tryd.func3
    (witness_row_at (enc := enc) (C := Tryd.checked) false (laidWorld os) #[.agg #[.int .i64 0, .int .i64 0, .int .u64 0, .string .empty, .slice none 0 0, .slice none 0 0], .slice none 0 0] rfl (by kernel_rfl) (by kernel_rfl) (by kernel_rfl)
      (OpenSpec.preRow_of_cond 8 hx (by kernel_rfl) (fun k hk => by cases hk; kernel_rfl) (by kernel_rfl) (laid_met os))) ?_
  intro W base args ds gs before hval hW _ hcond _ hL _ _
  exact contract H enc W base args ds gs before hval hW (hcond _ rfl) hL
theorem said : Rows.PackTellsUptoSaid :=
  OpenClaim.holds_of_cond 3 Tryd.f3 rfl rfl rfl rfl rfl rfl rfl ⟨rfl, rfl, rfl, rfl, rfl⟩ rfl rfl rfl rfl rfl (by kernel_rfl) Tryd.func3 (by kernel_rfl)
    (of_decide_eq_true (by kernel_rfl)) (by unfold Func.isWrapper; first | (rw [if_pos (by decide +kernel)]; kernel_rfl) | (rw [if_neg (by decide +kernel)]; exact ⟨rfl, rfl⟩))
    (fun os started H enc _ F => by rw [OpenClaim.pre_eq_preRow]; exact lifted os started H enc F)
theorem plain (f : FuncId) (fn : Func) (hf : Tryd.pinned.checked.prog.funcNamed "typecase/typecaselaw.PackTells" = some f) (hfn : Tryd.pinned.checked.prog.funcs[f]? = some fn) :
    false = Tryd.pinned.checked.prog.looks [] ∧ ∀ (j : Nat) t, fn.params[j]? = some t → Tryd.pinned.checked.prog.wantsStandIn t = false := by
  obtain rfl : f = 3 := Option.some.inj ((show Tryd.prog.funcNamed "typecase/typecaselaw.PackTells" = some 3 by kernel_rfl).symm.trans hf) |>.symm
  obtain rfl : fn = Tryd.f3 := (Option.some.inj (Tryd.func3.symm.trans hfn)).symm
  refine ⟨by kernel_rfl, fun j t ht => ?_⟩
  rw [Tryd.params3] at ht
  have hm := Array.mem_of_getElem? ht
  simp only [List.mem_toArray, List.mem_cons, List.not_mem_nil, or_false] at hm
  rcases hm with rfl | rfl
  · exact (show Tryd.prog.wantsStandIn 26 = false by kernel_rfl)
  · exact (show Tryd.prog.wantsStandIn 27 = false by kernel_rfl)
theorem proved : Rows.PackTellsUptoCardSaid :=
  Claim7.holds_tied_plain_at .later [] _ _ _ _ said (fun _ h => by cases h) (by kernel_rfl) (fun _ h => by cases h) packTellsUpto_row_tie rfl ⟨rfl, rfl⟩ (by kernel_rfl) rfl plain (by kernel_rfl)

end Go.Proofs.YtdcdmojbkmedpaaDoor.packTells
end
