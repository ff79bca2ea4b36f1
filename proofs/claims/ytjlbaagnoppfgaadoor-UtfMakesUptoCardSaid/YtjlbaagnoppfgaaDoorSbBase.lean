/-
  What strings.Builder's copyCheck and String come to, at a builder of the call's own. No conditions.
-/
import Derived.Test.YtjlbaagnoppfgaaDoorSxCtx
import Derived.Test.YtjlbaagnoppfgaaDoorSxBuf
import Derived.Lib.Builder
import Derived.Lib.UnsafeStr
import Derived.Lib.FrozenHead2
import Derived.Lib.Walk
import Derived.BigRegion
import Derived.Laws.Externs
namespace Go.Proofs.YtjlbaagnoppfgaaDoor
set_option linter.unusedSectionVars false
set_option linter.unusedSimpArgs false
set_option linter.unusedVariables false
open Go Go.SX Go.RowKit
set_option maxRecDepth 100000
set_option maxHeartbeats 4000000
theorem sbInfo : ∃ j, Tryd.prog.info? 72 = some j ∧ j.size = 2 := Option.map_eq_some_iff.1 (show (Tryd.prog.info? 72).map (·.size) = some 2 by kernel_rfl)
theorem u8Info : ∃ i, Tryd.prog.info? 5 = some i ∧ i.zero = some (.int .u8 0) ∧ i.size = 1 ∧ i.bytes = 1 := by
  obtain ⟨i, h1, h2⟩ := Option.map_eq_some_iff.1 (show (Tryd.prog.info? 5).map (fun i => (i.zero, i.size, i.bytes)) = some (some (.int .u8 0), 1, 1) by kernel_rfl)
  simp only [Prod.mk.injEq] at h2
  exact ⟨i, h1, h2.1, h2.2.1, h2.2.2⟩
theorem cc_used (b : Nat) (w : World) (h0 : w.cell? ⟨b, 0, none⟩ = some (.pointer (some ⟨b, 0, none⟩))) :
    Calls Tryd.prog 53 #[.pointer (some ⟨b, 0, none⟩)] w fun e w' => e = .returned (.tuple #[]) ∧ w' = w := by
  obtain ⟨j, hj, _⟩ := sbInfo
  go_enter Tryd.func53, Tryd.ntmps53
  go_wp2
  rw [Lib.run_neq_ptr_same w _ Tryd.underlying70 hj]
  go_wp2
  go_end0
  exact ⟨rfl, rfl⟩
theorem cc_fresh (b : Nat) (w : World) (h0 : w.cell? ⟨b, 0, none⟩ = some (.pointer none)) (hsh : w.shape? b = some (72, 2)) (hfz : w.frozen? ⟨b, 0, none⟩ = false) :
    Calls Tryd.prog 53 #[.pointer (some ⟨b, 0, none⟩)] w fun e w' => e = .returned (.tuple #[]) ∧ w' = w.setCell ⟨b, 0, none⟩ (.pointer (some ⟨b, 0, none⟩)) := by
  obtain ⟨j, hj, hjs⟩ := sbInfo
  go_enter Tryd.func53, Tryd.ntmps53
  go_wp2
  rw [Lib.run_to_unsafe w ⟨b, 0, none⟩ Tryd.underlying70 Tryd.underlying99 hj (by rw [hjs]; decide) hsh (Nat.zero_lt_succ 1)]
  simp only [Result.andThen]
  rw [Oper.upon_value]
  go_wp2
  rw [run_callFunc_extern Tryd.func58 (by kernel_rfl) (by kernel_rfl) (by kernel_rfl) (e := Extern.AbiNoEscape.same) (by kernel_rfl)]
  rw [Lib.run_noEscape]
  simp only [Result.andThen]
  rw [Oper.upon_value]
  go_wp2
  rw [Lib.run_from_unsafe w ⟨b, 0, none⟩ Tryd.underlying99 Tryd.underlying70 hj hsh (by kernel_rfl)]
  simp only [Result.andThen]
  rw [Oper.upon_value]
  go_wp2
  go_end0
  exact ⟨rfl, rfl⟩
theorem set_cell0 {w : World} {b : Nat} {p v q : Value} (h : w.heap[b]? = some (.cells #[p, v] 72 (0, 0))) : (w.setCell ⟨b, 0, none⟩ q).heap[b]? = some (.cells #[q, v] 72 (0, 0)) :=
  heap_setCell_same w b 0 #[p, v] 72 q h
theorem set_cell1 {w : World} {b : Nat} {p v q : Value} (h : w.heap[b]? = some (.cells #[p, v] 72 (0, 0))) : (w.setCell ⟨b, 1, none⟩ q).heap[b]? = some (.cells #[p, q] 72 (0, 0)) :=
  heap_setCell_same w b 1 #[p, v] 72 q h
theorem set_stp (w : World) (b i : Nat) (q : Value) : Stp (fun k => k = b) w (w.setCell ⟨b, i, none⟩ q) :=
  ⟨rfl, rfl, rfl, by simp [World.setCell], fun k _ hk => heap_setCell_other w ⟨b, i, none⟩ k q hk⟩
/-- copyCheck: the builder's first cell is its own address. -/
theorem cc (b : Nat) (p v : Value) (w : World) (hp : p = .pointer none ∨ p = .pointer (some ⟨b, 0, none⟩)) (h : w.heap[b]? = some (.cells #[p, v] 72 (0, 0))) :
    Calls Tryd.prog 53 #[.pointer (some ⟨b, 0, none⟩)] w fun e w' => e = .returned (.tuple #[]) ∧ w'.heap[b]? = some (.cells #[.pointer (some ⟨b, 0, none⟩), v] 72 (0, 0)) ∧ Stp (fun k => k = b) w w' := by
  have c0 : w.cell? ⟨b, 0, none⟩ = some p := by rw [Lib.cell_of_heap h]; rfl
  rcases hp with rfl | rfl
  · refine (cc_fresh b w c0 (by simp [World.shape?, h]) (Lib.frozen_of_heap h 0)).mono ?_
    rintro e w' ⟨rfl, rfl⟩
    exact ⟨rfl, set_cell0 h, set_stp _ _ _ _⟩
  · refine (cc_used b w c0).mono ?_
    rintro e w' ⟨rfl, rfl⟩
    exact ⟨rfl, h, Stp.refl _ _⟩
/-- what a method that writes must show behind copyCheck -/
theorem sb_end {β : Nat → Option Nat} {w w1 w2 : World} {id id2 b : Nat} {l : Str} {q u v : Value} {b2 : Option Nat} (hne : id ≠ id2) (hb : β id = some b) (hdis : ∀ g, β id2 = some g → β id ≠ some g) (hlt : b < w.heap.size)
    (hs1 : Stp (fun k => k = b) w w1) (hb1 : w1.heap[b]? = some (.cells #[q, u] 72 (0, 0))) (hq : q = .pointer none ∨ q = .pointer (some ⟨b, 0, none⟩)) (hn : BufNext β w1 w2 id2 5 l v b2) :
    Stp (fun k => β id = some k ∨ β id2 = some k) w (w2.setCell ⟨b, 1, none⟩ v) ∧ (∀ g, b2 = some g → g < (w2.setCell ⟨b, 1, none⟩ v).heap.size ∧ (β id2 = some g ∨ w.heap.size ≤ g)) ∧
      ∀ O' : Nat → Prop, (∀ k, k < w.heap.size → O' k → True) → ObAt (setβ β id2 b2) O' (w2.setCell ⟨b, 1, none⟩ v) id id2 (.sb 72 5 l) (.pointer (some ⟨b, 0, none⟩)) := by
  have hb2 : w2.heap[b]? = some (.cells #[q, u] 72 (0, 0)) := by
    rw [hn.stp.block b (Nat.lt_of_lt_of_le hlt hs1.size) fun e => hdis b e hb]
    exact hb1
  have hnb : ∀ g, b2 = some g → g ≠ b := by
    rintro g hg rfl
    rcases (hn.blk g hg).2 with h | h
    · exact hdis g h hb
    · exact absurd (Nat.lt_of_lt_of_le hlt hs1.size) (by omega)
  refine ⟨((hs1.mono fun k _ hk => .inl (by rw [hb, hk])).trans (hn.stp.mono fun k _ hk => .inr hk) fun _ _ h => h).trans (set_stp w2 b 1 _) fun k _ hk => .inl (by rw [hb, hk]), fun g hg => ?_, fun O' _ => ?_⟩
  · refine ⟨by rw [show (w2.setCell ⟨b, 1, none⟩ v).heap.size = w2.heap.size by simp [World.setCell]]; exact (hn.blk g hg).1, ?_⟩
    exact (hn.blk g hg).2.imp (fun h => h) fun h => Nat.le_trans hs1.size h
  · refine ⟨b, q, v, by unfold setβ; rw [if_neg hne]; exact hb, rfl, set_cell1 hb2, hq, hn.buf _ _ (by simp [setβ]) fun g hg => ?_⟩
    exact heap_setCell_other w2 ⟨b, 1, none⟩ g v (hnb g hg)
/-- the buffer does not see copyCheck -/
theorem buf_kept {β : Nat → Option Nat} {w w1 : World} {id2 : Nat} {e : TypeId} {l : Str} {u : Value} (h : BufAt β w id2 e l u) (hk : ∀ g, β id2 = some g → w1.heap[g]? = w.heap[g]?) : BufAt β w1 id2 e l u := by
  rcases h with h | ⟨g, c, cur, fz, h1, h2, h3, h4⟩
  · exact .inl h
  · exact .inr ⟨g, c, cur, fz, h1, h2, (hk g h1).trans h3, h4⟩
theorem buf_lt {β : Nat → Option Nat} {w : World} {id2 : Nat} {e : TypeId} {l : Str} {u : Value} (h : BufAt β w id2 e l u) {g : Nat} (hg : β id2 = some g) : g < w.heap.size := by
  rcases h with ⟨_, _, h⟩ | ⟨g', c, cur, fz, h1, h2, h3, h4⟩
  · rw [h] at hg; cases hg
  · rw [h1] at hg; injection hg with hg; subst hg; exact (Array.getElem?_eq_some_iff.1 h3).1
variable [Globs]
/-- **String** -/
theorem sb_String (l : Str) : ObSpec Tryd.prog 39 (.sb 72 5 l) [] (.s l) (.sb 72 5 l) := by
  refine ⟨Tryd.call39, fun β O w id id2 v vs hne hO hid hid2 hdis hG hob hargs => ?_⟩
  obtain rfl := hargs.nil_inv
  obtain ⟨b, p, u, hb, rfl, hbk, hp, hbuf⟩ := hob
  have hlt : b < w.heap.size := (Array.getElem?_eq_some_iff.1 hbk).1
  have hcell : Tryd.prog.cellsOf 5 = 1 := by kernel_rfl
  have c1 : w.drew.cell? ⟨b, 1, none⟩ = some u := by
    have : w.drew.heap[b]? = some (.cells #[p, u] 72 (0, 0)) := hbk
    rw [Lib.cell_of_heap this]; rfl
  rcases hbuf with ⟨rfl, rfl, h3⟩ | ⟨g, c, cur, fz, h1, rfl, h2, h3, h4, h5, h6, h7, h8⟩
  · have hSD : (Builtin.unsafeSliceData_ #[60] 91 #[.slice none 0 0]).run Tryd.prog w.drew = .ok (.pointer none) w.drew := Lib.run_unsafeSliceData_nil _ _ _ _ _
    have hUS : (Builtin.unsafeString_ #[91, 3] 9 #[.pointer none, .int .i64 0]).run Tryd.prog w.drew = .ok (.string .empty) w.drew := Lib.run_unsafeString_none w.drew _ _ _ _
    have hob : ∀ O' : Nat → Prop, ObAt (setβ β id2 (β id2)) O' w.drew id id2 (.sb 72 5 []) (.pointer (some ⟨b, 0, none⟩)) := fun O' =>
      ⟨b, p, _, by unfold setβ; rw [if_neg hne]; exact hb, rfl, hbk, hp, .inl ⟨rfl, rfl, by simp [setβ, h3]⟩⟩
    have fin : Stp (fun k => β id = some k ∨ β id2 = some k) w w.drew := (Stp.drew w).mono fun _ _ h => h.elim
    have him : Im (fun _ => True) w.drew (.s []) (.string .empty) := .s [] (Nat.zero_le _)
    go_enter Tryd.func39, Tryd.ntmps39
    go_wp2
    go_region
    all_goals
      go_wp2
      go_ret
      exact ⟨_, β id2, rfl, fin, (fun g hg => by rw [h3] at hg; cases hg), him, fun O' _ => hob O'⟩
  · have hl0 : l.length ≠ 0 := by simpa using h8
    have hgb : g ≠ b := fun e => hdis g h1 (by rw [hb, e])
    have hSD : (Builtin.unsafeSliceData_ #[60] 91 #[.slice (some ⟨g, 0, none⟩) l.length c]).run Tryd.prog w.drew = .ok (.pointer (some ⟨g, 0, none⟩)) w.drew :=
      Lib.run_unsafeSliceData_row _ _ _ _ _ _ (by omega)
    have h2' : w.drew.heap[g]? = some (.cells cur 5 fz) := h2
    have hUS : (Builtin.unsafeString_ #[91, 3] 9 #[.pointer (some ⟨g, 0, none⟩), .int .i64 l.length]).run Tryd.prog w.drew = .ok (.string ⟨l.toArray⟩) (w.drew.freeze ⟨g, 0, none⟩ l.length) := by
      refine Lib.run_unsafeString_row w.drew 91 3 9 5 Tryd.underlying91 hcell g cur.size (by simp [World.shape?, h2']) l h8 (by omega) (by unfold maxLen at h5; omega) ?_
      intro j x hx
      have hadd : (⟨g, 0, none⟩ : Addr).add j = ⟨g, j, none⟩ := by unfold Addr.add; split <;> simp_all
      rw [hadd, cell_of_row w.drew g j cur 5 fz h2']
      have hv : (bcells l)[j]? = some (.int .u8 x.toNat) := by simp [bcells, hx]
      rw [← h7, List.getElem?_take] at hv
      split at hv
      · simpa using hv
      · cases hv
    have hheap : ∀ k, k ≠ g → (w.drew.freeze ⟨g, 0, none⟩ l.length).heap[k]? = w.heap[k]? := by
      intro k hk
      unfold World.freeze
      rw [if_neg hl0]
      simp only [Array.getElem?_modify]
      rw [if_neg (fun e => hk e.symm)]
      rfl
    have hsz : (w.drew.freeze ⟨g, 0, none⟩ l.length).heap.size = w.heap.size := by
      unfold World.freeze
      rw [if_neg hl0]
      simp only [Array.size_modify]
      rfl
    have hg2 : ∃ fz', (w.drew.freeze ⟨g, 0, none⟩ l.length).heap[g]? = some (.cells cur 5 fz') ∧ fz'.2 ≤ l.length := by
      obtain ⟨lo, hi⟩ := fz
      unfold World.freeze
      rw [if_neg hl0]
      refine ⟨(if lo == hi then (0, 0 + l.length) else (min lo 0, max hi (0 + l.length))), by simp [Array.getElem?_modify, h2'], ?_⟩
      simp only at h3
      split <;> simp <;> omega
    obtain ⟨fz', hg2, hfz'⟩ := hg2
    have hob : ∀ O' : Nat → Prop, ObAt (setβ β id2 (β id2)) O' (w.drew.freeze ⟨g, 0, none⟩ l.length) id id2 (.sb 72 5 l) (.pointer (some ⟨b, 0, none⟩)) := fun O' =>
      ⟨b, p, _, by unfold setβ; rw [if_neg hne]; exact hb, rfl, (hheap b (fun e => hgb e.symm)).trans hbk, hp, .inr ⟨g, c, cur, fz', by simp [setβ, h1], rfl, hg2, hfz', h4, h5, h6, h7, h8⟩⟩
    have fin : Stp (fun k => β id = some k ∨ β id2 = some k) w (w.drew.freeze ⟨g, 0, none⟩ l.length) := by
      refine ⟨?_, ?_, ?_, Nat.le_of_eq hsz.symm, fun k _ hk => hheap k fun e => hk (.inr (by rw [h1, e]))⟩ <;> (unfold World.freeze; rw [if_neg hl0]; rfl)
    have him : Im (fun _ => True) (w.drew.freeze ⟨g, 0, none⟩ l.length) (.s l) (.string ⟨l.toArray⟩) := .s l (by omega)
    have hblk : ∀ g', β id2 = some g' → g' < (w.drew.freeze ⟨g, 0, none⟩ l.length).heap.size ∧ (β id2 = some g' ∨ w.heap.size ≤ g') := fun g' hg' => by
      refine ⟨?_, .inl hg'⟩
      rw [h1] at hg'
      injection hg' with hg'
      subst hg'
      rw [hsz]
      exact (Array.getElem?_eq_some_iff.1 h2).1
    go_enter Tryd.func39, Tryd.ntmps39
    go_wp2
    go_region
    all_goals
      go_wp2
      go_ret
      exact ⟨_, β id2, rfl, fin, hblk, him, fun O' _ => hob O'⟩
end Go.Proofs.YtjlbaagnoppfgaaDoor
