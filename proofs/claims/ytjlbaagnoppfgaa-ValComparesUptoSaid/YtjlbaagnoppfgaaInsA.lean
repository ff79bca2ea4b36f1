/-
  'slices.Insert' of one element of several cells: its four ways, walked over the model, and its contract. No conditions.
-/
import Derived.Test.YtjlbaagnoppfgaaInsLaw
import Derived.Test.YtjlbaagnoppfgaaSxCtx
import Derived.WalkKit
import Derived.Shelf.Spec.SlicesInsert
namespace Go.Proofs.Ytjlbaagnoppfgaa
set_option linter.unusedSectionVars false
set_option linter.unusedSimpArgs false
set_option linter.unusedVariables false
open Go Go.SX Go.RowKit Go.Lib
set_option maxRecDepth 100000
set_option maxHeartbeats 4000000
theorem ins_szE (w : World) : (Go.sizeOf 167).run Try.prog w = .ok 7 w := letI : Globs := ⟨[]⟩; elem_sz ti167_ok (τ := .ent) rfl w
theorem ins_ovE (w : World) (g vb o m vc lb cb : Nat) (cur cur2 : Array Value) (e e2 : TypeId) (hvb : vb ≠ g) (hg : w.heap[g]? = some (.cells cur e (0, 0))) (hv : w.heap[vb]? = some (.cells cur2 e2 (0, 0))) (hk : cur.size ≠ 0) :
    (callFunc 129 #[.slice (some ⟨vb, 0, none⟩) m vc, .slice (some ⟨g, o, none⟩) lb cb]).run Try.prog w = .ok (.value (.bool false)) w := by
  rw [run_callFunc_extern Try.func129 (by kernel_rfl) (by kernel_rfl) (by kernel_rfl) (e := Extern.SlicesOverlaps.overlaps #[92, 92] #[4]) (by kernel_rfl),
      Lib.run_overlaps_apart w 92 4 167 Try.underlying92 7 ins_szE ⟨vb, 0, none⟩ ⟨g, o, none⟩ m vc lb cb hvb e2 e cur2.size cur.size (by simp [World.shape?, hv]) (by simp [World.shape?, hg]) hk (by simp [World.frozen?, hv]) (by simp [World.frozen?, hv])]
  rfl
theorem ins_shiftE (g n c i vb m vc : Nat) (cur cur2 : Array Value) (e e2 : TypeId) (w : World) (hi : i < n) (hm : 0 < m) (hroom : n + m ≤ c) (hc63 : c ≤ 9223372036854775807) (hvb : vb ≠ g)
    (hg : w.heap[g]? = some (.cells cur e (0, 0))) (hcs : cur.size = c * 7) (hv : w.heap[vb]? = some (.cells cur2 e2 (0, 0))) (hcs2 : cur2.size = vc * 7) (hvc : m ≤ vc)
    (h1c : ∀ v ∈ cur.toList.take (n * 7), v.oneCell' = true) (h1v : ∀ v ∈ cur2.toList.take (m * 7), v.oneCell' = true) :
    Calls Try.prog 110 #[.slice (some ⟨g, 0, none⟩) n c, .int .i64 i, .slice (some ⟨vb, 0, none⟩) m vc] w fun e w' =>
      e = .returned (.slice (some ⟨g, 0, none⟩) (n + m) c) ∧ w' = (w.drew.setRow g (spl cur ((i + m) * 7) ((cur.toList.take (n * 7)).drop (i * 7)))).setRow g (spl (spl cur ((i + m) * 7) ((cur.toList.take (n * 7)).drop (i * 7))) (i * 7) (cur2.toList.take (m * 7))) := by
  have mixed : Try.prog.follows .mixedOrders = true := by kernel_rfl
  have hz1 : ¬ ((m : Int) = 0) := by omega
  have hz2 : ¬ ((i : Int) = (n : Int)) := by omega
  have hw1 : IntKind.i64.wrap ((i : Int) + (m : Int)) = (i : Int) + (m : Int) := by rw [IntKind.wrap_i64]; omega
  have hb1 : (0 : Int) ≤ (i : Int) + (m : Int) := by omega
  have hin : i ≤ n := by omega
  have htn : ((i : Int) + (m : Int)).toNat = i + m := by omega
  have hb2 : ¬ (c = i + m) := by omega
  have hb3 : (i : Int) ≤ (n : Int) + (m : Int) := by omega
  have hb4 : ¬ (c = i) := by omega
  have hov : ∀ lb cb, (callFunc 129 #[.slice (some ⟨vb, 0, none⟩) m vc, .slice (some ⟨g, (i + m) * 7, none⟩) lb cb]).run Try.prog w = .ok (.value (.bool false)) w := fun lb cb =>
    ins_ovE w g vb _ m vc lb cb cur cur2 e e2 hvb hg hv (by omega)
  have hl : cur.toList.length = cur.size := Array.length_toList
  have hl2 : cur2.toList.length = cur2.size := Array.length_toList
  have hdl : ((cur.toList.take (n * 7)).drop (i * 7)).length = (n - i) * 7 := by rw [List.length_drop, List.length_take, hl]; omega
  have htl : (cur2.toList.take (m * 7)).length = m * 7 := by rw [List.length_take, hl2]; omega
  obtain ⟨r1, hr1⟩ : ∃ r1, r1 = spl cur ((i + m) * 7) ((cur.toList.take (n * 7)).drop (i * 7)) := ⟨_, rfl⟩
  have hfit : (i + m) * 7 + ((cur.toList.take (n * 7)).drop (i * 7)).length ≤ cur.size := by rw [hdl]; omega
  have hr1s : r1.size = cur.size := by rw [hr1]; exact spl_size hfit
  have hcp1 : ∀ ty dc sc, (Builtin.copy_ #[92, 92] ty #[.slice (some ⟨g, (i + m) * 7, none⟩) (n + m - (i + m)) dc, .slice (some ⟨g, i * 7, none⟩) (n + m - i) sc]).run Try.prog w.drew = .ok (goInt ((n - i : Nat) : Int)) (w.drew.setRow g r1) := fun ty dc sc => by
    have hmin : Nat.min (n + m - i) (n + m - (i + m)) = n - i := by show min _ _ = _; omega
    have := run_copyR w.drew 92 92 ty 167 7 g ((i + m) * 7) (n + m - (i + m)) dc ⟨g, i * 7, none⟩ (n + m - i) sc ((cur.toList.take (n * 7)).drop (i * 7)) cur e Try.underlying92 ins_szE (by rw [hdl, hmin])
      (fun j v hj => by
        rw [Addr.add_lit, cell_of_row w.drew g _ cur e (0, 0) hg]
        rw [List.getElem?_drop, List.getElem?_take] at hj
        split at hj
        · simpa using hj
        · cases hj) hg hfit (fun v hv => h1c v (List.mem_of_mem_drop hv))
    rw [hmin, ← hr1] at this
    exact this
  have hcp2 : ∀ (W : World), (∀ k : Nat, W.heap[k]? = (w.drew.setRow g r1).heap[k]?) → ∀ ty dc, (Builtin.copy_ #[92, 92] ty #[.slice (some ⟨g, i * 7, none⟩) (n + m - i) dc, .slice (some ⟨vb, 0, none⟩) m vc]).run Try.prog W = .ok (goInt ((m : Nat) : Int)) (W.setRow g (spl r1 (i * 7) (cur2.toList.take (m * 7)))) := fun W hW ty dc => by
    have hmin : Nat.min m (n + m - i) = m := by show min _ _ = _; omega
    have hvW : W.heap[vb]? = some (.cells cur2 e2 (0, 0)) := by rw [hW, setRow_other _ _ _ _ hvb]; exact hv
    have hgW : W.heap[g]? = some (.cells r1 e (0, 0)) := by rw [hW]; exact setRow_heap w.drew g cur r1 e (0, 0) hg
    have := run_copyR W 92 92 ty 167 7 g (i * 7) (n + m - i) dc ⟨vb, 0, none⟩ m vc (cur2.toList.take (m * 7)) r1 e Try.underlying92 ins_szE (by rw [htl, hmin])
      (fun j v hj => by
        rw [Addr.add_lit, cell_of_row W vb _ cur2 e2 (0, 0) hvW, Nat.zero_add]
        rw [List.getElem?_take] at hj
        split at hj
        · simpa using hj
        · cases hj) hgW (by rw [htl, hr1s]; omega) h1v
    rw [hmin] at this
    exact this
  rw [← hr1]
  clear hr1 hr1s h1c h1v hcs hcs2 hg hv hfit hl hl2 hdl htl
  go_enter Try.func110, Try.ntmps110
  go_wp2_with (simp only [hov])
  go_region_law_o (refine step_copy_runI rfl _ _ 92 92 rfl _ _ (by simp [Act.eval, Act.put]) (by simp [Act.eval, Act.put]) (hcp1 _ _ _) ?_)
  go_wp2_with (at_builtin; refine wpList_copy_runI _ rfl _ _ 92 92 rfl _ _ rfl rfl (hcp2 _ (fun _ => rfl) _ _) ?_)
  go_ret
  first | exact ⟨rfl, rfl⟩ | exact ⟨trivial, rfl⟩
theorem ins_end_roomE (g n c vb m vc : Nat) (cur cur2 : Array Value) (e e2 : TypeId) (w : World) (hm : 0 < m) (hroom : n + m ≤ c) (hc63 : c ≤ 9223372036854775807) (hvb : vb ≠ g)
    (hg : w.heap[g]? = some (.cells cur e (0, 0))) (hcs : cur.size = c * 7) (hv : w.heap[vb]? = some (.cells cur2 e2 (0, 0))) (hcs2 : cur2.size = vc * 7) (hvc : m ≤ vc)
    (h1c : ∀ v ∈ cur.toList.take (n * 7), v.oneCell' = true) (h1v : ∀ v ∈ cur2.toList.take (m * 7), v.oneCell' = true) (hbig : (n + m) * 104 ≤ 140737488355328) :
    Calls Try.prog 110 #[.slice (some ⟨g, 0, none⟩) n c, .int .i64 n, .slice (some ⟨vb, 0, none⟩) m vc] w fun e w' =>
      e = .returned (.slice (some ⟨g, 0, none⟩) (n + m) c) ∧ w' = w.setRow g (spl cur (n * 7) (cur2.toList.take (m * 7))) := by
  letI : Globs := ⟨[]⟩
  have mixed : Try.prog.follows .mixedOrders = true := by kernel_rfl
  have hz1 : ¬ ((m : Int) = 0) := by omega
  have hl : cur.toList.length = cur.size := Array.length_toList
  have hl2 : cur2.toList.length = cur2.size := Array.length_toList
  have htl : (cur2.toList.take (m * 7)).length = m * 7 := by rw [List.length_take, hl2]; omega
  have hrun : ∀ ty, (Builtin.append_ #[92, 92] ty #[.slice (some ⟨g, 0, none⟩) n c, .slice (some ⟨vb, 0, none⟩) m vc]).run Try.prog w = .ok (.slice (some ⟨g, 0, none⟩) (n + m) c) (w.setRow g (spl cur (n * 7) (cur2.toList.take (m * 7)))) := fun ty => by
    have hst := run_storeCells_at Try.prog g (n * 7) e (cur2.toList.take (m * 7)) 0 cur w hg (by rw [htl]; omega) h1v
    simp only [Nat.add_zero] at hst
    refine (run_append_gen (w := w) Try.underlying92 Try.underlying92 ti167_ok (τ := .ent) rfl ty (A := some ⟨g, 0, none⟩) (A2 := some ⟨vb, 0, none⟩) (n := n) (cap := c) (m := m) (c := vc) (olds := cur.toList.take (n * 7)) (news := cur2.toList.take (m * 7)) (fun w' hw => ?_) (fun w' hw => ?_) hbig (by unfold maxLen; omega)).1 hroom _ ?_
    · exact run_firstCells_some w' 7 n ⟨g, 0, none⟩ n c _ (by rw [List.length_take, hl]; omega) (fun j v hj => by
        rw [Addr.add_lit, cell_of_row w' g _ cur e (0, 0) (by rw [hw]; exact hg), Nat.zero_add]
        rw [List.getElem?_take] at hj
        split at hj
        · simpa using hj
        · cases hj)
    · exact run_firstCells_some w' 7 m ⟨vb, 0, none⟩ m vc _ htl (fun j v hj => by
        rw [Addr.add_lit, cell_of_row w' vb _ cur2 e2 (0, 0) (by rw [hw]; exact hv), Nat.zero_add]
        rw [List.getElem?_take] at hj
        split at hj
        · simpa using hj
        · cases hj)
    · show (storeCells ((⟨g, 0, none⟩ : Addr).add (n * 7)) _).run _ _ = _
      rw [Addr.add_lit, Nat.zero_add]
      exact hst
  clear h1c h1v hg hv hcs hcs2 hl hl2 htl
  go_enter Try.func110, Try.ntmps110
  go_wp2_with (at_builtin; refine Lib.wpList_append_run _ rfl _ _ _ _ rfl _ _ rfl rfl _ _ (hrun _) ?_)
  go_ret
  exact ⟨rfl, rfl⟩
theorem ins_end_growE (base : Option Addr) (n c vb m vc : Nat) (cs : List Value) (cur2 : Array Value) (e2 : TypeId) (w : World) (hm : 0 < m) (hnc : n ≤ c) (hroom : c < n + m)
    (hcl : cs.length = n * 7) (hcs : ∀ w' : World, w'.heap = w.heap → (Builtin.firstCells 7 n (.slice base n c)).run Try.prog w' = .ok cs.toArray w') (hv : w.heap[vb]? = some (.cells cur2 e2 (0, 0))) (hcs2 : cur2.size = vc * 7) (hvc : m ≤ vc)
    (h1v : ∀ v ∈ cur2.toList.take (m * 7), v.oneCell' = true) (hnil : base = none → n = 0 ∧ c = 0) (hbig : (n + m) * 104 ≤ 140737488355328) :
    Calls Try.prog 110 #[.slice base n c, .int .i64 n, .slice (some ⟨vb, 0, none⟩) m vc] w fun e w' =>
      ∃ z : Value, z.cells = ti167.zero.toArray ∧ e = .returned (.slice (some ⟨w.heap.size, 0, none⟩) (n + m) (grownCap w (n + m) c 167)) ∧
      w' = w.drew.alloc (.cells (cs.toArray ++ (cur2.toList.take (m * 7)).toArray ++ Builtin.zeroCells z.cells (grownCap w (n + m) c 167 - (n + m))) 167) := by
  letI : Globs := ⟨[]⟩
  have mixed : Try.prog.follows .mixedOrders = true := by kernel_rfl
  have hz1 : ¬ ((m : Int) = 0) := by omega
  have hl2 : cur2.toList.length = cur2.size := Array.length_toList
  have htl : (cur2.toList.take (m * 7)).length = m * 7 := by rw [List.length_take, hl2]; omega
  have hrun : ∃ z : Value, z.cells = ti167.zero.toArray ∧ ∀ ty, (Builtin.append_ #[92, 92] ty #[.slice base n c, .slice (some ⟨vb, 0, none⟩) m vc]).run Try.prog w =
      .ok (.slice (some ⟨w.heap.size, 0, none⟩) (n + m) (grownCap w (n + m) c 167)) (w.drew.alloc (.cells (cs.toArray ++ (cur2.toList.take (m * 7)).toArray ++ Builtin.zeroCells z.cells (grownCap w (n + m) c 167 - (n + m))) 167)) := by
    have h := fun ty => (run_append_gen (w := w) Try.underlying92 Try.underlying92 ti167_ok (τ := .ent) rfl ty (A := base) (A2 := some ⟨vb, 0, none⟩) (n := n) (cap := c) (m := m) (c := vc) (olds := cs) (news := cur2.toList.take (m * 7)) (fun w' hw => hcs w' hw) (fun w' hw => run_firstCells_some w' 7 m ⟨vb, 0, none⟩ m vc _ htl (fun j v hj => by
        rw [Addr.add_lit, cell_of_row w' vb _ cur2 e2 (0, 0) (by rw [hw]; exact hv), Nat.zero_add]
        rw [List.getElem?_take] at hj
        split at hj
        · simpa using hj
        · cases hj)) hbig (by unfold maxLen; omega)).2 hroom
    obtain ⟨z, hz, _⟩ := h 92
    refine ⟨z, hz, fun ty => ?_⟩
    obtain ⟨z', hz', h'⟩ := h ty
    rw [hz, ← hz']
    exact h'
  obtain ⟨z, hz, hrun⟩ := hrun
  obtain ⟨G, hG⟩ : ∃ G, G = grownCap w (n + m) c 167 := ⟨_, rfl⟩
  rw [← hG] at hrun ⊢
  obtain ⟨W1, hW1⟩ : ∃ W1, W1 = w.drew.alloc (.cells (cs.toArray ++ (cur2.toList.take (m * 7)).toArray ++ Builtin.zeroCells z.cells (G - (n + m))) 167) := ⟨_, rfl⟩
  rw [← hW1] at hrun
  refine Calls.mono (R := fun e w' => e = .returned (.slice (some ⟨w.heap.size, 0, none⟩) (n + m) G) ∧ w' = W1) ?_ (fun e w' h => ⟨z, hz, h.1, h.2.trans hW1⟩)
  clear h1v hv hcs2 hl2 htl hcs hW1 hG hz
  cases base with
  | none =>
    obtain ⟨h0, h0'⟩ := hnil rfl
    subst h0 h0'
    go_enter Try.func110, Try.ntmps110
    go_wp2_with (at_builtin; refine Lib.wpList_append_run _ rfl _ _ _ _ rfl _ _ rfl rfl _ _ (hrun _) ?_)
    go_ret
    exact ⟨rfl, rfl⟩
  | some a =>
    obtain ⟨ab, ao, asp⟩ := a
    go_enter Try.func110, Try.ntmps110
    go_wp2_with (at_builtin; refine Lib.wpList_append_run _ rfl _ _ _ _ rfl _ _ rfl rfl _ _ (hrun _) ?_)
    all_goals (go_ret; exact ⟨rfl, rfl⟩)
theorem ins_growE (g n c i vb m vc : Nat) (cur cur2 : Array Value) (e e2 : TypeId) (w : World) (hi : i < n) (hm : 0 < m) (hnc : n ≤ c) (hroom : c < n + m)
    (hg : w.heap[g]? = some (.cells cur e (0, 0))) (hcs : cur.size = c * 7) (hv : w.heap[vb]? = some (.cells cur2 e2 (0, 0))) (hcs2 : cur2.size = vc * 7) (hvc : m ≤ vc)
    (h1c : ∀ v ∈ cur.toList.take (n * 7), v.oneCell' = true) (h1v : ∀ v ∈ cur2.toList.take (m * 7), v.oneCell' = true) (hbig : (n + m) * 104 ≤ 140737488355328) :
    Calls Try.prog 110 #[.slice (some ⟨g, 0, none⟩) n c, .int .i64 i, .slice (some ⟨vb, 0, none⟩) m vc] w fun e' w' =>
      ∃ (row : Array Value) (W : World), row.size = grownCap w (n + m) c 167 * 7 ∧ (∀ j, j < i * 7 → row[j]? = cur[j]?) ∧
      e' = .returned (.slice (some ⟨w.heap.size, 0, none⟩) (n + m) (grownCap w (n + m) c 167)) ∧ W.heap = (w.drew.alloc (.cells row 167)).heap ∧ W.os = w.os ∧ W.tape = w.tape ∧ W.output = w.output ∧
      w' = (W.setRow w.heap.size (spl row (i * 7) (cur2.toList.take (m * 7)))).drew.setRow w.heap.size (spl (spl row (i * 7) (cur2.toList.take (m * 7))) ((i + m) * 7) ((cur.toList.take (n * 7)).drop (i * 7))) := by
  letI : Globs := ⟨[]⟩
  have mixed : Try.prog.follows .mixedOrders = true := by kernel_rfl
  have hz1 : ¬ ((m : Int) = 0) := by omega
  have hz2 : ¬ ((i : Int) = (n : Int)) := by omega
  have hz3 : (c : Int) < (n : Int) + (m : Int) := by omega
  have hbw : g < w.heap.size := (Array.getElem?_eq_some_iff.1 hg).1
  have hvw : vb < w.heap.size := (Array.getElem?_eq_some_iff.1 hv).1
  have hkk : (n : Int) + (m : Int) - (i : Int) = ((n + m - i : Nat) : Int) := by omega
  have hik : i + (n + m - i) = n + m := by omega
  have hl : cur.toList.length = cur.size := Array.length_toList
  have hl2 : cur2.toList.length = cur2.size := Array.length_toList
  have hdl : ((cur.toList.take (n * 7)).drop (i * 7)).length = (n - i) * 7 := by rw [List.length_drop, List.length_take, hl]; omega
  have htl : (cur2.toList.take (m * 7)).length = m * 7 := by rw [List.length_take, hl2]; omega
  obtain ⟨i0, z, hi0, hi1, hi2, hi3, hi4⟩ := ti167_ok.info
  have hzl : z.cells.size = 7 := by rw [hi4]; rfl
  have hold : (Builtin.firstCells i0.size i (.slice (some ⟨g, 0, none⟩) i c)).run Try.prog w.drew = .ok (cur.toList.take (i * 7)).toArray w.drew := by
    rw [hi1]
    exact run_firstCells_some w.drew 7 i ⟨g, 0, none⟩ i c _ (by rw [List.length_take, hl]; omega) (fun j v hj => by
        rw [Addr.add_lit, cell_of_row w.drew g _ cur e (0, 0) hg, Nat.zero_add]
        rw [List.getElem?_take] at hj
        split at hj
        · simpa using hj
        · cases hj)
  have hib : i0.bytes = 104 := hi2
  have his : i0.size = 7 := hi1
  have hrz : ∀ ty, (Builtin.append_ #[92, 3] ty #[.slice (some ⟨g, 0, none⟩) i c, .int .i64 ((n : Int) + (m : Int) - (i : Int))]).run Try.prog w =
      .ok (.slice (some ⟨w.heap.size, 0, none⟩) (n + m) (grownCap w (n + m) c 167)) (w.drew.alloc (.cells ((cur.toList.take (i * 7)).toArray ++ Builtin.zeroCells z.cells (n + m - i) ++ Builtin.zeroCells z.cells (grownCap w (n + m) c 167 - (n + m))) 167)) := fun ty => by
    have h := Lib.run_append_grow_zeros w 92 3 ty 167 i0 z .i64 .i64 Try.underlying92 Try.underlying3 hi0 hi3 (some ⟨g, 0, none⟩) i c _ hold (n + m - i) (by omega) (by omega) (by omega) (by omega) (by rw [hib]; omega) (by rw [hib, hik]; exact growslice_fits hroom hbig)
    rw [hik] at h
    rw [hkk]
    exact h
  obtain ⟨G, hG⟩ : ∃ G, G = grownCap w (n + m) c 167 := ⟨_, rfl⟩
  obtain ⟨ROW, hROW⟩ : ∃ ROW : Array Value, ROW = (cur.toList.take (i * 7)).toArray ++ Builtin.zeroCells z.cells (n + m - i) ++ Builtin.zeroCells z.cells (G - (n + m)) := ⟨_, rfl⟩
  rw [← hG] at hrz ⊢
  rw [← hROW] at hrz
  have hGn : n + m ≤ G := by rw [hG]; exact grownCap_ge w _ _ _
  have hG63 : G ≤ 9223372036854775807 := by
    have := grownCap_le_maxLen w (n + m) c 167 (by unfold maxLen; omega)
    rw [← hG] at this
    unfold maxLen at this
    omega
  have hRs : ROW.size = G * 7 := by
    rw [hROW]
    simp only [Array.size_append, List.size_toArray, size_zeroCells, hzl, List.length_take, hl]
    omega
  have hRa : ∀ j, j < i * 7 → ROW[j]? = cur[j]? := fun j hj => by
    rw [hROW, Array.append_assoc, Array.getElem?_append_left (by simp only [List.size_toArray, List.length_take, hl]; omega), List.getElem?_toArray, List.getElem?_take, if_pos hj, Array.getElem?_toList]
  obtain ⟨W1, hW1⟩ : ∃ W1, W1 = w.drew.alloc (.cells ROW 167) := ⟨_, rfl⟩
  have hWN : W1.heap[w.heap.size]? = some (.cells ROW 167 (0, 0)) := by rw [hW1]; exact heap_alloc_new w.drew _
  have hWo : ∀ k, k < w.heap.size → W1.heap[k]? = w.heap[k]? := fun k hk => by rw [hW1]; exact (Stp.alloc w.drew _).block k hk (fun h => h)
  rw [← hW1] at hrz
  have hcpA : ∀ (W : World), (∀ k : Nat, W.heap[k]? = W1.heap[k]?) → ∀ ty dc, (Builtin.copy_ #[92, 92] ty #[.slice (some ⟨w.heap.size, i * 7, none⟩) (n + m - i) dc, .slice (some ⟨vb, 0, none⟩) m vc]).run Try.prog W = .ok (goInt ((m : Nat) : Int)) (W.setRow w.heap.size (spl ROW (i * 7) (cur2.toList.take (m * 7)))) := fun W hW ty dc => by
    have hmin : Nat.min m (n + m - i) = m := by show min _ _ = _; omega
    have hvW : W.heap[vb]? = some (.cells cur2 e2 (0, 0)) := by rw [hW, hWo _ hvw]; exact hv
    have := run_copyR W 92 92 ty 167 7 w.heap.size (i * 7) (n + m - i) dc ⟨vb, 0, none⟩ m vc (cur2.toList.take (m * 7)) ROW 167 Try.underlying92 ins_szE (by rw [htl, hmin])
      (fun j v hj => by
        rw [Addr.add_lit, cell_of_row W vb _ cur2 e2 (0, 0) hvW, Nat.zero_add]
        rw [List.getElem?_take] at hj
        split at hj
        · simpa using hj
        · cases hj) (by rw [hW]; exact hWN) (by rw [htl, hRs]; omega) h1v
    rw [hmin] at this
    exact this
  have hRs2 : (spl ROW (i * 7) (cur2.toList.take (m * 7))).size = G * 7 := by rw [spl_size (by rw [htl, hRs]; omega), hRs]
  have hcpB : ∀ (W : World), (∀ k : Nat, W.heap[k]? = (W1.setRow w.heap.size (spl ROW (i * 7) (cur2.toList.take (m * 7)))).heap[k]?) → ∀ ty dc sc, (Builtin.copy_ #[92, 92] ty #[.slice (some ⟨w.heap.size, (i + m) * 7, none⟩) (n + m - (i + m)) dc, .slice (some ⟨g, i * 7, none⟩) (n - i) sc]).run Try.prog W = .ok (goInt ((n - i : Nat) : Int)) (W.setRow w.heap.size (spl (spl ROW (i * 7) (cur2.toList.take (m * 7))) ((i + m) * 7) ((cur.toList.take (n * 7)).drop (i * 7)))) := fun W hW ty dc sc => by
    have hmin : Nat.min (n - i) (n + m - (i + m)) = n - i := by show min _ _ = _; omega
    have hgW : W.heap[g]? = some (.cells cur e (0, 0)) := by rw [hW, setRow_other _ _ _ _ (by omega), hWo _ hbw]; exact hg
    have := run_copyR W 92 92 ty 167 7 w.heap.size ((i + m) * 7) (n + m - (i + m)) dc ⟨g, i * 7, none⟩ (n - i) sc ((cur.toList.take (n * 7)).drop (i * 7)) _ 167 Try.underlying92 ins_szE (by rw [hdl, hmin])
      (fun j v hj => by
        rw [Addr.add_lit, cell_of_row W g _ cur e (0, 0) hgW]
        rw [List.getElem?_drop, List.getElem?_take] at hj
        split at hj
        · simpa using hj
        · cases hj) (by rw [hW]; exact setRow_heap W1 _ ROW _ 167 (0, 0) hWN) (by rw [hdl, hRs2]; omega) (fun v hv => h1c v (List.mem_of_mem_drop hv))
    rw [hmin] at this
    exact this
  have hGi : ¬ (G = i) := by omega
  have hGim : ¬ (G = i + m) := by omega
  have hci : ¬ (c = i) := by omega
  refine Calls.mono (R := fun e' w' => e' = .returned (.slice (some ⟨w.heap.size, 0, none⟩) (n + m) G) ∧ w' = ((w.drew.alloc (.cells ROW 167)).setRow w.heap.size (spl ROW (i * 7) (cur2.toList.take (m * 7)))).drew.setRow w.heap.size (spl (spl ROW (i * 7) (cur2.toList.take (m * 7))) ((i + m) * 7) ((cur.toList.take (n * 7)).drop (i * 7)))) ?_ (fun e' w' h => ⟨ROW, w.drew.alloc (.cells ROW 167), hRs, hRa, h.1, rfl, rfl, rfl, rfl, h.2⟩)
  subst hW1
  have hE : ∀ k : Nat, ((w.alloc (.cells ROW 167)).drew).heap[k]? = (w.drew.alloc (.cells ROW 167)).heap[k]? := fun k => rfl
  have hF : ∀ k : Nat, (((w.alloc (.cells ROW 167)).drew.setRow w.heap.size (spl ROW (i * 7) (cur2.toList.take (m * 7)))).drew).heap[k]? = ((w.drew.alloc (.cells ROW 167)).setRow w.heap.size (spl ROW (i * 7) (cur2.toList.take (m * 7)))).heap[k]? := fun k => rfl
  have hw1 : IntKind.i64.wrap ((i : Int) + (m : Int)) = (i : Int) + (m : Int) := by rw [IntKind.wrap_i64]; omega
  have hb1 : (0 : Int) ≤ (i : Int) + (m : Int) := by omega
  have hin : i ≤ n := by omega
  have htn : ((i : Int) + (m : Int)).toNat = i + m := by omega
  have hb3 : (i : Int) ≤ (n : Int) := by omega
  clear hkk hik hold hROW hG hRs hRs2 hRa hg hv hcs hcs2 hi0 hi1 hi2 hi3 hi4 hib his hzl h1c h1v hWN hWo hl hl2 hdl htl
  go_enter Try.func110, Try.ntmps110
  go_wp2_with (first
    | (at_builtin; refine Lib.wpList_append_run _ rfl _ _ _ _ rfl _ _ rfl rfl _ _ (hrz _) ?_)
    | (at_builtin; refine wpList_copy_runI _ rfl _ _ 92 92 rfl _ _ rfl rfl (hcpA _ hE _ _) ?_)
    | (at_builtin; refine wpList_copy_runI _ rfl _ _ 92 92 rfl _ _ rfl rfl (hcpB _ (fun _ => rfl) _ _ _) ?_))
  go_region_law_o (refine step_copy_runI rfl _ _ 92 92 rfl (.slice (some ⟨w.heap.size, (i + m) * 7, none⟩) (n + m - (i + m)) (G - (i + m))) (.slice (some ⟨g, i * 7, none⟩) (n - i) (c - i)) (by simp [Act.eval, Act.put]) (by simp [Act.eval, Act.put]) (hcpB _ hF 3 (G - (i + m)) (c - i)) ?_)
  go_wp2
  go_ret
  exact ⟨rfl, rfl⟩
theorem s_insE [Globs] (l : List (den .ent)) (x : den .ent) (i : Nat) (hi : i ≤ l.length) (hbig : (l.length + 1) * 104 ≤ 140737488355328) :
    CSpec Try.prog 110 [.vec 1000 .ent l, .i .i64 i, .vec 1001 .ent [x]] [] (.vec 1000 .ent (l.take i ++ x :: l.drop i)) [] := by
  refine ⟨fun vs w => Try.call110 vs w, fun F X β w vs hvs hpin hI => ?_⟩
  match vs, hvs with
  | [v0, v1, v2], _ =>
    have h0 : VecAt β (Own X ⟨argSlots 0 [.vec 1000 .ent l, .i .i64 i, .vec 1001 .ent [x]], []⟩ β) w 1000 .ent l v0 := hI.slots 0
    have h1 : Im (Own X ⟨argSlots 0 [.vec 1000 .ent l, .i .i64 i, .vec 1001 .ent [x]], []⟩ β) w (.i .i64 i) v1 := hI.slots 1
    have h2 : VecAt β (Own X ⟨argSlots 0 [.vec 1000 .ent l, .i .i64 i, .vec 1001 .ent [x]], []⟩ β) w 1001 .ent [x] v2 := hI.slots 2
    have N0 : Nm ⟨argSlots 0 [.vec 1000 .ent l, .i .i64 i, .vec 1001 .ent [x]], []⟩ 1000 := .inr (.inl ⟨0, List.mem_singleton.2 rfl⟩)
    have N1 : Nm ⟨argSlots 0 [.vec 1000 .ent l, .i .i64 i, .vec 1001 .ent [x]], []⟩ 1001 := .inr (.inl ⟨2, List.mem_singleton.2 rfl⟩)
    cases h1
    have hL : (l.take i ++ x :: l.drop i).length = l.length + 1 := by rw [List.length_append, List.length_cons, List.length_take, List.length_drop]; omega
    rcases h2 with ⟨h2, _⟩ | ⟨vb, vc, cur2, e2, b1, rfl, b3, b4, b5, b6, b7⟩
    · cases h2
    have hx : All2 (Im (Own X ⟨argSlots 0 [.vec 1000 .ent l, .i .i64 i, .vec 1001 .ent [x]], []⟩ β) w) (flat .ent [x]) (cur2.toList.take (1 * 7)) := vec_cells b6 b4 b7
    have h1v := vec_one (l := [x]) hx
    have hb4 : 1 ≤ vc := b4
    have hb6 : cur2.size = vc * 7 := b6
    have hxl : (cur2.toList.take (1 * 7)).length = 7 := by rw [← hx.1]; rfl
    have hmx : l.length + 1 ≤ maxLen := by unfold maxLen; omega
    have hge := fun c => grownCap_ge w (l.length + 1) c 167
    have hcm := fun c => grownCap_le_maxLen w (l.length + 1) c 167 hmx
    rcases h0 with ⟨rfl, rfl, h0⟩ | ⟨g, c, cur, e, p1, rfl, p3, p4, p5, p6, p7⟩
    · have hi0 : i = 0 := by simpa using hi
      subst hi0
      refine (ins_end_growE none 0 0 vb 1 vc [] cur2 e2 w (by omega) (by omega) (by omega) rfl (fun w' _ => run_firstCells_none w' 7 0 0 0) b3 hb6 hb4 h1v (fun _ => ⟨rfl, rfl⟩) (by omega)).mono ?_
      rintro e' w' ⟨z, hz, rfl, rfl⟩
      have hzl : z.cells.size = 7 := by rw [hz]; rfl
      refine ⟨_, _, rfl, vec_end (us := cur2.toList.take (1 * 7)) (show 1 ≤ 3 by omega) hI (((Stp.drew w).trans (Stp.alloc w.drew _) (fun _ _ h => h)).mono (fun _ _ h => h.elim)) (.inr (Nat.le_refl _)) (heap_alloc_new w.drew _) (hge 0) (hcm 0) ?_ hx ?_⟩
      · simp only [Array.size_append, List.size_toArray, size_zeroCells, hzl, hxl, List.length_nil]
        have := hge 0
        simp only [List.length_nil] at this
        show _ = _ * 7
        omega
      · intro j u hj
        have hj' : j < (cur2.toList.take (1 * 7)).length := (List.getElem?_eq_some_iff.1 hj).1
        rw [Array.getElem?_append_left (by simpa using hj')]
        simpa using hj
    have hne : vb ≠ g := fun h => by have := hI.inj 1001 1000 g N1 N0 (h ▸ b1) p1; omega
    have hc := vec_cells p6 p4 p7
    have h1c := vec_one hc
    have hp6 : cur.size = c * 7 := p6
    have hcl : cur.toList.length = cur.size := Array.length_toList
    have hall : All2 (Im (Own X ⟨argSlots 0 [.vec 1000 .ent l, .i .i64 i, .vec 1001 .ent [x]], []⟩ β) w) (flat .ent (l.take i ++ x :: l.drop i)) ((cur.toList.take (l.length * 7)).take (i * 7) ++ (cur2.toList.take (1 * 7) ++ (cur.toList.take (l.length * 7)).drop (i * 7))) := ins_cells hc hx i hi
    have h5 : c ≤ 9223372036854775807 := by unfold maxLen at p5; omega
    have hA : ((cur.toList.take (l.length * 7)).take (i * 7)).length = i * 7 := by rw [List.length_take, List.length_take, hcl]; omega
    have hC : ((cur.toList.take (l.length * 7)).drop (i * 7)).length = (l.length - i) * 7 := by rw [List.length_drop, List.length_take, hcl]; omega
    have hAt : ∀ j, j < i * 7 → ((cur.toList.take (l.length * 7)).take (i * 7))[j]? = cur[j]? := fun j hj => by rw [List.getElem?_take, if_pos hj, List.getElem?_take, if_pos (by omega), Array.getElem?_toList]
    by_cases hin : i = l.length
    · subst hin
      have hd : (cur.toList.take (l.length * 7)).drop (l.length * 7) = [] := List.drop_eq_nil_of_le (by rw [List.length_take]; omega)
      have hu : (cur.toList.take (l.length * 7)).take (l.length * 7) ++ (cur2.toList.take (1 * 7) ++ (cur.toList.take (l.length * 7)).drop (l.length * 7)) = cur.toList.take (l.length * 7) ++ cur2.toList.take (1 * 7) := by
        rw [hd, List.append_nil, List.take_of_length_le (by rw [List.length_take]; omega)]
      have hTl : (cur.toList.take (l.length * 7)).length = l.length * 7 := by rw [List.length_take, hcl]; omega
      have hall : All2 (Im (Own X ⟨argSlots 0 [.vec 1000 .ent l, .i .i64 l.length, .vec 1001 .ent [x]], []⟩ β) w) (flat .ent (l.take l.length ++ x :: l.drop l.length)) (cur.toList.take (l.length * 7) ++ cur2.toList.take (1 * 7)) := hu ▸ hall
      by_cases hroom : l.length + 1 ≤ c
      · have hfit : l.length * 7 + (cur2.toList.take (1 * 7)).length ≤ cur.size := by rw [hxl]; omega
        refine (ins_end_roomE g l.length c vb 1 vc cur cur2 e e2 w (by omega) hroom h5 hne p3 hp6 b3 hb6 hb4 h1c h1v hbig).mono ?_
        rintro e' w' ⟨rfl, rfl⟩
        rw [← hL]
        refine ⟨_, _, rfl, vec_end (show 1 ≤ 3 by omega) hI (Stp.setRow w g _) (.inl ⟨N0, p1⟩) (setRow_heap w g cur _ e _ p3) (by rw [hL]; exact hroom) p5 (by rw [spl_size hfit]; exact p6) hall ?_⟩
        intro j u hj
        rw [spl_at hfit, hxl]
        by_cases c1 : j < l.length * 7
        · rw [List.getElem?_append_left (by omega), List.getElem?_take, if_pos c1] at hj
          rw [if_pos (by omega)]
          simpa using hj
        · rw [List.getElem?_append_right (by omega), hTl] at hj
          have := (List.getElem?_eq_some_iff.1 hj).1
          rw [if_neg (by omega), if_pos (by omega)]
          exact hj
      · refine (ins_end_growE (some ⟨g, 0, none⟩) l.length c vb 1 vc (cur.toList.take (l.length * 7)) cur2 e2 w (by omega) p4 (by omega) hTl (fun w' hw => run_firstCells_some w' 7 _ ⟨g, 0, none⟩ _ c _ hTl (fun j v hj => by
          rw [Addr.add_lit, cell_of_row w' g _ cur e (0, 0) (by rw [hw]; exact p3), Nat.zero_add]
          rw [List.getElem?_take] at hj
          split at hj
          · simpa using hj
          · cases hj)) b3 hb6 hb4 h1v (fun h => by cases h) hbig).mono ?_
        rintro e' w' ⟨z, hz, rfl, rfl⟩
        have hzl : z.cells.size = 7 := by rw [hz]; rfl
        have hgc := hge c
        have hcc := hcm c
        generalize grownCap w (l.length + 1) c 167 = G at hgc hcc
        rw [← hL]
        refine ⟨_, _, rfl, vec_end (show 1 ≤ 3 by omega) hI (((Stp.drew w).trans (Stp.alloc w.drew _) (fun _ _ h => h)).mono (fun _ _ h => h.elim)) (.inr (Nat.le_refl _)) (heap_alloc_new w.drew _) (by rw [hL]; exact hgc) hcc ?_ hall ?_⟩
        · simp only [Array.size_append, List.size_toArray, size_zeroCells, hzl, hxl, hTl, hL]
          show _ = _ * 7
          omega
        · intro j u hj
          have hj' : j < (cur.toList.take (l.length * 7) ++ cur2.toList.take (1 * 7)).length := (List.getElem?_eq_some_iff.1 hj).1
          rw [Array.getElem?_append_left (by simpa using hj')]
          simpa using hj
    · by_cases hroom : l.length + 1 ≤ c
      · refine (ins_shiftE g l.length c i vb 1 vc cur cur2 e e2 w (by omega) (by omega) hroom h5 hne p3 hp6 b3 hb6 hb4 h1c h1v).mono ?_
        rintro e' w' ⟨rfl, rfl⟩
        have hf1 : (i + 1) * 7 + ((cur.toList.take (l.length * 7)).drop (i * 7)).length ≤ cur.size := by rw [hC]; omega
        have hs1 := spl_size hf1
        have hf2 : i * 7 + (cur2.toList.take (1 * 7)).length ≤ (spl cur ((i + 1) * 7) ((cur.toList.take (l.length * 7)).drop (i * 7))).size := by rw [hs1, hxl]; omega
        rw [← hL]
        refine ⟨_, _, rfl, vec_end (show 1 ≤ 3 by omega) hI (((Stp.drew w).mono (fun _ _ h => h.elim)).trans ((Stp.setRow _ g _).trans (Stp.setRow _ g _) (fun _ _ h => h)) (fun _ _ h => h)) (.inl ⟨N0, p1⟩) (setRow_heap _ g _ _ e _ (setRow_heap w.drew g cur _ e _ p3)) (by rw [hL]; exact hroom) p5 (by rw [spl_size hf2, hs1]; exact p6) hall (row_pre (fun j hj => ?_) (fun j hj => ?_) (fun j hj => ?_))⟩
        · rw [hA] at hj
          rw [hAt j hj, spl_at hf2, if_pos hj, spl_at hf1, if_pos (by omega)]
        · rw [hA, spl_at hf2, if_neg (by omega), if_pos (by omega)]
          congr 1
          omega
        · rw [hA, hxl, spl_at hf2, hxl, if_neg (by omega), if_neg (by omega), spl_at hf1, if_neg (by omega), if_pos (by omega)]
          congr 1
          omega
      · refine (ins_growE g l.length c i vb 1 vc cur cur2 e e2 w (by omega) (by omega) p4 (by omega) p3 hp6 b3 hb6 hb4 h1c h1v hbig).mono ?_
        rintro e' w' ⟨row, W, hrs, hra, rfl, hWh, hWo, hWt, hWp, rfl⟩
        have hgc := hge c
        have hcc := hcm c
        generalize grownCap w (l.length + 1) c 167 = G at hrs hgc hcc
        have hf1 : i * 7 + (cur2.toList.take (1 * 7)).length ≤ row.size := by rw [hxl]; omega
        have hs1 := spl_size hf1
        have hf2 : (i + 1) * 7 + ((cur.toList.take (l.length * 7)).drop (i * 7)).length ≤ (spl row (i * 7) (cur2.toList.take (1 * 7))).size := by rw [hs1, hC]; omega
        have hst : Stp (fun _ => False) w W := ⟨hWo, hWt, hWp, by rw [hWh]; simp, fun k hk _ => by rw [hWh]; exact (Stp.alloc w.drew _).block k hk (fun h => h)⟩
        rw [← hL]
        refine ⟨_, _, rfl, vec_end (show 1 ≤ 3 by omega) hI ((hst.mono (fun _ _ h => h.elim)).trans ((Stp.setRow _ w.heap.size _).trans (((Stp.drew _).mono (fun _ _ h => h.elim)).trans (Stp.setRow _ w.heap.size _) (fun _ _ h => h)) (fun _ _ h => h)) (fun _ _ h => h)) (.inr (Nat.le_refl _)) (setRow_heap _ _ _ _ 167 _ (setRow_heap W _ row _ 167 _ (by rw [hWh]; exact heap_alloc_new w.drew _))) (by rw [hL]; exact hgc) hcc (by rw [spl_size hf2, hs1]; exact hrs) hall (row_pre (fun j hj => ?_) (fun j hj => ?_) (fun j hj => ?_))⟩
        · rw [hA] at hj
          rw [hAt j hj, spl_at hf2, if_pos (by omega), spl_at hf1, if_pos hj, hra j hj]
        · rw [hA, spl_at hf2, if_pos (by omega), spl_at hf1, if_neg (by omega), if_pos (by omega)]
          congr 1
          omega
        · rw [hA, hxl, spl_at hf2, if_neg (by omega), if_pos (by omega)]
          congr 1
          omega
end Go.Proofs.Ytjlbaagnoppfgaa
